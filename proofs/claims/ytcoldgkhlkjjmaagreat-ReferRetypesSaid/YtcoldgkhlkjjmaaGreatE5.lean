/- The engine, part 5: what the call itself holds in memory, chunk by chunk. -/
import Derived.Test.YtcoldgkhlkjjmaaGreatE4
namespace Go.Eng
open Go.RowKit

/-! ### Chunks -/
structure HP where
  foot : Nat → Prop
  holds : World → Prop
  loc : ∀ w w' : World, (∀ k, foot k → w'.heap[k]? = w.heap[k]?) → holds w → holds w'
/-- One block, whole. -/
def Blk (b : Nat) (o : Obj) : HP := ⟨fun k => k = b, fun w => w.heap[b]? = some o, fun _ _ h hw => (h b rfl).trans hw⟩
/-- Something of which all is known but nothing is said. -/
def Junk (b : Nat) : HP := ⟨fun k => k = b, fun _ => True, fun _ _ _ h => h⟩

/-- All but F's blocks stays. -/
structure Frm (F : Nat → Prop) (w w' : World) : Prop where
  os : w'.os = w.os
  tape : w'.tape = w.tape
  output : w'.output = w.output
  size : w.heap.size ≤ w'.heap.size
  old : ∀ k, k < w.heap.size → ¬ F k → w'.heap[k]? = w.heap[k]?
  drawn : w.drawn ≤ w'.drawn
theorem Ext.frm {w w' : World} (h : Ext w w') (F : Nat → Prop) : Frm F w w' := ⟨h.os, h.tape, h.output, h.size, fun k hk _ => h.block k hk, h.drawn⟩
theorem Frm.ext {w w' : World} (h : Frm (fun _ => False) w w') : Ext w w' := ⟨h.os, h.tape, h.output, h.size, fun k hk => h.old k hk id, h.drawn⟩

structure St (w0 : World) (F : Nat → Prop) (w : World) (L : List HP) : Prop where
  frm : Frm F w0 w
  all : ∀ c ∈ L, c.holds w
  foot : ∀ c ∈ L, ∀ k, c.foot k → k < w.heap.size ∧ (F k ∨ w0.heap.size ≤ k)
  sep : L.Pairwise (fun c d => ∀ k, c.foot k → ¬ d.foot k)
abbrev NoF : Nat → Prop := fun _ => False
/-- New chunks, behind all that was there. -/
structure Fresh (w w' : World) (L : List HP) : Prop where
  ext : Ext w w'
  all : ∀ c ∈ L, c.holds w'
  foot : ∀ c ∈ L, ∀ k, c.foot k → w.heap.size ≤ k ∧ k < w'.heap.size
  sep : L.Pairwise (fun c d => ∀ k, c.foot k → ¬ d.foot k)

section
variable {w0 w w' : World} {F : Nat → Prop} {L L' M : List HP} {c c' : HP}
theorem St.init (w : World) : St w NoF w [] := ⟨⟨rfl, rfl, rfl, Nat.le_refl _, fun _ _ _ => rfl, Nat.le_refl _⟩, by simp, by simp, List.Pairwise.nil⟩
theorem St.initF (w : World) (F : Nat → Prop) (h : ∀ c ∈ L, c.holds w ∧ ∀ k, c.foot k → k < w.heap.size ∧ F k) (hs : L.Pairwise (fun c d => ∀ k, c.foot k → ¬ d.foot k)) : St w F w L :=
  ⟨⟨rfl, rfl, rfl, Nat.le_refl _, fun _ _ _ => rfl, Nat.le_refl _⟩, fun c hc => (h c hc).1, fun c hc k hk => ⟨((h c hc).2 k hk).1, .inl ((h c hc).2 k hk).2⟩, hs⟩
theorem St.ext (h : St w0 F w L) (e : Ext w w') : St w0 F w' L := by
  have hs := e.size
  refine ⟨⟨e.os.trans h.frm.os, e.tape.trans h.frm.tape, e.output.trans h.frm.output, Nat.le_trans h.frm.size hs, fun k hk hf => ?_, Nat.le_trans h.frm.drawn e.drawn⟩, fun c hc => c.loc w w' (fun k hk => e.block k (h.foot c hc k hk).1) (h.all c hc), fun c hc k hk => ?_, h.sep⟩
  · rw [e.block k (Nat.lt_of_lt_of_le hk h.frm.size)]; exact h.frm.old k hk hf
  · have := h.foot c hc k hk; exact ⟨by omega, this.2⟩
theorem St.fresh (h : St w0 F w L) (n : Fresh w w' M) : St w0 F w' (M ++ L) := by
  have h' := h.ext n.ext
  refine ⟨h'.frm, fun c hc => ?_, fun c hc k hk => ?_, List.pairwise_append.2 ⟨n.sep, h.sep, fun a ha b hb k hk hk' => ?_⟩⟩
  · rcases List.mem_append.1 hc with hc | hc
    · exact n.all c hc
    · exact h'.all c hc
  · rcases List.mem_append.1 hc with hc | hc
    · have := n.foot c hc k hk; have := h.frm.size; exact ⟨by omega, .inr (by omega)⟩
    · exact h'.foot c hc k hk
  · have h1 := n.foot a ha k hk
    have h2 := h.foot b hb k hk'
    omega
theorem Fresh.alloc (w : World) (o : Obj) : Fresh w (w.alloc o) [Blk w.heap.size o] := by
  refine ⟨.of ((Below.refl _ w).alloc (Nat.le_refl _) _) (Nat.le_refl _), fun c hc => ?_, fun c hc k hk => ?_, by simp⟩
  · simp at hc; subst hc; exact heap_alloc_new w o
  · simp at hc; subst hc; simp only [Blk] at hk; subst hk; simp
theorem Fresh.none (e : Ext w w') : Fresh w w' [] := ⟨e, by simp, by simp, List.Pairwise.nil⟩
theorem Fresh.ext_r {w'' : World} (n : Fresh w w' M) (e : Ext w' w'') : Fresh w w'' M :=
  ⟨n.ext.trans e, fun c hc => c.loc w' w'' (fun k hk => e.block k (n.foot c hc k hk).2) (n.all c hc), fun c hc k hk => ⟨(n.foot c hc k hk).1, Nat.lt_of_lt_of_le (n.foot c hc k hk).2 e.size⟩, n.sep⟩
theorem Fresh.ext_l {w'' : World} (e : Ext w w') (n : Fresh w' w'' M) : Fresh w w'' M :=
  ⟨e.trans n.ext, n.all, fun c hc k hk => ⟨Nat.le_trans e.size (n.foot c hc k hk).1, (n.foot c hc k hk).2⟩, n.sep⟩
theorem St.out (h : St w0 NoF w L) (hs : M.Sublist L) : Fresh w0 w M :=
  ⟨h.frm.ext, fun c hc => h.all c (hs.subset hc), fun c hc k hk => by have := h.foot c (hs.subset hc) k hk; exact ⟨this.2.resolve_left id, this.1⟩, h.sep.sublist hs⟩
theorem St.sub (h : St w0 F w L) (hs : M.Sublist L) : St w0 F w M :=
  ⟨h.frm, fun c hc => h.all c (hs.subset hc), fun c hc k hk => h.foot c (hs.subset hc) k hk, h.sep.sublist hs⟩
theorem St.perm (h : St w0 F w L) (hp : L.Perm M) : St w0 F w M :=
  ⟨h.frm, fun c hc => h.all c (hp.symm.subset hc), fun c hc k hk => h.foot c (hp.symm.subset hc) k hk, h.sep.perm hp (fun {_ _} hs k hk hk' => hs k hk' hk)⟩
theorem St.conv (h : St w0 F w (c :: L)) (hf : ∀ k, c'.foot k → c.foot k) (hh : c.holds w → c'.holds w) : St w0 F w (c' :: L) := by
  refine ⟨h.frm, fun d hd => ?_, fun d hd k hk => ?_, List.pairwise_cons.2 ⟨fun d hd k hk => (List.pairwise_cons.1 h.sep).1 d hd k (hf k hk), (List.pairwise_cons.1 h.sep).2⟩⟩
  · rcases List.mem_cons.1 hd with rfl | hd
    · exact hh (h.all _ List.mem_cons_self)
    · exact h.all d (List.mem_cons_of_mem _ hd)
  · rcases List.mem_cons.1 hd with rfl | hd
    · exact h.foot _ List.mem_cons_self k (hf k hk)
    · exact h.foot d (List.mem_cons_of_mem _ hd) k hk
/-- Two chunks as one, and the other way. -/
def Two (c d : HP) : HP := ⟨fun k => c.foot k ∨ d.foot k, fun w => c.holds w ∧ d.holds w, fun w w' h hw => ⟨c.loc w w' (fun k hk => h k (.inl hk)) hw.1, d.loc w w' (fun k hk => h k (.inr hk)) hw.2⟩⟩
theorem St.join (h : St w0 F w (c :: c' :: L)) : St w0 F w (Two c c' :: L) := by
  refine ⟨h.frm, fun d hd => ?_, fun d hd k hk => ?_, ?_⟩
  · rcases List.mem_cons.1 hd with rfl | hd
    · exact ⟨h.all c (by simp), h.all c' (by simp)⟩
    · exact h.all d (by simp [hd])
  · rcases List.mem_cons.1 hd with rfl | hd
    · rcases hk with hk | hk
      · exact h.foot c (by simp) k hk
      · exact h.foot c' (by simp) k hk
    · exact h.foot d (by simp [hd]) k hk
  · obtain ⟨h1, h2⟩ := List.pairwise_cons.1 h.sep
    obtain ⟨h3, h4⟩ := List.pairwise_cons.1 h2
    refine List.pairwise_cons.2 ⟨fun d hd k hk => ?_, h4⟩
    rcases hk with hk | hk
    · exact h1 d (by simp [hd]) k hk
    · exact h3 d hd k hk
/-- L' is L with c' for c. -/
inductive Up : List HP → HP → HP → List HP → Prop
  | head (c c' : HP) (L : List HP) : Up (c :: L) c c' (c' :: L)
  | tail (d : HP) {L : List HP} {c c' : HP} {L' : List HP} (h : Up L c c' L') : Up (d :: L) c c' (d :: L')
theorem Up.mem (h : Up L c c' L') : c ∈ L := by
  induction h with
  | head => exact List.mem_cons_self
  | tail _ _ ih => exact List.mem_cons_of_mem _ ih
theorem Up.mem' {d : HP} (h : Up L c c' L') (hd : d ∈ L') : d = c' ∨ (d ∈ L ∧ ((∀ e ∈ L, True) → True)) := by
  induction h with
  | head => rcases List.mem_cons.1 hd with h | h; exact .inl h; exact .inr ⟨List.mem_cons_of_mem _ h, fun _ => trivial⟩
  | tail _ _ ih =>
    rcases List.mem_cons.1 hd with h | h
    · exact .inr ⟨h ▸ List.mem_cons_self, fun _ => trivial⟩
    · rcases ih h with h | h
      · exact .inl h
      · exact .inr ⟨List.mem_cons_of_mem _ h.1, fun _ => trivial⟩
/-- A chunk is turned: the others stay. -/
theorem St.turn (h : St w0 F w L) (u : Up L c c' L') (f : Frm c.foot w w') (hh : c'.holds w') (hf : ∀ k, c'.foot k → k < w'.heap.size ∧ (c.foot k ∨ w.heap.size ≤ k)) : St w0 F w' L' := by
  have hsz := f.size
  have hc := u.mem
  have frm : Frm F w0 w' := ⟨f.os.trans h.frm.os, f.tape.trans h.frm.tape, f.output.trans h.frm.output, Nat.le_trans h.frm.size hsz, fun k hk hnf => by
    rw [f.old k (Nat.lt_of_lt_of_le hk h.frm.size) (fun hck => by
      rcases (h.foot c hc k hck).2 with h1 | h1
      · exact hnf h1
      · omega)]
    exact h.frm.old k hk hnf, Nat.le_trans h.frm.drawn f.drawn⟩
  have hall := h.all
  have hfoot := h.foot
  have hsep := h.sep
  have main : (∀ d ∈ L', d.holds w' ∧ ∀ k, d.foot k → k < w'.heap.size ∧ (F k ∨ w0.heap.size ≤ k)) ∧ L'.Pairwise (fun c d => ∀ k, c.foot k → ¬ d.foot k) := by
    have hle := h.frm.size
    have hfc := h.foot c hc
    clear h hc frm
    induction u with
    | head c c' L =>
      obtain ⟨hs1, hs2⟩ := List.pairwise_cons.1 hsep
      refine ⟨fun d hd => ?_, List.pairwise_cons.2 ⟨fun d hd k hk hk' => ?_, hs2⟩⟩
      · rcases List.mem_cons.1 hd with rfl | hd
        · refine ⟨hh, fun k hk => ⟨(hf k hk).1, ?_⟩⟩
          rcases (hf k hk).2 with h1 | h1
          · exact (hfc k h1).2
          · exact .inr (by omega)
        · have hdl := hfoot d (List.mem_cons_of_mem _ hd)
          exact ⟨d.loc w w' (fun k hk => f.old k (hdl k hk).1 (fun hck => hs1 d hd k hck hk)) (hall d (List.mem_cons_of_mem _ hd)), fun k hk => ⟨by have := (hdl k hk).1; omega, (hdl k hk).2⟩⟩
      · rcases (hf k hk).2 with h1 | h1
        · exact hs1 d hd k h1 hk'
        · have := (hfoot d (List.mem_cons_of_mem _ hd) k hk').1; omega
    | tail d u ih =>
      obtain ⟨hs1, hs2⟩ := List.pairwise_cons.1 hsep
      obtain ⟨i1, i2⟩ := ih f hh hf (fun d hd => hall d (List.mem_cons_of_mem _ hd)) (fun d hd => hfoot d (List.mem_cons_of_mem _ hd)) hs2 hfc
      have hdl := hfoot d List.mem_cons_self
      refine ⟨fun e he => ?_, List.pairwise_cons.2 ⟨fun e he k hk hk' => ?_, i2⟩⟩
      · rcases List.mem_cons.1 he with rfl | he
        · exact ⟨e.loc w w' (fun k hk => f.old k (hdl k hk).1 (fun hck => hs1 _ u.mem k hk hck)) (hall e List.mem_cons_self), fun k hk => ⟨by have := (hdl k hk).1; omega, (hdl k hk).2⟩⟩
        · exact i1 e he
      · rcases u.mem' he with rfl | ⟨he, _⟩
        · rcases (hf k hk').2 with h1 | h1
          · exact hs1 _ u.mem k hk h1
          · have := (hdl k hk).1; omega
        · exact hs1 e he k hk hk'
  exact ⟨frm, fun d hd => (main.1 d hd).1, fun d hd => (main.1 d hd).2, main.2⟩

/-! ### Finding blocks -/
class BlkAt (L : List HP) (b : Nat) (o : outParam Obj) : Prop where mem : Blk b o ∈ L
instance (priority := low) BlkAt.tail {L : List HP} {b : Nat} {o : Obj} {c : HP} [h : BlkAt L b o] : BlkAt (c :: L) b o := ⟨List.mem_cons_of_mem _ h.mem⟩
instance BlkAt.head {L : List HP} {b : Nat} {o : Obj} : BlkAt (Blk b o :: L) b o := ⟨List.mem_cons_self⟩
class BlkUp (L : List HP) (b : Nat) (o : outParam Obj) (o' : Obj) (L' : outParam (List HP)) : Prop where up : Up L (Blk b o) (Blk b o') L'
instance (priority := low) BlkUp.tail {L : List HP} {b : Nat} {o o' : Obj} {L' : List HP} {c : HP} [h : BlkUp L b o o' L'] : BlkUp (c :: L) b o o' (c :: L') := ⟨.tail _ h.up⟩
instance BlkUp.head {L : List HP} {b : Nat} {o o' : Obj} : BlkUp (Blk b o :: L) b o o' (Blk b o' :: L) := ⟨.head ..⟩
theorem St.blk (h : St w0 F w L) {b : Nat} {o : Obj} [m : BlkAt L b o] : w.heap[b]? = some o := h.all _ m.mem
theorem St.lt (h : St w0 F w L) {b : Nat} {o : Obj} [m : BlkAt L b o] : b < w.heap.size := (h.foot _ m.mem b rfl).1
theorem cell_blk {b off e : Nat} {cs : Array Value} {fz : Nat × Nat} {v : Value} (h : w.heap[b]? = some (.cells cs e fz)) (hv : cs.toList[off]? = some v) : w.cell? ⟨b, off, none⟩ = some v := by
  rw [cell_of_row w b off cs e fz h]; simpa using hv
/-- A block turned. -/
theorem frm_set {b : Nat} {o' : Obj} (w : World) : Frm (Blk b o').foot w { w with heap := w.heap.setIfInBounds b o' } :=
  ⟨rfl, rfl, rfl, by simp, fun k _ hnf => by
    have : b ≠ k := fun e => hnf e.symm
    simp [Array.getElem?_setIfInBounds_ne this], Nat.le_refl _⟩
theorem setRow_eq {b e : Nat} {cs cs' : Array Value} {fz : Nat × Nat} (h : w.heap[b]? = some (.cells cs e fz)) : w.setRow b cs' = { w with heap := w.heap.setIfInBounds b (.cells cs' e fz) } := by
  unfold World.setRow
  congr 1
  apply Array.ext_getElem?
  intro i
  rw [Array.getElem?_modify, Array.getElem?_setIfInBounds]
  split
  · rename_i hi; subst hi
    have hlt : b < w.heap.size := (Array.getElem?_eq_some_iff.1 h).1
    rw [h]; simp [hlt]
  · rfl
theorem setCell_eq {b e off : Nat} {cs : Array Value} {fz : Nat × Nat} {v : Value} (h : w.heap[b]? = some (.cells cs e fz)) : w.setCell ⟨b, off, none⟩ v = { w with heap := w.heap.setIfInBounds b (.cells (cs.setIfInBounds off v) e fz) } := by
  unfold World.setCell
  congr 1
  apply Array.ext_getElem?
  intro i
  rw [Array.getElem?_modify, Array.getElem?_setIfInBounds]
  split
  · rename_i hi; simp only at hi; subst hi
    have hlt : b < w.heap.size := (Array.getElem?_eq_some_iff.1 h).1
    rw [h]; simp [hlt]
  · rfl
theorem St.set (h : St w0 F w L) {b : Nat} {o o' : Obj} [u : BlkUp L b o o' L'] : St w0 F { w with heap := w.heap.setIfInBounds b o' } L' := by
  have hm := u.up.mem
  have hlt := (h.foot _ hm b rfl).1
  exact h.turn u.up (frm_set (b := b) (o' := o') w) (by simp [Blk, hlt]) (fun k hk => by simp only [Blk] at hk; subst hk; exact ⟨by simpa using hlt, .inl rfl⟩)
/-- An old cell is as it was. -/
theorem St.old_cell (h : St w0 NoF w L) {p : Addr} {v : Value} (hp : w0.cell? p = some v) : w.cell? p = some v :=
  (World.cell?_of_block (h.frm.old _ (World.block_lt_of_cell? w0 p hp) id)).trans hp
end

/-! ### Operations on memory -/
section
variable {P : Program} {env : Env} {w0 w w' : World} {F : Nat → Prop} {L L' : List HP} {dst : Option Tmp} {ty : TypeId} {pos : String} {af : Array Edge} {gd : Option (Nat × Bool)} {S : Value → World → Prop}
/-- What a new block brings. -/
def NewAt (w0 : World) (F : Nat → Prop) (w : World) (L : List HP) (o : Obj) (mk : Nat → Value) (v : Value) (w' : World) : Prop :=
  ∃ b, v = mk b ∧ w.heap.size ≤ b ∧ St w0 F w' (Blk b o :: L) ∧ Ext w w'
theorem newAt (hs : St w0 F w L) (o : Obj) (mk : Nat → Value) : NewAt w0 F w L o mk (mk w.heap.size) (w.alloc o) :=
  ⟨_, rfl, Nat.le_refl _, hs.fresh (Fresh.alloc w o), (Fresh.alloc w o).ext⟩
def ptr (b : Nat) : Value := .pointer (some ⟨b, 0, none⟩)
theorem OpR_alloc {T : Nat} {z : Value} [Z : Zer P T z] (hs : St w0 F w L) : OpR P env ⟨dst, .alloc T, ty, pos, af, gd⟩ w (NewAt w0 F w L (.cells z.cells T (0, 0)) ptr) :=
  .val (w' := w.alloc (.cells z.cells T (0, 0))) (v := ptr w.heap.size) (fun _ _ => by
    simp only [execOp, Instr.alloc, Sem.run_bind, zero_of Z.h, Result.andThen_ok, newVar, newRow, run_newObj, Sem.run_pure]; rfl) (newAt hs _ _)
theorem OpR_box {T : Nat} {x : Operand} {v : Value} (hs : St w0 F w L) (hx : ev env x = some v) : OpR P env ⟨dst, .box T x, ty, pos, af, gd⟩ w (NewAt w0 F w L (.cells v.cells T (0, 0)) ptr) :=
  .val (w' := w.alloc (.cells v.cells T (0, 0))) (v := ptr w.heap.size) (fun _ hm => by
    simp only [execOp, Instr.box, hm.eval hx, Sem.run_bind, Result.andThen_ok, newVar, newRow, run_newObj, Sem.run_pure]; rfl) (newAt hs _ _)
theorem OpR_load_cell {T b off : Nat} {x : Operand} {v : Value} [A : Scal P T] (hc : w.cell? ⟨b, off, none⟩ = some v) (hx : ev env x = some (.pointer (some ⟨b, off, none⟩))) (hS : S v w) : OpR P env ⟨dst, .load T x, ty, pos, af, gd⟩ w S :=
  .val (fun _ hm => by
    simp only [execOp, hm.eval hx, Instr.loadAt, Instr.sureAddr, loadVar, Sem.run_bind, Sem.run_pure, Result.andThen_ok, isAgg_of A.h, Bool.false_eq_true, if_false, run_load, hc]) hS
theorem OpR_load {T b off e : Nat} {x : Operand} {v : Value} {cs : Array Value} {fz : Nat × Nat} [A : Scal P T] (hs : St w0 F w L) (hx : ev env x = some (.pointer (some ⟨b, off, none⟩))) [m : BlkAt L b (.cells cs e fz)] (hv : cs.toList[off]? = some v)
    (hS : S v w) : OpR P env ⟨dst, .load T x, ty, pos, af, gd⟩ w S := OpR_load_cell (cell_blk hs.blk hv) hx hS
theorem OpR_load_cells {T b off s : Nat} {x : Operand} {vs : List Value} [A : Agg P T s] (hl : vs.length = s) (hc : ∀ j v, vs[j]? = some v → w.cell? ⟨b, off + j, none⟩ = some v) (hx : ev env x = some (.pointer (some ⟨b, off, none⟩)))
    (hS : S (.agg vs.toArray) w) : OpR P env ⟨dst, .load T x, ty, pos, af, gd⟩ w S :=
  .val (fun _ hm => by
    have h2 := run_loadCells_list (P := P) w ⟨b, off, none⟩ vs (fun j v hv => by rw [add_eq]; exact hc j v hv)
    rw [hl] at h2
    simp only [execOp, hm.eval hx, Instr.loadAt, Instr.sureAddr, loadVar, Sem.run_bind, Sem.run_pure, Result.andThen_ok, isAgg_of A.h, if_true, sizeOf_of A.s, h2]) hS
theorem OpR_load_agg {T b off s e : Nat} {x : Operand} {vs : List Value} {cs : Array Value} {fz : Nat × Nat} [A : Agg P T s] (hs : St w0 F w L) (hx : ev env x = some (.pointer (some ⟨b, off, none⟩))) [m : BlkAt L b (.cells cs e fz)]
    (hv : (cs.toList.drop off).take s = vs) (hlen : vs.length = s) (hS : S (.agg vs.toArray) w) : OpR P env ⟨dst, .load T x, ty, pos, af, gd⟩ w S :=
  OpR_load_cells hlen (fun j v hj => cell_blk hs.blk (by
    subst hv
    rw [List.getElem?_take] at hj
    split at hj
    · simpa using hj
    · cases hj)) hx hS
/-- A store into a block of our own. -/
def splice (cs : List Value) (off : Nat) (vs : List Value) : List Value := cs.take off ++ vs ++ cs.drop (off + vs.length)
theorem run_storeVar_blk {T b off e : Nat} {v : Value} {cs : Array Value} [Z : Sz P T v.cells.toList.length] (hb : w.heap[b]? = some (.cells cs e (0, 0))) (hl : off + v.cells.toList.length ≤ cs.size) (h1 : v.cells.toList.all (·.oneCell') = true) :
    (storeVar T ⟨b, off, none⟩ v).run P w = .ok () { w with heap := w.heap.setIfInBounds b (.cells (splice cs.toList off v.cells.toList).toArray e (0, 0)) } := by
  have h2 := run_storeCells_at P b off e v.cells.toList 0 cs w hb (by simpa using hl) (fun u hu => List.all_eq_true.1 h1 u hu)
  have hz := sizeOf_of Z.h w
  simp only [Nat.add_zero] at h2
  have hsz : ¬ (v.cells.size ≠ v.cells.toList.length) := by simp
  simp only [storeVar, Sem.run_bind, hz, Result.andThen_ok, Sem.run_ite, if_neg hsz, h2, setRow_eq hb, splice]
theorem OpR_store {T b off e : Nat} {x y : Operand} {v : Value} {cs : Array Value} {cs' : List Value} (hs : St w0 F w L) (hx : ev env x = some (.pointer (some ⟨b, off, none⟩))) (hy : ev env y = some v) [Z : Sz P T v.cells.toList.length]
    [m : BlkAt L b (.cells cs e (0, 0))] (hcs : splice cs.toList off v.cells.toList = cs') [u : BlkUp L b (.cells cs e (0, 0)) (.cells cs'.toArray e (0, 0)) L']
    (hl : off + v.cells.toList.length ≤ cs.toList.length) (h1 : v.cells.toList.all (·.oneCell') = true) :
    OpR P env ⟨dst, .store T x y, ty, pos, af, gd⟩ w (fun _ w' => St w0 F w' L' ∧ Frm (fun k => k = b) w w') :=
  .unit (w' := { w with heap := w.heap.setIfInBounds b (.cells (splice cs.toList off v.cells.toList).toArray e (0, 0)) }) (fun _ hm => by
    have := run_storeVar_blk (P := P) (T := T) (off := off) (v := v) (St.blk (b := b) (o := .cells cs e (0, 0)) hs) (by simpa using hl) h1
    simp only [execOp, hm.eval hx, hm.eval hy, Instr.storeAt, Instr.sureAddr, Sem.run_bind, Sem.run_pure, Result.andThen_ok, this])
    (by subst hcs; exact ⟨hs.set (u := u), frm_set w⟩)
end
end Go.Eng
