/- The engine, part 18: elements of several cells that hold no slices; rows of them. -/
import Derived.Test.YtcoldgkhlkjjmaaGreatE17
namespace Go.Eng
open Go.RowKit
/-- Data that is its cells. -/
class FlatTy {α : Type} (d : Ty α) (enc : outParam (α → List Value)) (ok : outParam (α → Prop)) : Prop where
  iff : ∀ {R w cs x}, d.rep R w cs x ↔ cs = enc x ∧ ok x
  len : ∀ x, (enc x).length = d.sz
  one : ∀ x, ∀ u ∈ enc x, u.oneCell' = true
instance {k : IntKind} : FlatTy (tInt k) (fun x => [.int k x]) (inK k) := ⟨Iff.rfl, fun _ => rfl, fun x u hu => by simp at hu; subst hu; rfl⟩
instance : FlatTy tBool (fun x => [.bool x]) (fun _ => True) := ⟨⟨fun h => ⟨h, trivial⟩, fun h => h.1⟩, fun _ => rfl, fun x u hu => by simp at hu; subst hu; rfl⟩
instance : FlatTy tStr (fun x => [.string x]) (fun x => x.size ≤ maxLen) := ⟨Iff.rfl, fun _ => rfl, fun x u hu => by simp at hu; subst hu; rfl⟩
instance {α β : Type} {d : Ty α} {e : Ty β} {e1 : α → List Value} {e2 : β → List Value} {o1 : α → Prop} {o2 : β → Prop} [F : FlatTy d e1 o1] [G : FlatTy e e2 o2] : FlatTy (tPair d e) (fun p => e1 p.1 ++ e2 p.2) (fun p => o1 p.1 ∧ o2 p.2) := by
  refine ⟨⟨fun ⟨c1, c2, h, h1, h2⟩ => ?_, fun ⟨h, h1, h2⟩ => ⟨_, _, h, F.iff.2 ⟨rfl, h1⟩, G.iff.2 ⟨rfl, h2⟩⟩⟩, fun x => by simp [tPair, F.len, G.len], fun x u hu => ?_⟩
  · have k1 := F.iff.1 h1
    have k2 := G.iff.1 h2
    exact ⟨by rw [h, k1.1, k2.1], k1.2, k2.2⟩
  · rcases List.mem_append.1 hu with hu | hu
    · exact F.one _ u hu
    · exact G.one _ u hu
def encL {α : Type} (enc : α → List Value) (xs : List α) : List Value := xs.flatMap enc
section
variable {α : Type} {d : Ty α} {enc : α → List Value} {ok : α → Prop}
theorem encL_nil : encL enc [] = [] := rfl
theorem encL_cons (x : α) (xs : List α) : encL enc (x :: xs) = enc x ++ encL enc xs := by simp [encL]
theorem encL_app (xs ys : List α) : encL enc (xs ++ ys) = encL enc xs ++ encL enc ys := by simp [encL]
theorem encL_one [F : FlatTy d enc ok] (xs : List α) : ∀ u ∈ encL enc xs, u.oneCell' = true := fun u hu => by
  obtain ⟨x, _, hu⟩ := List.mem_flatMap.1 hu
  exact F.one x u hu
theorem encL_len [F : FlatTy d enc ok] : ∀ (xs : List α), (encL enc xs).length = xs.length * d.sz
  | [] => by simp [encL]
  | x :: xs => by rw [encL_cons, List.length_append, F.len, encL_len xs, List.length_cons, Nat.add_mul]; omega
theorem encL_get [F : FlatTy d enc ok] : ∀ (xs : List α) (i j : Nat) (x : α), xs[i]? = some x → j < d.sz → (encL enc xs)[i * d.sz + j]? = (enc x)[j]?
  | [], i, j, x, hx, _ => by simp at hx
  | y :: xs, 0, j, x, hx, hj => by
    simp at hx; subst hx
    rw [encL_cons, Nat.zero_mul, Nat.zero_add, List.getElem?_append_left (by rw [F.len]; exact hj)]
  | y :: xs, i + 1, j, x, hx, hj => by
    rw [encL_cons, List.getElem?_append_right (by rw [F.len, Nat.add_mul]; omega), F.len, show (i + 1) * d.sz + j - d.sz = i * d.sz + j by rw [Nat.add_mul]; omega]
    exact encL_get xs i j x (by simpa using hx) hj
theorem encL_take [F : FlatTy d enc ok] : ∀ (xs : List α) (k : Nat), encL enc (xs.take k) = (encL enc xs).take (k * d.sz)
  | [], k => by simp [encL]
  | x :: xs, 0 => by simp [encL]
  | x :: xs, k + 1 => by
    rw [List.take_succ_cons, encL_cons, encL_cons, encL_take xs k, List.take_append, F.len, Nat.add_mul, Nat.one_mul, Nat.add_sub_cancel, List.take_of_length_le (l := enc x) (by rw [F.len]; omega)]
theorem encL_drop [F : FlatTy d enc ok] : ∀ (xs : List α) (k : Nat), encL enc (xs.drop k) = (encL enc xs).drop (k * d.sz)
  | [], k => by simp [encL]
  | x :: xs, 0 => by simp
  | x :: xs, k + 1 => by
    rw [List.drop_succ_cons, encL_cons, encL_drop xs k, List.drop_append, F.len, Nat.add_mul, Nat.one_mul, Nat.add_sub_cancel, List.drop_of_length_le (l := enc x) (by rw [F.len]; omega), List.nil_append]
theorem encL_set [F : FlatTy d enc ok] (xs : List α) (i : Nat) (y : α) (hi : i < xs.length) : encL enc (xs.set i y) = splice (encL enc xs) (i * d.sz) (enc y) := by
  rw [List.set_eq_take_append_cons_drop, if_pos hi, encL_app, encL_cons, encL_take (d := d), encL_drop (d := d), splice, F.len, Nat.add_mul, Nat.one_mul, List.append_assoc]
/-- Many written over. -/
theorem encL_spl [F : FlatTy d enc ok] (xs ys : List α) (i : Nat) : encL enc (xs.take i ++ ys ++ xs.drop (i + ys.length)) = splice (encL enc xs) (i * d.sz) (encL enc ys) := by
  rw [encL_app, encL_app, encL_take (d := d), encL_drop (d := d), splice, encL_len (d := d) ys, Nat.add_mul]
variable {w w0 w' : World} {F0 : Nat → Prop} {L L' : List HP} {a : Option Addr} {n c e : Nat} {xs : List α} {R : Nat → Prop}
/-- A row reads as its data. -/
theorem RowV.slF [F : FlatTy d enc ok] (h : RowV w a n c e d.sz (encL enc xs)) (hz : 0 < d.sz) (hk : ∀ x ∈ xs, ok x) : Sl d (afoot a) w a n c xs := by
  have hl := h.1
  rw [encL_len (d := d)] at hl
  have hl : xs.length = n := Nat.eq_of_mul_eq_mul_right hz hl
  obtain ⟨_, h2, h3, h4⟩ := id h
  refine ⟨h2, h3, fun ha => ?_, ⟨hl, fun ha => ?_, fun hn => ?_, fun b o ha _ => by subst ha; rfl, fun i x hx => ⟨enc x, F.iff.2 ⟨rfl, hk x (List.mem_of_getElem? hx)⟩, fun b o ha j u hu => ?_⟩⟩⟩
  · rcases h4 with ⟨_, hc⟩ | ⟨g, o, _, hs, _⟩
    · exact hc
    · rw [ha] at hs; cases hs
  · rcases h4 with ⟨_, hc⟩ | ⟨g, o, _, hs, _⟩
    · omega
    · rw [ha] at hs; cases hs
  · intro ad had
    rcases h4 with ⟨hs, _⟩ | ⟨g, o, _, hs, _⟩
    · rw [hs] at had; cases had
    · rw [hs] at had; cases had; rfl
  · have hj := (List.getElem?_eq_some_iff.1 hu).1
    rw [F.len] at hj
    have := h.cells ha (j := i * d.sz + j) (v := u) (by rw [encL_get xs i j x hx hj]; exact hu)
    rwa [Nat.add_assoc]
/-- What is read, as cells. -/
theorem Sl.srcF [F : FlatTy d enc ok] (h : Sl d R w a n c xs) : Src w a n d.sz (encL enc xs) ∧ (0 < n → PlainA a) ∧ ∀ x ∈ xs, ok x := by
  have hl := h.len
  have hok : ∀ i x, xs[i]? = some x → ok x ∧ ∀ b o, a = some ⟨b, o, none⟩ → ∀ j u, (enc x)[j]? = some u → w.cell? ⟨b, o + i * d.sz + j, none⟩ = some u := fun i x hx => by
    obtain ⟨es, hr, hc⟩ := h.sl.el i x hx
    obtain ⟨rfl, ho⟩ := F.iff.1 hr
    exact ⟨ho, hc⟩
  refine ⟨⟨by rw [encL_len (d := d), hl], fun ha => h.sl.nil ha, encL_one (d := d) xs, fun b o ha j u hj => ?_⟩, h.sl.plain, fun x hx => ?_⟩
  · have hjl := (List.getElem?_eq_some_iff.1 hj).1
    rw [encL_len (d := d)] at hjl
    have hz : 0 < d.sz := by
      rcases Nat.eq_zero_or_pos d.sz with h0 | h0
      · rw [h0] at hjl; omega
      · exact h0
    have hi : j / d.sz < xs.length := (Nat.div_lt_iff_lt_mul hz).2 hjl
    have hx := List.getElem?_eq_getElem hi
    have hm : j % d.sz < d.sz := Nat.mod_lt _ hz
    have ej : j / d.sz * d.sz + j % d.sz = j := by rw [Nat.mul_comm]; exact Nat.div_add_mod j d.sz
    have := (hok _ _ hx).2 b o ha (j % d.sz) u (by rw [← encL_get xs _ _ _ hx hm, ej]; exact hj)
    rwa [Nat.add_assoc, ej] at this
  · obtain ⟨i, hi⟩ := List.mem_iff_getElem?.1 hx
    exact (hok i x hi).1
/-- A slice of elements: one of them. -/
theorem Sl.elF [F : FlatTy d enc ok] (h : Sl d R w a n c xs) {i : Nat} {x : α} (hx : xs[i]? = some x) : ok x ∧ ∀ b o, a = some ⟨b, o, none⟩ → ∀ j u, (enc x)[j]? = some u → w.cell? ⟨b, o + i * d.sz + j, none⟩ = some u := by
  obtain ⟨es, hr, hc⟩ := h.sl.el i x hx
  obtain ⟨rfl, ho⟩ := F.iff.1 hr
  exact ⟨ho, hc⟩
end
section
variable {P : Program} {env : Env} {w0 w w' : World} {F : Nat → Prop} {L L' : List HP} {dst : Option Tmp} {ty : TypeId} {pos : String} {af : Array Edge} {gd : Option (Nat × Bool)} {S : Value → World → Prop}
/-- A store of some cells into a row that is held. -/
theorem OpR_storeN {T b o off n c e sz s : Nat} {x y : Operand} {v : Value} {vs xs : List Value} {f : HP → List HP} (hs : St w0 F w L) (hx : ev env x = some (.pointer (some ⟨b, o + off, none⟩))) (hy : ev env y = some v) [Z : Sz P T s] (hv : v.cells.toList = vs) (hl : vs.length = s) (h1 : ∀ u ∈ vs, u.oneCell' = true)
    [r : RowAt L (some ⟨b, o, none⟩) n c e sz xs f] (hi : off + s ≤ n * sz) :
    OpR P env ⟨dst, .store T x y, ty, pos, af, gd⟩ w (fun _ w' => St w0 F w' (f (Row (some ⟨b, o, none⟩) n c e sz (splice xs off vs))) ∧ Frm (afoot (some ⟨b, o, none⟩)) w w') := by
  obtain ⟨q1, q2, q3, q4⟩ := hs.row (some ⟨b, o, none⟩) n c
  rcases q4 with ⟨h, _⟩ | ⟨g, o', cur, h, hg, hsz, ht⟩
  · cases h
  · cases h
    have hnc : n * sz ≤ c * sz := Nat.mul_le_mul_right _ q2
    have hlen : v.cells.toList.length = s := by rw [hv]; exact hl
    haveI : Sz P T v.cells.toList.length := by rw [hlen]; exact Z
    have hst := run_storeVar_blk (P := P) (T := T) (w := w) (b := b) (off := o + off) (e := e) (v := v) (cs := cur) hg (by rw [hlen]; omega) (by rw [hv]; exact List.all_eq_true.2 h1)
    have hb : b < w.heap.size := (Array.getElem?_eq_some_iff.1 hg).1
    rw [hv] at hst
    refine .unit (w' := { w with heap := w.heap.setIfInBounds b (.cells (splice cur.toList (o + off) vs).toArray e (0, 0)) }) (fun _ hm => ?_) ⟨?_, ?_⟩
    · simp only [execOp, hm.eval hx, hm.eval hy, Instr.storeAt, Instr.sureAddr, Sem.run_bind, Sem.run_pure, Result.andThen_ok, hst]
    · refine hs.turn (r.ctx.up _) (?_ : Frm (afoot _) w _) ?_ (fun k hk => ?_)
      · refine { (frm_set (b := b) (o' := .cells (splice cur.toList (o + off) vs).toArray e (0, 0)) w) with old := fun k hk hf => ?_ }
        exact (frm_set w).old k hk (fun h => hf (by cases h; rfl))
      · refine ⟨by rw [splice_length (by omega)]; exact q1, q2, q3, .inr ⟨b, o, (splice cur.toList (o + off) vs).toArray, rfl, by simp [hb], ?_, ?_⟩⟩
        · simp only [List.size_toArray]; rw [splice_length (by simp; omega)]; simpa using hsz
        · show ((splice cur.toList (o + off) vs).drop o).take (n * sz) = _
          rw [splice_window (by omega) (by simp; omega), ht]
      · refine ⟨?_, .inl hk⟩
        simp [Row, afoot] at hk
        subst hk
        simp [hb]
    · refine { (frm_set (b := b) (o' := .cells (splice cur.toList (o + off) vs).toArray e (0, 0)) w) with old := fun k hk hf => ?_ }
      exact (frm_set w).old k hk (fun h => hf (by cases h; rfl))
/-- Loading some cells of a row that is held. -/
theorem OpR_loadN {T b o off n c e sz s : Nat} {x : Operand} {vs xs : List Value} {f : HP → List HP} [A : Agg P T s] (hs : St w0 F w L) (hx : ev env x = some (.pointer (some ⟨b, o + off, none⟩))) [r : RowAt L (some ⟨b, o, none⟩) n c e sz xs f] (hl : vs.length = s) (hv : ∀ j u, vs[j]? = some u → xs[off + j]? = some u) (hS : S (.agg vs.toArray) w) :
    OpR P env ⟨dst, .load T x, ty, pos, af, gd⟩ w S :=
  OpR_load_cells (off := o + off) hl (fun j v hj => by have := RowV.cells (hs.row (some ⟨b, o, none⟩) n c) rfl (hv j v hj); rwa [Nat.add_assoc]) hx hS
/-- Loading one cell of a row that is held. -/
theorem OpR_load1N {T b o off n c e sz : Nat} {x : Operand} {v : Value} {xs : List Value} {f : HP → List HP} [A : Scal P T] (hs : St w0 F w L) (hx : ev env x = some (.pointer (some ⟨b, o + off, none⟩))) [r : RowAt L (some ⟨b, o, none⟩) n c e sz xs f] (hv : xs[off]? = some v) (hS : S v w) :
    OpR P env ⟨dst, .load T x, ty, pos, af, gd⟩ w S := OpR_load_cell (RowV.cells (hs.row (some ⟨b, o, none⟩) n c) rfl hv) hx hS
/-- copy into a row that is held, elements of any size. -/
theorem OpR_copyN {t t' e dn dc sn sc n c off sz : Nat} {a ax' ay : Option Addr} {xs vs : List Value} {x y : Operand} {f : HP → List HP} [U : Und P t (.slice e)] [Z : Sz P e sz] (hz : 0 < sz) (hs : St w0 F w L) (hx : ev env x = some (.slice ax' dn dc)) (hy : ev env y = some (.slice ay sn sc))
    [r : RowAt L a n c e sz xs f] (hax : 0 < dn → ax' = a.map (·.add (off * sz))) (hoff : off + dn ≤ n) (hsrc : Src w ay (min sn dn) sz vs) (hp : 0 < min sn dn → PlainA ay) :
    OpR P env ⟨dst, .call ⟨.builtin .copy, #[x, y], #[t, t']⟩, ty, pos, af, gd⟩ w (fun v w' => v = .int .i64 (min sn dn : Nat) ∧ St w0 F w' (f (Row a n c e sz (splice xs (off * sz) vs))) ∧ Frm (afoot a) w w') := by
  have hfx : (Builtin.firstCells sz (min sn dn) (.slice ay sn sc)).run P w = .ok vs.toArray w := run_firstCells_src (c := sc) hsrc hp
  have hl := hsrc.1
  have hrow := hs.row a n c
  obtain ⟨q1, q2, q3, q4⟩ := hrow
  by_cases h0 : vs.length = 0
  · have hv : vs = [] := List.eq_nil_of_length_eq_zero h0
    subst hv
    have hsame : St w0 F w (f (Row a n c e sz xs)) := by
      refine hs.turn (r.ctx.up _) (Ext.refl w |>.frm _) (hs.row a n c) (fun k hk => ⟨?_, .inl hk⟩)
      exact (hs.foot _ (r.ctx.up (Junk 0)).mem k hk).1
    have hm0 : min sn dn = 0 := by
      rcases Nat.mul_eq_zero.1 (hl.symm.trans h0) with h | h
      · exact h
      · omega
    have hrun : (Builtin.copy_ #[t, t'] ty #[.slice ax' dn dc, .slice ay sn sc]).run P w = .ok (.int .i64 (min sn dn : Nat)) w := by
      have hfx' : (Builtin.firstCells sz 0 (.slice ay sn sc)).run P w = .ok #[] w := by rw [hm0] at hfx; exact hfx
      cases ax' <;> simp [Builtin.copy_, run_underlying U.h, sizeOf_of Z.h, Builtin.lenOf, hfx', hm0, goInt, storeCells]
    refine .val (w' := w) (v := .int .i64 (min sn dn : Nat)) (fun _ hm => by simp [execOp, resolve, invoke, builtin, hm.eval hx, hm.eval hy, hrun]) ⟨rfl, ?_, (Ext.refl w).frm _⟩
    rw [splice_nil]; exact hsame
  · have hd : 0 < dn := by
      rcases Nat.eq_zero_or_pos dn with h | h
      · subst h; simp at hl; exact absurd (by rw [hl]; rfl) h0
      · exact h
    have hax2 := hax hd
    have hfit : off * sz + vs.length ≤ n * sz := by
      rw [hl, ← Nat.add_mul]; exact Nat.mul_le_mul_right _ (by omega)
    have hnc : n * sz ≤ c * sz := Nat.mul_le_mul_right _ q2
    rcases q4 with ⟨rfl, hc0⟩ | ⟨b, o, cur, rfl, hg, hsz, ht⟩
    · omega
    · simp only [Option.map_some, add_eq] at hax2
      subst hax2
      have hst := run_storeCells_at P b (o + off * sz) e vs 0 cur w hg (by omega) hsrc.2.2.1
      simp only [Nat.add_zero] at hst
      rw [setRow_eq hg] at hst
      have hrun : (Builtin.copy_ #[t, t'] ty #[.slice (some ⟨b, o + off * sz, none⟩) dn dc, .slice ay sn sc]).run P w = .ok (.int .i64 (min sn dn : Nat)) { w with heap := w.heap.setIfInBounds b (.cells (splice cur.toList (o + off * sz) vs).toArray e (0, 0)) } := by
        simp [Builtin.copy_, run_underlying U.h, sizeOf_of Z.h, Builtin.lenOf, hfx, hst, splice, goInt]
      have hb : b < w.heap.size := (Array.getElem?_eq_some_iff.1 hg).1
      refine .val (w' := { w with heap := w.heap.setIfInBounds b (.cells (splice cur.toList (o + off * sz) vs).toArray e (0, 0)) }) (v := .int .i64 (min sn dn : Nat)) (fun _ hm => by simp [execOp, resolve, invoke, builtin, hm.eval hx, hm.eval hy, hrun]) ⟨rfl, ?_, ?_⟩
      · refine hs.turn (r.ctx.up _) (?_ : Frm (afoot _) w _) ?_ (fun k hk => ?_)
        · refine { (frm_set (b := b) (o' := .cells (splice cur.toList (o + off * sz) vs).toArray e (0, 0)) w) with old := fun k hk hf => ?_ }
          exact (frm_set w).old k hk (fun h => hf (by cases h; rfl))
        · refine ⟨by rw [splice_length (by omega)]; exact q1, q2, q3, .inr ⟨b, o, (splice cur.toList (o + off * sz) vs).toArray, rfl, by simp [hb], ?_, ?_⟩⟩
          · simp only [List.size_toArray]; rw [splice_length (by simp; omega)]; simpa using hsz
          · show ((splice cur.toList (o + off * sz) vs).drop o).take (n * sz) = _
            rw [splice_window (by omega) (by simp; omega), ht]
        · refine ⟨?_, .inl hk⟩
          simp [Row, afoot] at hk
          subst hk
          simp [hb]
      · refine { (frm_set (b := b) (o' := .cells (splice cur.toList (o + off * sz) vs).toArray e (0, 0)) w) with old := fun k hk hf => ?_ }
        exact (frm_set w).old k hk (fun h => hf (by cases h; rfl))
end
end Go.Eng
