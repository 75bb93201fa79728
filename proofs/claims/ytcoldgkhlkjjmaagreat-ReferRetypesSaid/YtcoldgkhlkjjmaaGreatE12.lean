/- The engine, part 12: slices of slices: own rows over data; slices that only are read; compare with nil. -/
import Derived.Test.YtcoldgkhlkjjmaaGreatE11
namespace Go.Eng
open Go.RowKit
section
variable {P : Program} {env : Env} {w0 w w' : World} {F : Nat → Prop} {L L' : List HP} {dst : Option Tmp} {ty : TypeId} {pos : String} {af : Array Edge} {gd : Option (Nat × Bool)} {S : Value → World → Prop}
theorem equal_nil1 {T e : Nat} [U : Und P T (.slice e)] (a : Option Addr) (n c n' c' : Nat) : (Op.equal T (.slice a n c) (.slice none n' c')).run P w = .ok a.isNone w := by
  have e1 : Op.equal T (.slice a n c) (.slice none n' c') = Op.equalIn (9999 + 1) T (.slice a n c) (.slice none n' c') := rfl
  rw [e1, Op.equalIn]
  cases a <;> simp [Sem.run_bind, run_underlying U.h]
theorem OpR_eqNil {T T' e n c n' c' : Nat} {a : Option Addr} {x y : Operand} [U : Und P T (.slice e)] (hx : ev env x = some (.slice a n c)) (hy : ev env y = some (.slice none n' c')) (hS : S (.bool a.isNone) w) : OpR P env ⟨dst, .binOp .eql T x y T', ty, pos, af, gd⟩ w S :=
  .val (fun _ hm => by simp [execOp, hm.eval hx, hm.eval hy, eqGuard, binOp, equal_nil1 (P := P) (T := T) (e := e)]) hS
theorem OpR_neNil {T T' e n c n' c' : Nat} {a : Option Addr} {x y : Operand} [U : Und P T (.slice e)] (hx : ev env x = some (.slice a n c)) (hy : ev env y = some (.slice none n' c')) (hS : S (.bool (!a.isNone)) w) : OpR P env ⟨dst, .binOp .neq T x y T', ty, pos, af, gd⟩ w S :=
  .val (fun _ hm => by simp [execOp, hm.eval hx, hm.eval hy, eqGuard, binOp, equal_nil1 (P := P) (T := T) (e := e)]) hS
end

/-! ### Slices that only are read -/
section
variable {α : Type} {d : Ty α} {w w0 w' : World} {F R R' : Nat → Prop} {L M : List HP} {a : Option Addr} {n c e : Nat} {xs : List α} {cells : List Value}
theorem SlR.weak {R R' : Nat → Prop} (s : SlR d R w a n xs) (h : ∀ k, R k → R' k) : SlR d R' w a n xs :=
  ⟨s.len, s.nil, s.plain, fun b o ha hn => h b (s.reg b o ha hn), fun i x hx => by obtain ⟨es, hr, hc⟩ := s.el i x hx; exact ⟨es, d.weak hr h, hc⟩⟩
theorem SlR.all {R : Nat → Prop} (s : SlR d R w a n xs) : SlR d All w a n xs := s.weak (fun _ _ => trivial)
/-- A slice, as it is read. -/
structure Sl (d : Ty α) (R : Nat → Prop) (w : World) (a : Option Addr) (n c : Nat) (xs : List α) : Prop where
  le : n ≤ c
  cap : c ≤ maxLen
  nil0 : a = none → c = 0
  sl : SlR d R w a n xs
theorem Sl.len (h : Sl d R w a n c xs) : xs.length = n := h.sl.len
theorem Sl.weak (h : Sl d R w a n c xs) (hr : ∀ k, R k → R' k) : Sl d R' w a n c xs := ⟨h.le, h.cap, h.nil0, h.sl.weak hr⟩
theorem Sl.loc (h : Sl d R w a n c xs) (hk : ∀ k, R k → k < w.heap.size → w'.heap[k]? = w.heap[k]?) : Sl d R w' a n c xs := ⟨h.le, h.cap, h.nil0, h.sl.loc' hk⟩
theorem Sl.ext (h : Sl d R w a n c xs) (e : Ext w w') : Sl d R w' a n c xs := h.loc (fun k _ hk => e.block k hk)
theorem Sl.st (h : Sl d R w0 a n c xs) (t : St w0 NoF w L) : Sl d R w a n c xs := h.loc (fun k _ hk => t.frm.old k hk id)
theorem Sl.rep (h : Sl d R w a n c xs) : (tSl d).rep R w [.slice a n c] xs := ⟨a, n, c, rfl, h.le, h.cap, h.nil0, h.sl⟩
def Frz (R : Nat → Prop) (d : Ty α) (a : Option Addr) (n c : Nat) (xs : List α) : HP := ⟨R, fun w => Sl d R w a n c xs, fun _ _ h hw => hw.loc (fun k hk _ => h k hk)⟩
/-- The data of the cells. -/
def DatsV (R : Nat → Prop) (d : Ty α) (w : World) (cells : List Value) (xs : List α) : Prop := cells.length = xs.length ∧ ∀ (i : Nat) (c : Value) (x : α), cells[i]? = some c → xs[i]? = some x → d.rep R w [c] x
theorem DatsV.loc (h : DatsV R d w cells xs) (hk : ∀ k, R k → k < w.heap.size → w'.heap[k]? = w.heap[k]?) : DatsV R d w' cells xs := ⟨h.1, fun i c x hc hx => d.loc (h.2 i c x hc hx) hk⟩
def Dats (R : Nat → Prop) (d : Ty α) (cells : List Value) (xs : List α) : HP := ⟨R, fun w => DatsV R d w cells xs, fun _ _ h hw => hw.loc (fun k hk _ => h k hk)⟩
theorem St.nilDats (h : St w0 F w L) (d : Ty α) : St w0 F w (Dats NoF d [] [] :: L) :=
  ⟨h.frm, fun c hc => by
      rcases List.mem_cons.1 hc with rfl | hc
      · exact ⟨rfl, fun i c x hc => by simp at hc⟩
      · exact h.all c hc,
    fun c hc k hk => by
      rcases List.mem_cons.1 hc with rfl | hc
      · exact hk.elim
      · exact h.foot c hc k hk,
    List.pairwise_cons.2 ⟨fun d _ k hk => hk.elim, h.sep⟩⟩
theorem St.conv2 {c1 c2 c' : HP} (h : St w0 F w (c1 :: c2 :: L)) (hf : ∀ k, c'.foot k → c1.foot k ∨ c2.foot k) (hh : c1.holds w → c2.holds w → c'.holds w) : St w0 F w (c' :: L) :=
  (h.join).conv (fun k hk => hf k hk) (fun hw => hh hw.1 hw.2)
/-- A row, and its cells' data, as a slice that is read. -/
theorem RowV.slD (h : RowV w a n c e 1 cells) (hd : DatsV R d w cells xs) (hz : d.sz = 1) : Sl d (fun k => afoot a k ∨ R k) w a n c xs := by
  obtain ⟨h1, h2, h3, h4⟩ := h
  rw [Nat.mul_one] at h1
  have hd1 := hd.1
  refine ⟨h2, h3, fun ha => ?_, ⟨by omega, fun ha => ?_, ?_, fun b o ha _ => .inl (by simp [afoot, ha]), fun i x hx => ?_⟩⟩
  · rcases h4 with ⟨_, hc⟩ | ⟨g, o, cur, h, _⟩
    · exact hc
    · rw [ha] at h; cases h
  · rcases h4 with ⟨_, hc⟩ | ⟨g, o, cur, h, _⟩
    · omega
    · rw [ha] at h; cases h
  · rcases h4 with ⟨h, _⟩ | ⟨g, o, cur, h, _⟩
    · intro _ ad had; rw [h] at had; cases had
    · intro _ ad had; rw [h] at had; cases had; rfl
  · have hi : i < xs.length := (List.getElem?_eq_some_iff.1 hx).1
    have hl := hd.1
    have hc := List.getElem?_eq_getElem (l := cells) (i := i) (by omega)
    refine ⟨[cells[i]], d.weak (hd.2 i _ x hc hx) (fun k hk => .inr hk), fun b o ha j u hj => ?_⟩
    cases j with
    | zero =>
      cases hj
      rw [hz, Nat.mul_one, Nat.add_zero]
      exact RowV.cells (xs := cells) ⟨by omega, h2, h3, h4⟩ ha hc
    | succ j => simp at hj
theorem St.freeze (h : St w0 F w (Row a n c e 1 cells :: Dats R d cells xs :: L)) (hz : d.sz = 1) : St w0 F w (Frz (fun k => afoot a k ∨ R k) d a n c xs :: L) :=
  h.conv2 (fun _ hk => hk) (fun h1 h2 => RowV.slD h1 h2 hz)
/-- One more cell, whose data is a slice of its own. -/
theorem DatsV.push {β : Type} {d : Ty β} {ys : List β} {xss : List (List β)} (h : DatsV R (tSl d) w cells xss) (s : Sl d R' w a n c ys) : DatsV (fun k => R' k ∨ R k) (tSl d) w (cells ++ [.slice a n c]) (xss ++ [ys]) := by
  obtain ⟨h1, h2⟩ := h
  refine ⟨by simp [h1], fun i cc x hc hx => ?_⟩
  rw [List.getElem?_append] at hc hx
  rw [h1] at hc
  split at hc
  · rename_i hi
    rw [if_pos hi] at hx
    exact (tSl d).weak (h2 i cc x hc hx) (fun _ hk => .inr hk)
  · rename_i hi
    rw [if_neg hi] at hx
    cases hq : i - xss.length with
    | zero =>
      rw [hq] at hc hx
      cases hc; cases hx
      exact (tSl d).weak s.rep (fun _ hk => .inl hk)
    | succ j => rw [hq] at hx; simp at hx
theorem St.pushFrz {β : Type} {d : Ty β} {ys : List β} {xss : List (List β)} (h : St w0 F w (Frz R' d a n c ys :: Dats R (tSl d) cells xss :: L)) : St w0 F w (Dats (fun k => R' k ∨ R k) (tSl d) (cells ++ [.slice a n c]) (xss ++ [ys]) :: L) :=
  h.conv2 (fun _ hk => hk) (fun h1 h2 => DatsV.push h2 h1)
theorem RowV.sl {k : IntKind} {xs : List Int} (h : RowV w a n c e 1 (xs.map (.int k))) (hk : ∀ v ∈ xs, inK k v) : Sl (tInt k) (afoot a) w a n c xs := ⟨h.cap.1, h.cap.2.1, h.cap.2.2, h.slr hk⟩
theorem St.rowFrz {k : IntKind} {xs : List Int} (h : St w0 F w (Row a n c e 1 (xs.map (.int k)) :: L)) (hk : ∀ v ∈ xs, inK k v) : St w0 F w (Frz (afoot a) (tInt k) a n c xs :: L) := h.conv (fun _ hk => hk) (fun hh => RowV.sl hh hk)
/-- What is held is read. -/
theorem St.sl (h : St w0 F w L) (m : Frz R d a n c xs ∈ L) : Sl d R w a n c xs := h.all _ m
/-- One cell of a block, as what is appended. -/
theorem src_blk1 {b e : Nat} {v : Value} {fz : Nat × Nat} (h : w.heap[b]? = some (.cells #[v] e fz)) (hv : v.oneCell' = true) : Src w (some ⟨b, 0, none⟩) 1 1 [v] := by
  refine ⟨rfl, fun h => (nomatch h), fun u hu => ?_, fun b' o hb j u hj => ?_⟩
  · rw [List.mem_singleton.1 hu]; exact hv
  · cases hb
    exact cell_blk h (by simpa using hj)
theorem plain_blk {p : Prop} {b o : Nat} : p → PlainA (some ⟨b, o, none⟩) := fun _ _ h => by cases h; rfl
/-- The cells of a slice that is read. -/
theorem Sl.cellsOf {β : Type} {d : Ty β} {xss : List (List β)} (h : Sl (tSl d) R w a n c xss) : ∃ cells, Src w a n 1 cells ∧ DatsV R (tSl d) w cells xss := by
  have key : ∀ m, m ≤ n → ∃ cells : List Value, cells.length = m ∧ (∀ u ∈ cells, u.oneCell' = true) ∧ (∀ b o, a = some ⟨b, o, none⟩ → ∀ j u, cells[j]? = some u → w.cell? ⟨b, o + j, none⟩ = some u) ∧ ∀ (i : Nat) (c : Value) (x : List β), cells[i]? = some c → xss[i]? = some x → (tSl d).rep R w [c] x := by
    intro m
    induction m with
    | zero => exact fun _ => ⟨[], rfl, by simp, by simp, by simp⟩
    | succ m ih =>
      intro hm
      obtain ⟨cells, q1, q2, q3, q4⟩ := ih (by omega)
      have hl := h.len
      have hx : xss[m]? = some xss[m] := List.getElem?_eq_getElem (by omega)
      obtain ⟨es, hr, hc⟩ := h.sl.el m _ hx
      have hr' := hr
      obtain ⟨av, nv, cv, rfl, _⟩ := hr'
      refine ⟨cells ++ [.slice av nv cv], by simp [q1], ?_, ?_, ?_⟩
      · intro u hu
        rcases List.mem_append.1 hu with hu | hu
        · exact q2 u hu
        · rw [List.mem_singleton.1 hu]; rfl
      · intro b o ha j u hj
        rw [List.getElem?_append] at hj
        split at hj
        · exact q3 b o ha j u hj
        · cases hq : j - cells.length with
          | zero =>
            rw [hq] at hj
            have := hc b o ha 0 u hj
            have e : j = m := by omega
            subst e
            simpa [tSl] using this
          | succ i => rw [hq] at hj; simp at hj
      · intro i c x hi hx'
        rw [List.getElem?_append] at hi
        split at hi
        · exact q4 i c x hi hx'
        · cases hq : i - cells.length with
          | zero =>
            rw [hq] at hi
            have e : i = m := by omega
            subst e
            rw [hx] at hx'
            cases hi; cases hx'
            exact hr
          | succ j => rw [hq] at hi; simp at hi
  obtain ⟨cells, q1, q2, q3, q4⟩ := key n (Nat.le_refl _)
  exact ⟨cells, ⟨by omega, h.sl.nil, q2, q3⟩, ⟨by rw [q1, h.len], q4⟩⟩
end
section
variable {P : Program} {env : Env} {w0 w w' : World} {F : Nat → Prop} {L L' : List HP} {dst : Option Tmp} {ty : TypeId} {pos : String} {af : Array Edge} {gd : Option (Nat × Bool)} {S : Value → World → Prop}
theorem splice_one (xs : List Value) (i : Nat) (v : Value) (h : i < xs.length) : splice xs i [v] = xs.set i v := by
  rw [splice, List.set_eq_take_append_cons_drop, if_pos h]; simp
/-- A store into a row that is held. -/
theorem OpR_storeRow {T b o i n c e : Nat} {x y : Operand} {v : Value} {xs : List Value} {f : HP → List HP} (hs : St w0 F w L) (hx : ev env x = some (.pointer (some ⟨b, o + i * 1, none⟩))) (hy : ev env y = some v) [Z : Sz P T 1] (hv : v.cells.toList = [v]) (h1 : v.oneCell' = true)
    [r : RowAt L (some ⟨b, o, none⟩) n c e 1 xs f] (hi : i < n) :
    OpR P env ⟨dst, .store T x y, ty, pos, af, gd⟩ w (fun _ w' => St w0 F w' (f (Row (some ⟨b, o, none⟩) n c e 1 (xs.set i v))) ∧ Frm (afoot (some ⟨b, o, none⟩)) w w') := by
  rw [Nat.mul_one] at hx
  obtain ⟨q1, q2, q3, q4⟩ := hs.row (some ⟨b, o, none⟩) n c
  rw [Nat.mul_one] at q1
  rcases q4 with ⟨h, _⟩ | ⟨g, o', cur, h, hg, hsz, ht⟩
  · cases h
  · cases h
    simp only [Nat.mul_one] at hsz ht
    have hlen : v.cells.toList.length = 1 := by rw [hv]; rfl
    haveI : Sz P T v.cells.toList.length := by rw [hlen]; exact Z
    have hst := run_storeVar_blk (P := P) (T := T) (w := w) (b := b) (off := o + i) (e := e) (v := v) (cs := cur) hg (by rw [hlen]; omega) (by rw [hv]; simp [h1])
    have hb : b < w.heap.size := (Array.getElem?_eq_some_iff.1 hg).1
    rw [hv] at hst
    refine .unit (w' := { w with heap := w.heap.setIfInBounds b (.cells (splice cur.toList (o + i) [v]).toArray e (0, 0)) }) (fun _ hm => ?_) ⟨?_, ?_⟩
    · simp only [execOp, hm.eval hx, hm.eval hy, Instr.storeAt, Instr.sureAddr, Sem.run_bind, Sem.run_pure, Result.andThen_ok, hst]
    · refine hs.turn (r.ctx.up _) (?_ : Frm (afoot _) w _) ?_ (fun k hk => ?_)
      · refine { (frm_set (b := b) (o' := .cells (splice cur.toList (o + i) [v]).toArray e (0, 0)) w) with old := fun k hk hf => ?_ }
        exact (frm_set w).old k hk (fun h => hf (by cases h; rfl))
      · refine ⟨by simp [q1], q2, q3, .inr ⟨b, o, (splice cur.toList (o + i) [v]).toArray, rfl, by simp [hb], ?_, ?_⟩⟩
        · simp only [List.size_toArray, Nat.mul_one]; rw [splice_length (by simp; omega)]; simpa using hsz
        · simp only [Nat.mul_one]
          rw [splice_window (by simp; omega) (by simp; omega), ht, splice_one _ _ _ (by omega)]
      · refine ⟨?_, .inl hk⟩
        simp [Row, afoot] at hk
        subst hk
        simp [hb]
    · refine { (frm_set (b := b) (o' := .cells (splice cur.toList (o + i) [v]).toArray e (0, 0)) w) with old := fun k hk hf => ?_ }
      exact (frm_set w).old k hk (fun h => hf (by cases h; rfl))
/-- Loading a cell of a row that is held. -/
theorem OpR_loadRow {T b o i n c e : Nat} {x : Operand} {v : Value} {xs : List Value} {f : HP → List HP} [A : Scal P T] (hs : St w0 F w L) (hx : ev env x = some (.pointer (some ⟨b, o + i * 1, none⟩))) [r : RowAt L (some ⟨b, o, none⟩) n c e 1 xs f] (hv : xs[i]? = some v) (hS : S v w) :
    OpR P env ⟨dst, .load T x, ty, pos, af, gd⟩ w S := OpR_load_cell (RowV.cells (hs.row (some ⟨b, o, none⟩) n c) rfl hv) (by rwa [Nat.mul_one] at hx) hS
theorem DatsV.set {α : Type} {d : Ty α} {R : Nat → Prop} {cells : List Value} {xs : List α} {c : Value} {x : α} (h : DatsV R d w cells xs) (i : Nat) (hc : d.rep R w [c] x) : DatsV R d w (cells.set i c) (xs.set i x) := by
  obtain ⟨h1, h2⟩ := h
  refine ⟨by simp [h1], fun j c' x' hj hx => ?_⟩
  rw [List.getElem?_set] at hj hx
  split at hj
  · rename_i e
    rw [if_pos e] at hx
    split at hj <;> simp at hj
    split at hx <;> simp at hx
    subst hj; subst hx
    exact hc
  · rename_i e
    rw [if_neg e] at hx
    exact h2 j c' x' hj hx
theorem DatsV.take {α : Type} {d : Ty α} {R : Nat → Prop} {cells : List Value} {xs : List α} (h : DatsV R d w cells xs) (m : Nat) : DatsV R d w (cells.take m) (xs.take m) := by
  obtain ⟨h1, h2⟩ := h
  refine ⟨by simp [h1], fun j c' x' hj hx => ?_⟩
  rw [List.getElem?_take] at hj hx
  split at hj
  · rename_i e
    rw [if_pos e] at hx
    exact h2 j c' x' hj hx
  · cases hj
end
theorem Src.st {w0 w : World} {L : List HP} {a : Option Addr} {m sz : Nat} {news : List Value} (h : Src w0 a m sz news) (hs : St w0 NoF w L) : Src w a m sz news :=
  ⟨h.1, h.2.1, h.2.2.1, fun b o ha j u hj => hs.old_cell (h.2.2.2 b o ha j u hj)⟩
end Go.Eng
