/- The engine, part 7: slices. A row that the call owns; append, make, copy, cuts, literals. -/
import Derived.Test.YtcoldgkhlkjjmaaGreatE6
import Derived.Laws.MakeOwn
import Derived.Laws.AppendOwn
namespace Go.Eng
open Go.RowKit

/-! ### A row of the call's own -/
def RowV (w : World) (a : Option Addr) (n c e sz : Nat) (xs : List Value) : Prop :=
  xs.length = n * sz ∧ n ≤ c ∧ c ≤ maxLen ∧ ((a = none ∧ c = 0) ∨ ∃ g o cur, a = some ⟨g, o, none⟩ ∧ w.heap[g]? = some (.cells cur e (0, 0)) ∧ o + c * sz ≤ cur.size ∧ (cur.toList.drop o).take (n * sz) = xs)
def afoot (a : Option Addr) : Nat → Prop := fun k => a.map (·.block) = some k
theorem RowV.loc {w w' : World} {a : Option Addr} {n c e sz : Nat} {xs : List Value} (h : RowV w a n c e sz xs) (hk : ∀ k, afoot a k → w'.heap[k]? = w.heap[k]?) : RowV w' a n c e sz xs := by
  obtain ⟨h1, h2, h3, h4⟩ := h
  refine ⟨h1, h2, h3, h4.imp id ?_⟩
  rintro ⟨g, o, cur, rfl, hg, r⟩
  exact ⟨g, o, cur, rfl, (hk g rfl).trans hg, r⟩
def Row (a : Option Addr) (n c e sz : Nat) (xs : List Value) : HP := ⟨afoot a, fun w => RowV w a n c e sz xs, fun _ _ h hw => hw.loc h⟩
/-- Where a chunk lies, and what the list is with another in its place. -/
inductive Ctx : List HP → HP → (HP → List HP) → Prop
  | head (c : HP) (L : List HP) : Ctx (c :: L) c (fun x => x :: L)
  | tail (d : HP) {L : List HP} {c : HP} {f : HP → List HP} (h : Ctx L c f) : Ctx (d :: L) c (fun x => d :: f x)
theorem Ctx.up {L : List HP} {c : HP} {f : HP → List HP} (h : Ctx L c f) (c' : HP) : Up L c c' (f c') := by
  induction h with
  | head c L => exact .head ..
  | tail d _ ih => exact .tail _ ih
class RowAt (L : List HP) (a : Option Addr) (n c : Nat) (e sz : outParam Nat) (xs : outParam (List Value)) (f : outParam (HP → List HP)) : Prop where ctx : Ctx L (Row a n c e sz xs) f
instance (priority := low) RowAt.tail {L : List HP} {a : Option Addr} {n c e sz : Nat} {xs : List Value} {f : HP → List HP} {d : HP} [h : RowAt L a n c e sz xs f] : RowAt (d :: L) a n c e sz xs (fun x => d :: f x) := ⟨.tail _ h.ctx⟩
instance RowAt.head {L : List HP} {a : Option Addr} {n c e sz : Nat} {xs : List Value} : RowAt (Row a n c e sz xs :: L) a n c e sz xs (fun x => x :: L) := ⟨.head ..⟩

section
variable {w0 w w' : World} {F : Nat → Prop} {L L' : List HP} {a : Option Addr} {n c e sz : Nat} {xs : List Value} {f : HP → List HP}
theorem St.row (h : St w0 F w L) (a : Option Addr) (n c : Nat) [m : RowAt L a n c e sz xs f] : RowV w a n c e sz xs := h.all _ (m.ctx.up (Junk 0)).mem
theorem RowV.cells (h : RowV w a n c e sz xs) {b o : Nat} (ha : a = some ⟨b, o, none⟩) {j : Nat} {v : Value} (hj : xs[j]? = some v) : w.cell? ⟨b, o + j, none⟩ = some v := by
  obtain ⟨h1, h2, h3, h4⟩ := h
  rcases h4 with ⟨rfl, _⟩ | ⟨g, o', cur, rfl, hg, hsz, ht⟩
  · cases ha
  · cases ha
    refine cell_blk hg ?_
    subst ht
    rw [List.getElem?_take] at hj
    split at hj
    · simpa using hj
    · cases hj
theorem RowV.some (h : RowV w a n c e sz xs) (hp : 0 < n) : ∃ b o, a = some ⟨b, o, none⟩ := by
  obtain ⟨h1, h2, h3, h4⟩ := h
  rcases h4 with ⟨_, hc⟩ | ⟨g, o', cur, rfl, _⟩
  · omega
  · exact ⟨g, o', rfl⟩
theorem RowV.len (h : RowV w a n c e sz xs) : xs.length = n * sz := h.1
/-- A nil slice is a row. -/
theorem rowV_nil (w : World) (e sz : Nat) : RowV w none 0 0 e sz [] := ⟨by simp, Nat.le_refl _, by simp [maxLen], .inl ⟨rfl, rfl⟩⟩
theorem St.nilRow (h : St w0 F w L) (e sz : Nat) : St w0 F w (Row none 0 0 e sz [] :: L) :=
  ⟨h.frm, fun d hd => by rcases List.mem_cons.1 hd with rfl | hd; exact rowV_nil w e sz; exact h.all d hd,
    fun d hd k hk => by
      rcases List.mem_cons.1 hd with rfl | hd
      · simp [Row, afoot] at hk
      · exact h.foot d hd k hk,
    List.pairwise_cons.2 ⟨fun d _ k hk => by simp [Row, afoot] at hk, h.sep⟩⟩
/-- A block as a row. -/
theorem St.toRow {b e : Nat} {cs : Array Value} (h : St w0 F w (Blk b (.cells cs e (0, 0)) :: L)) (o n c sz : Nat) (hn : n ≤ c) (hc : c ≤ maxLen) (ho : o + c * sz ≤ cs.size) (hx : (cs.toList.drop o).take (n * sz) = xs) : St w0 F w (Row (some ⟨b, o, none⟩) n c e sz xs :: L) := by
  refine h.conv (fun k hk => ?_) (fun hh => ⟨?_, hn, hc, .inr ⟨b, o, cs, rfl, hh, ho, hx⟩⟩)
  · simp [Row, afoot] at hk; exact hk.symm
  · subst hx
    simp only [List.length_take, List.length_drop, Array.length_toList]
    have : n * sz ≤ c * sz := Nat.mul_le_mul_right _ hn
    omega
/-- A row as a block. -/
theorem St.fromRow {b o : Nat} (h : St w0 F w (Row (some ⟨b, o, none⟩) n c e sz xs :: L)) : ∃ cs : Array Value, St w0 F w (Blk b (.cells cs e (0, 0)) :: L) ∧ o + c * sz ≤ cs.size ∧ (cs.toList.drop o).take (n * sz) = xs ∧ n ≤ c ∧ c ≤ maxLen := by
  obtain ⟨h1, h2, h3, h4⟩ := h.all _ List.mem_cons_self
  rcases h4 with ⟨h5, _⟩ | ⟨g, o', cur, h5, hg, hsz, ht⟩
  · cases h5
  · cases h5
    exact ⟨cur, h.conv (c' := Blk b (.cells cur e (0, 0))) (fun k hk => by simp [Row, afoot]; exact hk.symm) (fun _ => hg), hsz, ht, h2, h3⟩
/-- A row, cut in place: what lies behind is let go. -/
theorem St.cutRow (h : St w0 F w (Row a n c e sz xs :: L)) (n' c' : Nat) (hn : n' ≤ n) (hnc : n' ≤ c') (hc : c' ≤ c) : St w0 F w (Row a n' c' e sz (xs.take (n' * sz)) :: L) := by
  refine h.conv (fun k hk => hk) (fun hh => ?_)
  obtain ⟨h1, h2, h3, h4⟩ := hh
  refine ⟨?_, hnc, by omega, h4.imp (fun ⟨x, y⟩ => ⟨x, by omega⟩) ?_⟩
  · rw [List.length_take, h1]; exact Nat.min_eq_left (Nat.mul_le_mul_right _ hn)
  · rintro ⟨g, o, cur, rfl, hg, hsz, ht⟩
    refine ⟨g, o, cur, rfl, hg, ?_, ?_⟩
    · have : c' * sz ≤ c * sz := Nat.mul_le_mul_right _ hc; omega
    · rw [← ht, List.take_take, Nat.min_eq_left (Nat.mul_le_mul_right _ hn)]
end

/-! ### What is appended -/
/-- The slice value x holds the cells news (m elements of size sz). -/
def Src (w : World) (a : Option Addr) (m sz : Nat) (news : List Value) : Prop :=
  news.length = m * sz ∧ (a = none → m = 0) ∧ (∀ u ∈ news, u.oneCell' = true) ∧ ∀ b o, a = some ⟨b, o, none⟩ → ∀ j u, news[j]? = some u → w.cell? ⟨b, o + j, none⟩ = some u
def PlainA (a : Option Addr) : Prop := ∀ ad, a = some ad → ad.spot = none
theorem run_firstCells_src {P : Program} {w : World} {a : Option Addr} {m l c sz : Nat} {news : List Value} (h : Src w a m sz news) (hp : 0 < m → PlainA a) : (Builtin.firstCells sz m (.slice a l c)).run P w = .ok news.toArray w := by
  obtain ⟨h1, h2, _, h4⟩ := h
  cases a with
  | none =>
    have : m = 0 := h2 rfl
    subst this
    have : news = [] := List.eq_nil_of_length_eq_zero (by simpa using h1)
    subst this
    exact run_firstCells_none w sz 0 l c
  | some ad =>
    by_cases hm0 : m = 0
    · subst hm0
      have : news = [] := List.eq_nil_of_length_eq_zero (by simpa using h1)
      subst this
      exact run_firstCells_some w sz 0 ad l c [] (by simp) (by simp)
    obtain ⟨b, o, s⟩ := ad
    have hs : s = none := hp (by omega) _ rfl
    subst hs
    exact run_firstCells_some w sz m ⟨b, o, none⟩ l c news h1 (fun j v hj => by rw [add_eq]; exact h4 b o rfl j v hj)

section
variable {P : Program} {env : Env} {w0 w w' : World} {F : Nat → Prop} {L L' : List HP} {dst : Option Tmp} {ty : TypeId} {pos : String} {af : Array Edge} {gd : Option (Nat × Bool)} {S : Value → World → Prop}
theorem info_of {e : Nat} {sz by_ : Nat} {z : Value} [Z : Sz P e sz] [B : Byt P e by_] [Zr : Zer P e z] : ∃ i : TypeInfo, P.info? e = some i ∧ i.size = sz ∧ i.bytes = by_ ∧ i.zero = some z := by
  have h1 := Z.h; have h2 := B.h; have h3 := Zr.h
  cases hi : P.info? e with
  | none => simp [hi] at h1
  | some i => simp [hi] at h1 h2 h3; exact ⟨i, rfl, h1, h2, h3⟩
/-- append, at work. -/
theorem run_append_row {t t' e e' : Nat} {sz by_ : Nat} {z : Value} [U : Und P t (.slice e)] [U' : Und P t' (.slice e')] [Z : Sz P e sz] [B : Byt P e by_] [Zr : Zer P e z] (hz : z.cells.size = sz) (ty : TypeId)
    {a ax : Option Addr} {n c m cx : Nat} {xs news : List Value} (hr : RowV w a n c e sz xs) (hx : Src w ax m sz news) (hp : 0 < m → PlainA ax) (hb : (n + m) * by_ ≤ 140737488355328) (h63 : n + m ≤ maxLen) :
    ∃ a' c' w', (Builtin.append_ #[t, t'] ty #[.slice a n c, .slice ax m cx]).run P w = .ok (.slice a' (n + m) c') w' ∧ RowV w' a' (n + m) c' e sz (xs ++ news) ∧ Frm (afoot a) w w' ∧
      (∀ k, afoot a' k → k < w'.heap.size ∧ (afoot a k ∨ w.heap.size ≤ k)) ∧ (a' = none ↔ a = none ∧ m = 0) := by
  obtain ⟨i, hi, hi1, hi2, hi3⟩ := info_of (P := P) (e := e) (sz := sz) (by_ := by_) (z := z)
  have hfx := run_firstCells_src (P := P) (l := m) (c := cx) hx hp
  obtain ⟨hl, hnc, hcm, hcase⟩ := hr
  have hlx := hx.1
  have hsrc1 : (Builtin.lenOf (.slice ax m cx)).run P w = .ok m w := rfl
  by_cases hroom : n + m ≤ c
  · -- room
    rcases hcase with ⟨rfl, hc0⟩ | ⟨g, o, cur, rfl, hg, hsz, ht⟩
    · have hm0 : m = 0 := by omega
      have hn0 : n = 0 := by omega
      subst hm0 hn0 hc0
      have hn : news = [] := List.eq_nil_of_length_eq_zero (by simpa using hlx)
      subst hn
      have hx0 : xs = [] := List.eq_nil_of_length_eq_zero (by simpa using hl)
      subst hx0
      refine ⟨none, 0, w, ?_, rowV_nil w e sz, ⟨rfl, rfl, rfl, Nat.le_refl _, fun _ _ _ => rfl, Nat.le_refl _⟩, fun k hk => by simp [afoot] at hk, by simp⟩
      simp [Builtin.append_, run_underlying U.h, run_underlying U'.h, sizeOf, typeInfo, hi, hi1, Builtin.lenOf, hfx]
    · have hfit : o + n * sz + news.length ≤ cur.size := by
        have : (n + m) * sz ≤ c * sz := Nat.mul_le_mul_right _ hroom
        rw [hlx]; rw [Nat.add_mul] at this; omega
      have hst := run_storeCells_at P g (o + n * sz) e news 0 cur w hg (by simpa using hfit) hx.2.2.1
      simp only [Nat.add_zero] at hst
      have hrun : (Builtin.append_ #[t, t'] ty #[.slice (some ⟨g, o, none⟩) n c, .slice ax m cx]).run P w = .ok (.slice (some ⟨g, o, none⟩) (n + m) c) (w.setRow g (cur.toList.take (o + n * sz) ++ news ++ cur.toList.drop (o + n * sz + news.length)).toArray) := by
        simp [Builtin.append_, run_underlying U.h, run_underlying U'.h, sizeOf, typeInfo, hi, hi1, Builtin.lenOf, hroom, hfx, add_eq, hst]
      rw [setRow_eq hg] at hrun
      have hlt : g < w.heap.size := (Array.getElem?_eq_some_iff.1 hg).1
      refine ⟨_, _, _, hrun, ⟨by rw [List.length_append, hl, hlx, Nat.add_mul], hroom, hcm, .inr ⟨g, o, _, rfl, by simp [hlt]; rfl, ?_, ?_⟩⟩, ?_, fun k hk => ⟨?_, .inl hk⟩, by simp⟩
      · simp only [List.size_toArray, List.length_append, List.length_take, List.length_drop, Array.length_toList]
        omega
      · have hle : o + n * sz ≤ cur.size := by omega
        have e1 : cur.toList.take (o + n * sz) = cur.toList.take o ++ xs := by
          rw [← ht, List.take_add]
        have ho : o ≤ cur.toList.length := by simp; omega
        simp only [e1, List.append_assoc]
        rw [List.drop_append_of_le_length (by simp; omega), List.drop_of_length_le (by simp; omega), List.nil_append, ← List.append_assoc]
        have : (n + m) * sz = (xs ++ news).length := by rw [List.length_append, hl, hlx, Nat.add_mul]
        rw [this]
        exact List.take_left
      · exact ⟨rfl, rfl, rfl, by simp, fun k hk hf => by
          have : g ≠ k := fun e => hf (by simp [afoot, e])
          simp [Array.getElem?_setIfInBounds_ne this], Nat.le_refl _⟩
      · simp [afoot] at hk; subst hk; simpa using hlt
  · -- a new block
    have hneed : c < n + m := by omega
    have h48 : Builtin.nextslicecap (n + m) c * i.bytes ≤ 281474976710656 := growslice_fits hneed (by rw [hi2]; exact hb)
    have hold : (Builtin.firstCells sz n (.slice a n c)).run P w = .ok xs.toArray w := by
      rcases hcase with ⟨rfl, hc0⟩ | ⟨g, o, cur, rfl, hg, hsz, ht⟩
      · have hn0 : n = 0 := by omega
        subst hn0
        have hx0 : xs = [] := List.eq_nil_of_length_eq_zero (by simpa using hl)
        subst hx0
        exact run_firstCells_none w sz 0 0 c
      · exact run_firstCells_some w sz n ⟨g, o, none⟩ n c xs hl (fun j v hj => by rw [add_eq]; exact RowV.cells ⟨hl, hnc, hcm, .inr ⟨g, o, cur, rfl, hg, hsz, ht⟩⟩ rfl hj)
    have h63' : ¬ (9223372036854775807 < (n : Int) + m) := by simp only [maxLen] at h63; omega
    have hrun : (Builtin.append_ #[t, t'] ty #[.slice a n c, .slice ax m cx]).run P w = .ok (.slice (some ⟨w.heap.size, 0, none⟩) (n + m) (grownCap w (n + m) c e))
        (w.drew.alloc (.cells (xs.toArray ++ news.toArray ++ Builtin.zeroCells z.cells (grownCap w (n + m) c e - (n + m))) e)) := by
      have hfo : ∀ w' : World, w'.heap = w.heap → (Builtin.firstCells sz n (.slice a n c)).run P w' = .ok xs.toArray w' := fun w' hw' => by
        rcases hcase with ⟨rfl, hc0⟩ | ⟨g, o, cur, rfl, hg, hsz, ht⟩
        · have hn0 : n = 0 := by omega
          subst hn0
          have hx0 : xs = [] := List.eq_nil_of_length_eq_zero (by simpa using hl)
          subst hx0
          exact run_firstCells_none w' sz 0 0 c
        · exact run_firstCells_some w' sz n ⟨g, o, none⟩ n c xs hl (fun j v hj => by rw [add_eq]; exact RowV.cells ⟨hl, hnc, hcm, .inr ⟨g, o, cur, rfl, by rw [hw']; exact hg, hsz, ht⟩⟩ rfl hj)
      have hfn : ∀ w' : World, w'.heap = w.heap → (Builtin.firstCells sz m (.slice ax m cx)).run P w' = .ok news.toArray w' := fun w' hw' =>
        run_firstCells_src ⟨hx.1, hx.2.1, hx.2.2.1, fun b o hbo j u hj => by
          have := hx.2.2.2 b o hbo j u hj
          simpa [World.cell?, hw'] using this⟩ hp
      have q1 := hfo w.drew rfl
      have q2 := hfn w.drew rfl
      have hnb : ¬ (Builtin.nextslicecap (n + m) c * i.bytes > 2 ^ 48) := by omega
      simp [Builtin.append_, run_underlying U.h, run_underlying U'.h, sizeOf, typeInfo, zeroValue, hi, hi1, hi3, Builtin.lenOf, hroom, hnb, h63', Question.forced, q1, q2, newRow, grownCap]
      rw [← Array.append_assoc]; simp only [List.append_toArray]
    have hge := grownCap_ge w (n + m) c e
    have hcm' : grownCap w (n + m) c e ≤ maxLen := grownCap_le_maxLen w (n + m) c e h63
    refine ⟨_, _, _, hrun, ⟨by rw [List.length_append, hl, hlx, Nat.add_mul], hge, hcm', .inr ⟨w.heap.size, 0, _, rfl, heap_alloc_new w.drew _, ?_, ?_⟩⟩, ?_, fun k hk => ?_, ?_⟩
    · simp only [Array.size_append, List.size_toArray, size_zeroCells, hz, hl, hlx, Nat.zero_add, ← Nat.add_mul]
      apply Nat.le_of_eq
      congr 1
      omega
    · simp only [Array.toList_append, List.drop_zero]
      have : (n + m) * sz = (xs ++ news).length := by rw [List.length_append, hl, hlx, Nat.add_mul]
      rw [this]
      exact List.take_left
    · exact ⟨rfl, rfl, rfl, by simp, fun k hk _ => heap_alloc_old w.drew _ k hk, Nat.le_succ _⟩
    · simp [afoot] at hk; subst hk; exact ⟨by simp, .inr (Nat.le_refl _)⟩
    · constructor
      · intro h; cases h
      · rintro ⟨rfl, rfl⟩
        rcases hcase with ⟨_, hc0⟩ | ⟨g, o, cur, h, _⟩
        · omega
        · cases h
theorem OpR_append {t t' e e' : Nat} {sz by_ : Nat} {z : Value} {a ax : Option Addr} {n c m cx : Nat} {xs news : List Value} {x y : Operand} {f : HP → List HP} [U : Und P t (.slice e)] [U' : Und P t' (.slice e')] [Z : Sz P e sz] [B : Byt P e by_] [Zr : Zer P e z]
    (hs : St w0 F w L) (hx : ev env x = some (.slice a n c)) (hy : ev env y = some (.slice ax m cx)) [r : RowAt L a n c e sz xs f] (hsrc : Src w ax m sz news) (hp : 0 < m → PlainA ax) (hz : z.cells.size = sz) (hb : (n + m) * by_ ≤ 140737488355328) (h63 : n + m ≤ maxLen) :
    OpR P env ⟨dst, .call ⟨.builtin .append, #[x, y], #[t, t']⟩, ty, pos, af, gd⟩ w (fun v w' => ∃ a' c', v = .slice a' (n + m) c' ∧ St w0 F w' (f (Row a' (n + m) c' e sz (xs ++ news))) ∧ Frm (afoot a) w w' ∧ (a' = none ↔ a = none ∧ m = 0)) := by
  obtain ⟨a', c', w', hr, hrow, hF, hfo, hn⟩ := run_append_row (P := P) (t := t) (t' := t') (cx := cx) hz ty (hs.row a n c) hsrc hp hb h63
  exact .val (w' := w') (v := .slice a' (n + m) c') (fun _ hm => by simp [execOp, resolve, invoke, builtin, hm.eval hx, hm.eval hy, hr])
    ⟨a', c', rfl, hs.turn (r.ctx.up _) hF hrow hfo, hF, hn⟩

/-- make([]T, n). -/
theorem OpR_make {t e sz by_ : Nat} {z : Value} {k k' : IntKind} {n : Nat} {x y : Operand} [U : Und P t (.slice e)] [Z : Sz P e sz] [B : Byt P e by_] [Zr : Zer P e z] (hs : St w0 F w L) (hx : ev env x = some (.int k n)) (hy : ev env y = some (.int k' n)) (hb : by_ * n ≤ 281474976710656) (h63 : n ≤ 9223372036854775807) :
    OpR P env ⟨dst, .makeSlice t x y, ty, pos, af, gd⟩ w (NewAt w0 F w L (.cells (madeCells z.cells (n * sz)) e (0, 0)) (fun b => .slice (some ⟨b, 0, none⟩) n n)) := by
  obtain ⟨i, hi, hi1, hi2, hi3⟩ := info_of (P := P) (e := e) (sz := sz) (by_ := by_) (z := z)
  have hr := run_make (P := P) w t e i z U.h hi hi3 k k' n n (by omega) (by omega) (by have e : ((by_ * n : Nat) : Int) = (by_ : Int) * n := Int.natCast_mul _ _; rw [hi2, ← e]; omega) (by omega)
  refine .val (w' := w.alloc (.cells (madeCells z.cells (n * sz)) e (0, 0))) (v := .slice (some ⟨w.heap.size, 0, none⟩) n n) (fun _ hm => ?_) (newAt hs _ _)
  simp only [execOp, hm.eval hx, hm.eval hy, Sem.run_bind, hr, Result.andThen_ok, Sem.run_pure, Int.toNat_natCast, hi1]

theorem OpR_makeI {t e sz by_ : Nat} {z : Value} {k k' : IntKind} {i : Int} {x y : Operand} [U : Und P t (.slice e)] [Z : Sz P e sz] [B : Byt P e by_] [Zr : Zer P e z] (hs : St w0 F w L) (hx : ev env x = some (.int k i)) (hy : ev env y = some (.int k' i)) (h0 : 0 ≤ i) (hb : by_ * i ≤ 281474976710656) (h63 : i ≤ 9223372036854775807) :
    OpR P env ⟨dst, .makeSlice t x y, ty, pos, af, gd⟩ w (NewAt w0 F w L (.cells (madeCells z.cells (i.toNat * sz)) e (0, 0)) (fun b => .slice (some ⟨b, 0, none⟩) i.toNat i.toNat)) := by
  have e : i = (i.toNat : Int) := by omega
  rw [e] at hx hy
  refine OpR_make hs hx hy ?_ (by omega)
  have e2 : ((by_ * i.toNat : Nat) : Int) = (by_ : Int) * (i.toNat : Int) := Int.natCast_mul _ _
  rw [e] at hb
  omega
/-- copy into a block of our own, elements of one cell. -/
theorem OpR_copy {t t' e b o dn dc sn sc : Nat} {ax : Option Addr} {cur : Array Value} {vs : List Value} {cs' : List Value} {x y : Operand} [U : Und P t (.slice e)] [Z : Sz P e 1] (hs : St w0 F w L) (hx : ev env x = some (.slice (some ⟨b, o, none⟩) dn dc)) (hy : ev env y = some (.slice ax sn sc))
    [m : BlkAt L b (.cells cur e (0, 0))] (hsrc : Src w ax (min sn dn) 1 vs) (hp : 0 < min sn dn → PlainA ax) (hfit : o + vs.length ≤ cur.size) (hcs : splice cur.toList o vs = cs') [u : BlkUp L b (.cells cur e (0, 0)) (.cells cs'.toArray e (0, 0)) L'] :
    OpR P env ⟨dst, .call ⟨.builtin .copy, #[x, y], #[t, t']⟩, ty, pos, af, gd⟩ w (fun v w' => v = .int .i64 (min sn dn : Nat) ∧ St w0 F w' L' ∧ Frm (fun k => k = b) w w') := by
  have hg : w.heap[b]? = some (.cells cur e (0, 0)) := St.blk (b := b) (o := .cells cur e (0, 0)) hs
  have hl := hsrc.1
  rw [Nat.mul_one] at hl
  subst hcs
  have hrun : (Builtin.copy_ #[t, t'] ty #[.slice (some ⟨b, o, none⟩) dn dc, .slice ax sn sc]).run P w = .ok (.int .i64 (min sn dn : Nat)) { w with heap := w.heap.setIfInBounds b (.cells (splice cur.toList o vs).toArray e (0, 0)) } := by
    have hfx : (Builtin.firstCells 1 (min sn dn) (.slice ax sn sc)).run P w = .ok vs.toArray w := run_firstCells_src (c := sc) hsrc hp
    have hst := run_storeCells_at P b o e vs 0 cur w hg (by simpa using hfit) hsrc.2.2.1
    simp only [Nat.add_zero] at hst
    rw [setRow_eq hg] at hst
    simp [Builtin.copy_, run_underlying U.h, sizeOf_of Z.h, Builtin.lenOf, hfx, hst, splice, goInt]
  exact .val (w' := { w with heap := w.heap.setIfInBounds b (.cells (splice cur.toList o vs).toArray e (0, 0)) }) (v := .int .i64 (min sn dn : Nat)) (fun _ hm => by simp [execOp, resolve, invoke, builtin, hm.eval hx, hm.eval hy, hrun]) ⟨rfl, hs.set (u := u), frm_set w⟩

/-! ### Cuts -/
/-- The bounds of a cut, as numbers; what is not typed is none. -/
def optV : Option (IntKind × Int) → Option Value → Prop
  | none, v => v = none
  | some (k, i), v => v = some (.int k i)
theorem OpR_slice {t e sz n c : Nat} {a a' : Option Addr} {x : Operand} {lo hi mx : Option Operand} {l h m : Int} {kl kh km : IntKind} [U : Und P t (.slice e)] [Z : Sz P e sz] (hx : ev env x = some (.slice a n c))
    (hlo : lo = none ∧ l = 0 ∨ ∃ y, lo = some y ∧ ev env y = some (.int kl l)) (hhi : hi = none ∧ h = n ∧ mx = none ∨ ∃ y, hi = some y ∧ ev env y = some (.int kh h)) (hmx : mx = none ∧ m = c ∨ ∃ y, mx = some y ∧ ev env y = some (.int km m))
    (h1 : 0 ≤ l) (h2 : l ≤ h) (h3 : h ≤ m) (h4 : m ≤ c) (ha : (if m = l then a else a.map (·.add (l.toNat * sz))) = a') (hS : S (.slice a' (h - l).toNat (m - l).toNat) w) :
    OpR P env ⟨dst, .slice t x lo hi mx, ty, pos, af, gd⟩ w S := by
  refine .val (fun tmps hm => ?_) hS
  have hz := sizeOf_of Z.h w
  have c0 : 0 ≤ h ∧ h ≤ m := ⟨by omega, h3⟩
  have em : (m.toNat : Int) = m := Int.toNat_of_nonneg (by omega)
  have eh : (h.toNat : Int) = h := Int.toNat_of_nonneg (by omega)
  have hb : (Instr.sliceBounds true n c (lo.map (Act.eval ⟨tmps, []⟩)) (hi.map (Act.eval ⟨tmps, []⟩)) (mx.map (Act.eval ⟨tmps, []⟩))).run P w = .ok (l.toNat, h.toNat, m.toNat) w := by
    have c1 : 0 ≤ m ∧ m ≤ (c : Int) := ⟨by omega, h4⟩
    have c3 : 0 ≤ l ∧ l ≤ h := ⟨h1, h2⟩
    clear hS ha
    rcases hlo with ⟨rfl, rfl⟩ | ⟨yl, rfl, el⟩ <;> rcases hhi with ⟨rfl, rfl, rfl⟩ | ⟨yh, rfl, eh'⟩ <;> rcases hmx with ⟨hq, rfl⟩ | ⟨ym, hq, em'⟩
    all_goals first | (cases hq; done) | skip
    all_goals try subst hq
    all_goals try (have el' := hm.eval (ds := []) el)
    all_goals try (have eh'' := hm.eval (ds := []) eh')
    all_goals try (have em'' := hm.eval (ds := []) em')
    all_goals simp only [Instr.sliceBounds, Instr.sliceBound, Option.map_none, Option.map_some, Sem.run_bind, Sem.run_pure, Result.andThen_ok, asIntOf, Sem.run_ite, Int.toNat_natCast, Option.isSome_none, Option.isSome_some, Int.toNat_zero, *]
    all_goals simp only [if_true, Result.andThen_ok, and_self, *]
  have e1 : (h.toNat - l.toNat : Nat) = (h - l).toNat := by omega
  have e2 : (m.toNat - l.toNat : Nat) = (m - l).toNat := by omega
  have e3 : (m.toNat = l.toNat) ↔ m = l := by omega
  simp only [execOp, hm.eval hx, Instr.sliceAt, Sem.run_bind, run_underlying U.h, Result.andThen_ok, Instr.slice, hb, hz, Sem.run_pure]
  simp only [e1, e2, e3, ha]
end
end Go.Eng
