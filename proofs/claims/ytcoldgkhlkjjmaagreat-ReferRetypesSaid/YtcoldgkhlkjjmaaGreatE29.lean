/- The engine, part 29: calls that the model answers itself; appends of zeros, and in place; rows that grow and parts of rows. -/
import Derived.Test.YtcoldgkhlkjjmaaGreatE28
import Derived.Lib.AppendZerosOnto
import Derived.Lib.Overlaps
namespace Go.Eng
open Go.RowKit
set_option linter.unusedVariables false
section
variable {P : Program} {env : Env} {w0 w : World} {F : Nat → Prop} {L : List HP} {dst : Option Tmp} {ty : TypeId} {pos : String} {af : Array Edge} {gd : Option (Nat × Bool)} {S : Value → World → Prop}
/-- A call that is answered at once. -/
theorem RetV.ext {g : FuncId} {args : Array Value} {v : Value} (h : (callFunc g args).run P w = .ok (.value v) w) (hS : S v w) : RetV P (.func (.func g) #[] #[]) args w S :=
  ⟨{ target := .fn (.func g) #[], args := args }, .value v, w, by simp [Deferred.ofValue], by simp only [invoke, Array.append_empty]; exact h, hS⟩
theorem St.growRow {a : Option Addr} {n c e sz : Nat} {xs : List Value} (h : St w0 F w (Row a n c e sz xs :: L)) (m : Nat) (hm : n ≤ m) (hmc : m ≤ c) : ∃ ys, ys.length = (m - n) * sz ∧ St w0 F w (Row a m c e sz (xs ++ ys) :: L) := by
  obtain ⟨h1, h2, h3, h4⟩ : RowV w a n c e sz xs := h.all _ List.mem_cons_self
  rcases h4 with ⟨rfl, hc⟩ | ⟨g, o, cur, rfl, hg, hsz, ht⟩
  · have hn : n = 0 := by omega
    have hm0 : m = 0 := by omega
    subst hn hm0 hc
    exact ⟨[], by simp, by rw [List.append_nil]; exact h⟩
  · have hmsz : m * sz ≤ c * sz := Nat.mul_le_mul_right _ hmc
    have hnsz : n * sz ≤ m * sz := Nat.mul_le_mul_right _ hm
    have e1 : (cur.toList.drop o).take (m * sz) = xs ++ ((cur.toList.drop o).drop (n * sz)).take ((m - n) * sz) := by
      rw [← ht, Nat.sub_mul, ← List.take_add, show n * sz + (m * sz - n * sz) = m * sz by omega]
    refine ⟨((cur.toList.drop o).drop (n * sz)).take ((m - n) * sz), ?_, h.conv (fun k hk => hk) (fun _ => ?_)⟩
    · rw [List.length_take, List.length_drop, List.length_drop, Array.length_toList, Nat.sub_mul]
      omega
    · refine ⟨?_, hmc, h3, .inr ⟨g, o, cur, rfl, hg, hsz, e1⟩⟩
      rw [← e1, List.length_take, List.length_drop, Array.length_toList]
      omega
/-- Of a row, what stands from i on, as a source. -/
theorem RowV.srcDrop {a : Option Addr} {n c e sz : Nat} {xs : List Value} (h : RowV w a n c e sz xs) (i m : Nat) {zs : List Value} (hzs : (xs.drop (i * sz)).take (m * sz) = zs) (h1 : ∀ u ∈ zs, u.oneCell' = true) (hi : i + m ≤ n) (hm : 0 < m) : Src w (a.map (·.add (i * sz))) m sz zs := by
  subst hzs
  have hl := h.1
  refine ⟨?_, fun ha => ?_, h1, fun b o ha j u hj => ?_⟩
  · rw [List.length_take, List.length_drop, hl]
    have : (i + m) * sz ≤ n * sz := Nat.mul_le_mul_right _ hi
    rw [Nat.add_mul] at this
    omega
  · obtain ⟨b, o, rfl⟩ := h.some (by omega)
    cases ha
  · obtain ⟨b', o', rfl⟩ := h.some (by omega)
    simp only [Option.map_some, Option.some.injEq, add_eq] at ha
    cases ha
    rw [List.getElem?_take] at hj
    split at hj
    · rw [List.getElem?_drop] at hj
      have := h.cells rfl hj
      rw [Nat.add_assoc]; exact this
    · cases hj
theorem plainA_map {a : Option Addr} {p : Nat} {w : World} {n c e sz : Nat} {xs : List Value} (h : RowV w a n c e sz xs) (hn : 0 < n) : PlainA (a.map (·.add p)) := by
  obtain ⟨b, o, rfl⟩ := h.some hn
  intro ad h
  simp only [Option.map_some, Option.some.injEq, add_eq] at h
  rw [← h]
/-- An append of zeros where there is no room. -/
theorem OpR_appendZ {t tn e : Nat} {kn kq : IntKind} {sz by_ : Nat} {z : Value} {a : Option Addr} {n c i k : Nat} {xs : List Value} {x y : Operand} {f : HP → List HP} [U : Und P t (.slice e)] [U' : Und P tn (.int kn)] [Z : Sz P e sz] [B : Byt P e by_] [Zr : Zer P e z]
    (hs : St w0 F w L) (hx : ev env x = some (.slice a i c)) (hy : ev env y = some (.int kq k)) [r : RowAt L a n c e sz xs f] (hi : i ≤ n) (hk : 0 < k) (hz0 : 0 < sz) (hg : c < i + k) (hz : z.cells.size = sz) (hb : (i + k) * by_ ≤ 140737488355328) (h63 : i + k ≤ maxLen) :
    OpR P env ⟨dst, .call ⟨.builtin .append, #[x, y], #[t, tn]⟩, ty, pos, af, gd⟩ w (fun v w' => ∃ b c' zs, v = .slice (some ⟨b, 0, none⟩) (i + k) c' ∧ zs.length = k * sz ∧ St w0 F w' (Row (some ⟨b, 0, none⟩) (i + k) c' e sz (xs.take (i * sz) ++ zs) :: L) ∧ Ext w w') := by
  obtain ⟨inf, hinf, hi1, hi2, hi3⟩ := info_of (P := P) (e := e) (sz := sz) (by_ := by_) (z := z)
  have hrow := hs.row a n c
  obtain ⟨hl, hnc, hcm, hcase⟩ := id hrow
  have hlx : (xs.take (i * sz)).length = i * sz := by
    have : i * sz ≤ n * sz := Nat.mul_le_mul_right _ hi
    rw [List.length_take]; omega
  have hold : (Builtin.firstCells inf.size i (.slice a i c)).run P w.drew = .ok (xs.take (i * sz)).toArray w.drew := by
    rw [hi1]
    rcases hcase with ⟨rfl, hc0⟩ | ⟨g, o, cur, rfl, hgg, hsz, ht⟩
    · have hn0 : n = 0 := by omega
      have hi0 : i = 0 := by omega
      subst hn0 hi0
      rw [Nat.zero_mul, List.take_zero]
      exact run_firstCells_none w.drew sz 0 0 c
    · exact run_firstCells_some w.drew sz i ⟨g, o, none⟩ i c (xs.take (i * sz)) hlx (fun j v hj => by
        rw [add_eq]
        rw [List.getElem?_take] at hj
        split at hj
        · exact RowV.cells hrow rfl hj
        · cases hj)
  have h := Lib.run_append_grow_zeros w t tn ty e inf z kq kn U.h U'.h hinf hi3 a i c (xs.take (i * sz)) hold k hk (by rw [hi1]; exact hz0) hg (by unfold maxLen at h63; omega)
    (by rw [hi2]; have : k * by_ ≤ (i + k) * by_ := Nat.mul_le_mul_right _ (by omega); omega) (growslice_fits hg (by rw [hi2]; exact hb))
  have hge := grownCap_ge w (i + k) c e
  have hcm' : grownCap w (i + k) c e ≤ maxLen := grownCap_le_maxLen w (i + k) c e h63
  have hzc : (Builtin.zeroCells z.cells k).toList.length = k * sz := by rw [Array.length_toList, size_zeroCells, hz]
  have hF : Fresh w (w.drew.alloc (.cells ((xs.take (i * sz)).toArray ++ Builtin.zeroCells z.cells k ++ Builtin.zeroCells z.cells (grownCap w (i + k) c e - (i + k))) e)) [Row (some ⟨w.heap.size, 0, none⟩) (i + k) (grownCap w (i + k) c e) e sz (xs.take (i * sz) ++ (Builtin.zeroCells z.cells k).toList)] := by
    refine ⟨⟨rfl, rfl, rfl, by simp, fun k hk => heap_alloc_old w.drew _ hk, Nat.le_succ _⟩, fun d hd => ?_, fun d hd k hk => ?_, List.pairwise_singleton _ _⟩
    · rw [List.mem_singleton.1 hd]
      refine ⟨by rw [List.length_append, hlx, hzc, Nat.add_mul], hge, hcm', .inr ⟨w.heap.size, 0, _, rfl, heap_alloc_new w.drew _, ?_, ?_⟩⟩
      · simp only [Array.size_append, List.size_toArray, size_zeroCells, hz, hlx, Nat.zero_add, ← Nat.add_mul]
        apply Nat.le_of_eq
        congr 1
        omega
      · simp only [Array.toList_append, List.drop_zero]
        have : (i + k) * sz = (xs.take (i * sz) ++ (Builtin.zeroCells z.cells k).toList).length := by rw [List.length_append, hlx, hzc, Nat.add_mul]
        rw [this]
        exact List.take_left
    · rw [List.mem_singleton.1 hd] at hk
      have hk : w.heap.size = k := by simpa [Row, afoot] using hk
      subst hk
      exact ⟨Nat.le_refl _, by simp⟩
  obtain ⟨W', hW'⟩ : ∃ W', W' = w.drew.alloc (.cells ((xs.take (i * sz)).toArray ++ Builtin.zeroCells z.cells k ++ Builtin.zeroCells z.cells (grownCap w (i + k) c e - (i + k))) e) := ⟨_, rfl⟩
  rw [← hW'] at h hF
  refine .val (w' := W') (v := .slice (some ⟨w.heap.size, 0, none⟩) (i + k) (grownCap w (i + k) c e)) (fun _ hm => by simp [execOp, resolve, invoke, builtin, hm.eval hx, hm.eval hy, h]) ?_
  have hs2 := hs.fresh hF
  rw [List.singleton_append] at hs2
  exact ⟨w.heap.size, _, _, rfl, hzc, hs2, hF.ext⟩
/-- An append in place: there is room. -/
theorem OpR_appendR {t t' e e' : Nat} {sz by_ : Nat} {z : Value} {a ax : Option Addr} {n c m cx : Nat} {xs news : List Value} {x y : Operand} {f : HP → List HP} [U : Und P t (.slice e)] [U' : Und P t' (.slice e')] [Z : Sz P e sz] [B : Byt P e by_] [Zr : Zer P e z]
    (hs : St w0 F w L) (hx : ev env x = some (.slice a n c)) (hy : ev env y = some (.slice ax m cx)) [r : RowAt L a n c e sz xs f] (hsrc : Src w ax m sz news) (hp : 0 < m → PlainA ax) (hroom : n + m ≤ c) :
    OpR P env ⟨dst, .call ⟨.builtin .append, #[x, y], #[t, t']⟩, ty, pos, af, gd⟩ w (fun v w' => v = .slice a (n + m) c ∧ St w0 F w' (f (Row a (n + m) c e sz (xs ++ news))) ∧ Frm (afoot a) w w') := by
  obtain ⟨inf, hi, hi1, hi2, hi3⟩ := info_of (P := P) (e := e) (sz := sz) (by_ := by_) (z := z)
  have hfx := run_firstCells_src (P := P) (l := m) (c := cx) hsrc hp
  obtain ⟨hl, hnc, hcm, hcase⟩ := hs.row a n c
  have hlx := hsrc.1
  rcases hcase with ⟨rfl, hc0⟩ | ⟨g, o, cur, rfl, hg, hsz, ht⟩
  · have hm0 : m = 0 := by omega
    have hn0 : n = 0 := by omega
    subst hm0 hn0 hc0
    have hn : news = [] := List.eq_nil_of_length_eq_zero (by simpa using hlx)
    subst hn
    have hx0 : xs = [] := List.eq_nil_of_length_eq_zero (by simpa using hl)
    subst hx0
    refine .val (w' := w) (v := .slice none 0 0) (fun _ hm => by simp [execOp, resolve, invoke, builtin, hm.eval hx, hm.eval hy, Builtin.append_, run_underlying U.h, run_underlying U'.h, sizeOf, typeInfo, hi, hi1, Builtin.lenOf, hfx]) ⟨rfl, ?_, ⟨rfl, rfl, rfl, Nat.le_refl _, fun _ _ _ => rfl, Nat.le_refl _⟩⟩
    exact hs.turn (r.ctx.up _) (Ext.refl w |>.frm _) (rowV_nil w e sz) (fun k hk => by simp [Row, afoot] at hk)
  · have hfit : o + n * sz + news.length ≤ cur.size := by
      have : (n + m) * sz ≤ c * sz := Nat.mul_le_mul_right _ hroom
      rw [hlx]; rw [Nat.add_mul] at this; omega
    have hst := run_storeCells_at P g (o + n * sz) e news 0 cur w hg (by simpa using hfit) hsrc.2.2.1
    simp only [Nat.add_zero] at hst
    have hrun : (Builtin.append_ #[t, t'] ty #[.slice (some ⟨g, o, none⟩) n c, .slice ax m cx]).run P w = .ok (.slice (some ⟨g, o, none⟩) (n + m) c) (w.setRow g (cur.toList.take (o + n * sz) ++ news ++ cur.toList.drop (o + n * sz + news.length)).toArray) := by
      simp [Builtin.append_, run_underlying U.h, run_underlying U'.h, sizeOf, typeInfo, hi, hi1, Builtin.lenOf, hroom, hfx, add_eq, hst]
    rw [setRow_eq hg] at hrun
    have hlt : g < w.heap.size := (Array.getElem?_eq_some_iff.1 hg).1
    obtain ⟨W', hW'⟩ : ∃ W' : World, W' = { w with heap := w.heap.setIfInBounds g (.cells (cur.toList.take (o + n * sz) ++ news ++ cur.toList.drop (o + n * sz + news.length)).toArray e (0, 0)) } := ⟨_, rfl⟩
    rw [← hW'] at hrun
    refine .val (w' := W') (v := .slice (some ⟨g, o, none⟩) (n + m) c) (fun _ hm => by simp [execOp, resolve, invoke, builtin, hm.eval hx, hm.eval hy, hrun]) ?_
    have hF : Frm (Row (some ⟨g, o, none⟩) n c e sz xs).foot w W' := by subst hW'; exact ⟨rfl, rfl, rfl, by simp, fun k hk hf => by
      have : g ≠ k := fun e => hf (by simp [Row, afoot, e])
      simp [Array.getElem?_setIfInBounds_ne this], Nat.le_refl _⟩
    subst hW'
    refine ⟨rfl, hs.turn (r.ctx.up _) hF ⟨by rw [List.length_append, hl, hlx, Nat.add_mul], hroom, hcm, .inr ⟨g, o, _, rfl, by simp [hlt]; rfl, ?_, ?_⟩⟩ (fun k hk => ⟨?_, .inl hk⟩), hF⟩
    · simp only [List.size_toArray, List.length_append, List.length_take, List.length_drop, Array.length_toList]
      omega
    · have hle : o + n * sz ≤ cur.size := by omega
      have e1 : cur.toList.take (o + n * sz) = cur.toList.take o ++ xs := by
        rw [← ht, List.take_add]
      have ho : o ≤ cur.toList.length := by simp; omega
      simp only [e1, List.append_assoc]
      rw [List.drop_append_of_le_length (by simp; omega), List.drop_of_length_le (by simp; omega), List.nil_append, ← List.append_assoc]
      have : (n + m) * sz = (xs ++ news).length := by rw [List.length_append, hl, hlx, Nat.add_mul]
      rw [this]
      exact List.take_left
    · have hk : g = k := by simpa [Row, afoot] using hk
      subst hk; simpa using hlt
theorem OpR_cap {T e n c : Nat} {a : Option Addr} {x : Operand} [U : Und P T (.slice e)] (hx : ev env x = some (.slice a n c)) (hS : S (.int .i64 c) w) : OpR P env ⟨dst, .call ⟨.builtin .cap, #[x], #[T]⟩, ty, pos, af, gd⟩ w S :=
  .val (fun _ hm => by simp [execOp, resolve, invoke, builtin, hm.eval hx, Builtin.cap_, run_underlying U.h, goInt]) hS
theorem as_b_cap {a : Array Operand} {T : Array TypeId} (h : OpR P env ⟨dst, .call ⟨.builtin .cap, a, T⟩, ty, pos, af, gd⟩ w S) : OpR P env ⟨dst, .call ⟨.builtin .cap, a, T⟩, ty, pos, af, gd⟩ w S := h
theorem OpR_sliceLo {t e sz n c q b o : Nat} {l : Int} {x y : Operand} [U : Und P t (.slice e)] [Z : Sz P e sz] (hx : ev env x = some (.slice (some ⟨b, o, none⟩) n c)) (hy : ev env y = some (.int .i64 l)) (hl : l = (q : Int)) (hq : q ≤ n) (hc : n ≤ c) (hqc : q < c) (hS : S (.slice (some ⟨b, o + q * sz, none⟩) (n - q) (c - q)) w) :
    OpR P env ⟨dst, .slice t x (some y) none none, ty, pos, af, gd⟩ w S := by
  subst hl
  refine OpR_slice (kl := .i64) (kh := .i64) (km := .i64) (a' := some ⟨b, o + q * sz, none⟩) (l := (q : Nat)) (m := c) (h := (n : Nat)) hx (.inr ⟨_, rfl, hy⟩) (.inl ⟨rfl, rfl, rfl⟩) (.inl ⟨rfl, rfl⟩) (by omega) (by omega) (by omega) (by omega) (by rw [if_neg (by omega)]; simp [add_eq]) ?_
  rw [show ((n : Int) - (q : Int)).toNat = n - q by omega, show ((c : Int) - (q : Int)).toNat = c - q by omega]
  exact hS
theorem OpR_sliceHi {t e sz n c q : Nat} {a : Option Addr} {l : Int} {x y : Operand} [U : Und P t (.slice e)] [Z : Sz P e sz] (hx : ev env x = some (.slice a n c)) (hy : ev env y = some (.int .i64 l)) (hl : l = (q : Int)) (hq : q ≤ c) (hS : S (.slice a q c) w) :
    OpR P env ⟨dst, .slice t x none (some y) none, ty, pos, af, gd⟩ w S := by
  subst hl
  refine OpR_slice (kl := .i64) (kh := .i64) (km := .i64) (a' := a) (m := c) (h := (q : Nat)) hx (.inl ⟨rfl, rfl⟩) (.inr ⟨_, rfl, hy⟩) (.inl ⟨rfl, rfl⟩) (by omega) (by omega) (by omega) (by omega) ?_ ?_
  · split
    · rfl
    · rw [show Int.toNat 0 * sz = 0 by simp]
      cases a with
      | none => rfl
      | some a => cases a; rfl
  · rw [Int.sub_zero, Int.sub_zero, Int.toNat_natCast, Int.toNat_natCast]
    exact hS
/-- From somewhere on, whatever address that be. -/
theorem OpR_sliceAny {t e sz n c q : Nat} {a : Option Addr} {l : Int} {x y : Operand} [U : Und P t (.slice e)] [Z : Sz P e sz] (hx : ev env x = some (.slice a n c)) (hy : ev env y = some (.int .i64 l)) (hl : l = (q : Int)) (hq : q ≤ n) (hc : n ≤ c) (hS : ∀ v, S v w) :
    OpR P env ⟨dst, .slice t x (some y) none none, ty, pos, af, gd⟩ w S := by
  subst hl
  exact OpR_slice (kl := .i64) (kh := .i64) (km := .i64) (l := (q : Nat)) (m := c) (h := (n : Nat)) hx (.inr ⟨_, rfl, hy⟩) (.inl ⟨rfl, rfl, rfl⟩) (.inl ⟨rfl, rfl⟩) (by omega) (by omega) (by omega) (by omega) rfl (hS _)
theorem splice_two {A zs U D : List Value} {p q : Nat} (hp : A.length = p) (hu : U.length = 2) (hq : q = p + 2) (hz : zs.length = D.length + 2) : splice (splice (A ++ zs) p U) q D = A ++ U ++ D := by
  subst hp hq
  have e1 : splice (A ++ zs) A.length U = A ++ U ++ zs.drop 2 := by
    unfold splice
    rw [List.take_left, hu, ← List.drop_drop, List.drop_left]
  rw [e1]
  unfold splice
  have e2 : A.length + 2 = (A ++ U).length := by rw [List.length_append, hu]
  rw [e2, List.take_left, ← List.drop_drop, List.drop_left, List.drop_of_length_le (by rw [List.length_drop]; omega), List.append_nil]
/-- Moved one to the right, in place. -/
theorem splice_shift {X ys U : List Value} {p q : Nat} (hp : p ≤ X.length) (hu : U.length = 2) (hq : q = p + 2) (hy : ys.length = 2) : splice (splice (X ++ ys) q (X.drop p)) p U = X.take p ++ U ++ X.drop p := by
  subst hq
  have e1 : splice (X ++ ys) (p + 2) (X.drop p) = (X ++ ys).take (p + 2) ++ X.drop p := by
    unfold splice
    rw [List.drop_of_length_le (l := X ++ ys) (by rw [List.length_append, List.length_drop]; omega), List.append_nil]
  rw [e1]
  unfold splice
  have hl : ((X ++ ys).take (p + 2)).length = p + 2 := by rw [List.length_take, List.length_append]; omega
  rw [List.take_append_of_le_length (by omega), List.take_take, Nat.min_eq_left (by omega), List.take_append_of_le_length hp, hu, List.drop_append_of_le_length (by omega), List.drop_of_length_le (l := (X ++ ys).take (p + 2)) (by omega), List.nil_append]
end
end Go.Eng
