/- The engine, part 8: how values read as data. -/
import Derived.Test.YtcoldgkhlkjjmaaGreatE7
namespace Go.Eng
open Go.RowKit

structure Ty (α : Type) where
  sz : Nat
  rep : (Nat → Prop) → World → List Value → α → Prop
  len : ∀ {R w cs x}, rep R w cs x → cs.length = sz
  one : ∀ {R w cs x}, rep R w cs x → ∀ u ∈ cs, u.oneCell' = true
  loc : ∀ {R w w' cs x}, rep R w cs x → (∀ k, R k → k < w.heap.size → w'.heap[k]? = w.heap[k]?) → rep R w' cs x
  weak : ∀ {R R' w cs x}, rep R w cs x → (∀ k, R k → R' k) → rep R' w cs x

def inK : IntKind → Int → Prop
  | .i64, x => -9223372036854775808 ≤ x ∧ x ≤ 9223372036854775807
  | .u64, x => 0 ≤ x ∧ x ≤ 18446744073709551615
  | k, x => k.min ≤ x ∧ x ≤ k.max
def tInt (k : IntKind) : Ty Int where
  sz := 1
  rep := fun _ _ cs x => cs = [.int k x] ∧ inK k x
  len := fun ⟨h, _⟩ => by rw [h]; rfl
  one := fun ⟨h, _⟩ => by rw [h]; simp [Value.oneCell']
  loc := fun h _ => h
  weak := fun h _ => h
def tBool : Ty Bool where
  sz := 1
  rep := fun _ _ cs x => cs = [.bool x]
  len := fun h => by rw [h]; rfl
  one := fun h => by rw [h]; simp [Value.oneCell']
  loc := fun h _ => h
  weak := fun h _ => h
def tStr : Ty ByteArray where
  sz := 1
  rep := fun _ _ cs x => cs = [.string x] ∧ x.size ≤ maxLen
  len := fun ⟨h, _⟩ => by rw [h]; rfl
  one := fun ⟨h, _⟩ => by rw [h]; simp [Value.oneCell']
  loc := fun h _ => h
  weak := fun h _ => h
/-- Two, one behind the other. -/
def tPair {α β : Type} (d : Ty α) (e : Ty β) : Ty (α × β) where
  sz := d.sz + e.sz
  rep := fun R w cs x => ∃ c1 c2, cs = c1 ++ c2 ∧ d.rep R w c1 x.1 ∧ e.rep R w c2 x.2
  len := fun ⟨c1, c2, h, h1, h2⟩ => by rw [h, List.length_append, d.len h1, e.len h2]
  one := fun ⟨c1, c2, h, h1, h2⟩ u hu => by
    rw [h] at hu
    rcases List.mem_append.1 hu with hu | hu
    · exact d.one h1 u hu
    · exact e.one h2 u hu
  loc := fun ⟨c1, c2, h, h1, h2⟩ hk => ⟨c1, c2, h, d.loc h1 hk, e.loc h2 hk⟩
  weak := fun ⟨c1, c2, h, h1, h2⟩ hk => ⟨c1, c2, h, d.weak h1 hk, e.weak h2 hk⟩
/-- The same, told by another type. -/
def tVia {α β : Type} (d : Ty β) (f : α → β) : Ty α where
  sz := d.sz
  rep := fun R w cs x => d.rep R w cs (f x)
  len := d.len
  one := d.one
  loc := d.loc
  weak := d.weak

/-- A slice's elements. -/
structure SlR {α : Type} (d : Ty α) (R : Nat → Prop) (w : World) (a : Option Addr) (n : Nat) (xs : List α) : Prop where
  len : xs.length = n
  nil : a = none → n = 0
  plain : 0 < n → PlainA a
  reg : ∀ b o, a = some ⟨b, o, none⟩ → 0 < n → R b
  el : ∀ i x, xs[i]? = some x → ∃ es, d.rep R w es x ∧ ∀ b o, a = some ⟨b, o, none⟩ → ∀ j u, es[j]? = some u → w.cell? ⟨b, o + i * d.sz + j, none⟩ = some u
def tSl {α : Type} (d : Ty α) : Ty (List α) where
  sz := 1
  rep := fun R w cs xs => ∃ a n c, cs = [.slice a n c] ∧ n ≤ c ∧ c ≤ maxLen ∧ (a = none → c = 0) ∧ SlR d R w a n xs
  len := fun ⟨_, _, _, h, _⟩ => by rw [h]; rfl
  one := fun ⟨_, _, _, h, _⟩ => by rw [h]; simp [Value.oneCell']
  loc := fun {R w w' cs xs} ⟨a, n, c, h, h1, h2, h3, s⟩ hk => ⟨a, n, c, h, h1, h2, h3, ⟨s.len, s.nil, s.plain, s.reg, fun i x hx => by
    obtain ⟨es, hr, hc⟩ := s.el i x hx
    refine ⟨es, d.loc hr hk, fun b o ha j u hu => ?_⟩
    have hcell := hc b o ha j u hu
    have hlt := World.block_lt_of_cell? w _ hcell
    have hn : 0 < n := by have := s.len; have := (List.getElem?_eq_some_iff.1 hx).1; omega
    exact (World.cell?_of_block (w := w) (w' := w') (hk b (s.reg b o ha hn) hlt)).trans hcell⟩⟩
  weak := fun ⟨a, n, c, h, h1, h2, h3, s⟩ hk => ⟨a, n, c, h, h1, h2, h3, ⟨s.len, s.nil, s.plain, fun b o ha hn => hk b (s.reg b o ha hn), fun i x hx => by
    obtain ⟨es, hr, hc⟩ := s.el i x hx
    exact ⟨es, d.weak hr hk, hc⟩⟩⟩

/-- Data in memory as a chunk. -/
def Dat {α : Type} (R : Nat → Prop) (d : Ty α) (cs : List Value) (x : α) : HP := ⟨R, fun w => d.rep R w cs x, fun _ _ h hw => d.loc hw (fun k hk _ => h k hk)⟩
def All : Nat → Prop := fun _ => True
section
variable {α : Type} {d : Ty α} {R : Nat → Prop} {w w0 w' : World} {F : Nat → Prop} {L : List HP} {a : Option Addr} {n c : Nat} {xs : List α} {cs : List Value} {x : α}
theorem Ty.ext (h : d.rep R w cs x) (e : Ext w w') : d.rep R w' cs x := d.loc h (fun k _ hk => e.block k hk)
theorem Ty.st (h : d.rep R w0 cs x) (s : St w0 NoF w L) : d.rep R w cs x := d.loc h (fun k _ hk => s.frm.old k hk id)
theorem SlR.loc' (s : SlR d R w a n xs) (hk : ∀ k, R k → k < w.heap.size → w'.heap[k]? = w.heap[k]?) : SlR d R w' a n xs :=
  ⟨s.len, s.nil, s.plain, s.reg, fun i x hx => by
    obtain ⟨es, hr, hc⟩ := s.el i x hx
    refine ⟨es, d.loc hr hk, fun b o ha j u hu => ?_⟩
    have hcell := hc b o ha j u hu
    have hlt := World.block_lt_of_cell? w _ hcell
    have hn : 0 < n := by have := s.len; have := (List.getElem?_eq_some_iff.1 hx).1; omega
    exact (World.cell?_of_block (w := w) (w' := w') (hk b (s.reg b o ha hn) hlt)).trans hcell⟩
theorem SlR.ext (s : SlR d R w a n xs) (e : Ext w w') : SlR d R w' a n xs := s.loc' (fun k _ hk => e.block k hk)
theorem SlR.st (s : SlR d R w0 a n xs) (t : St w0 NoF w L) : SlR d R w a n xs := s.loc' (fun k _ hk => t.frm.old k hk id)
/-- Where its elements are: an address. -/
theorem SlR.addr (s : SlR d R w a n xs) (hn : 0 < n) : ∃ b o, a = some ⟨b, o, none⟩ := by
  cases a with
  | none => have := s.nil rfl; omega
  | some ad =>
    obtain ⟨b, o, sp⟩ := ad
    have : sp = none := s.plain hn _ rfl
    subst this
    exact ⟨b, o, rfl⟩
theorem SlR.src (s : SlR d R w a n xs) : ∃ news, Src w a n d.sz news := by
  have key : ∀ m, m ≤ n → ∃ news : List Value, news.length = m * d.sz ∧ (∀ u ∈ news, u.oneCell' = true) ∧ ∀ b o, a = some ⟨b, o, none⟩ → ∀ j u, news[j]? = some u → w.cell? ⟨b, o + j, none⟩ = some u := by
    intro m
    induction m with
    | zero => intro _; exact ⟨[], by simp, by simp, by simp⟩
    | succ m ih =>
      intro hm
      obtain ⟨news, h1, h2, h3⟩ := ih (by omega)
      have hlt : m < xs.length := by rw [s.len]; omega
      obtain ⟨es, hr, hc⟩ := s.el m xs[m] (List.getElem?_eq_getElem hlt)
      refine ⟨news ++ es, by rw [List.length_append, h1, d.len hr, Nat.add_mul, Nat.one_mul], fun u hu => ?_, fun b o ha j u hj => ?_⟩
      · rcases List.mem_append.1 hu with hu | hu
        · exact h2 u hu
        · exact d.one hr u hu
      · by_cases hjl : j < news.length
        · rw [List.getElem?_append_left hjl] at hj; exact h3 b o ha j u hj
        · rw [List.getElem?_append_right (by omega)] at hj
          have := hc b o ha _ u hj
          rw [h1] at this
          have e : o + m * d.sz + (j - m * d.sz) = o + j := by rw [h1] at hjl; omega
          rw [e] at this; exact this
  obtain ⟨news, h1, h2, h3⟩ := key n (Nat.le_refl _)
  exact ⟨news, h1, s.nil, h2, h3⟩
/-- Whole numbers. -/
theorem SlR.int {k : IntKind} {xs : List Int} (s : SlR (tInt k) R w a n xs) {i : Nat} {v : Int} (hi : xs[i]? = some v) {b o : Nat} (ha : a = some ⟨b, o, none⟩) : w.cell? ⟨b, o + i, none⟩ = some (.int k v) ∧ inK k v := by
  obtain ⟨es, ⟨rfl, hk⟩, hc⟩ := s.el i v hi
  have := hc b o ha 0 _ rfl
  exact ⟨by simpa [tInt] using this, hk⟩
theorem SlR.srcInt {k : IntKind} {xs : List Int} (s : SlR (tInt k) R w a n xs) : Src w a n 1 (xs.map (.int k)) :=
  ⟨by simp [s.len], s.nil, fun u hu => by obtain ⟨v, _, rfl⟩ := List.mem_map.1 hu; rfl, fun b o ha j u hj => by
    rw [List.getElem?_map] at hj
    cases hx : xs[j]? with
    | none => simp [hx] at hj
    | some v => simp [hx] at hj; subst hj; exact (s.int hx ha).1⟩
theorem rep_nil (d : Ty α) (R : Nat → Prop) (w : World) : (tSl d).rep R w [.slice none 0 0] [] :=
  ⟨none, 0, 0, rfl, Nat.le_refl _, by simp [maxLen], fun _ => rfl, ⟨rfl, fun _ => rfl, fun h0 => absurd h0 (Nat.lt_irrefl 0), fun _ _ h => (by cases h), fun i x hx => by simp at hx⟩⟩
/-- A row of whole numbers reads as that. -/
theorem RowV.slr {k : IntKind} {xs : List Int} {e : Nat} (h : RowV w a n c e 1 (xs.map (.int k))) (hk : ∀ v ∈ xs, inK k v) : SlR (tInt k) (afoot a) w a n xs := by
  have hl := h.1
  refine ⟨by simpa using hl, fun ha => ?_, fun _ ad ha => ?_, fun b o ha _ => by simp [afoot, ha], fun i v hv => ⟨[.int k v], ⟨rfl, hk v (List.mem_of_getElem? hv)⟩, fun b o ha j u hj => ?_⟩⟩
  · rcases h.2.2.2 with ⟨_, hc⟩ | ⟨g, o, cur, hg, _⟩
    · have := h.2.1; omega
    · rw [ha] at hg; cases hg
  · rcases h.2.2.2 with ⟨hn, _⟩ | ⟨g, o, cur, hg, _⟩
    · rw [ha] at hn; cases hn
    · rw [ha] at hg; cases hg; rfl
  · cases j with
    | zero =>
      simp at hj; subst hj
      have := RowV.cells h ha (j := i) (v := .int k v) (by rw [List.getElem?_map, hv]; rfl)
      simpa [tInt] using this
    | succ j => simp at hj
theorem RowV.cap {e : Nat} (h : RowV w a n c e 1 cs) : n ≤ c ∧ c ≤ maxLen ∧ (a = none → c = 0) := by
  refine ⟨h.2.1, h.2.2.1, fun ha => ?_⟩
  rcases h.2.2.2 with ⟨_, hc⟩ | ⟨g, o, cur, hg, _⟩
  · exact hc
  · rw [ha] at hg; cases hg
end
section
variable {P : Program} {env : Env} {w : World} {dst : Option Tmp} {ty : TypeId} {pos : String} {af : Array Edge} {gd : Option (Nat × Bool)} {S : Value → World → Prop}
theorem OpR_load_int {T b o i n : Nat} {k : IntKind} {v : Int} {xs : List Int} {R : Nat → Prop} {x : Operand} [A : Scal P T] (s : SlR (tInt k) R w (some ⟨b, o, none⟩) n xs) (hx : ev env x = some (.pointer (some ⟨b, o + i * 1, none⟩))) (hv : xs[i]? = some v) (hS : S (.int k v) w) :
    OpR P env ⟨dst, .load T x, ty, pos, af, gd⟩ w S := OpR_load_cell (by have := (s.int hv rfl).1; rwa [Nat.mul_one]) hx hS
end
end Go.Eng
