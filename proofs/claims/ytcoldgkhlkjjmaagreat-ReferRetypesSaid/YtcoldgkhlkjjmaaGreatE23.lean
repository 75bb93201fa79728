/- The engine, part 23: raw rows: elements that hold slices, apart from what these read as. -/
import Derived.Test.YtcoldgkhlkjjmaaGreatE22
namespace Go.Eng
open Go.RowKit
set_option linter.unusedVariables false
set_option linter.unusedSimpArgs false
abbrev RS := Option Addr × Nat × Nat
/-- A slice, as it is. -/
def tS : Ty RS where
  sz := 1
  rep := fun _ _ cs x => cs = [.slice x.1 x.2.1 x.2.2]
  len := fun h => by rw [h]; rfl
  one := fun h => by rw [h]; simp [Value.oneCell']
  loc := fun h _ => h
  weak := fun h _ => h
instance : FlatTy tS (fun x => [.slice x.1 x.2.1 x.2.2]) (fun _ => True) := ⟨⟨fun h => ⟨h, trivial⟩, fun h => h.1⟩, fun _ => rfl, fun x u hu => by simp at hu; subst hu; rfl⟩
/-- What raw elements mean. -/
structure Rel (ρ α : Type) where
  rel : (Nat → Prop) → World → ρ → α → Prop
  loc : ∀ {R w w' r x}, rel R w r x → (∀ k, R k → k < w.heap.size → w'.heap[k]? = w.heap[k]?) → rel R w' r x
  weak : ∀ {R R' w r x}, rel R w r x → (∀ k, R k → R' k) → rel R' w r x
def relEq (α : Type) : Rel α α := ⟨fun _ _ r x => r = x, fun h _ => h, fun h _ => h⟩
def relSl {α : Type} (d : Ty α) : Rel RS (List α) := ⟨fun R w r x => Sl d R w r.1 r.2.1 r.2.2 x, fun h hk => h.loc hk, fun h hk => h.weak hk⟩
def relPair {ρ α σ β : Type} (m : Rel ρ α) (n : Rel σ β) : Rel (ρ × σ) (α × β) := ⟨fun R w r x => m.rel R w r.1 x.1 ∧ n.rel R w r.2 x.2, fun h hk => ⟨m.loc h.1 hk, n.loc h.2 hk⟩, fun h hk => ⟨m.weak h.1 hk, n.weak h.2 hk⟩⟩
class RawTy {α ρ : Type} (d : Ty α) (dr : outParam (Ty ρ)) (m : outParam (Rel ρ α)) : Prop where
  iff : ∀ {R w cs x}, d.rep R w cs x ↔ ∃ r, dr.rep R w cs r ∧ m.rel R w r x
  sz : dr.sz = d.sz
instance {k : IntKind} : RawTy (tInt k) (tInt k) (relEq Int) := ⟨⟨fun h => ⟨_, h, rfl⟩, fun ⟨r, h, e⟩ => by cases e; exact h⟩, rfl⟩
instance : RawTy tBool tBool (relEq Bool) := ⟨⟨fun h => ⟨_, h, rfl⟩, fun ⟨r, h, e⟩ => by cases e; exact h⟩, rfl⟩
instance {α : Type} {d : Ty α} : RawTy (tSl d) tS (relSl d) :=
  ⟨⟨fun ⟨a, n, c, h, h1, h2, h3, h4⟩ => ⟨(a, n, c), h, ⟨h1, h2, h3, h4⟩⟩, fun ⟨r, h, hs⟩ => ⟨r.1, r.2.1, r.2.2, h, hs.le, hs.cap, hs.nil0, hs.sl⟩⟩, rfl⟩
instance {α β ρ σ : Type} {d : Ty α} {e : Ty β} {dr : Ty ρ} {er : Ty σ} {m : Rel ρ α} {n : Rel σ β} [D : RawTy d dr m] [E : RawTy e er n] : RawTy (tPair d e) (tPair dr er) (relPair m n) :=
  ⟨⟨fun ⟨c1, c2, h, h1, h2⟩ => by
      obtain ⟨r1, a1, b1⟩ := D.iff.1 h1
      obtain ⟨r2, a2, b2⟩ := E.iff.1 h2
      exact ⟨(r1, r2), ⟨c1, c2, h, a1, a2⟩, b1, b2⟩,
    fun ⟨r, ⟨c1, c2, h, a1, a2⟩, b1, b2⟩ => ⟨c1, c2, h, D.iff.2 ⟨_, a1, b1⟩, E.iff.2 ⟨_, a2, b2⟩⟩⟩, by show dr.sz + er.sz = d.sz + e.sz; rw [D.sz, E.sz]⟩
/-- A row of raw elements means a row of data. -/
def MeanV {ρ α : Type} (m : Rel ρ α) (R : Nat → Prop) (w : World) (rs : List ρ) (xs : List α) : Prop := rs.length = xs.length ∧ ∀ (i : Nat) (r : ρ) (x : α), rs[i]? = some r → xs[i]? = some x → m.rel R w r x
section
variable {ρ α : Type} {m : Rel ρ α} {R R' : Nat → Prop} {w w' w0 : World} {rs rs' : List ρ} {xs xs' : List α} {F : Nat → Prop} {L : List HP}
theorem MeanV.loc (h : MeanV m R w rs xs) (hk : ∀ k, R k → k < w.heap.size → w'.heap[k]? = w.heap[k]?) : MeanV m R w' rs xs := ⟨h.1, fun i r x hr hx => m.loc (h.2 i r x hr hx) hk⟩
theorem MeanV.weak (h : MeanV m R w rs xs) (hk : ∀ k, R k → R' k) : MeanV m R' w rs xs := ⟨h.1, fun i r x hr hx => m.weak (h.2 i r x hr hx) hk⟩
theorem MeanV.all (h : MeanV m R w rs xs) : MeanV m All w rs xs := h.weak (fun _ _ => trivial)
theorem MeanV.ext (h : MeanV m R w rs xs) (e : Ext w w') : MeanV m R w' rs xs := h.loc (fun k _ hk => e.block k hk)
theorem MeanV.st (h : MeanV m R w0 rs xs) (t : St w0 NoF w L) : MeanV m R w rs xs := h.loc (fun k _ hk => t.frm.old k hk id)
theorem MeanV.nil : MeanV m R w [] [] := ⟨rfl, fun i r x hr => by simp at hr⟩
theorem MeanV.app (h : MeanV m R w rs xs) (h' : MeanV m R w rs' xs') : MeanV m R w (rs ++ rs') (xs ++ xs') := by
  refine ⟨by rw [List.length_append, List.length_append, h.1, h'.1], fun i r x hr hx => ?_⟩
  by_cases hi : i < rs.length
  · rw [List.getElem?_append_left hi] at hr
    rw [List.getElem?_append_left (by rw [← h.1]; exact hi)] at hx
    exact h.2 i r x hr hx
  · rw [List.getElem?_append_right (by omega)] at hr
    rw [List.getElem?_append_right (by have := h.1; omega), ← h.1] at hx
    exact h'.2 _ r x hr hx
theorem MeanV.one {r : ρ} {x : α} (h : m.rel R w r x) : MeanV m R w [r] [x] := ⟨rfl, fun i r' x' hr hx => by
  cases i with
  | zero => cases hr; cases hx; exact h
  | succ i => simp at hr⟩
theorem MeanV.take (h : MeanV m R w rs xs) (k : Nat) : MeanV m R w (rs.take k) (xs.take k) := by
  refine ⟨by rw [List.length_take, List.length_take, h.1], fun i r x hr hx => ?_⟩
  rw [List.getElem?_take] at hr hx
  split at hr
  · rename_i hk
    rw [if_pos hk] at hx
    exact h.2 i r x hr hx
  · cases hr
theorem MeanV.drop (h : MeanV m R w rs xs) (k : Nat) : MeanV m R w (rs.drop k) (xs.drop k) := by
  refine ⟨by rw [List.length_drop, List.length_drop, h.1], fun i r x hr hx => ?_⟩
  rw [List.getElem?_drop] at hr hx
  exact h.2 _ r x hr hx
theorem MeanV.set (h : MeanV m R w rs xs) (i : Nat) {r : ρ} {x : α} (hx : m.rel R w r x) : MeanV m R w (rs.set i r) (xs.set i x) := by
  refine ⟨by rw [List.length_set, List.length_set, h.1], fun j r' x' hr hx' => ?_⟩
  rw [List.getElem?_set] at hr hx'
  by_cases hij : i = j
  · subst hij
    rw [if_pos rfl] at hr hx'
    split at hr
    · rename_i hl
      rw [if_pos (by rw [← h.1]; exact hl)] at hx'
      cases hr; cases hx'; exact hx
    · cases hr
  · rw [if_neg hij] at hr hx'
    exact h.2 j r' x' hr hx'
theorem MeanV.get (h : MeanV m R w rs xs) {i : Nat} {x : α} (hx : xs[i]? = some x) : ∃ r, rs[i]? = some r ∧ m.rel R w r x := by
  have hi := (List.getElem?_eq_some_iff.1 hx).1
  have hl := h.1
  exact ⟨rs[i]'(by omega), List.getElem?_eq_getElem (by omega), h.2 i _ x (List.getElem?_eq_getElem (by omega)) hx⟩
/-- What raw elements mean, as a chunk. -/
def Mean (m : Rel ρ α) (R : Nat → Prop) (rs : List ρ) (xs : List α) : HP := ⟨R, fun w => MeanV m R w rs xs, fun _ _ h hw => hw.loc (fun k hk _ => h k hk)⟩
class MeanAt (L : List HP) (m : Rel ρ α) (R : outParam (Nat → Prop)) (rs : List ρ) (xs : outParam (List α)) : Prop where mem : Mean m R rs xs ∈ L
instance (priority := low) MeanAt.tail {L : List HP} {d : HP} [h : MeanAt L m R rs xs] : MeanAt (d :: L) m R rs xs := ⟨List.mem_cons_of_mem _ h.mem⟩
instance MeanAt.head {L : List HP} : MeanAt (Mean m R rs xs :: L) m R rs xs := ⟨List.mem_cons_self⟩
theorem St.mean (h : St w0 F w L) (m : Rel ρ α) (rs : List ρ) [q : MeanAt L m R rs xs] : MeanV m R w rs xs := h.all _ q.mem
/-- A slice of data is a raw slice. -/
theorem Sl.raw {d : Ty α} {dr : Ty ρ} [D : RawTy d dr m] [Inhabited ρ] {a : Option Addr} {n c : Nat} (h : Sl d R w a n c xs) : ∃ rs, Sl dr R w a n c rs ∧ MeanV m R w rs xs := by
  obtain ⟨h1, h2, h3, s⟩ := h
  have hex : ∀ i : Nat, ∃ r : ρ, ∀ x, xs[i]? = some x → m.rel R w r x ∧ ∃ es, dr.rep R w es r ∧ ∀ b o, a = some ⟨b, o, none⟩ → ∀ j u, es[j]? = some u → w.cell? ⟨b, o + i * d.sz + j, none⟩ = some u := by
    intro i
    cases hx : xs[i]? with
    | none => exact ⟨default, fun x hx => by cases hx⟩
    | some x =>
      obtain ⟨es, hr, hc⟩ := s.el i x hx
      obtain ⟨r, hr1, hr2⟩ := D.iff.1 hr
      exact ⟨r, fun y hy => by cases hy; exact ⟨hr2, es, hr1, hc⟩⟩
  obtain ⟨f, hf⟩ := Classical.axiomOfChoice hex
  have hlen : ((List.range xs.length).map f).length = xs.length := by simp
  have hget : ∀ i r, ((List.range xs.length).map f)[i]? = some r → i < xs.length ∧ r = f i := by
    intro i r hr
    have hi : i < xs.length := by have := (List.getElem?_eq_some_iff.1 hr).1; simpa using this
    rw [List.getElem?_map, List.getElem?_range hi] at hr
    cases hr; exact ⟨hi, rfl⟩
  refine ⟨(List.range xs.length).map f, ⟨h1, h2, h3, ⟨by rw [hlen]; exact s.len, s.nil, s.plain, s.reg, fun i r hr => ?_⟩⟩, hlen, fun i r x hr hx => ?_⟩
  · obtain ⟨hi, rfl⟩ := hget i r hr
    obtain ⟨_, es, he, hc⟩ := hf i xs[i] (List.getElem?_eq_getElem hi)
    rw [D.sz]
    exact ⟨es, he, hc⟩
  · obtain ⟨_, rfl⟩ := hget i r hr
    exact (hf i x hx).1
/-- And back. -/
theorem Sl.unraw {d : Ty α} {dr : Ty ρ} [D : RawTy d dr m] {a : Option Addr} {n c : Nat} (h : Sl dr R w a n c rs) (hm : MeanV m R w rs xs) : Sl d R w a n c xs := by
  obtain ⟨h1, h2, h3, s⟩ := h
  have hl := hm.1
  refine ⟨h1, h2, h3, ⟨by rw [← hl]; exact s.len, s.nil, s.plain, s.reg, fun i x hx => ?_⟩⟩
  obtain ⟨r, hr, hrel⟩ := hm.get hx
  obtain ⟨es, he, hc⟩ := s.el i r hr
  rw [D.sz] at hc
  exact ⟨es, D.iff.2 ⟨r, he, hrel⟩, hc⟩
end
end Go.Eng
