/- The engine, part 24: what is old in a round. -/
import Derived.Test.YtcoldgkhlkjjmaaGreatE23
namespace Go.Eng
open Go.RowKit
set_option linter.unusedVariables false
theorem star_ge {A : List HP} {m : Nat} (h : ∀ c ∈ A, ∀ k, c.foot k → m ≤ k) : ∀ k, (Star A).foot k → m ≤ k := fun k ⟨c, hc, hk⟩ => h c hc k hk
theorem blk_ge {b m : Nat} {o : Obj} (h : m ≤ b) : ∀ k, (Blk b o).foot k → m ≤ k := fun k hk => by
  have hk : k = b := hk
  omega
/-- What lay there before the range is as it was, in a round. -/
theorem St.oldR {wS w w1 W : World} {A B L L1 : List HP} (hs0 : St wS NoF w (A ++ L)) (hold : ∀ k, k < w.heap.size → ¬ (Star A).foot k → w1.heap[k]? = w.heap[k]?) (hsz : w.heap.size ≤ w1.heap.size) (hB : ∀ k, (Star B).foot k → wS.heap.size ≤ k) (hs : St w1 (Star B).foot W L1) :
    ∀ k, k < wS.heap.size → W.heap[k]? = wS.heap[k]? := fun k hk => by
  have h0 := hs0.frm.size
  have h1 := hs.frm.old k (by omega) (fun hf => by have := hB k hf; omega)
  have h2 := hold k (by omega) (fun hf => by have := hs0.foot0 k hf; omega)
  rw [h1, h2]; exact hs0.frm.old k hk id
theorem St.geB {w0 w : World} {L : List HP} (h : St w0 NoF w L) (b : Nat) {o : Obj} [m : BlkAt L b o] : w0.heap.size ≤ b := ((h.foot _ m.mem b rfl).2).resolve_left id
/-- A flat slice lies in one block. -/
theorem Sl.foc {α : Type} {d : Ty α} {enc : α → List Value} {ok : α → Prop} [F : FlatTy d enc ok] {R : Nat → Prop} {w : World} {a : Option Addr} {n c : Nat} {xs : List α} (h : Sl d R w a n c xs) : Sl d (fun k => afoot a k ∧ 0 < n) w a n c xs := by
  obtain ⟨h1, h2, h3, s⟩ := h
  refine ⟨h1, h2, h3, ⟨s.len, s.nil, s.plain, fun b o ha hn => ⟨by rw [ha]; rfl, hn⟩, fun i x hx => ?_⟩⟩
  obtain ⟨es, hr, hc⟩ := s.el i x hx
  obtain ⟨rfl, ho⟩ := F.iff.1 hr
  exact ⟨_, F.iff.2 ⟨rfl, ho⟩, hc⟩
theorem Sl.below {α : Type} {d : Ty α} {enc : α → List Value} {ok : α → Prop} [F : FlatTy d enc ok] (hz : 0 < d.sz) {R : Nat → Prop} {w : World} {a : Option Addr} {n c : Nat} {xs : List α} (h : Sl d R w a n c xs) : ∀ k, afoot a k ∧ 0 < n → k < w.heap.size := by
  rintro k ⟨hk, hn⟩
  obtain ⟨b, o, rfl⟩ := h.sl.addr hn
  have hk : b = k := by simpa [afoot] using hk
  subst hk
  have hx : xs[0]? = some (xs[0]'(by have := h.len; omega)) := List.getElem?_eq_getElem (by have := h.len; omega)
  obtain ⟨_, hc⟩ := h.elF hx
  have hl := F.len (xs[0]'(by have := h.len; omega))
  have h0 : (enc (xs[0]'(by have := h.len; omega)))[0]? = some ((enc (xs[0]'(by have := h.len; omega)))[0]'(by omega)) := List.getElem?_eq_getElem (by omega)
  exact World.block_lt_of_cell? w _ (hc b o rfl 0 _ h0)
theorem St.keepK {w wr W : World} {F : Nat → Prop} {L : List HP} (hs : St w F W L) {k : Nat} (he : w.heap[k]? = wr.heap[k]?) (hf : ¬ F k) (hlt : k < wr.heap.size) : W.heap[k]? = wr.heap[k]? := by
  have h1 : wr.heap[k]? = some (wr.heap[k]) := Array.getElem?_eq_getElem hlt
  have h2 : k < w.heap.size := (Array.getElem?_eq_some_iff.1 (he.trans h1)).1
  rw [hs.frm.old k h2 hf, he]
end Go.Eng
