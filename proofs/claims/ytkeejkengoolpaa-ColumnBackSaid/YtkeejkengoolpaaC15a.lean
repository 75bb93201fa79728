/- Column: lemmas for the law ColumnMoves. -/
import Derived.Test.YtkeejkengoolpaaC14a
namespace Go.Eng
open Go.Proofs
theorem DatsV.all {α : Type} {d : Ty α} {R : Nat → Prop} {w : World} {cells : List Value} {xs : List α} (h : DatsV R d w cells xs) : DatsV All d w cells xs := ⟨h.1, fun i c x hc hx => d.weak (h.2 i c x hc hx) (fun _ _ => trivial)⟩
theorem DatsV.app {α : Type} {d : Ty α} {R : Nat → Prop} {w : World} {cells cells' : List Value} {xs xs' : List α} (h : DatsV R d w cells xs) (h' : DatsV R d w cells' xs') : DatsV R d w (cells ++ cells') (xs ++ xs') := by
  refine ⟨by simp [h.1, h'.1], fun i c x hc hx => ?_⟩
  rw [List.getElem?_append] at hc hx
  rw [h.1] at hc
  split at hc
  · rename_i hi
    rw [if_pos hi] at hx
    exact h.2 i c x hc hx
  · rename_i hi
    rw [if_neg hi] at hx
    exact h'.2 _ c x hc hx
theorem DatsV.one {α : Type} {d : Ty α} {R : Nat → Prop} {w : World} {cells : List Value} {xs : List α} (h : DatsV R d w cells xs) : ∀ u ∈ cells, u.oneCell' = true := by
  intro u hu
  obtain ⟨i, hi⟩ := List.mem_iff_getElem?.1 hu
  have hl := (List.getElem?_eq_some_iff.1 hi).1
  have hx := List.getElem?_eq_getElem (l := xs) (i := i) (by have := h.1; omega)
  exact d.one (h.2 i _ _ hi hx) u List.mem_cons_self
theorem DatsV.single {w : World} {a : Option Addr} {n c : Nat} {xs : List Int} (h : WR w a n c xs) : DatsV All (tSl (tInt .u64)) w [.slice a n c] [xs] := by
  refine ⟨rfl, fun i c' x hc hx => ?_⟩
  rcases i with _ | i
  · cases hc; cases hx; exact h.sl.rep
  · simp at hc
theorem RowV.srcAll {w : World} {a : Option Addr} {n c e : Nat} {xs : List Value} (h : RowV w a n c e 1 xs) (ho : ∀ u ∈ xs, u.oneCell' = true) : Src w a n 1 xs := by
  refine ⟨h.1, fun ha => ?_, ho, fun b o hb j u hj => h.cells hb hj⟩
  have := h.cap
  have := this.2.2 ha
  omega
theorem Frm.rlZ {F Z : Nat → Prop} {w w' : World} (h : Frm F w w') (hz : ∀ k, F k → Z k) : Rl Z w w' := ⟨h.os, h.tape, h.output, h.size, fun k hk hx => h.old k hk (fun hf => hx (hz k hf)), h.drawn⟩
theorem Fresh.rowFoot {w w' : World} {a : Option Addr} {n c e sz : Nat} {xs : List Value} {L : List HP} (h : Fresh w w' (Row a n c e sz xs :: L)) {N : Nat} (hN : N ≤ w.heap.size) : ∀ k, afoot a k → N ≤ k := fun k hk => Nat.le_trans hN (h.foot _ (.head _) k hk).1
theorem flat_bd {M : Nat} : ∀ {l : List (List Int)}, (∀ v ∈ l, v.length ≤ M) → l.flatten.length ≤ l.length * M
  | [], _ => by simp
  | v :: l, h => by
    have h1 := flat_bd (l := l) (fun u hu => h u (List.mem_cons_of_mem _ hu))
    have h2 := h v List.mem_cons_self
    rw [List.flatten_cons, List.length_append, List.length_cons, Nat.add_mul]; omega
/-- What of the pushed ones is known behind k of them. -/
def badK (W : Int) (l : List (List Int)) (k : Nat) : Bool := (l.take k).any (fun vs => decide ((vs.length : Int) ≠ W))
def bcells (W R : Int) (m : Nat) (az : Option Addr) (zn cz : Nat) (b : Bool) : List Value := if b then [.int .i64 0, .int .i64 0, .slice none 0 0] else [.int .i64 W, .int .i64 (R + m), .slice az zn cz]
theorem aj_drawr (id : Nat) {P : Program} {f : FuncId} {ro : Option Nat} {n : Nat} {R : Value → World → Prop} {k : List Item} {ds : List Deferred} {env : Env} {w : World} {ops : Array Oper} (h : J P f ro n R (.code (.region id ops true) :: k) ds env w) : J P f ro n R (.code (.region id ops true) :: k) ds env w := h
theorem aj_seqr (id : Nat) {P : Program} {f : FuncId} {ro : Option Nat} {n : Nat} {R : Value → World → Prop} {k : List Item} {ds : List Deferred} {env : Env} {w : World} {ops : Array Oper} {dr : Bool} {y : Code} (h : J P f ro n R (.code (.seq (.region id ops dr) y) :: k) ds env w) : J P f ro n R (.code (.seq (.region id ops dr) y) :: k) ds env w := h
def Hold (p : Prop) : Prop := p
theorem hold {p : Prop} (h : Hold p) : p := h
theorem unhold {p : Prop} (h : p) : Hold p := h
attribute [local irreducible] Hold J JL JD JX JXat OpR OpG Ret RetV Is Blk Row
set_option maxRecDepth 100000
set_option maxHeartbeats 4000000
set_option linter.unusedSimpArgs false
set_option linter.unusedVariables false
/-- The reference's Without, by cells. -/
theorem rwithout_c (w : World) (r : Int) (a : Option Addr) (n c : Nat) (cells : List Value) (av : Option Addr) (nv cv : Nat) (hsrc : Src w a n 1 cells) (hpl : 0 < n → PlainA a) (hcx : cells[n - 1]? = some (.slice av nv cv)) (hr : 0 ≤ r ∧ r < n) (hn : n ≤ 1000000000) :
    Ret Try.prog 18 #[.slice a n c, .int .i64 r] w fun v w' => ∃ a' c', v = .slice a' (n - 1) c' ∧ Fresh w w' [Row a' (n - 1) c' 31 1 ((cells.set r.toNat (.slice av nv cv)).take (n - 1))] := by
  refine Ret_of (l := [_, _]) Try.func18 rfl Try.ntmps18 (by simp) ?_
  have hs := St.init w
  have hcl := hsrc.1
  obtain ⟨i, rfl⟩ : ∃ i : Nat, r = i := ⟨r.toNat, by omega⟩
  have e1 : (n : Int) - 1 = ((n - 1 : Nat) : Int) := by omega
  repeat' (first
    | ((apply al_none; refine JL_o (by apply as_buildSlice; exact OpR_buildSlice hs rfl (by omega) rfl) rfl rfl ?_; rintro _ _ ⟨b, rfl, hb, hs, hE⟩; have hs := hs.toRow 0 0 0 1 (xs := []) (Nat.le_refl _) (by unfold maxLen; omega) (by simp) rfl))
    | ((apply al_none; refine JL_o (by apply as_b_append; exact OpR_append hs rfl rfl (Src.st hsrc hs) hpl rfl (by omega) (by unfold maxLen; omega)) rfl rfl ?_; rintro _ _ ⟨a2, c2, rfl, hs, hF, hnil⟩; rw [Nat.zero_add] at hs ⊢; rw [List.nil_append] at hs; obtain ⟨b2, o2, rfl⟩ := (hs.row a2 n c2).some (by omega)))
    | ((apply al_none; refine JL_pure (v := .int .i64 ((n - 1 : Nat) : Int)) (by apply as_sub; exact OpR_sub rfl rfl (by omega) (by rw [e1]; exact is_rfl)) rfl rfl ?_))
    | ((apply al_unit; refine JL_u (by apply as_store; exact OpR_storeRow (b := b2) (o := o2) (i := i) (n := n) (c := c2) hs rfl rfl rfl rfl (by omega)) rfl ?_; rintro _ _ ⟨hs, hF⟩))
    | ((apply al_none; refine JL_pure (v := .slice (some ⟨b2, o2, none⟩) (n - 1) c2) (by apply as_slice; exact OpR_slice (kl := .i64) (km := .i64) (a' := some ⟨b2, o2, none⟩) (m := c2) (h := ((n - 1 : Nat) : Int)) rfl (.inl ⟨rfl, rfl⟩) (.inr ⟨_, rfl, rfl⟩) (.inl ⟨rfl, rfl⟩) (by omega) (by omega) (by have := (hs.row (some ⟨b2, o2, none⟩) n c2).cap.1; omega) (by omega) (by split; rfl; exact addr_add0 _) (by rw [Int.sub_zero, Int.sub_zero, Int.toNat_natCast, Int.toNat_natCast]; exact is_rfl)) rfl rfl ?_))
    | (apply JL_nil)
    | ((first | (apply JL_pure)); (first
      | (apply as_load; exact OpR_loadRow (b := b2) (o := o2) (i := n - 1) (n := n) (c := c2) hs rfl hcx is_rfl)
      | (apply as_move; first | exact OpR_move rfl is_rfl)
      | (apply as_assign; first | exact OpR_assign rfl is_rfl)
      | (apply as_load; first | exact OpR_load' hs rfl rfl is_rfl | exact OpR_load_agg' hs rfl is_rfl)
      | (apply as_sub; first | exact OpR_sub rfl rfl (by omega) is_rfl | exact OpR_ibin rfl rfl rfl is_rfl)
      | (apply as_binOp; first | exact OpR_ibin rfl rfl rfl is_rfl | exact OpR_beq rfl rfl is_rfl | exact OpR_bne rfl rfl is_rfl | exact OpR_eqNil rfl rfl is_rfl | exact OpR_neNil rfl rfl is_rfl)
      | (apply as_b_len; first | exact OpR_len rfl is_rfl | exact OpR_len_str rfl is_rfl | exact OpR_len_arr rfl is_rfl)
      | (apply as_indexAddr; first | exact OpR_indexAddr rfl rfl (by omega) (by omega) is_rfl | exact OpR_indexAddr_arr' rfl rfl (by omega) (by omega) (by first | (simp only [Int.reduceToNat, Nat.reduceMul, Nat.reduceAdd]; exact rfl) | exact rfl) is_rfl)); first | (exact rfl; exact rfl) | exact rfl)
    | (apply J_seq)
    | (apply J_region)
    | (apply al_unit; refine JL_u (by apply as_store; exact OpR_store' hs rfl rfl rfl) rfl ?_; rintro _ _ ⟨hs, hF⟩)
    | (apply aj_cond; first | refine J_dec_t rfl (by first | assumption | omega) ?_ | refine J_dec_f rfl (by first | assumption | omega) ?_ | refine J_cond_t rfl (by first | assumption | rfl | exact decide_eq_true (by first | assumption | omega) | exact decide_eq_false (by first | assumption | omega)) ?_ | refine J_cond_f rfl (by first | assumption | rfl | exact decide_eq_true (by first | assumption | omega) | exact decide_eq_false (by first | assumption | omega)) ?_ | (refine J_cond_dec rfl (fun _ => ?_) (fun _ => ?_)) | (refine J_cond rfl (fun _ => ?_) (fun _ => ?_))))
  have hs := hs.cutRow (n - 1) c2 (by omega) (by have := (hs.row (some ⟨b2, o2, none⟩) n c2).cap.1; omega) (Nat.le_refl _)
  rw [Nat.mul_one] at hs
  refine J_leave Try.func18 rfl (.tmp rfl .nil) ⟨_, _, rfl, hs.out (.cons_cons _ (List.nil_sublist _))⟩
theorem DatsV.without {R : Nat → Prop} {w : World} {cells : List Value} {vss : List (List Int)} (h : DatsV R (tSl (tInt .u64)) w cells vss) {n : Nat} (hn : vss.length = n) {u : Value} (hu : cells[n - 1]? = some u) (hp : 0 < n) (i : Nat) : DatsV R (tSl (tInt .u64)) w ((cells.set i u).take (n - 1)) (withoutM vss i) := by
  have hvx : vss[n - 1]? = some vss[n - 1] := List.getElem?_eq_getElem (by omega)
  have := (h.set i (h.2 (n - 1) _ _ hu hvx)).take (n - 1)
  have e : withoutM vss i = (vss.set i vss[n - 1]).take (n - 1) := by simp [withoutM, hn, hvx]
  rw [e]; exact this
end Go.Eng
