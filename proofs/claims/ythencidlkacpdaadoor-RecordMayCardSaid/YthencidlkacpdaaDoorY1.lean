/- The texts D1, D2, D3, D4, D5, D6, D7, D8, D9, D10, D11, D12, D13, joined. -/
import Derived.Test.YthencidlkacpdaaDoorI
import Derived.Test.YthencidlkacpdaaDoorE20
/- Record: spots, and records that may be. -/
namespace Go.Eng
open Go.Proofs
abbrev Sp := Int × Int
abbrev dSp : Ty Sp := tPair (tInt .i64) (tInt .i64)
abbrev vSp (p : Sp) : Value := .agg #[.int .i64 p.1, .int .i64 p.2]
theorem flatSp : FlatTy dSp (fun p => [.int .i64 p.1, .int .i64 p.2]) (fun p => inK .i64 p.1 ∧ inK .i64 p.2) := (inferInstance : FlatTy (tPair (tInt .i64) (tInt .i64)) (fun p => [.int .i64 p.1] ++ [.int .i64 p.2]) (fun p => inK .i64 p.1 ∧ inK .i64 p.2))
instance (priority := high) : FlatTy dSp (fun p => [.int .i64 p.1, .int .i64 p.2]) (fun p => inK .i64 p.1 ∧ inK .i64 p.2) := flatSp
theorem eq34 (a b c d : Int) : EqlT Tryd.prog 34 (.agg #[.int .i64 a, .int .i64 b]) (.agg #[.int .i64 c, .int .i64 d]) (a = c ∧ b = d) instDecidableAnd := by
  refine ⟨fun w => ?_, ⟨_, _, rfl, rfl⟩, by kernel_rfl⟩
  have u3 := Tryd.underlying3
  have a3 := Tryd.isAgg3
  have z3 := Tryd.sizeOf3
  have hS : Tryd.prog.underlying 34 = some (.struct (Tryd.prog.fieldsOf 34)) := by kernel_rfl
  have hp : Tryd.prog.stoodInHeld 34 = false := by kernel_rfl
  rw [show (10000 : Nat) = 9999 + 1 from rfl, run_equalIn_agg w 9999 34 _ _ hS hp]
  simp only [Program.fieldsOf, Tryd.underlying34]
  go_simp
  by_cases h1 : a = c <;> by_cases h2 : b = d <;> simp [h1, h2]
instance (a b c d : Int) : EqlT Tryd.prog 34 (.agg #[.int .i64 a, .int .i64 b]) (.agg #[.int .i64 c, .int .i64 d]) (a = c ∧ b = d) instDecidableAnd := eq34 a b c d
/-- The variable nowhere is laid. -/
def Gz (w : World) : Prop := ∀ j v, [Value.int .i64 0, .int .i64 0][j]? = some v → w.cell? ⟨0, 0 + j, none⟩ = some v
theorem Gz.st {w0 w : World} {L : List HP} (h : Gz w0) (hs : St w0 NoF w L) : Gz w := fun j v hj => hs.old_cell (h j v hj)
def spotB (p : Sp) : Bool := decide (((0 < p.1 ∧ p.1 ≤ 1048576) ∧ 0 ≤ p.2) ∧ p.2 ≤ 1048578)
/-- The spot of an index. -/
def atM (xs : List Sp) (i : Int) : Sp := if 1 ≤ i ∧ i ≤ xs.length then xs.getD (i - 1).toNat (0, 0) else (0, 0)
attribute [local irreducible] J JL JD JX JXat OpR OpG Ret RetV Is Blk Row
set_option maxRecDepth 100000
set_option maxHeartbeats 1000000
set_option linter.unusedSimpArgs false
set_option linter.unusedVariables false
theorem spot_r (w : World) (a b : Int) : Ret Tryd.prog 34 #[.agg #[.int .i64 a, .int .i64 b]] w fun v w' => v = .bool (spotB (a, b)) ∧ Ext w w' := by
  refine Ret_of (l := [_]) Tryd.func34 rfl Tryd.ntmps34 (by simp) ?_
  have hs := St.init w
  unfold spotB
  by_cases h1 : 0 < a
  · by_cases h2 : a ≤ 1048576
    · by_cases h3 : 0 ≤ b
      · by_cases h4 : b ≤ 1048578
        all_goals
          repeat' (first
            | (apply JL_nil)
            | ((first | (apply JL_pure) | (apply JL_pure_on; exact rfl; (first | assumption | exact rfl | exact decide_eq_true (by first | assumption | omega) | exact decide_eq_false (by first | assumption | omega)))); (first
      | (apply as_move; exact OpR_move rfl is_rfl)
      | (apply as_assign; exact OpR_assign rfl is_rfl)
      | (apply as_fieldAddr; exact OpR_fieldAddr0 rfl rfl is_rfl)
      | (apply as_load; exact OpR_load' hs rfl rfl is_rfl)
      | (apply as_binOp; exact OpR_ibin rfl rfl rfl is_rfl)
      | (apply as_pick; exact OpR_pick_t rfl (by first | assumption | rfl | exact decide_eq_true (by first | assumption | omega) | exact decide_eq_false (by first | assumption | omega)) rfl is_rfl)); first | (exact rfl; exact rfl) | exact rfl)
            | (apply J_seq)
            | (apply J_region)
            | (apply al_none (t := 1); refine JL_o (by apply as_box; exact OpR_box' hs rfl) rfl rfl ?_; rintro _ _ ⟨b1, rfl, hb1, hs, hE⟩))
          refine J_leave Tryd.func34 rfl (.tmp rfl .nil) ⟨by simp [mkRes, h1, h2, h3, h4], hs.frm.ext⟩
      · repeat' (first
          | (apply JL_nil)
          | ((first | (apply JL_pure) | (apply JL_pure_on; exact rfl; (first | assumption | exact rfl | exact decide_eq_true (by first | assumption | omega) | exact decide_eq_false (by first | assumption | omega)))); (first
      | (apply as_move; exact OpR_move rfl is_rfl)
      | (apply as_assign; exact OpR_assign rfl is_rfl)
      | (apply as_fieldAddr; exact OpR_fieldAddr0 rfl rfl is_rfl)
      | (apply as_load; exact OpR_load' hs rfl rfl is_rfl)
      | (apply as_binOp; exact OpR_ibin rfl rfl rfl is_rfl)
      | (apply as_pick; first | exact OpR_pick_t rfl (by first | assumption | rfl | exact decide_eq_true (by first | assumption | omega) | exact decide_eq_false (by first | assumption | omega)) rfl is_rfl | exact OpR_pick_f rfl (by first | assumption | rfl | exact decide_eq_true (by first | assumption | omega) | exact decide_eq_false (by first | assumption | omega)) rfl is_rfl)); first | (exact rfl; exact rfl) | exact rfl)
          | (apply J_seq)
          | (apply J_region)
          | (apply al_none (t := 1); refine JL_o (by apply as_box; exact OpR_box' hs rfl) rfl rfl ?_; rintro _ _ ⟨b1, rfl, hb1, hs, hE⟩)
          | (apply al_guard; (refine JL_no rfl (by first | assumption | rfl | exact decide_eq_true (by first | assumption | omega) | exact decide_eq_false (by first | assumption | omega)) rfl ?_)))
        refine J_leave Tryd.func34 rfl (.tmp rfl .nil) ⟨by simp [mkRes, h1, h2, h3], hs.frm.ext⟩
    · repeat' (first
        | (apply JL_nil)
        | ((first | (apply JL_pure) | (apply JL_pure_on; exact rfl; (first | assumption | exact rfl | exact decide_eq_true (by first | assumption | omega) | exact decide_eq_false (by first | assumption | omega)))); (first
      | (apply as_move; exact OpR_move rfl is_rfl)
      | (apply as_assign; exact OpR_assign rfl is_rfl)
      | (apply as_fieldAddr; exact OpR_fieldAddr0 rfl rfl is_rfl)
      | (apply as_load; exact OpR_load' hs rfl rfl is_rfl)
      | (apply as_binOp; exact OpR_ibin rfl rfl rfl is_rfl)
      | (apply as_pick; first | exact OpR_pick_t rfl (by first | assumption | rfl | exact decide_eq_true (by first | assumption | omega) | exact decide_eq_false (by first | assumption | omega)) rfl is_rfl | exact OpR_pick_f rfl (by first | assumption | rfl | exact decide_eq_true (by first | assumption | omega) | exact decide_eq_false (by first | assumption | omega)) rfl is_rfl)); first | (exact rfl; exact rfl) | exact rfl)
        | (apply J_seq)
        | (apply J_region)
        | (apply al_none (t := 1); refine JL_o (by apply as_box; exact OpR_box' hs rfl) rfl rfl ?_; rintro _ _ ⟨b1, rfl, hb1, hs, hE⟩)
        | (apply al_guard; (refine JL_no rfl (by first | assumption | rfl | exact decide_eq_true (by first | assumption | omega) | exact decide_eq_false (by first | assumption | omega)) rfl ?_)))
      refine J_leave Tryd.func34 rfl (.tmp rfl .nil) ⟨by simp [mkRes, h1, h2], hs.frm.ext⟩
  · repeat' (first
      | (apply JL_nil)
      | ((apply JL_pure); (first
      | (apply as_move; exact OpR_move rfl is_rfl)
      | (apply as_assign; exact OpR_assign rfl is_rfl)
      | (apply as_fieldAddr; exact OpR_fieldAddr0 rfl rfl is_rfl)
      | (apply as_load; exact OpR_load' hs rfl rfl is_rfl)
      | (apply as_binOp; exact OpR_ibin rfl rfl rfl is_rfl)
      | (apply as_pick; exact OpR_pick_f rfl (by first | assumption | rfl | exact decide_eq_true (by first | assumption | omega) | exact decide_eq_false (by first | assumption | omega)) rfl is_rfl)); first | (exact rfl; exact rfl) | exact rfl)
      | (apply J_seq)
      | (apply J_region)
      | (apply al_none (t := 1); refine JL_o (by apply as_box; exact OpR_box' hs rfl) rfl rfl ?_; rintro _ _ ⟨b1, rfl, hb1, hs, hE⟩)
      | (apply al_guard; (refine JL_no rfl (by first | assumption | rfl | exact decide_eq_true (by first | assumption | omega) | exact decide_eq_false (by first | assumption | omega)) rfl ?_)))
    refine J_leave Tryd.func34 rfl (.tmp rfl .nil) ⟨by simp [mkRes, h1], hs.frm.ext⟩
theorem at_r (w : World) (hG : Gz w) (a : Option Addr) (n c : Nat) (xs : List Sp) (i : Int) (h : Sl dSp All w a n c xs) (hi : inK .i64 i) : Ret Tryd.prog 36 #[.agg #[.slice a n c], .int .i64 i] w fun v w' => v = vSp (atM xs i) ∧ Ext w w' := by
  refine Ret_of (l := [_, _]) Tryd.func36 rfl Tryd.ntmps36 (by simp) ?_
  have hs := St.init w
  have hl := h.len
  have hc := h.le
  have hm := h.cap
  unfold maxLen at hm
  unfold atM
  by_cases hin : 1 ≤ i ∧ i ≤ xs.length
  · rw [if_pos hin]
    obtain ⟨p1, o1, rfl⟩ := h.sl.addr (by omega)
    obtain ⟨k, rfl⟩ : ∃ k : Nat, i = k + 1 := ⟨(i - 1).toNat, by omega⟩
    have e1 : ((k : Int) + 1 - 1).toNat = k := by omega
    have hx : xs[k]? = some (xs.getD k (0, 0)) := by rw [List.getD_eq_getElem?_getD, List.getElem?_eq_getElem (by omega)]; rfl
    rw [e1]
    obtain ⟨s, hsd⟩ : ∃ s, s = xs.getD k (0, 0) := ⟨_, rfl⟩
    rw [← hsd] at hx ⊢
    have e2 : (k : Int) + 1 - 1 = k := by omega
    repeat' (first
      | ((apply al_none; refine JL_pure (v := .int .i64 (k : Int)) (by apply as_sub; exact OpR_sub rfl rfl (by omega) (by rw [e2]; exact is_rfl)) rfl rfl ?_))
      | (apply JL_nil)
      | ((first | (apply JL_pure) | (apply JL_pure_on; exact rfl; (first | assumption | exact rfl | exact decide_eq_true (by first | assumption | omega) | exact decide_eq_false (by first | assumption | omega)))); (first
      | (apply as_load; exact OpR_load_el (h.st hs) hx rfl rfl is_rfl)
      | (apply as_move; exact OpR_move rfl is_rfl)
      | (apply as_fieldAddr; exact OpR_fieldAddr0 rfl rfl is_rfl)
      | (apply as_load; exact OpR_load' hs rfl rfl is_rfl)
      | (apply as_binOp; exact OpR_ibin rfl rfl rfl is_rfl)
      | (apply as_pick; exact OpR_pick_f rfl (by first | assumption | rfl | exact decide_eq_true (by first | assumption | omega) | exact decide_eq_false (by first | assumption | omega)) rfl is_rfl)
      | (apply as_b_len; exact OpR_len rfl is_rfl)
      | (apply as_indexAddr; exact OpR_indexAddr rfl rfl (by omega) (by omega) is_rfl)); first | (exact rfl; exact rfl) | exact rfl)
      | (apply J_seq)
      | (apply J_region)
      | (apply J_skip)
      | (apply al_none (t := 2); refine JL_o (by apply as_box; exact OpR_box' hs rfl) rfl rfl ?_; rintro _ _ ⟨b2, rfl, hb2, hs, hE⟩)
      | (apply al_none (t := 4); refine JL_o (by apply as_alloc; exact OpR_alloc' hs) rfl rfl ?_; rintro _ _ ⟨b4, rfl, hb4, hs, hE⟩)
      | (apply al_unit; refine JL_u (by apply as_store; exact OpR_store' hs rfl rfl rfl) rfl ?_; rintro _ _ ⟨hs, hF⟩)
      | (apply aj_cond; refine J_dec_f rfl (by first | assumption | omega) ?_))
    refine J_leave Tryd.func36 rfl (.agg' hs rfl rfl .nil) ⟨rfl, hs.frm.ext⟩
  · rw [if_neg hin]
    by_cases h1 : i < 1
    · repeat' (first
        | (apply JL_nil)
        | ((apply JL_pure); (first
      | (apply as_load; exact OpR_load_cells (T := 34) (vs := [.int .i64 0, .int .i64 0]) rfl (hG.st hs) rfl is_rfl)
      | (apply as_move; exact OpR_move rfl is_rfl)
      | (apply as_binOp; exact OpR_ibin rfl rfl rfl is_rfl)
      | (apply as_pick; exact OpR_pick_t rfl (by first | assumption | rfl | exact decide_eq_true (by first | assumption | omega) | exact decide_eq_false (by first | assumption | omega)) rfl is_rfl)); first | (exact rfl; exact rfl) | exact rfl)
        | (apply J_seq)
        | (apply J_region)
        | (apply al_none (t := 2); refine JL_o (by apply as_box; exact OpR_box' hs rfl) rfl rfl ?_; rintro _ _ ⟨b2, rfl, hb2, hs, hE⟩)
        | (apply al_none (t := 4); refine JL_o (by apply as_alloc; exact OpR_alloc' hs) rfl rfl ?_; rintro _ _ ⟨b4, rfl, hb4, hs, hE⟩)
        | (apply al_unit; refine JL_u (by apply as_store; exact OpR_store' hs rfl rfl rfl) rfl ?_; rintro _ _ ⟨hs, hF⟩)
        | (apply al_guard; (refine JL_no rfl (by first | assumption | rfl | exact decide_eq_true (by first | assumption | omega) | exact decide_eq_false (by first | assumption | omega)) rfl ?_))
        | (apply aj_cond; refine J_cond_t rfl (by first | assumption | rfl | exact decide_eq_true (by first | assumption | omega) | exact decide_eq_false (by first | assumption | omega)) ?_))
      refine J_leave Tryd.func36 rfl (.agg' hs rfl rfl .nil) ⟨rfl, hs.frm.ext⟩
    · repeat' (first
        | (apply JL_nil)
        | ((first | (apply JL_pure) | (apply JL_pure_on; exact rfl; (first | assumption | exact rfl | exact decide_eq_true (by first | assumption | omega) | exact decide_eq_false (by first | assumption | omega)))); (first
      | (apply as_load; exact OpR_load_cells (T := 34) (vs := [.int .i64 0, .int .i64 0]) rfl (hG.st hs) rfl is_rfl)
      | (apply as_move; exact OpR_move rfl is_rfl)
      | (apply as_fieldAddr; exact OpR_fieldAddr0 rfl rfl is_rfl)
      | (apply as_load; exact OpR_load' hs rfl rfl is_rfl)
      | (apply as_binOp; exact OpR_ibin rfl rfl rfl is_rfl)
      | (apply as_pick; exact OpR_pick_f rfl (by first | assumption | rfl | exact decide_eq_true (by first | assumption | omega) | exact decide_eq_false (by first | assumption | omega)) rfl is_rfl)
      | (apply as_b_len; exact OpR_len rfl is_rfl)); first | (exact rfl; exact rfl) | exact rfl)
        | (apply J_seq)
        | (apply J_region)
        | (apply al_none (t := 2); refine JL_o (by apply as_box; exact OpR_box' hs rfl) rfl rfl ?_; rintro _ _ ⟨b2, rfl, hb2, hs, hE⟩)
        | (apply al_none (t := 4); refine JL_o (by apply as_alloc; exact OpR_alloc' hs) rfl rfl ?_; rintro _ _ ⟨b4, rfl, hb4, hs, hE⟩)
        | (apply al_unit; refine JL_u (by apply as_store; exact OpR_store' hs rfl rfl rfl) rfl ?_; rintro _ _ ⟨hs, hF⟩)
        | (apply aj_cond; refine J_dec_t rfl (by first | assumption | omega) ?_))
      refine J_leave Tryd.func36 rfl (.agg' hs rfl rfl .nil) ⟨rfl, hs.frm.ext⟩
end Go.Eng
/- Record: who stands, as an iterator. -/
namespace Go.Eng
open Go.Proofs
/-- Those that stand, and where; from index i + 1 on. -/
def standG (i : Nat) : List Sp → List (Nat × Sp)
  | [] => []
  | s :: l => if s = (0, 0) then standG (i + 1) l else (i + 1, s) :: standG (i + 1) l
theorem standG_app : ∀ (i : Nat) (xs ys : List Sp), standG i (xs ++ ys) = standG i xs ++ standG (i + xs.length) ys
  | i, [], ys => by simp [standG]
  | i, x :: xs, ys => by
    rw [List.cons_append, standG, standG, standG_app (i + 1) xs ys, List.length_cons, show i + 1 + xs.length = i + (xs.length + 1) by omega]
    split <;> simp
theorem standG_succ {xs : List Sp} {k : Nat} {s : Sp} (h : xs[k]? = some s) : standG 0 (xs.take (k + 1)) = standG 0 (xs.take k) ++ if s = (0, 0) then [] else [(k + 1, s)] := by
  obtain ⟨hk, he⟩ := List.getElem?_eq_some_iff.1 h
  rw [List.take_succ_eq_append_getElem hk, he, standG_app]
  congr 1
  rw [standG]
  have : (xs.take k).length = k := by simp; omega
  rw [this, Nat.zero_add]
  split <;> simp [standG]
/-- The next one that stands. -/
theorem standG_get {xs : List Sp} {k : Nat} {s : Sp} (h : xs[k]? = some s) (hs : s ≠ (0, 0)) : (standG 0 xs)[(standG 0 (xs.take k)).length]? = some (k + 1, s) := by
  have h1 : xs = xs.take (k + 1) ++ xs.drop (k + 1) := (List.take_append_drop _ _).symm
  have h2 := standG_succ h
  rw [if_neg hs] at h2
  rw [h1, standG_app, h2]
  have hk := (List.getElem?_eq_some_iff.1 h).1
  simp [List.take_take, Nat.min_eq_left (Nat.le_succ k)]
def stX (xs : List Sp) (j : Nat) (vals : List Value) (cx : List HP) : Prop := ∃ p : Nat × Sp, (standG 0 xs)[j]? = some p ∧ vals = [.int .i64 p.1, vSp p.2] ∧ cx = []
def stK (b : Nat) (a : Option Addr) (n : Nat) (k : Nat) : Prop := k = b ∨ k = 0 ∨ (afoot a k ∧ 0 < n)
theorem Gz.lt {w : World} (h : Gz w) : 0 < w.heap.size := World.block_lt_of_cell? w _ (h 0 _ rfl)
attribute [local irreducible] J JL JD JX JXat OpR OpG Ret RetV Is Blk Row
set_option maxRecDepth 100000
set_option maxHeartbeats 1000000
set_option linter.unusedSimpArgs false
set_option linter.unusedVariables false
theorem standIt_ok (wr : World) (hG : Gz wr) (b : Nat) (a : Option Addr) (n c e : Nat) (xs : List Sp) (h : Sl dSp All wr a n c xs) (hb : wr.heap[b]? = some (.cells #[.slice a n c] e (0, 0))) :
    IterV Tryd.prog (.func (.func 47) #[] #[ptr b]) (standG 0 xs).length (stX xs) wr (stK b a n) := by
  intro y C Cs w c0 hy hK h0 hheld
  refine RetV.closure (avs := [_]) (cap := [_]) en47 ?_
  refine Ret_of (l := [_, _]) Tryd.func47 rfl Tryd.ntmps47 (by simp) ?_
  have hs := hheld.st
  have hl := h.len
  have hc := h.le
  have hm := h.cap
  unfold maxLen at hm
  have hbw : w.heap[b]? = some (.cells #[.slice a n c] e (0, 0)) := (hK b (.inl rfl)).1.trans hb
  have hbF : ¬ (Star c0).foot b := (hK b (.inl rfl)).2
  have h0F := hK 0 (.inr (.inl rfl))
  have hgw : ∀ j v, [Value.int .i64 0, .int .i64 0][j]? = some v → w.cell? ⟨0, 0 + j, none⟩ = some v := fun j v hj => (World.cell?_of_block h0F.1).trans (hG j v hj)
  repeat' (first
    | (apply JL_nil)
    | ((apply JL_pure); (first
      | (apply as_load; exact OpR_load_cell (hs.keep_cell (cell_blk (off := 0) hbw rfl) hbF) rfl is_rfl)
      | (apply as_move; exact OpR_move rfl is_rfl)
      | (apply as_fieldAddr; exact OpR_fieldAddr0 rfl rfl is_rfl)
      | (apply as_b_len; exact OpR_len rfl is_rfl)); first | (exact rfl; exact rfl) | exact rfl)
    | (apply J_seq)
    | (apply J_region)
    | (apply J_block))
  refine J_loopK (α := Nat × List HP) [(0, _), (6, _), (7, _)] (fun g => [(8, .int .i64 g.1)]) (fun g w' => ∃ L, St w (Star c0).foot w' (g.2 ++ L) ∧ C (standG 0 (xs.take g.1)).length g.2 ∧ g.1 ≤ n) (fun g => n - g.1) (0, c0) ⟨[], by simpa using hs, by simpa [standG] using h0, by omega⟩ (by repeat' (first | exact trivial | exact rfl | apply And.intro)) ?_
  rintro ⟨k, ck⟩ w' ⟨L, hs, hC, hk⟩ ih
  dsimp only at hs hC hk ih ⊢
  have hs : St w (Star c0).foot w' ck := hs.sub (List.sublist_append_left _ _)
  by_cases hlt : k < n
  · obtain ⟨p1, o1, rfl⟩ := h.sl.addr (by omega)
    have hx : xs[k]? = some xs[k] := List.getElem?_eq_getElem (by omega)
    obtain ⟨s, hsd⟩ : ∃ s, s = xs[k] := ⟨_, rfl⟩
    rw [← hsd] at hx
    have hKp := hK p1 (.inr (.inr ⟨rfl, by omega⟩))
    have hcw : ∀ j u, [Value.int .i64 s.1, .int .i64 s.2][j]? = some u → w.cell? ⟨p1, o1 + (k : Int).toNat * 2 + j, none⟩ = some u := fun j u hu =>
      (World.cell?_of_block hKp.1).trans ((h.elF hx).2 p1 o1 rfl j u hu)
    have hsc := standG_succ hx
    by_cases hz : s.1 = 0 ∧ s.2 = 0
    · have hz2 : s = (0, 0) := Prod.ext hz.1 hz.2
      rw [if_pos hz2, List.append_nil] at hsc
      repeat' (first
        | (apply JL_nil)
        | ((apply JL_pure); (first
      | (apply as_load; first | exact OpR_load_cells (T := 34) (vs := [.int .i64 s.1, .int .i64 s.2]) rfl (fun j u hu => hs.keep_cell (hcw j u hu) hKp.2) rfl is_rfl | exact OpR_load_cells (T := 34) (vs := [.int .i64 0, .int .i64 0]) rfl (fun j u hu => hs.keep_cell (hgw j u hu) h0F.2) rfl is_rfl)
      | (apply as_move; exact OpR_move rfl is_rfl)
      | (apply as_assign; exact OpR_assign rfl is_rfl)
      | (apply as_load; exact OpR_load_agg' hs rfl is_rfl)
      | (apply as_add; exact OpR_addn rfl rfl (by omega) (by first | (simp only [Int.reduceAdd]; exact rfl) | exact rfl) is_rfl)
      | (apply as_binOp; first | exact OpR_ibin rfl rfl rfl is_rfl | exact OpR_neT rfl rfl is_rfl)
      | (apply as_pick; exact OpR_pick_f rfl (by first | assumption | rfl | exact decide_eq_true (by first | assumption | omega) | exact decide_eq_false (by first | assumption | omega)) rfl is_rfl)
      | (apply as_indexAddr; exact OpR_indexAddr rfl rfl (by omega) (by omega) is_rfl)); first | (exact rfl; exact rfl) | exact rfl)
        | (apply J_seq)
        | (apply J_region)
        | (apply J_block)
        | (apply J_inBlock)
        | (apply J_skip)
        | (apply al_none (t := 4); refine JL_o (by apply as_alloc; exact OpR_alloc' hs) rfl rfl ?_; rintro _ _ ⟨b4, rfl, hb4, hs, hE⟩)
        | (apply al_unit; refine JL_u (by apply as_store; exact OpR_store' hs rfl rfl rfl) rfl ?_; rintro _ _ ⟨hs, hF⟩)
        | (apply al_guard; (refine JL_no rfl (by first | assumption | rfl | exact decide_eq_true (by first | assumption | omega) | exact decide_eq_false (by first | assumption | omega)) rfl ?_))
        | (apply aj_cond; first | refine J_dec_t rfl (by first | assumption | omega) ?_ | refine J_cond_f rfl (by first | assumption | rfl | exact decide_eq_true (by first | assumption | omega) | exact decide_eq_false (by first | assumption | omega)) ?_))
      refine ih (k + 1, ck) _ _ ⟨_, hs.perm (List.perm_append_comm (l₁ := [_]) (l₂ := ck)), by rw [hsc]; exact hC, by dsimp only; omega⟩ (by dsimp only; omega) (by repeat' (first | exact trivial | exact rfl | apply And.intro))
    · have hz2 : s ≠ (0, 0) := fun e => hz ⟨by rw [e], by rw [e]⟩
      rw [if_neg hz2] at hsc
      have hnx := standG_get hx hz2
      have hlen : (standG 0 (xs.take (k + 1))).length = (standG 0 (xs.take k)).length + 1 := by rw [hsc]; simp
      have hlt2 := (List.getElem?_eq_some_iff.1 hnx).1
      have e1 : ((k : Int) + 1) = ((k + 1 : Nat) : Int) := by omega
      repeat' (first
        | ((have hs2 : St w (Star c0).foot _ ((ck ++ []) ++ [Blk b4 _]) := (hs.perm (by simpa using (List.perm_append_comm (l₁ := [_]) (l₂ := ck)))); refine JL_o_on rfl (by first | assumption | rfl | exact decide_eq_true (by first | assumption | omega) | exact decide_eq_false (by first | assumption | omega)) (OpR_callV rfl rfl (hy _ _ [_, _] _ ck hlt2 hC ⟨_, hnx, rfl, rfl⟩ hs2.held hs2.frm)) rfl rfl ?_; rintro _ _ ⟨c', ⟨rfl, hC'⟩ | ⟨rfl, hC'⟩, ht⟩ <;> have hs : St w (Star c0).foot _ (c' ++ [Blk b4 _]) := (hs2.take ht)))
        | (apply JL_nil)
        | ((first | (apply JL_pure) | (apply JL_pure_on; exact rfl; (first | assumption | exact rfl | exact decide_eq_true (by first | assumption | omega) | exact decide_eq_false (by first | assumption | omega)))); (first
      | (apply as_load; first | exact OpR_load_cells (T := 34) (vs := [.int .i64 s.1, .int .i64 s.2]) rfl (fun j u hu => hs.keep_cell (hcw j u hu) hKp.2) rfl is_rfl | exact OpR_load_cells (T := 34) (vs := [.int .i64 0, .int .i64 0]) rfl (fun j u hu => hs.keep_cell (hgw j u hu) h0F.2) rfl is_rfl)
      | (apply as_move; exact OpR_move rfl is_rfl)
      | (apply as_assign; exact OpR_assign rfl is_rfl)
      | (apply as_load; exact OpR_load_agg' hs rfl is_rfl)
      | (apply as_add; exact OpR_addn rfl rfl (by omega) (by first | (simp only [Int.reduceAdd]; exact rfl) | exact rfl) is_rfl)
      | (apply as_binOp; first | exact OpR_ibin rfl rfl rfl is_rfl | exact OpR_neT rfl rfl is_rfl)
      | (apply as_unOp; exact OpR_not rfl is_rfl)
      | (apply as_pick; exact OpR_pick_t rfl (by first | assumption | rfl | exact decide_eq_true (by first | assumption | omega) | exact decide_eq_false (by first | assumption | omega)) rfl is_rfl)
      | (apply as_indexAddr; exact OpR_indexAddr rfl rfl (by omega) (by omega) is_rfl)); first | (exact rfl; exact rfl) | exact rfl)
        | (apply J_seq)
        | (apply J_region)
        | (apply J_block)
        | (apply J_inBlock)
        | (apply J_skip)
        | (apply al_none (t := 4); refine JL_o (by apply as_alloc; exact OpR_alloc' hs) rfl rfl ?_; rintro _ _ ⟨b4, rfl, hb4, hs, hE⟩)
        | (apply al_unit; refine JL_u (by apply as_store; exact OpR_store' hs rfl rfl rfl) rfl ?_; rintro _ _ ⟨hs, hF⟩)
        | (apply aj_cond; first | refine J_dec_t rfl (by first | assumption | omega) ?_ | refine J_cond_t rfl (by first | assumption | rfl | exact decide_eq_true (by first | assumption | omega) | exact decide_eq_false (by first | assumption | omega)) ?_ | refine J_cond_f rfl (by first | assumption | rfl | exact decide_eq_true (by first | assumption | omega) | exact decide_eq_false (by first | assumption | omega)) ?_))
      · refine ih (k + 1, c') _ _ ⟨_, hs, by rw [hlen]; exact hC', by dsimp only; omega⟩ (by dsimp only; omega) (by repeat' (first | exact trivial | exact rfl | apply And.intro))
      · refine J_leave Tryd.func47 rfl .nil ⟨c', .inr hC', St.turned (M := [_]) hs⟩
  · have hkR : k = n := by omega
    subst hkR
    have e : xs.take k = xs := List.take_of_length_le (by omega)
    rw [e] at hC
    repeat' (first
      | (apply JL_nil)
      | ((apply JL_pure); (apply as_binOp; exact OpR_ibin rfl rfl rfl is_rfl); first | (exact rfl; exact rfl) | exact rfl)
      | (apply J_seq)
      | (apply J_region)
      | (apply aj_exit; refine J_exit rfl ?_)
      | (apply aj_cond; refine J_dec_f rfl (by first | assumption | omega) ?_))
    refine J_leave_end Tryd.func47 rfl .nil ⟨ck, .inl hC, St.turned (M := []) (by simpa using hs)⟩
theorem standing_r (w : World) (a : Option Addr) (n c : Nat) :
    Ret Tryd.prog 33 #[.agg #[.slice a n c]] w fun v w' => ∃ b, v = .func (.func 47) #[] #[ptr b] ∧ Fresh w w' [Blk b (.cells #[.slice a n c] 24 (0, 0))] := by
  refine Ret_of (l := [_]) Tryd.func33 rfl Tryd.ntmps33 (by simp) ?_
  have hs := St.init w
  repeat' (first
    | (apply JL_nil)
    | ((apply JL_pure); (first
      | (apply as_assign; exact OpR_assign rfl is_rfl)
      | (apply as_makeFunc; exact OpR_func rfl is_rfl)); first | (exact rfl; exact rfl) | exact rfl)
    | (apply J_seq)
    | (apply J_region)
    | (apply al_none (t := 1); refine JL_o (by apply as_box; exact OpR_box' hs rfl) rfl rfl ?_; rintro _ _ ⟨b1, rfl, hb1, hs, hE⟩))
  refine J_leave Tryd.func33 rfl (.tmp rfl .nil) ⟨b1, rfl, hs.out (List.Sublist.refl _)⟩
end Go.Eng
/- Record: which records may be. -/
namespace Go.Eng
open Go.Proofs
theorem laid_r : Go.laidOutB Tryd.prog = true := by kernel_rfl
theorem row34_r : (34 : TypeId) < Tryd.prog.types.size := of_decide_eq_true (by kernel_rfl)
theorem cells34_r : Tryd.prog.cellsOf 34 = 2 := by kernel_rfl
theorem cells3_r : Tryd.prog.cellsOf 3 = 1 := by kernel_rfl
theorem wide34_r : (match Tryd.prog.underlying 34 with | some (.array _ _) | some (.struct _) => true | _ => false) = true := by rw [Tryd.underlying34]
theorem kt34_r : Tryd.prog.keyType 34 = true := by kernel_rfl
theorem size_r : ∃ m, Tryd.prog.types.size = m + 1 := ⟨Tryd.prog.types.size - 1, (Nat.succ_pred_eq_of_pos (Nat.lt_of_le_of_lt (Nat.zero_le _) row34_r)).symm⟩
theorem key34 (p : Sp) (h : inK .i64 p.1 ∧ inK .i64 p.2) : ∃ l, keyOf Tryd.prog 34 (vSp p) = some l := by
  have hf : (vSp p).formed Tryd.prog 34 = true := by simp [Value.formed, Tryd.underlying34, cells34_r]
  obtain ⟨m, hm⟩ := size_r
  have h1 : (Lit.int .i64 p.1).wf = true := by
    have := h.1; simp only [inK] at this
    have e1 : IntKind.i64.min = -9223372036854775808 := by decide
    have e2 : IntKind.i64.max = 9223372036854775807 := by decide
    simp only [Lit.wf, e1, e2, Bool.and_eq_true, decide_eq_true_eq]; omega
  have h2 : (Lit.int .i64 p.2).wf = true := by
    have := h.2; simp only [inK] at this
    have e1 : IntKind.i64.min = -9223372036854775808 := by decide
    have e2 : IntKind.i64.max = 9223372036854775807 := by decide
    simp only [Lit.wf, e1, e2, Bool.and_eq_true, decide_eq_true_eq]; omega
  refine ⟨.string (keyBytes ([.int .i64 p.1] ++ [.int .i64 p.2])), ?_⟩
  unfold keyOf
  simp only [Tryd.underlying34, kt34_r, hf, Bool.and_self, if_true, hm]
  simp [Program.keyLits, Tryd.underlying34, Tryd.underlying3, cells34_r, cells3_r, Value.cells, h1, h2, keyBytes]
theorem keySp : KeyE Tryd.prog 34 vSp (fun p => inK .i64 p.1 ∧ inK .i64 p.2) :=
  ⟨Go.Maps.Keyed.of_law (Go.deep_law_laid laid_r (m := 2) (by omega) row34_r (by kernel_rfl) wide34_r), key34, fun a b h => by
    simp only [vSp, Value.agg.injEq] at h
    have := congrArg Array.toList h
    simp at this
    exact Prod.ext this.1 this.2⟩
theorem snocInd {α : Type} {Q : List α → Prop} (h0 : Q []) (h1 : ∀ xs t, Q xs → Q (xs ++ [t])) (xs : List α) : Q xs := by
  have h : ∀ l : List α, Q l.reverse := by
    intro l
    induction l with
    | nil => exact h0
    | cons a l ih => rw [List.reverse_cons]; exact h1 _ _ ih
  simpa using h xs.reverse
/-- Who comes first of each. -/
def dd (xs : List Sp) : List Sp := xs.foldl (fun acc s => if s ∈ acc then acc else acc ++ [s]) []
theorem dd_snoc (xs : List Sp) (s : Sp) : dd (xs ++ [s]) = if s ∈ dd xs then dd xs else dd xs ++ [s] := by unfold dd; rw [List.foldl_append]; rfl
theorem dd_mem (xs : List Sp) : ∀ s, s ∈ dd xs ↔ s ∈ xs := by
  refine snocInd (Q := fun xs => ∀ s, s ∈ dd xs ↔ s ∈ xs) (by simp [dd]) (fun xs t ih => ?_) xs
  · intro s
    rw [dd_snoc]
    split
    · rename_i h
      rw [ih, List.mem_append, List.mem_singleton]
      exact ⟨fun h => .inl h, fun h2 => h2.elim id (fun e => by rw [e]; exact (ih _).1 h)⟩
    · simp [ih]
theorem dd_len (xs : List Sp) : (dd xs).length ≤ xs.length ∧ ((dd xs).length = xs.length ↔ xs.Nodup) := by
  refine snocInd (Q := fun xs => (dd xs).length ≤ xs.length ∧ ((dd xs).length = xs.length ↔ xs.Nodup)) (by simp [dd]) (fun xs t ih => ?_) xs
  · obtain ⟨h1, h2⟩ := ih
    rw [dd_snoc]
    have hn : (xs ++ [t]).Nodup ↔ xs.Nodup ∧ t ∉ xs := by
      rw [List.nodup_append]
      exact ⟨fun ⟨q1, _, q3⟩ => ⟨q1, fun hm => q3 t hm t (List.mem_singleton.2 rfl) rfl⟩, fun ⟨q1, q2⟩ => ⟨q1, by simp, fun x hx y hy e => by rw [List.mem_singleton] at hy; subst hy; subst e; exact q2 hx⟩⟩
    rw [hn]
    split
    · rename_i h
      rw [dd_mem] at h
      simp
      refine ⟨by omega, ?_⟩
      constructor
      · intro h3; omega
      · intro h3; exact absurd h h3.2
    · rename_i h
      rw [dd_mem] at h
      simp [h1, h]
      exact h2
end Go.Eng
/- Record: Check. -/
namespace Go.Eng
open Go.Proofs
def stB (xs : List Sp) : Bool := (standG 0 xs).all (fun p => spotB p.2)
def rightB (xs : List Sp) : Bool := decide (xs.length ≤ 1048578) && (!decide (xs.getLast? = some (0, 0)) && (stB xs && decide ((standG 0 xs).map Prod.snd).Nodup))
theorem standG_mem : ∀ {i : Nat} {xs : List Sp} {p : Nat × Sp}, p ∈ standG i xs → (i < p.1 ∧ p.1 ≤ i + xs.length) ∧ xs[p.1 - 1 - i]? = some p.2
  | i, [], p, h => by simp [standG] at h
  | i, s :: l, p, h => by
    rw [standG] at h
    split at h
    · have := standG_mem h
      refine ⟨⟨by omega, by rw [List.length_cons]; omega⟩, ?_⟩
      rw [show p.1 - 1 - i = (p.1 - 1 - (i + 1)) + 1 by omega, List.getElem?_cons_succ]; exact this.2
    · rcases List.mem_cons.1 h with rfl | h
      · exact ⟨⟨by simp, by rw [List.length_cons]; simp⟩, by simp⟩
      · have := standG_mem h
        refine ⟨⟨by omega, by rw [List.length_cons]; omega⟩, ?_⟩
        rw [show p.1 - 1 - i = (p.1 - 1 - (i + 1)) + 1 by omega, List.getElem?_cons_succ]; exact this.2
theorem standG_len : ∀ (i : Nat) (xs : List Sp), (standG i xs).length ≤ xs.length
  | i, [] => by simp [standG]
  | i, s :: l => by
    have := standG_len (i + 1) l
    rw [standG]; split <;> simp <;> omega
theorem Sl.okSp {R : Nat → Prop} {w : World} {a : Option Addr} {n c : Nat} {xs : List Sp} (h : Sl dSp R w a n c xs) {i : Nat} {s : Sp} (hx : xs[i]? = some s) : inK .i64 s.1 ∧ inK .i64 s.2 := (h.elF hx).1
theorem blk_foot (b : Nat) (o : Obj) : (Blk b o).foot b := rfl
theorem St.sepA {w0 w : World} {F : Nat → Prop} {A L : List HP} {c : HP} {k : Nat} (h : St w0 F w (A ++ L)) (hc : c ∈ L) (hA : (Star A).foot k) (hk : c.foot k) : False := by
  obtain ⟨d, hd, hdk⟩ := hA
  exact (List.pairwise_append.1 h.sep).2.2 d hd c hc k hdk hk
theorem Sl.belowF {w : World} {a : Option Addr} {n c : Nat} {xs : List Sp} (h : Sl dSp All w a n c xs) : ∀ j, afoot a j ∧ 0 < n → j < w.heap.size := by
  rintro j ⟨hj, hn⟩
  obtain ⟨b, o, rfl⟩ := h.sl.addr hn
  have hl := h.len
  have hb := World.block_lt_of_cell? w _ ((h.elF (List.getElem?_eq_getElem (i := 0) (by omega))).2 b o rfl 0 _ rfl)
  simp only [afoot, Option.map_some, Option.some.injEq] at hj
  subst hj; exact hb
def enI (i : Int) : Value := .int .i64 i
attribute [local irreducible] J JL JD JX JXat OpR OpG Ret RetV Is Blk Row MapC
set_option maxRecDepth 100000
set_option maxHeartbeats 1000000
set_option linter.unusedSimpArgs false
set_option linter.unusedVariables false
theorem check_r (w : World) (hG : Gz w) (a : Option Addr) (n c : Nat) (xs : List Sp) (h : Sl dSp All w a n c xs) :
    Ret Tryd.prog 11 #[.agg #[.slice a n c]] w fun v w' => v = .int .i64 (if rightB xs then 0 else 200) ∧ Ext w w' := by
  refine Ret_of (l := [_]) Tryd.func11 rfl Tryd.ntmps11 (by simp) ?_
  have hs := St.init w
  have hl := h.len
  have hc := h.le
  have hm := h.cap
  unfold maxLen at hm
  by_cases h1 : 1048578 < n
  · have hr : rightB xs = false := by unfold rightB; rw [decide_eq_false (by omega)]; rfl
    rw [hr]
    repeat' (first
      | (apply JL_nil)
      | ((first | (apply JL_pure) | (apply JX_f; exact rfl; intro W X hs)); (first
      | (apply as_move; exact OpR_move rfl is_rfl)
      | (apply as_assign; exact OpR_assign rfl is_rfl)
      | (apply as_fieldAddr; exact OpR_fieldAddr0 rfl rfl is_rfl)
      | (apply as_load; exact OpR_load' hs rfl rfl is_rfl)
      | (apply as_binOp; exact OpR_ibin rfl rfl rfl is_rfl)
      | (apply as_pick; exact OpR_pick_t rfl (by first | assumption | rfl | exact decide_eq_true (by first | assumption | omega) | exact decide_eq_false (by first | assumption | omega)) rfl is_rfl)
      | (apply as_b_len; exact OpR_len rfl is_rfl)); first | (exact rfl; exact rfl) | exact rfl)
      | (apply J_seq)
      | (apply J_region)
      | (apply al_none (t := 1); refine JL_o (by apply as_box; exact OpR_box' hs rfl) rfl rfl ?_; rintro _ _ ⟨b1, rfl, hb1, hs, hE⟩)
      | (apply al_none (t := 2); refine JL_o (by apply as_alloc; exact OpR_alloc' hs) rfl rfl ?_; rintro _ _ ⟨b2, rfl, hb2, hs, hE⟩)
      | (apply al_unit; refine JL_u (by apply as_store; exact OpR_store' hs rfl rfl rfl) rfl ?_; rintro _ _ ⟨hs, hF⟩)
      | (apply aj_cond; refine J_cond_t rfl (by first | assumption | rfl | exact decide_eq_true (by first | assumption | omega) | exact decide_eq_false (by first | assumption | omega)) ?_)
      | (apply aj_draw; (refine J_drawX (id := 2) [0, 1, 3, 7, 15, 31, 63, 127, 63, 319, 1023, 2047, 63, 8191, 16383, 32767] [(0, 0), (1, 0), (2, 0), (3, 0), (4, 0), (5, 0), (6, 0), (7, 0), (8, 0), (9, 0), (10, 0), (11, 0), (12, 0), (13, 0), (14, 0), (15, 0)] [] hs mixed (by kernel_rfl) (by kernel_rfl) (by kernel_rfl) (by kernel_rfl) (by kernel_rfl) ?_))
      | (refine JX_done (fun W hs => ?_))
      | (refine JX_f_und rfl rfl rfl ?_)
      | (refine JX_f_off rfl rfl (by first | assumption | rfl | exact decide_eq_true (by first | assumption | omega) | exact decide_eq_false (by first | assumption | omega)) rfl ?_)
      | (apply JD_done))
    refine J_leave Tryd.func11 rfl (.scal' hs rfl rfl .nil) ⟨rfl, hs.frm.ext⟩
  · have hle : xs.length ≤ 1048578 := by omega
    by_cases hlast : xs.getLast? = some (0, 0)
    · have hr : rightB xs = false := by unfold rightB; rw [decide_eq_true hle, decide_eq_true hlast]; rfl
      rw [hr]
      have hnp : 0 < n := by rcases Nat.eq_zero_or_pos n with h0 | h0; · (have : xs = [] := List.eq_nil_of_length_eq_zero (by omega)); subst this; simp at hlast
                             · exact h0
      obtain ⟨p1, o1, rfl⟩ := h.sl.addr hnp
      have hx : xs[((n : Int) - 1).toNat]? = some (0, 0) := by rw [← hlast, List.getLast?_eq_getElem?]; congr 1; omega
      repeat' (first
        | (apply JL_nil)
        | ((first | (apply JL_pure) | (apply JX_f; exact rfl; intro W X hs) | (apply JX_f_on; exact rfl; exact rfl; (first | assumption | exact rfl | exact decide_eq_true (by first | assumption | omega) | exact decide_eq_false (by first | assumption | omega)); intro W X hs)); (first
      | (apply as_load; first | exact OpR_load_cells (T := 34) (vs := [.int .i64 0, .int .i64 0]) rfl (hG.st hs) rfl is_rfl | exact OpR_load_el (i := ((n : Int) - 1).toNat) (h.st hs) hx rfl rfl is_rfl)
      | (apply as_move; exact OpR_move rfl is_rfl)
      | (apply as_assign; exact OpR_assign rfl is_rfl)
      | (apply as_fieldAddr; exact OpR_fieldAddr0 rfl rfl is_rfl)
      | (apply as_load; exact OpR_load' hs rfl rfl is_rfl)
      | (apply as_sub; exact OpR_sub rfl rfl (by omega) is_rfl)
      | (apply as_binOp; first | exact OpR_ibin rfl rfl rfl is_rfl | exact OpR_eqT rfl rfl is_rfl)
      | (apply as_pick; first | exact OpR_pick_t rfl (by first | assumption | rfl | exact decide_eq_true (by first | assumption | omega) | exact decide_eq_false (by first | assumption | omega)) rfl is_rfl | exact OpR_pick_f rfl (by first | assumption | rfl | exact decide_eq_true (by first | assumption | omega) | exact decide_eq_false (by first | assumption | omega)) rfl is_rfl)
      | (apply as_b_len; exact OpR_len rfl is_rfl)
      | (apply as_indexAddr; exact OpR_indexAddr rfl rfl (by omega) (by omega) is_rfl)); first | (exact rfl; exact rfl) | exact rfl)
        | (apply J_seq)
        | (apply J_region)
        | (apply al_none (t := 1); refine JL_o (by apply as_box; exact OpR_box' hs rfl) rfl rfl ?_; rintro _ _ ⟨b1, rfl, hb1, hs, hE⟩)
        | (apply al_none (t := 2); refine JL_o (by apply as_alloc; exact OpR_alloc' hs) rfl rfl ?_; rintro _ _ ⟨b2, rfl, hb2, hs, hE⟩)
        | (apply al_unit; refine JL_u (by apply as_store; exact OpR_store' hs rfl rfl rfl) rfl ?_; rintro _ _ ⟨hs, hF⟩)
        | (apply aj_cond; refine J_dec_t rfl (by first | assumption | omega) ?_)
        | (apply aj_draw; (refine J_drawX (id := 2) [0, 1, 3, 7, 15, 31, 63, 127, 63, 319, 1023, 2047, 63, 8191, 16383, 32767] [(0, 0), (1, 0), (2, 0), (3, 0), (4, 0), (5, 0), (6, 0), (7, 0), (8, 0), (9, 0), (10, 0), (11, 0), (12, 0), (13, 0), (14, 0), (15, 0)] [] hs mixed (by kernel_rfl) (by kernel_rfl) (by kernel_rfl) (by kernel_rfl) (by kernel_rfl) ?_))
        | (refine JX_done (fun W hs => ?_))
        | (apply JD_done))
      refine J_leave Tryd.func11 rfl (.scal' hs rfl rfl .nil) ⟨rfl, hs.frm.ext⟩
    · obtain ⟨st, hst⟩ : ∃ st, st = standG 0 xs := ⟨_, rfl⟩
      have hor : n = 0 ∨ ∃ p1 o1 s, a = some ⟨p1, o1, none⟩ ∧ 0 < n ∧ xs[((n : Int) - 1).toNat]? = some s ∧ ¬ (s.1 = 0 ∧ s.2 = 0) := by
        rcases Nat.eq_zero_or_pos n with h0 | h0
        · exact .inl h0
        · obtain ⟨p1, o1, rfl⟩ := h.sl.addr h0
          have e : ((n : Int) - 1).toNat = xs.length - 1 := by omega
          refine .inr ⟨p1, o1, xs[((n : Int) - 1).toNat], rfl, h0, List.getElem?_eq_getElem (by omega), fun hz => hlast ?_⟩
          rw [List.getLast?_eq_getElem?, ← e, List.getElem?_eq_getElem (by omega)]
          exact congrArg some (Prod.ext hz.1 hz.2)
      have hrB : rightB xs = (stB xs && decide (st.map Prod.snd).Nodup) := by unfold rightB; rw [decide_eq_true hle, decide_eq_false hlast, hst]; rfl
      have hstl : st.length ≤ xs.length := by rw [hst]; exact standG_len 0 xs
      have hok : ∀ (i : Nat) (p : Nat × Sp), st[i]? = some p → inK .i64 p.2.1 ∧ inK .i64 p.2.2 := fun i p hp => h.okSp (standG_mem (by rw [← hst]; exact List.mem_of_getElem? hp)).2
      obtain hn0 | ⟨p1, o1, s, rfl, hnp, hx, hz⟩ := hor
      all_goals
        repeat' (first
          | ((apply al_call 33; refine JL_o (by exact OpR_callF en33 rfl (standing_r _ _ n c)) rfl rfl ?_; rintro _ _ ⟨bi, rfl, hf⟩; have hs := hs.fresh hf; (try simp only [List.cons_append, List.nil_append] at hs)))
          | ((apply al_none (t := 27); refine JL_o (OpR_makeMap hs) rfl rfl ?_; rintro _ _ ⟨b27, rfl, hb27, hs, hE⟩; have hs := hs.toMap vSp enI (fun p => inK .i64 p.1 ∧ inK .i64 p.2)))
          | (apply JL_nil)
          | ((first | (apply JL_pure) | (apply JX_f; exact rfl; intro W X hs) | (apply JX_f_on; exact rfl; exact rfl; (first | assumption | exact rfl | exact decide_eq_true (by first | assumption | omega) | exact decide_eq_false (by first | assumption | omega)); intro W X hs)); (first
      | (apply as_load; first | exact OpR_load_cells (T := 34) (vs := [.int .i64 0, .int .i64 0]) rfl (hG.st hs) rfl is_rfl | exact OpR_load_el (i := ((n : Int) - 1).toNat) (h.st hs) hx rfl rfl is_rfl)
      | (apply as_move; exact OpR_move rfl is_rfl)
      | (apply as_assign; exact OpR_assign rfl is_rfl)
      | (apply as_fieldAddr; exact OpR_fieldAddr0 rfl rfl is_rfl)
      | (apply as_load; first | exact OpR_load' hs rfl rfl is_rfl | exact OpR_load_agg' hs rfl is_rfl)
      | (apply as_sub; exact OpR_sub rfl rfl (by omega) is_rfl)
      | (apply as_binOp; first | exact OpR_ibin rfl rfl rfl is_rfl | exact OpR_eqT rfl rfl is_rfl)
      | (apply as_pick; first | exact OpR_pick_t rfl (by first | assumption | rfl | exact decide_eq_true (by first | assumption | omega) | exact decide_eq_false (by first | assumption | omega)) rfl is_rfl | exact OpR_pick_f rfl (by first | assumption | rfl | exact decide_eq_true (by first | assumption | omega) | exact decide_eq_false (by first | assumption | omega)) rfl is_rfl)
      | (apply as_b_len; exact OpR_len rfl is_rfl)
      | (apply as_indexAddr; exact OpR_indexAddr rfl rfl (by omega) (by omega) is_rfl)); first | (exact rfl; exact rfl) | exact rfl)
          | (apply J_seq)
          | (apply J_region)
          | (apply J_block)
          | (apply J_skip)
          | (apply al_none (t := 1); refine JL_o (by apply as_box; exact OpR_box' hs rfl) rfl rfl ?_; rintro _ _ ⟨b1, rfl, hb1, hs, hE⟩)
          | (apply al_none (t := 2); refine JL_o (by apply as_alloc; exact OpR_alloc' hs) rfl rfl ?_; rintro _ _ ⟨b2, rfl, hb2, hs, hE⟩)
          | (apply al_none (t := 4); refine JL_o (by apply as_alloc; exact OpR_alloc' hs) rfl rfl ?_; rintro _ _ ⟨b4, rfl, hb4, hs, hE⟩)
          | (apply al_none (t := 5); refine JL_o (by apply as_alloc; exact OpR_alloc' hs) rfl rfl ?_; rintro _ _ ⟨b5, rfl, hb5, hs, hE⟩)
          | (apply al_unit; refine JL_u (by apply as_store; exact OpR_store' hs rfl rfl rfl) rfl ?_; rintro _ _ ⟨hs, hF⟩)
          | (apply aj_cond; first | refine J_dec_f rfl (by first | assumption | omega) ?_ | refine J_cond_f rfl (by first | assumption | rfl | exact decide_eq_true (by first | assumption | omega) | exact decide_eq_false (by first | assumption | omega)) ?_)
          | (apply aj_draw; (refine J_drawX (id := 2) [0, 1, 3, 7, 15, 31, 63, 127, 63, 319, 1023, 2047, 63, 8191, 16383, 32767] [(0, 0), (1, 0), (2, 0), (3, 0), (4, 0), (5, 0), (6, 0), (7, 0), (8, 0), (9, 0), (10, 0), (11, 0), (12, 0), (13, 0), (14, 0), (15, 0)] [] hs mixed (by kernel_rfl) (by kernel_rfl) (by kernel_rfl) (by kernel_rfl) (by kernel_rfl) ?_))
          | (refine JX_done (fun W hs => ?_))
          | (refine JX_f_off rfl rfl (by first | assumption | rfl | exact decide_eq_true (by first | assumption | omega) | exact decide_eq_false (by first | assumption | omega)) rfl ?_)
          | (apply JD_done))
        have hbi := hs.blk (b := bi)
        have hbl := hs.lt (b := bi)
        have hE0 := hs.frm.ext
        have hs : St w NoF _ ([Blk b5 (.cells #[.int .i64 0] 3 (0, 0)), Blk b4 (.cells #[.map (some b27)] 59 (0, 0)), MapC vSp enI (fun p => inK .i64 p.1 ∧ inK .i64 p.2) b27 ([] : List (Sp × Int)), Blk b2 (.cells #[.int .i64 0] 30 (0, 0))] ++ [Blk bi _, Blk b1 _]) := hs.sel [1, 2, 3, 4, 0, 5] (by decide)
        refine J_range (ps := [30, 31]) hs rfl ⟨47, #[ptr bi], rfl, en47⟩ (standIt_ok _ (hG.st hs) bi _ n c 24 xs (h.st hs) hbi)
          (fun k A => ∃ l : List (Sp × Int), A = [Blk b5 (.cells #[.int .i64 k] 3 (0, 0)), Blk b4 (.cells #[.map (some b27)] 59 (0, 0)), MapC vSp enI (fun p => inK .i64 p.1 ∧ inK .i64 p.2) b27 l, Blk b2 (.cells #[.int .i64 0] 30 (0, 0))] ∧ l.map Prod.fst = dd ((st.take k).map Prod.snd) ∧ ∀ p ∈ st.take k, spotB p.2 = true)
          (fun j A => j = .ret ∧ A = [Blk b2 (.cells #[.int .i64 200] 30 (0, 0))] ∧ stB xs = false) ⟨[], rfl, by simp [dd], by simp⟩ ?_ (by decide) ?_ ?_ ?_ ?_
        · rintro k (rfl | rfl | hk)
          · exact ⟨rfl, fun hk => hs.sepA (.head _) hk (blk_foot _ _), hbl⟩
          · exact ⟨rfl, fun hf => by have := hs.foot0 0 hf; have := hG.lt; omega, (hG.st hs).lt⟩
          · have h1 := h.belowF k hk
            exact ⟨rfl, fun hf => by have := hs.foot0 k hf; omega, Nat.lt_of_lt_of_le h1 hs.frm.size⟩
        · rintro i vals cx ⟨_, _, rfl, _⟩; rfl
        · rintro l D tm k w1 A1 cx vals hD hDl hk ⟨m, rfl, hm1, hm2⟩ ⟨p, hp, rfl, rfl⟩ hh -
          rw [← hst] at hp hk
          have hs : St _ _ _ [_, _, _, _, _] := hh.st
          have hkok := hok k p hp
          have htk : st.take (k + 1) = st.take k ++ [p] := by rw [List.take_add_one, hp]; rfl
          by_cases hsp : spotB (p.2.1, p.2.2) = true
          · have hq : (!spotB (p.2.1, p.2.2)) = false := by rw [hsp]; rfl
            repeat' (first
              | ((refine J_beginRound hs (fun w2 hs => ?_)))
              | ((apply al_call 34; refine JL_o (by exact OpR_callF en34 rfl (spot_r _ p.2.1 p.2.2)) rfl rfl ?_; rintro _ _ ⟨rfl, hE⟩; have hs := hs.ext hE; (try simp only [List.cons_append, List.nil_append] at hs)))
              | ((apply al_unit; refine JL_u (OpR_mapUpdate (enc := vSp) (encv := enI) (a := p.2) (c := (p.1 : Int)) keySp hs rfl rfl rfl hkok) rfl ?_; rintro _ _ ⟨hs, hF⟩))
              | (apply JL_nil)
              | ((apply JL_pure); (first
      | (apply as_move; exact OpR_move rfl is_rfl)
      | (apply as_assign; exact OpR_assign rfl is_rfl)
      | (apply as_load; first | exact OpR_load' hs rfl rfl is_rfl | exact OpR_load_agg' hs rfl is_rfl)
      | (apply as_add; exact OpR_addn rfl rfl (by omega) (by first | (simp only [Int.reduceAdd]; exact rfl) | exact rfl) is_rfl)
      | (apply as_unOp; exact OpR_not rfl is_rfl)); first | (exact rfl; exact rfl) | exact rfl)
              | (apply J_seq)
              | (apply J_region)
              | (apply J_block)
              | (apply J_inBlock)
              | (apply J_skip)
              | (apply al_none (t := 7); refine JL_o (by apply as_alloc; exact OpR_alloc' hs) rfl rfl ?_; rintro _ _ ⟨b7, rfl, hb7, hs, hE⟩)
              | (apply al_unit; refine JL_u (by apply as_store; exact OpR_store' hs rfl rfl rfl) rfl ?_; rintro _ _ ⟨hs, hF⟩)
              | (apply aj_cond; refine J_cond_f rfl (by first | assumption | rfl | exact decide_eq_true (by first | assumption | omega) | exact decide_eq_false (by first | assumption | omega)) ?_))
            have hs : St _ _ _ [_, _, _, _, _] := hs.sel [1, 2, 3, 4, 5] (by decide)
            refine J_roundEnd hs (fun w3 hs => .inl ⟨rfl, _, ⟨putL m p.2 p.1, rfl, ?_, ?_⟩, St.turned (M := []) hs⟩)
            · rw [putL_keys, htk, List.map_append, hm1, List.map_cons, List.map_nil, dd_snoc]
              by_cases hin : p.2 ∈ dd (List.map Prod.snd (List.take k st)) <;> simp [hin]
            · rw [htk]; intro q hq
              rcases List.mem_append.1 hq with hq | hq
              · exact hm2 q hq
              · rw [List.mem_singleton.1 hq]; exact hsp
          · have hq : (!spotB (p.2.1, p.2.2)) = true := by simpa using hsp
            repeat' (first
              | ((refine J_beginRound hs (fun w2 hs => ?_)))
              | ((apply al_call 34; refine JL_o (by exact OpR_callF en34 rfl (spot_r _ p.2.1 p.2.2)) rfl rfl ?_; rintro _ _ ⟨rfl, hE⟩; have hs := hs.ext hE; (try simp only [List.cons_append, List.nil_append] at hs)))
              | (apply JL_nil)
              | ((apply JL_pure); (first
      | (apply as_assign; exact OpR_assign rfl is_rfl)
      | (apply as_load; exact OpR_load_agg' hs rfl is_rfl)
      | (apply as_unOp; exact OpR_not rfl is_rfl)); first | (exact rfl; exact rfl) | exact rfl)
              | (apply J_seq)
              | (apply J_region)
              | (apply J_block)
              | (apply al_none (t := 7); refine JL_o (by apply as_alloc; exact OpR_alloc' hs) rfl rfl ?_; rintro _ _ ⟨b7, rfl, hb7, hs, hE⟩)
              | (apply al_unit; refine JL_u (by apply as_store; exact OpR_store' hs rfl rfl rfl) rfl ?_; rintro _ _ ⟨hs, hF⟩)
              | (apply aj_cond; refine J_cond_t rfl (by first | assumption | rfl | exact decide_eq_true (by first | assumption | omega) | exact decide_eq_false (by first | assumption | omega)) ?_))
            have hs : St _ _ _ [_, _] := hs.sel [1, 5] (by decide)
            refine J_roundRet hs (fun w3 hs => .inr ⟨rfl, .ret, _, ⟨rfl, rfl, ?_⟩, St.turned (M := []) hs⟩)
            unfold stB
            rw [← hst, List.all_eq_false]
            exact ⟨p, List.mem_of_getElem? hp, hsp⟩
        · rintro w2 D A2 ⟨m, rfl, hm1, hm2⟩ hs
          have hs : St _ _ _ [_, _, _, _, _, _, _] := hs
          rw [← hst, List.take_length] at hm1 hm2
          rw [← hst] at hs
          have hml : m.length = (dd (st.map Prod.snd)).length := by rw [← hm1]; simp
          have hdl := dd_len (st.map Prod.snd)
          rw [List.length_map] at hdl
          have hsB : stB xs = true := by unfold stB; rw [← hst, List.all_eq_true]; exact hm2
          by_cases hnd : (st.map Prod.snd).Nodup
          · have hml2 : m.length = st.length := by rw [hml]; exact hdl.2.2 hnd
            have hr : rightB xs = true := by rw [hrB, hsB, decide_eq_true hnd]; rfl
            rw [hr]
            repeat' (first
              | ((refine J_retL (Lv_coll hs (fun w3 hs => Lv_nil Tryd.func11 rfl (.scal' hs rfl rfl .nil) ⟨rfl, hs.frm.ext⟩))))
              | (apply JL_nil)
              | ((apply JL_pure); (first
      | (apply as_b_len; exact OpR_len_map (enc := vSp) (encv := enI) (ok := fun p : Sp => inK .i64 p.1 ∧ inK .i64 p.2) (hs.mapV (b := b27)) rfl is_rfl)
      | (apply as_load; exact OpR_load' hs rfl rfl is_rfl)
      | (apply as_binOp; exact OpR_ibin rfl rfl rfl is_rfl)); first | (exact rfl; exact rfl) | exact rfl)
              | (apply J_seq)
              | (apply J_region)
              | (apply J_inBlock)
              | (apply J_skip)
              | (apply al_unit; refine JL_u (by apply as_store; exact OpR_store' hs rfl rfl rfl) rfl ?_; rintro _ _ ⟨hs, hF⟩)
              | (apply aj_cond; refine J_dec_f rfl (by first | assumption | omega) ?_))
          · have hml2 : m.length ≠ st.length := by rw [hml]; exact fun e => hnd (hdl.2.1 e)
            have hr : rightB xs = false := by rw [hrB, hsB, decide_eq_false hnd]; rfl
            rw [hr]
            repeat' (first
              | ((refine J_retL (Lv_coll hs (fun w3 hs => Lv_nil Tryd.func11 rfl (.scal' hs rfl rfl .nil) ⟨rfl, hs.frm.ext⟩))))
              | (apply JL_nil)
              | ((apply JL_pure); (first
      | (apply as_b_len; exact OpR_len_map (enc := vSp) (encv := enI) (ok := fun p : Sp => inK .i64 p.1 ∧ inK .i64 p.2) (hs.mapV (b := b27)) rfl is_rfl)
      | (apply as_load; exact OpR_load' hs rfl rfl is_rfl)
      | (apply as_binOp; exact OpR_ibin rfl rfl rfl is_rfl)); first | (exact rfl; exact rfl) | exact rfl)
              | (apply J_seq)
              | (apply J_region)
              | (apply J_inBlock)
              | (apply al_unit; refine JL_u (by apply as_store; exact OpR_store' hs rfl rfl rfl) rfl ?_; rintro _ _ ⟨hs, hF⟩)
              | (apply aj_cond; refine J_dec_t rfl (by first | assumption | omega) ?_))
        · rintro w2 D A2 j ⟨rfl, rfl, hsB⟩ hs
          have hs : St _ _ _ [_, _, _, _] := hs
          have hr : rightB xs = false := by rw [hrB, hsB]; rfl
          rw [hr]
          refine J_retL (Lv_coll hs (fun w3 hs => Lv_nil Tryd.func11 rfl (.scal' hs rfl rfl .nil) ⟨rfl, hs.frm.ext⟩))
end Go.Eng
/- Record: At, who. -/
namespace Go.Eng
open Go.Proofs
/-- Who stands at a spot; 0: nobody. -/
def whoM (xs : List Sp) (s : Sp) : Nat := (((standG 0 xs).find? (fun p => decide (p.2 = s))).map Prod.fst).getD 0
def atF (xs : List Sp) (i : Int) : Sp := if rightB xs then atM xs i else (0, 0)
theorem atM_len {xs : List Sp} {R : Nat → Prop} {w : World} {a : Option Addr} {n c : Nat} (h : Sl dSp R w a n c xs) (i : Int) : inK .i64 (atM xs i).1 ∧ inK .i64 (atM xs i).2 := by
  unfold atM
  split
  · rename_i hi
    exact h.okSp (i := (i - 1).toNat) (by rw [List.getD_eq_getElem?_getD, List.getElem?_eq_getElem (by omega)]; rfl)
  · exact ⟨by simp [inK], by simp [inK]⟩
theorem check_v {w : World} (hG : Gz w) {a : Option Addr} {n c : Nat} {xs : List Sp} (h : Sl dSp All w a n c xs) {b : Bool} (hb : rightB xs = b) :
    Ret Tryd.prog 11 #[.agg #[.slice a n c]] w fun v w' => v = .int .i64 (if b then 0 else 200) ∧ Ext w w' := by
  have := check_r w hG a n c xs h; rwa [hb] at this
theorem Gz.rl {w W : World} {X : Nat → Prop} (h : Gz w) (r : Rl X w W) (hx : ¬ X 0) : Gz W := fun j v hj => (World.cell?_of_block (r.old 0 h.lt hx)).trans (h j v hj)
theorem St.neB2 {w0 w : World} {F : Nat → Prop} {L : List HP} {b b' : Nat} {o o' : Obj} (h : St w0 F w (Blk b o :: Blk b' o' :: L)) : b ≠ b' := fun e => (List.pairwise_cons.1 h.sep).1 _ (.head _) b rfl (by subst e; rfl)
theorem St.geB {w0 w : World} {L : List HP} (h : St w0 NoF w L) (b : Nat) {o : Obj} [m : BlkAt L b o] : w0.heap.size ≤ b := ((h.foot _ m.mem b rfl).2).resolve_left id
attribute [local irreducible] J JL JD JX JXat OpR OpG Ret RetV Is Blk Row MapC
set_option maxRecDepth 100000
set_option maxHeartbeats 1000000
set_option linter.unusedSimpArgs false
set_option linter.unusedVariables false
theorem At_r (w : World) (hG : Gz w) (a : Option Addr) (n c : Nat) (xs : List Sp) (i : Int) (h : Sl dSp All w a n c xs) (hi : inK .i64 i) :
    Ret Tryd.prog 14 #[.agg #[.slice a n c], .int .i64 i] w fun v w' => v = .tuple #[vSp (atF xs i), .bool (decide (¬ ((atF xs i).1 = 0 ∧ (atF xs i).2 = 0)))] ∧ Ext w w' := by
  refine Ret_of (l := [_, _]) Tryd.func14 rfl Tryd.ntmps14 (by simp) ?_
  have hs := St.init w
  unfold atF
  by_cases hr : rightB xs = true
  · rw [if_pos hr]
    obtain ⟨s, hsd⟩ : ∃ s, s = atM xs i := ⟨_, rfl⟩
    rw [← hsd]
    repeat' (first
      | ((apply aj_draw; refine J_draw (id := 4) (fun k => k = b4) [0, 0, 0, 6, 1, 31] [(0, false), (1, false), (2, false), (3, false), (4, true), (5, false)] [] mixed (by kernel_rfl) (by kernel_rfl) ?_; intro _ hE _; have hs := hs.ext hE))
      | ((apply JD_fx; exact rfl; (intro _ hRl; first | (apply as_load; exact OpR_load_aggX hs hRl rfl rfl (fun e => hs.neB2 e) is_rfl) | (apply as_load; exact OpR_load_cells (T := 34) (vs := [.int .i64 0, .int .i64 0]) rfl ((hG.st hs).rl hRl (fun e => by have := hG.lt; have := hs.geB b4; omega)) rfl is_rfl) | (apply as_binOp; exact OpR_neT rfl rfl is_rfl) | (apply as_assign; exact OpR_assign rfl is_rfl)); exact rfl))
      | ((apply JD_cu; exact rfl; (apply as_store; exact OpR_store' hs rfl rfl rfl); (intro _ _ h; exact ⟨h.2.os, h.2.tape, h.2.output, h.2.size, fun k hk hx => h.2.old k hk (fun e => hx (by subst e; rfl)), h.2.drawn⟩); exact rfl; rintro _ _ ⟨hs, hF⟩))
      | ((apply al_call 11; refine JL_o (by exact OpR_callF en11 rfl (check_v (hG.st hs) (h.st hs) hr)) rfl rfl ?_; rintro _ _ ⟨rfl, hE⟩; have hs := hs.ext hE; (try simp only [List.cons_append, List.nil_append] at hs)))
      | ((apply al_call 36; refine JL_o (by exact OpR_callF en36 rfl (at_r _ (hG.st hs) a n c xs i (h.st hs) hi)) rfl rfl ?_; rintro _ _ ⟨rfl, hE⟩; have hs := hs.ext hE; rw [← hsd]; (try simp only [List.cons_append, List.nil_append] at hs)))
      | (apply JL_nil)
      | ((apply JL_pure); (first
      | (apply as_move; exact OpR_move rfl is_rfl)
      | (apply as_assign; exact OpR_assign rfl is_rfl)
      | (apply as_load; exact OpR_load_agg' hs rfl is_rfl)
      | (apply as_binOp; exact OpR_ibin rfl rfl rfl is_rfl)); first | (exact rfl; exact rfl) | exact rfl)
      | (apply J_seq)
      | (apply J_region)
      | (apply J_skip)
      | (apply al_none (t := 2); refine JL_o (by apply as_box; exact OpR_box' hs rfl) rfl rfl ?_; rintro _ _ ⟨b2, rfl, hb2, hs, hE⟩)
      | (apply al_none (t := 4); refine JL_o (by apply as_alloc; exact OpR_alloc' hs) rfl rfl ?_; rintro _ _ ⟨b4, rfl, hb4, hs, hE⟩)
      | (apply al_none (t := 6); refine JL_o (by apply as_alloc; exact OpR_alloc' hs) rfl rfl ?_; rintro _ _ ⟨b6, rfl, hb6, hs, hE⟩)
      | (apply al_unit; refine JL_u (by apply as_store; exact OpR_store' hs rfl rfl rfl) rfl ?_; rintro _ _ ⟨hs, hF⟩)
      | (apply aj_cond; refine J_cond_f rfl (by first | assumption | rfl | exact decide_eq_true (by first | assumption | omega) | exact decide_eq_false (by first | assumption | omega)) ?_)
      | (apply JD_done))
    refine J_leave Tryd.func14 rfl (.agg' hs rfl rfl (.tmp rfl .nil)) ⟨rfl, hs.frm.ext⟩
  · rw [if_neg hr]
    have hr' : rightB xs = false := by simpa using hr
    repeat' (first
      | ((apply al_call 11; refine JL_o (by exact OpR_callF en11 rfl (check_v (hG.st hs) (h.st hs) hr')) rfl rfl ?_; rintro _ _ ⟨rfl, hE⟩; have hs := hs.ext hE; (try simp only [List.cons_append, List.nil_append] at hs)))
      | (apply JL_nil)
      | ((apply JL_pure); (first
      | (apply as_load; exact OpR_load_cells (T := 34) (vs := [.int .i64 0, .int .i64 0]) rfl (hG.st hs) rfl is_rfl)
      | (apply as_assign; exact OpR_assign rfl is_rfl)
      | (apply as_load; exact OpR_load_agg' hs rfl is_rfl)
      | (apply as_binOp; exact OpR_ibin rfl rfl rfl is_rfl)); first | (exact rfl; exact rfl) | exact rfl)
      | (apply J_seq)
      | (apply J_region)
      | (apply al_none (t := 2); refine JL_o (by apply as_box; exact OpR_box' hs rfl) rfl rfl ?_; rintro _ _ ⟨b2, rfl, hb2, hs, hE⟩)
      | (apply al_none (t := 4); refine JL_o (by apply as_alloc; exact OpR_alloc' hs) rfl rfl ?_; rintro _ _ ⟨b4, rfl, hb4, hs, hE⟩)
      | (apply al_unit; refine JL_u (by apply as_store; exact OpR_store' hs rfl rfl rfl) rfl ?_; rintro _ _ ⟨hs, hF⟩)
      | (apply aj_cond; refine J_cond_t rfl (by first | assumption | rfl | exact decide_eq_true (by first | assumption | omega) | exact decide_eq_false (by first | assumption | omega)) ?_))
    refine J_leave Tryd.func14 rfl (.agg' hs rfl rfl (.tmp rfl .nil)) ⟨rfl, hs.frm.ext⟩
theorem who_r (w : World) (hG : Gz w) (a : Option Addr) (n c : Nat) (xs : List Sp) (s1 s2 : Int) (h : Sl dSp All w a n c xs) :
    Ret Tryd.prog 39 #[.agg #[.slice a n c], .agg #[.int .i64 s1, .int .i64 s2]] w fun v w' => v = .int .i64 (whoM xs (s1, s2)) ∧ Ext w w' := by
  refine Ret_of (l := [_, _]) Tryd.func39 rfl Tryd.ntmps39 (by simp) ?_
  have hs := St.init w
  obtain ⟨st, hst⟩ : ∃ st, st = standG 0 xs := ⟨_, rfl⟩
  repeat' (first
    | ((apply al_call 33; refine JL_o (by exact OpR_callF en33 rfl (standing_r _ _ n c)) rfl rfl ?_; rintro _ _ ⟨bi, rfl, hf⟩; have hs := hs.fresh hf; (try simp only [List.cons_append, List.nil_append] at hs)))
    | (apply JL_nil)
    | ((apply JL_pure); (first
      | (apply as_assign; exact OpR_assign rfl is_rfl)
      | (apply as_load; exact OpR_load_agg' hs rfl is_rfl)); first | (exact rfl; exact rfl) | exact rfl)
    | (apply J_seq)
    | (apply J_region)
    | (apply J_block)
    | (apply J_label)
    | (apply J_scope)
    | (apply al_none (t := 2); refine JL_o (by apply as_box; exact OpR_box' hs rfl) rfl rfl ?_; rintro _ _ ⟨b2, rfl, hb2, hs, hE⟩)
    | (apply al_none (t := 3); refine JL_o (by apply as_box; exact OpR_box' hs rfl) rfl rfl ?_; rintro _ _ ⟨b3, rfl, hb3, hs, hE⟩)
    | (apply al_none (t := 5); refine JL_o (by apply as_alloc; exact OpR_alloc' hs) rfl rfl ?_; rintro _ _ ⟨b5, rfl, hb5, hs, hE⟩)
    | (apply al_unit; refine JL_u (by apply as_store; exact OpR_store' hs rfl rfl rfl) rfl ?_; rintro _ _ ⟨hs, hF⟩))
  have hbi := hs.blk (b := bi)
  have hbl := hs.lt (b := bi)
  have hs : St w NoF _ ([Blk b5 (.cells #[.int .i64 0] 3 (0, 0)), Blk b3 (.cells #[.int .i64 s1, .int .i64 s2] 34 (0, 0))] ++ [Blk bi _, Blk b2 _]) := hs.sel [1, 2, 0, 3] (by decide)
  refine J_range (ps := [10, 11]) hs rfl ⟨47, #[ptr bi], rfl, en47⟩ (standIt_ok _ (hG.st hs) bi _ n c 24 xs (h.st hs) hbi)
    (fun k A => A = [Blk b5 (.cells #[.int .i64 0] 3 (0, 0)), Blk b3 (.cells #[.int .i64 s1, .int .i64 s2] 34 (0, 0))] ∧ ∀ p ∈ st.take k, ¬ p.2 = (s1, s2))
    (fun j A => j = .exit 0 ∧ A = [Blk b5 (.cells #[.int .i64 (whoM xs (s1, s2))] 3 (0, 0)), Blk b3 (.cells #[.int .i64 s1, .int .i64 s2] 34 (0, 0))]) ⟨rfl, by simp⟩ ?_ (by decide) ?_ ?_ ?_ ?_
  · rintro k (rfl | rfl | hk)
    · exact ⟨rfl, fun hk => hs.sepA (.head _) hk (blk_foot _ _), hbl⟩
    · exact ⟨rfl, fun hf => by have := hs.foot0 0 hf; have := hG.lt; omega, (hG.st hs).lt⟩
    · have h1 := h.belowF k hk
      exact ⟨rfl, fun hf => by have := hs.foot0 k hf; omega, Nat.lt_of_lt_of_le h1 hs.frm.size⟩
  · rintro i vals cx ⟨_, _, rfl, _⟩; rfl
  · rintro l D tm k w1 A1 cx vals hD hDl hk ⟨rfl, hm2⟩ ⟨p, hp, rfl, rfl⟩ hh -
    rw [← hst] at hp hk
    have hs : St _ _ _ [_, _, _] := hh.st
    have htk : st.take (k + 1) = st.take k ++ [p] := by rw [List.take_add_one, hp]; rfl
    by_cases he : p.2.1 = s1 ∧ p.2.2 = s2
    · have he2 : p.2 = (s1, s2) := Prod.ext he.1 he.2
      have hw : whoM xs (s1, s2) = p.1 := by
        unfold whoM
        have : st.find? (fun p => decide (p.2 = (s1, s2))) = some p := by
          have e1 : st = st.take k ++ p :: st.drop (k + 1) := by
            obtain ⟨q1, q2⟩ := List.getElem?_eq_some_iff.1 hp
            conv => lhs; rw [← List.take_append_drop k st, List.drop_eq_getElem_cons q1, q2]
          rw [e1, List.find?_append, List.find?_eq_none.2 (fun q hq => by simpa using hm2 q hq)]
          simp [List.find?_cons, he2]
        rw [← hst, this]; rfl
      repeat' (first
        | ((refine J_beginRound hs (fun w2 hs => ?_)))
        | (apply JL_nil)
        | ((apply JL_pure); (first
      | (apply as_move; exact OpR_move rfl is_rfl)
      | (apply as_assign; exact OpR_assign rfl is_rfl)
      | (apply as_load; exact OpR_load_agg' hs rfl is_rfl)
      | (apply as_binOp; exact OpR_eqT rfl rfl is_rfl)); first | (exact rfl; exact rfl) | exact rfl)
        | (apply J_seq)
        | (apply J_region)
        | (apply J_block)
        | (apply al_none (t := 7); refine JL_o (by apply as_alloc; exact OpR_alloc' hs) rfl rfl ?_; rintro _ _ ⟨b7, rfl, hb7, hs, hE⟩)
        | (apply al_unit; refine JL_u (by apply as_store; exact OpR_store' hs rfl rfl rfl) rfl ?_; rintro _ _ ⟨hs, hF⟩)
        | (apply aj_cond; refine J_dec_t rfl (by first | assumption | omega) ?_))
      have hs : St _ _ _ [_, _, _] := hs.sel [1, 2, 3] (by decide)
      refine J_roundExit hs rfl (fun w3 hs => .inr ⟨rfl, .exit 0, [Blk b5 (.cells #[.int .i64 p.1] 3 (0, 0)), Blk b3 (.cells #[.int .i64 s1, .int .i64 s2] 34 (0, 0))], ⟨rfl, by rw [hw]⟩, St.turned (M := []) hs⟩)
    · repeat' (first
        | ((refine J_beginRound hs (fun w2 hs => ?_)))
        | (apply JL_nil)
        | ((apply JL_pure); (first
      | (apply as_assign; exact OpR_assign rfl is_rfl)
      | (apply as_load; exact OpR_load_agg' hs rfl is_rfl)
      | (apply as_binOp; exact OpR_eqT rfl rfl is_rfl)); first | (exact rfl; exact rfl) | exact rfl)
        | (apply J_seq)
        | (apply J_region)
        | (apply J_block)
        | (apply J_inBlock)
        | (apply J_skip)
        | (apply al_none (t := 7); refine JL_o (by apply as_alloc; exact OpR_alloc' hs) rfl rfl ?_; rintro _ _ ⟨b7, rfl, hb7, hs, hE⟩)
        | (apply al_unit; refine JL_u (by apply as_store; exact OpR_store' hs rfl rfl rfl) rfl ?_; rintro _ _ ⟨hs, hF⟩)
        | (apply aj_cond; refine J_dec_f rfl (by first | assumption | omega) ?_))
      have hs : St _ _ _ [_, _, _] := hs.sel [1, 2, 3] (by decide)
      refine J_roundEnd hs (fun w3 hs => .inl ⟨rfl, _, ⟨rfl, ?_⟩, St.turned (M := []) hs⟩)
      rw [htk]; intro q hq
      rcases List.mem_append.1 hq with hq | hq
      · exact hm2 q hq
      · rw [List.mem_singleton.1 hq]; exact fun e => he ⟨by rw [e], by rw [e]⟩
  · rintro w2 D A2 ⟨rfl, hm2⟩ hs
    have hs : St _ _ _ [_, _, _, _, _] := hs
    rw [← hst, List.take_length] at hm2
    have hw : whoM xs (s1, s2) = 0 := by
      unfold whoM
      rw [← hst, List.find?_eq_none.2 (fun q hq => by simpa using hm2 q hq)]; rfl
    rw [hw]
    repeat' (first
      | ((refine J_retL (Lv_coll hs (fun w3 hs => Lv_nil Tryd.func39 rfl (.tmp rfl .nil) ⟨rfl, hs.frm.ext⟩))))
      | (apply JL_nil)
      | ((apply JL_pure); (first
      | (apply as_assign; exact OpR_assign rfl is_rfl)
      | (apply as_load; exact OpR_load' hs rfl rfl is_rfl)); first | (exact rfl; exact rfl) | exact rfl)
      | (apply J_seq)
      | (apply J_region)
      | (apply J_inBlock))
  · rintro w2 D A2 j ⟨rfl, rfl⟩ hs
    have hs : St _ _ _ [_, _, _, _, _] := hs
    repeat' (first
      | ((refine J_retL (Lv_coll hs (fun w3 hs => Lv_nil Tryd.func39 rfl (.tmp rfl .nil) ⟨rfl, hs.frm.ext⟩))))
      | (apply JL_nil)
      | ((apply JL_pure); (first
      | (apply as_assign; exact OpR_assign rfl is_rfl)
      | (apply as_load; exact OpR_load' hs rfl rfl is_rfl)); first | (exact rfl; exact rfl) | exact rfl)
      | (apply J_seq)
      | (apply J_region)
      | (apply aj_exit; refine J_exit rfl ?_))
theorem Who_r (w : World) (hG : Gz w) (a : Option Addr) (n c : Nat) (xs : List Sp) (s1 s2 : Int) (h : Sl dSp All w a n c xs) :
    Ret Tryd.prog 19 #[.agg #[.slice a n c], .agg #[.int .i64 s1, .int .i64 s2]] w fun v w' => v = .tuple #[.int .i64 (if rightB xs then whoM xs (s1, s2) else 0 : Nat), .bool (decide (0 < (if rightB xs then whoM xs (s1, s2) else 0 : Nat)))] ∧ Ext w w' := by
  refine Ret_of (l := [_, _]) Tryd.func19 rfl Tryd.ntmps19 (by simp) ?_
  have hs := St.init w
  by_cases hr : rightB xs = true
  · rw [if_pos hr]
    repeat' (first
      | ((apply al_call 11; refine JL_o (by exact OpR_callF en11 rfl (check_v (hG.st hs) (h.st hs) hr)) rfl rfl ?_; rintro _ _ ⟨rfl, hE⟩; have hs := hs.ext hE; (try simp only [List.cons_append, List.nil_append] at hs)))
      | ((apply al_call 39; refine JL_o (by exact OpR_callF en39 rfl (who_r _ (hG.st hs) a n c xs s1 s2 (h.st hs))) rfl rfl ?_; rintro _ _ ⟨rfl, hE⟩; have hs := hs.ext hE; (try simp only [List.cons_append, List.nil_append] at hs)))
      | (apply JL_nil)
      | ((apply JL_pure); (first
      | (apply as_move; exact OpR_move rfl is_rfl)
      | (apply as_assign; exact OpR_assign rfl is_rfl)
      | (apply as_load; exact OpR_load_agg' hs rfl is_rfl)
      | (apply as_binOp; exact OpR_ibin rfl rfl rfl is_rfl)); first | (exact rfl; exact rfl) | exact rfl)
      | (apply J_seq)
      | (apply J_region)
      | (apply J_skip)
      | (apply al_none (t := 2); refine JL_o (by apply as_box; exact OpR_box' hs rfl) rfl rfl ?_; rintro _ _ ⟨b2, rfl, hb2, hs, hE⟩)
      | (apply al_none (t := 3); refine JL_o (by apply as_box; exact OpR_box' hs rfl) rfl rfl ?_; rintro _ _ ⟨b3, rfl, hb3, hs, hE⟩)
      | (apply aj_cond; refine J_cond_f rfl (by first | assumption | rfl | exact decide_eq_true (by first | assumption | omega) | exact decide_eq_false (by first | assumption | omega)) ?_))
    refine J_leave Tryd.func19 rfl (.tmp rfl (.tmp rfl .nil)) ⟨?_, hs.frm.ext⟩
    simp [mkRes]
  · rw [if_neg hr]
    have hr' : rightB xs = false := by simpa using hr
    repeat' (first
      | ((apply al_call 11; refine JL_o (by exact OpR_callF en11 rfl (check_v (hG.st hs) (h.st hs) hr')) rfl rfl ?_; rintro _ _ ⟨rfl, hE⟩; have hs := hs.ext hE; (try simp only [List.cons_append, List.nil_append] at hs)))
      | (apply JL_nil)
      | ((apply JL_pure); (first
      | (apply as_assign; exact OpR_assign rfl is_rfl)
      | (apply as_load; exact OpR_load_agg' hs rfl is_rfl)
      | (apply as_binOp; exact OpR_ibin rfl rfl rfl is_rfl)); first | (exact rfl; exact rfl) | exact rfl)
      | (apply J_seq)
      | (apply J_region)
      | (apply al_none (t := 2); refine JL_o (by apply as_box; exact OpR_box' hs rfl) rfl rfl ?_; rintro _ _ ⟨b2, rfl, hb2, hs, hE⟩)
      | (apply al_none (t := 3); refine JL_o (by apply as_box; exact OpR_box' hs rfl) rfl rfl ?_; rintro _ _ ⟨b3, rfl, hb3, hs, hE⟩)
      | (apply aj_cond; refine J_cond_t rfl (by first | assumption | rfl | exact decide_eq_true (by first | assumption | omega) | exact decide_eq_false (by first | assumption | omega)) ?_))
    refine J_leave Tryd.func19 rfl (.tmp rfl (.tmp rfl .nil)) ⟨rfl, hs.frm.ext⟩
end Go.Eng
/- Record: slices.Equal, Same, Contains, Index; the reference's At. -/
namespace Go.Eng
open Go.Proofs
theorem take_eq_succ {α : Type} {xs ys : List α} {k : Nat} {x : α} (hx : xs[k]? = some x) (hy : ys[k]? = some x) (h : xs.take k = ys.take k) : xs.take (k + 1) = ys.take (k + 1) := by
  rw [List.take_add_one, List.take_add_one, hx, hy, h]
attribute [local irreducible] J JL JD JX JXat OpR OpG Ret RetV Is Blk Row MapC
set_option maxRecDepth 100000
set_option maxHeartbeats 1000000
set_option linter.unusedSimpArgs false
set_option linter.unusedVariables false
theorem equal35_r (w : World) (a1 a2 : Option Addr) (n1 c1 n2 c2 : Nat) (xs ys : List Sp) (h1 : Sl dSp All w a1 n1 c1 xs) (h2 : Sl dSp All w a2 n2 c2 ys) :
    Ret Tryd.prog 35 #[.slice a1 n1 c1, .slice a2 n2 c2] w fun v w' => v = .bool (decide (xs = ys)) ∧ Ext w w' := by
  refine Ret_of (l := [_, _]) Tryd.func35 rfl Tryd.ntmps35 (by simp) ?_
  have hs := St.init w
  have hl1 := h1.len
  have hl2 := h2.len
  have hc1 := h1.le
  have hm1 := h1.cap
  unfold maxLen at hm1
  by_cases hn : n1 = n2
  · subst hn
    repeat' (first
      | (apply JL_nil)
      | ((apply JL_pure); (first
      | (apply as_move; exact OpR_move rfl is_rfl)
      | (apply as_assign; exact OpR_assign rfl is_rfl)
      | (apply as_binOp; exact OpR_ibin rfl rfl rfl is_rfl)
      | (apply as_b_len; exact OpR_len rfl is_rfl)); first | (exact rfl; exact rfl) | exact rfl)
      | (apply J_seq)
      | (apply J_region)
      | (apply J_block)
      | (apply J_skip)
      | (apply aj_cond; refine J_dec_f rfl (by first | assumption | omega) ?_))
    refine J_loopK (α := Nat) [(0, _), (1, _), (12, _)] (fun k => [(13, .int .i64 k)]) (fun k w' => St w NoF w' [] ∧ k ≤ n1 ∧ xs.take k = ys.take k) (fun k => n1 - k) 0 ⟨hs, by omega, by simp⟩ (by repeat' (first | exact trivial | exact rfl | apply And.intro)) ?_
    rintro k w' ⟨hs, hk, hj⟩ ih
    by_cases hlt : k < n1
    · obtain ⟨p1, o1, rfl⟩ := h1.sl.addr (by omega)
      obtain ⟨p2, o2, rfl⟩ := h2.sl.addr (by omega)
      have hx : xs[k]? = some xs[k] := List.getElem?_eq_getElem (by omega)
      have hy : ys[k]? = some ys[k] := List.getElem?_eq_getElem (by omega)
      obtain ⟨x, hxd⟩ : ∃ x, x = xs[k] := ⟨_, rfl⟩
      obtain ⟨y, hyd⟩ : ∃ y, y = ys[k] := ⟨_, rfl⟩
      rw [← hxd] at hx
      rw [← hyd] at hy
      by_cases he : x.1 = y.1 ∧ x.2 = y.2
      · have he2 : x = y := Prod.ext he.1 he.2
        repeat' (first
          | (apply JL_nil)
          | ((first | (apply JL_pure) | (apply JX_f; exact rfl; intro W X hs)); (first
      | (apply as_load; first | exact OpR_load_el (h1.st hs) hx rfl rfl is_rfl | exact OpR_load_el (h2.st hs) hy rfl rfl is_rfl)
      | (apply as_move; exact OpR_move rfl is_rfl)
      | (apply as_assign; exact OpR_assign rfl is_rfl)
      | (apply as_add; exact OpR_addn rfl rfl (by omega) (by first | (simp only [Int.reduceAdd]; exact rfl) | exact rfl) is_rfl)
      | (apply as_binOp; first | exact OpR_ibin rfl rfl rfl is_rfl | exact OpR_neT rfl rfl is_rfl)
      | (apply as_indexAddr; exact OpR_indexAddr rfl rfl (by omega) (by omega) is_rfl)); first | (exact rfl; exact rfl) | exact rfl)
          | (apply J_seq)
          | (apply J_region)
          | (apply J_block)
          | (apply J_inBlock)
          | (apply J_skip)
          | (apply aj_cond; first | refine J_dec_t rfl (by first | assumption | omega) ?_ | refine J_dec_f rfl (by first | assumption | omega) ?_)
          | (apply aj_draw; (refine J_drawX (id := 6) [0, 0, 3, 7, 0, 0, 48, 112, 255] [(0, 0), (1, 0), (2, 0), (3, 0), (4, 0), (5, 0), (6, 0), (7, 0), (8, 0)] [] hs mixed (by kernel_rfl) (by kernel_rfl) (by kernel_rfl) (by kernel_rfl) (by kernel_rfl) ?_))
          | (refine JX_done (fun W hs => ?_))
          | (apply JD_done))
        refine ih (k + 1) _ _ ⟨hs, by omega, take_eq_succ hx (by rw [hy, he2]) hj⟩ (by omega) (by repeat' (first | exact trivial | exact rfl | apply And.intro))
      · repeat' (first
          | (apply JL_nil)
          | ((first | (apply JL_pure) | (apply JX_f; exact rfl; intro W X hs)); (first
      | (apply as_load; first | exact OpR_load_el (h1.st hs) hx rfl rfl is_rfl | exact OpR_load_el (h2.st hs) hy rfl rfl is_rfl)
      | (apply as_move; exact OpR_move rfl is_rfl)
      | (apply as_assign; exact OpR_assign rfl is_rfl)
      | (apply as_binOp; first | exact OpR_ibin rfl rfl rfl is_rfl | exact OpR_neT rfl rfl is_rfl)
      | (apply as_indexAddr; exact OpR_indexAddr rfl rfl (by omega) (by omega) is_rfl)); first | (exact rfl; exact rfl) | exact rfl)
          | (apply J_seq)
          | (apply J_region)
          | (apply J_block)
          | (apply J_skip)
          | (apply aj_cond; refine J_dec_t rfl (by first | assumption | omega) ?_)
          | (apply aj_draw; (refine J_drawX (id := 6) [0, 0, 3, 7, 0, 0, 48, 112, 255] [(0, 0), (1, 0), (2, 0), (3, 0), (4, 0), (5, 0), (6, 0), (7, 0), (8, 0)] [] hs mixed (by kernel_rfl) (by kernel_rfl) (by kernel_rfl) (by kernel_rfl) (by kernel_rfl) ?_))
          | (refine JX_done (fun W hs => ?_))
          | (apply JD_done))
        refine J_leave Tryd.func35 rfl (.tmp rfl .nil) ⟨?_, hs.frm.ext⟩
        have : xs ≠ ys := fun e => he (by rw [e, hy] at hx; injection hx with hx; rw [hx]; exact ⟨rfl, rfl⟩)
        rw [decide_eq_false this]; rfl
    · rw [List.take_of_length_le (by omega), List.take_of_length_le (by omega)] at hj
      repeat' (first
        | (apply JL_nil)
        | ((apply JL_pure); (first
      | (apply as_assign; exact OpR_assign rfl is_rfl)
      | (apply as_binOp; exact OpR_ibin rfl rfl rfl is_rfl)); first | (exact rfl; exact rfl) | exact rfl)
        | (apply J_seq)
        | (apply J_region)
        | (apply aj_exit; refine J_exit rfl ?_)
        | (apply aj_cond; refine J_dec_f rfl (by first | assumption | omega) ?_))
      refine J_leave Tryd.func35 rfl (.tmp rfl .nil) ⟨?_, hs.frm.ext⟩
      rw [decide_eq_true hj]; rfl
  · repeat' (first
      | (apply JL_nil)
      | ((apply JL_pure); (first
      | (apply as_move; exact OpR_move rfl is_rfl)
      | (apply as_assign; exact OpR_assign rfl is_rfl)
      | (apply as_binOp; exact OpR_ibin rfl rfl rfl is_rfl)
      | (apply as_b_len; exact OpR_len rfl is_rfl)); first | (exact rfl; exact rfl) | exact rfl)
      | (apply J_seq)
      | (apply J_region)
      | (apply aj_cond; refine J_dec_t rfl (by first | assumption | omega) ?_))
    refine J_leave Tryd.func35 rfl (.tmp rfl .nil) ⟨?_, hs.frm.ext⟩
    have : xs ≠ ys := by intro e; subst e; omega
    rw [decide_eq_false this]; rfl
theorem same12_r (w : World) (a1 a2 : Option Addr) (n1 c1 n2 c2 : Nat) (xs ys : List Sp) (h1 : Sl dSp All w a1 n1 c1 xs) (h2 : Sl dSp All w a2 n2 c2 ys) :
    Ret Tryd.prog 12 #[.agg #[.slice a1 n1 c1], .agg #[.slice a2 n2 c2]] w fun v w' => v = .bool (decide (xs = ys)) ∧ Ext w w' := by
  refine Ret_of (l := [_, _]) Tryd.func12 rfl Tryd.ntmps12 (by simp) ?_
  have hs := St.init w
  repeat' (first
    | ((apply al_call 35; refine JL_o (by exact OpR_callF en35 rfl (equal35_r _ a1 a2 n1 c1 n2 c2 xs ys (h1.st hs) (h2.st hs))) rfl rfl ?_; rintro _ _ ⟨rfl, hE⟩; have hs := hs.ext hE; (try simp only [List.cons_append, List.nil_append] at hs)))
    | (apply JL_nil)
    | ((apply JL_pure); (first
      | (apply as_assign; exact OpR_assign rfl is_rfl)
      | (apply as_fieldAddr; exact OpR_fieldAddr0 rfl rfl is_rfl)
      | (apply as_load; exact OpR_load' hs rfl rfl is_rfl)); first | (exact rfl; exact rfl) | exact rfl)
    | (apply J_seq)
    | (apply J_region)
    | (apply al_none (t := 2); refine JL_o (by apply as_box; exact OpR_box' hs rfl) rfl rfl ?_; rintro _ _ ⟨b2, rfl, hb2, hs, hE⟩)
    | (apply al_none (t := 3); refine JL_o (by apply as_box; exact OpR_box' hs rfl) rfl rfl ?_; rintro _ _ ⟨b3, rfl, hb3, hs, hE⟩))
  refine J_leave Tryd.func12 rfl (.tmp rfl .nil) ⟨rfl, hs.frm.ext⟩
theorem same13_r (w : World) (a1 a2 : Option Addr) (n1 c1 n2 c2 : Nat) (xs ys : List Sp) (h1 : Sl dSp All w a1 n1 c1 xs) (h2 : Sl dSp All w a2 n2 c2 ys) :
    Ret Tryd.prog 13 #[.agg #[.slice a1 n1 c1], .agg #[.slice a2 n2 c2]] w fun v w' => v = .bool (decide (xs = ys)) ∧ Ext w w' := by
  refine Ret_of (l := [_, _]) Tryd.func13 rfl Tryd.ntmps13 (by simp) ?_
  have hs := St.init w
  have hl1 := h1.len
  have hl2 := h2.len
  have hc1 := h1.le
  have hm1 := h1.cap
  unfold maxLen at hm1
  by_cases hn : n1 = n2
  · subst hn
    repeat' (first
      | (apply JL_nil)
      | ((apply JL_pure); (first
      | (apply as_move; exact OpR_move rfl is_rfl)
      | (apply as_assign; exact OpR_assign rfl is_rfl)
      | (apply as_fieldAddr; exact OpR_fieldAddr0 rfl rfl is_rfl)
      | (apply as_load; exact OpR_load' hs rfl rfl is_rfl)
      | (apply as_binOp; exact OpR_ibin rfl rfl rfl is_rfl)
      | (apply as_b_len; exact OpR_len rfl is_rfl)); first | (exact rfl; exact rfl) | exact rfl)
      | (apply J_seq)
      | (apply J_region)
      | (apply J_block)
      | (apply J_skip)
      | (apply al_none (t := 2); refine JL_o (by apply as_box; exact OpR_box' hs rfl) rfl rfl ?_; rintro _ _ ⟨b2, rfl, hb2, hs, hE⟩)
      | (apply al_none (t := 3); refine JL_o (by apply as_box; exact OpR_box' hs rfl) rfl rfl ?_; rintro _ _ ⟨b3, rfl, hb3, hs, hE⟩)
      | (apply aj_cond; refine J_dec_f rfl (by first | assumption | omega) ?_))
    refine J_loopK (α := Nat) [(3, _), (15, _), (16, _)] (fun k => [(17, .int .i64 k)]) (fun k w' => St w NoF w' [Blk b3 (.cells #[.slice a2 n1 c2] 24 (0, 0))] ∧ k ≤ n1 ∧ xs.take k = ys.take k) (fun k => n1 - k) 0 ⟨hs.sel [0] (by decide), by omega, by simp⟩ (by repeat' (first | exact trivial | exact rfl | apply And.intro)) ?_
    rintro k w' ⟨hs1, hk, hj⟩ ih
    by_cases hlt : k < n1
    · obtain ⟨p1, o1, rfl⟩ := h1.sl.addr (by omega)
      obtain ⟨p2, o2, rfl⟩ := h2.sl.addr (by omega)
      have hx : xs[k]? = some xs[k] := List.getElem?_eq_getElem (by omega)
      have hy : ys[k]? = some ys[k] := List.getElem?_eq_getElem (by omega)
      obtain ⟨x, hxd⟩ : ∃ x, x = xs[k] := ⟨_, rfl⟩
      obtain ⟨y, hyd⟩ : ∃ y, y = ys[k] := ⟨_, rfl⟩
      rw [← hxd] at hx
      rw [← hyd] at hy
      have hs : St w NoF w' [_] := hs1
      by_cases he : x.1 = y.1 ∧ x.2 = y.2
      · have he2 : x = y := Prod.ext he.1 he.2
        repeat' (first
          | (apply JL_nil)
          | ((first | (apply JL_pure) | (apply JX_f; exact rfl; intro W X hs)); (first
      | (apply as_load; first | exact OpR_load_agg' hs rfl is_rfl | exact OpR_load_el (h1.st hs) hx rfl rfl is_rfl | exact OpR_load_el (h2.st hs) hy rfl rfl is_rfl)
      | (apply as_move; exact OpR_move rfl is_rfl)
      | (apply as_assign; exact OpR_assign rfl is_rfl)
      | (apply as_fieldAddr; exact OpR_fieldAddr0 rfl rfl is_rfl)
      | (apply as_load; exact OpR_load' hs rfl rfl is_rfl)
      | (apply as_add; exact OpR_addn rfl rfl (by omega) (by first | (simp only [Int.reduceAdd]; exact rfl) | exact rfl) is_rfl)
      | (apply as_binOp; first | exact OpR_ibin rfl rfl rfl is_rfl | exact OpR_neT rfl rfl is_rfl)
      | (apply as_indexAddr; exact OpR_indexAddr rfl rfl (by omega) (by omega) is_rfl)); first | (exact rfl; exact rfl) | exact rfl)
          | (apply J_seq)
          | (apply J_region)
          | (apply J_block)
          | (apply J_inBlock)
          | (apply J_skip)
          | (apply al_none (t := 6); refine JL_o (by apply as_alloc; exact OpR_alloc' hs) rfl rfl ?_; rintro _ _ ⟨b6, rfl, hb6, hs, hE⟩)
          | (apply al_unit; refine JL_u (by apply as_store; exact OpR_store' hs rfl rfl rfl) rfl ?_; rintro _ _ ⟨hs, hF⟩)
          | (apply aj_cond; first | refine J_dec_t rfl (by first | assumption | omega) ?_ | refine J_dec_f rfl (by first | assumption | omega) ?_)
          | (apply aj_draw; (refine J_drawX (id := 6) [0, 0, 2, 0, 14, 30, 63] [(0, 0), (1, 0), (2, 0), (3, 0), (4, 0), (5, 0), (6, 0)] [] hs mixed (by kernel_rfl) (by kernel_rfl) (by kernel_rfl) (by kernel_rfl) (by kernel_rfl) ?_))
          | (refine JX_done (fun W hs => ?_))
          | (apply JD_done))
        refine ih (k + 1) _ _ ⟨hs.sel [1] (by decide), by omega, take_eq_succ hx (by rw [hy, he2]) hj⟩ (by omega) (by repeat' (first | exact trivial | exact rfl | apply And.intro))
      · repeat' (first
          | (apply JL_nil)
          | ((first | (apply JL_pure) | (apply JX_f; exact rfl; intro W X hs)); (first
      | (apply as_load; first | exact OpR_load_agg' hs rfl is_rfl | exact OpR_load_el (h1.st hs) hx rfl rfl is_rfl | exact OpR_load_el (h2.st hs) hy rfl rfl is_rfl)
      | (apply as_move; exact OpR_move rfl is_rfl)
      | (apply as_assign; exact OpR_assign rfl is_rfl)
      | (apply as_fieldAddr; exact OpR_fieldAddr0 rfl rfl is_rfl)
      | (apply as_load; exact OpR_load' hs rfl rfl is_rfl)
      | (apply as_binOp; first | exact OpR_ibin rfl rfl rfl is_rfl | exact OpR_neT rfl rfl is_rfl)
      | (apply as_indexAddr; exact OpR_indexAddr rfl rfl (by omega) (by omega) is_rfl)); first | (exact rfl; exact rfl) | exact rfl)
          | (apply J_seq)
          | (apply J_region)
          | (apply J_block)
          | (apply J_skip)
          | (apply al_none (t := 6); refine JL_o (by apply as_alloc; exact OpR_alloc' hs) rfl rfl ?_; rintro _ _ ⟨b6, rfl, hb6, hs, hE⟩)
          | (apply al_unit; refine JL_u (by apply as_store; exact OpR_store' hs rfl rfl rfl) rfl ?_; rintro _ _ ⟨hs, hF⟩)
          | (apply aj_cond; refine J_dec_t rfl (by first | assumption | omega) ?_)
          | (apply aj_draw; (refine J_drawX (id := 6) [0, 0, 2, 0, 14, 30, 63] [(0, 0), (1, 0), (2, 0), (3, 0), (4, 0), (5, 0), (6, 0)] [] hs mixed (by kernel_rfl) (by kernel_rfl) (by kernel_rfl) (by kernel_rfl) (by kernel_rfl) ?_))
          | (refine JX_done (fun W hs => ?_))
          | (apply JD_done))
        refine J_leave Tryd.func13 rfl (.tmp rfl .nil) ⟨?_, hs.frm.ext⟩
        have : xs ≠ ys := fun e => he (by rw [e, hy] at hx; injection hx with hx; rw [hx]; exact ⟨rfl, rfl⟩)
        rw [decide_eq_false this]; rfl
    · rw [List.take_of_length_le (by omega), List.take_of_length_le (by omega)] at hj
      have hs : St w NoF w' [_] := hs1
      repeat' (first
        | (apply JL_nil)
        | ((apply JL_pure); (first
      | (apply as_assign; exact OpR_assign rfl is_rfl)
      | (apply as_binOp; exact OpR_ibin rfl rfl rfl is_rfl)); first | (exact rfl; exact rfl) | exact rfl)
        | (apply J_seq)
        | (apply J_region)
        | (apply aj_exit; refine J_exit rfl ?_)
        | (apply aj_cond; refine J_dec_f rfl (by first | assumption | omega) ?_))
      refine J_leave Tryd.func13 rfl (.tmp rfl .nil) ⟨?_, hs.frm.ext⟩
      rw [decide_eq_true hj]; rfl
  · repeat' (first
      | (apply JL_nil)
      | ((apply JL_pure); (first
      | (apply as_assign; exact OpR_assign rfl is_rfl)
      | (apply as_fieldAddr; exact OpR_fieldAddr0 rfl rfl is_rfl)
      | (apply as_load; exact OpR_load' hs rfl rfl is_rfl)
      | (apply as_binOp; exact OpR_ibin rfl rfl rfl is_rfl)
      | (apply as_b_len; exact OpR_len rfl is_rfl)); first | (exact rfl; exact rfl) | exact rfl)
      | (apply J_seq)
      | (apply J_region)
      | (apply al_none (t := 2); refine JL_o (by apply as_box; exact OpR_box' hs rfl) rfl rfl ?_; rintro _ _ ⟨b2, rfl, hb2, hs, hE⟩)
      | (apply al_none (t := 3); refine JL_o (by apply as_box; exact OpR_box' hs rfl) rfl rfl ?_; rintro _ _ ⟨b3, rfl, hb3, hs, hE⟩)
      | (apply aj_cond; refine J_dec_t rfl (by first | assumption | omega) ?_))
    refine J_leave Tryd.func13 rfl (.tmp rfl .nil) ⟨?_, hs.frm.ext⟩
    have : xs ≠ ys := by intro e; subst e; omega
    rw [decide_eq_false this]; rfl
end Go.Eng
/- Record: Equal, Index, Contains, Clone of ints and spots; the reference's Spot, At, Who; own. -/
namespace Go.Eng
open Go.Proofs
def spotR (p : Sp) : Bool := decide ((((0 ≤ p.1 ∧ p.1 ≤ 1048576) ∧ 0 ≤ p.2) ∧ p.2 ≤ 1048578) ∧ (0 < p.1 ∨ p.2 = 0))
attribute [local irreducible] J JL JD JX JXat OpR OpG Ret RetV Is Blk Row MapC
set_option maxRecDepth 100000
set_option maxHeartbeats 1000000
set_option linter.unusedSimpArgs false
set_option linter.unusedVariables false
theorem equal18_r (w : World) (a1 a2 : Option Addr) (n1 c1 n2 c2 : Nat) (xs ys : List Int) (h1 : Sl (tInt .i64) All w a1 n1 c1 xs) (h2 : Sl (tInt .i64) All w a2 n2 c2 ys) :
    Ret Tryd.prog 18 #[.slice a1 n1 c1, .slice a2 n2 c2] w fun v w' => v = .bool (decide (xs = ys)) ∧ Ext w w' := by
  refine Ret_of (l := [_, _]) Tryd.func18 rfl Tryd.ntmps18 (by simp) ?_
  have hs := St.init w
  have hl1 := h1.len
  have hl2 := h2.len
  have hc1 := h1.le
  have hm1 := h1.cap
  unfold maxLen at hm1
  by_cases hn : n1 = n2
  · subst hn
    repeat' (first
      | (apply JL_nil)
      | ((apply JL_pure); (first
      | (apply as_move; exact OpR_move rfl is_rfl)
      | (apply as_assign; exact OpR_assign rfl is_rfl)
      | (apply as_binOp; exact OpR_ibin rfl rfl rfl is_rfl)
      | (apply as_b_len; exact OpR_len rfl is_rfl)); first | (exact rfl; exact rfl) | exact rfl)
      | (apply J_seq)
      | (apply J_region)
      | (apply J_block)
      | (apply J_skip)
      | (apply aj_cond; refine J_dec_f rfl (by first | assumption | omega) ?_))
    refine J_loopK (α := Nat) [(0, _), (1, _), (12, _)] (fun k => [(13, .int .i64 k)]) (fun k w' => St w NoF w' [] ∧ k ≤ n1 ∧ xs.take k = ys.take k) (fun k => n1 - k) 0 ⟨hs, by omega, by simp⟩ (by repeat' (first | exact trivial | exact rfl | apply And.intro)) ?_
    rintro k w' ⟨hs, hk, hj⟩ ih
    by_cases hlt : k < n1
    · obtain ⟨p1, o1, rfl⟩ := h1.sl.addr (by omega)
      obtain ⟨p2, o2, rfl⟩ := h2.sl.addr (by omega)
      have hx : xs[k]? = some xs[k] := List.getElem?_eq_getElem (by omega)
      have hy : ys[k]? = some ys[k] := List.getElem?_eq_getElem (by omega)
      obtain ⟨x, hxd⟩ : ∃ x, x = xs[k] := ⟨_, rfl⟩
      obtain ⟨y, hyd⟩ : ∃ y, y = ys[k] := ⟨_, rfl⟩
      rw [← hxd] at hx
      rw [← hyd] at hy
      by_cases he : x = y
      · have he2 : x = y := he
        repeat' (first
          | (apply JL_nil)
          | ((first | (apply JL_pure) | (apply JX_f; exact rfl; intro W X hs)); (first
      | (apply as_load; first | exact OpR_load_int (h1.sl.st hs) rfl hx is_rfl | exact OpR_load_int (h2.sl.st hs) rfl hy is_rfl)
      | (apply as_move; exact OpR_move rfl is_rfl)
      | (apply as_assign; exact OpR_assign rfl is_rfl)
      | (apply as_add; exact OpR_addn rfl rfl (by omega) (by first | (simp only [Int.reduceAdd]; exact rfl) | exact rfl) is_rfl)
      | (apply as_binOp; exact OpR_ibin rfl rfl rfl is_rfl)
      | (apply as_indexAddr; exact OpR_indexAddr rfl rfl (by omega) (by omega) is_rfl)); first | (exact rfl; exact rfl) | exact rfl)
          | (apply J_seq)
          | (apply J_region)
          | (apply J_block)
          | (apply J_inBlock)
          | (apply J_skip)
          | (apply aj_cond; first | refine J_dec_t rfl (by first | assumption | omega) ?_ | refine J_dec_f rfl (by first | assumption | omega) ?_)
          | (apply aj_draw; (refine J_drawX (id := 6) [0, 0, 3, 7, 0, 0, 48, 112, 255] [(0, 0), (1, 0), (2, 0), (3, 0), (4, 0), (5, 0), (6, 0), (7, 0), (8, 0)] [] hs mixed (by kernel_rfl) (by kernel_rfl) (by kernel_rfl) (by kernel_rfl) (by kernel_rfl) ?_))
          | (refine JX_done (fun W hs => ?_))
          | (apply JD_done))
        refine ih (k + 1) _ _ ⟨hs, by omega, take_eq_succ hx (by rw [hy, he2]) hj⟩ (by omega) (by repeat' (first | exact trivial | exact rfl | apply And.intro))
      · repeat' (first
          | (apply JL_nil)
          | ((first | (apply JL_pure) | (apply JX_f; exact rfl; intro W X hs)); (first
      | (apply as_load; first | exact OpR_load_int (h1.sl.st hs) rfl hx is_rfl | exact OpR_load_int (h2.sl.st hs) rfl hy is_rfl)
      | (apply as_move; exact OpR_move rfl is_rfl)
      | (apply as_assign; exact OpR_assign rfl is_rfl)
      | (apply as_binOp; exact OpR_ibin rfl rfl rfl is_rfl)
      | (apply as_indexAddr; exact OpR_indexAddr rfl rfl (by omega) (by omega) is_rfl)); first | (exact rfl; exact rfl) | exact rfl)
          | (apply J_seq)
          | (apply J_region)
          | (apply J_block)
          | (apply J_skip)
          | (apply aj_cond; refine J_dec_t rfl (by first | assumption | omega) ?_)
          | (apply aj_draw; (refine J_drawX (id := 6) [0, 0, 3, 7, 0, 0, 48, 112, 255] [(0, 0), (1, 0), (2, 0), (3, 0), (4, 0), (5, 0), (6, 0), (7, 0), (8, 0)] [] hs mixed (by kernel_rfl) (by kernel_rfl) (by kernel_rfl) (by kernel_rfl) (by kernel_rfl) ?_))
          | (refine JX_done (fun W hs => ?_))
          | (apply JD_done))
        refine J_leave Tryd.func18 rfl (.tmp rfl .nil) ⟨?_, hs.frm.ext⟩
        have : xs ≠ ys := fun e => he (by rw [e, hy] at hx; injection hx with hx; rw [hx])
        rw [decide_eq_false this]; rfl
    · rw [List.take_of_length_le (by omega), List.take_of_length_le (by omega)] at hj
      repeat' (first
        | (apply JL_nil)
        | ((apply JL_pure); (first
      | (apply as_assign; exact OpR_assign rfl is_rfl)
      | (apply as_binOp; exact OpR_ibin rfl rfl rfl is_rfl)); first | (exact rfl; exact rfl) | exact rfl)
        | (apply J_seq)
        | (apply J_region)
        | (apply aj_exit; refine J_exit rfl ?_)
        | (apply aj_cond; refine J_dec_f rfl (by first | assumption | omega) ?_))
      refine J_leave Tryd.func18 rfl (.tmp rfl .nil) ⟨?_, hs.frm.ext⟩
      rw [decide_eq_true hj]; rfl
  · repeat' (first
      | (apply JL_nil)
      | ((apply JL_pure); (first
      | (apply as_move; exact OpR_move rfl is_rfl)
      | (apply as_assign; exact OpR_assign rfl is_rfl)
      | (apply as_binOp; exact OpR_ibin rfl rfl rfl is_rfl)
      | (apply as_b_len; exact OpR_len rfl is_rfl)); first | (exact rfl; exact rfl) | exact rfl)
      | (apply J_seq)
      | (apply J_region)
      | (apply aj_cond; refine J_dec_t rfl (by first | assumption | omega) ?_))
    refine J_leave Tryd.func18 rfl (.tmp rfl .nil) ⟨?_, hs.frm.ext⟩
    have : xs ≠ ys := by intro e; subst e; omega
    rw [decide_eq_false this]; rfl
theorem clone29_r (w : World) (a : Option Addr) (n c : Nat) (cells : List Value) (hsrc : Src w a n 1 cells) (hpl : 0 < n → PlainA a) (hn : n ≤ 4000000000) :
    Ret Tryd.prog 29 #[.slice a n c] w fun v w' => ∃ a' c', v = .slice a' n c' ∧ Fresh w w' [Row a' n c' 3 1 cells] := by
  refine Ret_of (l := [_]) Tryd.func29 rfl Tryd.ntmps29 (by simp) ?_
  have hs := St.init w
  have hl := hsrc.1
  cases a with
  | none =>
    have hn0 := hsrc.2.1 rfl
    subst hn0
    have : cells = [] := List.eq_nil_of_length_eq_zero (by omega)
    subst this
    repeat' (first
      | (apply JL_nil)
      | ((apply JL_pure); (first
      | (apply as_move; exact OpR_move rfl is_rfl)
      | (apply as_assign; exact OpR_assign rfl is_rfl)
      | (apply as_binOp; exact OpR_eqNil rfl rfl is_rfl)); first | (exact rfl; exact rfl) | exact rfl)
      | (apply J_seq)
      | (apply J_region)
      | (apply aj_cond; refine J_cond_t rfl (by first | assumption | rfl | exact decide_eq_true (by first | assumption | omega) | exact decide_eq_false (by first | assumption | omega)) ?_))
    have hs := hs.nilRow 3 1
    refine J_leave Tryd.func29 rfl (.tmp rfl .nil) ⟨_, _, rfl, hs.out (List.Sublist.refl _)⟩
  | some ad =>
    repeat' (first
      | ((apply al_none; refine JL_o (by apply as_buildSlice; exact OpR_buildSlice hs rfl (by omega) rfl) rfl rfl ?_; rintro _ _ ⟨b, rfl, hb, hs, hE⟩; have hs := hs.toRow 0 0 0 1 (xs := []) (Nat.le_refl _) (by unfold maxLen; omega) (by simp) rfl))
      | ((apply al_none; refine JL_o (by apply as_b_append; exact OpR_append hs rfl rfl (Src.st hsrc hs) hpl rfl (by omega) (by unfold maxLen; omega)) rfl rfl ?_; rintro _ _ ⟨a2, c2, rfl, hs, hF, hnil⟩; rw [Nat.zero_add] at hs ⊢; rw [List.nil_append] at hs))
      | (apply JL_nil)
      | ((apply JL_pure); (first
      | (apply as_move; exact OpR_move rfl is_rfl)
      | (apply as_assign; exact OpR_assign rfl is_rfl)
      | (apply as_binOp; exact OpR_eqNil rfl rfl is_rfl)); first | (exact rfl; exact rfl) | exact rfl)
      | (apply J_seq)
      | (apply J_region)
      | (apply J_skip)
      | (apply aj_cond; refine J_cond_f rfl (by first | assumption | rfl | exact decide_eq_true (by first | assumption | omega) | exact decide_eq_false (by first | assumption | omega)) ?_))
    refine J_leave Tryd.func29 rfl (.tmp rfl .nil) ⟨_, _, rfl, hs.out (.cons_cons _ (List.nil_sublist _))⟩
theorem clone31_r (w : World) (a : Option Addr) (n c : Nat) (cells : List Value) (hsrc : Src w a n 2 cells) (hpl : 0 < n → PlainA a) (hn : n ≤ 4000000000) :
    Ret Tryd.prog 31 #[.slice a n c] w fun v w' => ∃ a' c', v = .slice a' n c' ∧ Fresh w w' [Row a' n c' 34 2 cells] := by
  refine Ret_of (l := [_]) Tryd.func31 rfl Tryd.ntmps31 (by simp) ?_
  have hs := St.init w
  have hl := hsrc.1
  cases a with
  | none =>
    have hn0 := hsrc.2.1 rfl
    subst hn0
    have : cells = [] := List.eq_nil_of_length_eq_zero (by omega)
    subst this
    repeat' (first
      | (apply JL_nil)
      | ((apply JL_pure); (first
      | (apply as_move; exact OpR_move rfl is_rfl)
      | (apply as_assign; exact OpR_assign rfl is_rfl)
      | (apply as_binOp; exact OpR_eqNil rfl rfl is_rfl)); first | (exact rfl; exact rfl) | exact rfl)
      | (apply J_seq)
      | (apply J_region)
      | (apply aj_cond; refine J_cond_t rfl (by first | assumption | rfl | exact decide_eq_true (by first | assumption | omega) | exact decide_eq_false (by first | assumption | omega)) ?_))
    have hs := hs.nilRow 34 2
    refine J_leave Tryd.func31 rfl (.tmp rfl .nil) ⟨_, _, rfl, hs.out (List.Sublist.refl _)⟩
  | some ad =>
    repeat' (first
      | ((apply al_none; refine JL_o (by apply as_buildSlice; exact OpR_buildSlice hs rfl (by omega) rfl) rfl rfl ?_; rintro _ _ ⟨b, rfl, hb, hs, hE⟩; have hs := hs.toRow 0 0 0 2 (xs := []) (Nat.le_refl _) (by unfold maxLen; omega) (by simp) rfl))
      | ((apply al_none; refine JL_o (by apply as_b_append; exact OpR_append hs rfl rfl (Src.st hsrc hs) hpl rfl (by omega) (by unfold maxLen; omega)) rfl rfl ?_; rintro _ _ ⟨a2, c2, rfl, hs, hF, hnil⟩; rw [Nat.zero_add] at hs ⊢; rw [List.nil_append] at hs))
      | (apply JL_nil)
      | ((apply JL_pure); (first
      | (apply as_move; exact OpR_move rfl is_rfl)
      | (apply as_assign; exact OpR_assign rfl is_rfl)
      | (apply as_binOp; exact OpR_eqNil rfl rfl is_rfl)); first | (exact rfl; exact rfl) | exact rfl)
      | (apply J_seq)
      | (apply J_region)
      | (apply J_skip)
      | (apply aj_cond; refine J_cond_f rfl (by first | assumption | rfl | exact decide_eq_true (by first | assumption | omega) | exact decide_eq_false (by first | assumption | omega)) ?_))
    refine J_leave Tryd.func31 rfl (.tmp rfl .nil) ⟨_, _, rfl, hs.out (.cons_cons _ (List.nil_sublist _))⟩
theorem refAt_r (w : World) (a : Option Addr) (n c : Nat) (xs : List Sp) (i : Int) (h : Sl dSp All w a n c xs) (hi : inK .i64 i) : Ret Tryd.prog 16 #[.agg #[.slice a n c], .int .i64 i] w fun v w' => v = vSp (atM xs i) ∧ Ext w w' := by
  refine Ret_of (l := [_, _]) Tryd.func16 rfl Tryd.ntmps16 (by simp) ?_
  have hs := St.init w
  have hl := h.len
  have hc := h.le
  have hm := h.cap
  unfold maxLen at hm
  unfold atM
  by_cases hin : 1 ≤ i ∧ i ≤ xs.length
  · rw [if_pos hin]
    obtain ⟨p1, o1, rfl⟩ := h.sl.addr (by omega)
    obtain ⟨k, rfl⟩ : ∃ k : Nat, i = k + 1 := ⟨(i - 1).toNat, by omega⟩
    have e1 : ((k : Int) + 1 - 1).toNat = k := by omega
    have hx : xs[k]? = some (xs.getD k (0, 0)) := by rw [List.getD_eq_getElem?_getD, List.getElem?_eq_getElem (by omega)]; rfl
    rw [e1]
    obtain ⟨s, hsd⟩ : ∃ s, s = xs.getD k (0, 0) := ⟨_, rfl⟩
    rw [← hsd] at hx ⊢
    have e2 : (k : Int) + 1 - 1 = k := by omega
    repeat' (first
      | ((apply al_none; refine JL_pure (v := .int .i64 (k : Int)) (by apply as_sub; exact OpR_sub rfl rfl (by omega) (by rw [e2]; exact is_rfl)) rfl rfl ?_))
      | (apply JL_nil)
      | ((first | (apply JL_pure) | (apply JL_pure_on; exact rfl; (first | assumption | exact rfl | exact decide_eq_true (by first | assumption | omega) | exact decide_eq_false (by first | assumption | omega)))); (first
      | (apply as_load; exact OpR_load_el (h.st hs) hx rfl rfl is_rfl)
      | (apply as_move; exact OpR_move rfl is_rfl)
      | (apply as_fieldAddr; exact OpR_fieldAddr0 rfl rfl is_rfl)
      | (apply as_load; exact OpR_load' hs rfl rfl is_rfl)
      | (apply as_binOp; exact OpR_ibin rfl rfl rfl is_rfl)
      | (apply as_pick; exact OpR_pick_f rfl (by first | assumption | rfl | exact decide_eq_true (by first | assumption | omega) | exact decide_eq_false (by first | assumption | omega)) rfl is_rfl)
      | (apply as_b_len; exact OpR_len rfl is_rfl)
      | (apply as_indexAddr; exact OpR_indexAddr rfl rfl (by omega) (by omega) is_rfl)); first | (exact rfl; exact rfl) | exact rfl)
      | (apply J_seq)
      | (apply J_region)
      | (apply J_skip)
      | (apply al_none (t := 2); refine JL_o (by apply as_box; exact OpR_box' hs rfl) rfl rfl ?_; rintro _ _ ⟨b2, rfl, hb2, hs, hE⟩)
      | (apply al_none (t := 4); refine JL_o (by apply as_alloc; exact OpR_alloc' hs) rfl rfl ?_; rintro _ _ ⟨b4, rfl, hb4, hs, hE⟩)
      | (apply al_unit; refine JL_u (by apply as_store; exact OpR_store' hs rfl rfl rfl) rfl ?_; rintro _ _ ⟨hs, hF⟩)
      | (apply aj_cond; refine J_dec_f rfl (by first | assumption | omega) ?_))
    refine J_leave Tryd.func16 rfl (.agg' hs rfl rfl .nil) ⟨rfl, hs.frm.ext⟩
  · rw [if_neg hin]
    by_cases h1 : i < 1
    · repeat' (first
        | (apply JL_nil)
        | ((apply JL_pure); (first
      | (apply as_move; exact OpR_move rfl is_rfl)
      | (apply as_binOp; exact OpR_ibin rfl rfl rfl is_rfl)
      | (apply as_pick; exact OpR_pick_t rfl (by first | assumption | rfl | exact decide_eq_true (by first | assumption | omega) | exact decide_eq_false (by first | assumption | omega)) rfl is_rfl)
      | (apply as_build; exact OpR_build rfl (by (simp only [bld, placesOf, splice, Value.cells, List.take_succ_cons, List.take_zero, List.drop_succ_cons, List.drop_zero, List.cons_append, List.nil_append, List.length_cons, List.length_nil, List.getElem?_cons_zero, List.getElem?_cons_succ, Option.map_some, List.append_nil, Nat.reduceAdd, Nat.reduceMul, Nat.zero_add, Nat.reduceLeDiff, and_self, if_true, List.toList_toArray, Nat.le_refl, Nat.zero_mul, Nat.one_mul]; first | done | rfl)) is_rfl)); first | (exact rfl; exact rfl) | exact rfl)
        | (apply J_seq)
        | (apply J_region)
        | (apply al_none (t := 2); refine JL_o (by apply as_box; exact OpR_box' hs rfl) rfl rfl ?_; rintro _ _ ⟨b2, rfl, hb2, hs, hE⟩)
        | (apply al_none (t := 4); refine JL_o (by apply as_alloc; exact OpR_alloc' hs) rfl rfl ?_; rintro _ _ ⟨b4, rfl, hb4, hs, hE⟩)
        | (apply al_unit; refine JL_u (by apply as_store; exact OpR_store' hs rfl rfl rfl) rfl ?_; rintro _ _ ⟨hs, hF⟩)
        | (apply al_guard; (refine JL_no rfl (by first | assumption | rfl | exact decide_eq_true (by first | assumption | omega) | exact decide_eq_false (by first | assumption | omega)) rfl ?_))
        | (apply aj_cond; refine J_cond_t rfl (by first | assumption | rfl | exact decide_eq_true (by first | assumption | omega) | exact decide_eq_false (by first | assumption | omega)) ?_))
      refine J_leave Tryd.func16 rfl (.agg' hs rfl rfl .nil) ⟨rfl, hs.frm.ext⟩
    · repeat' (first
        | (apply JL_nil)
        | ((first | (apply JL_pure) | (apply JL_pure_on; exact rfl; (first | assumption | exact rfl | exact decide_eq_true (by first | assumption | omega) | exact decide_eq_false (by first | assumption | omega)))); (first
      | (apply as_move; exact OpR_move rfl is_rfl)
      | (apply as_fieldAddr; exact OpR_fieldAddr0 rfl rfl is_rfl)
      | (apply as_load; exact OpR_load' hs rfl rfl is_rfl)
      | (apply as_binOp; exact OpR_ibin rfl rfl rfl is_rfl)
      | (apply as_pick; exact OpR_pick_f rfl (by first | assumption | rfl | exact decide_eq_true (by first | assumption | omega) | exact decide_eq_false (by first | assumption | omega)) rfl is_rfl)
      | (apply as_b_len; exact OpR_len rfl is_rfl)
      | (apply as_build; exact OpR_build rfl (by (simp only [bld, placesOf, splice, Value.cells, List.take_succ_cons, List.take_zero, List.drop_succ_cons, List.drop_zero, List.cons_append, List.nil_append, List.length_cons, List.length_nil, List.getElem?_cons_zero, List.getElem?_cons_succ, Option.map_some, List.append_nil, Nat.reduceAdd, Nat.reduceMul, Nat.zero_add, Nat.reduceLeDiff, and_self, if_true, List.toList_toArray, Nat.le_refl, Nat.zero_mul, Nat.one_mul]; first | done | rfl)) is_rfl)); first | (exact rfl; exact rfl) | exact rfl)
        | (apply J_seq)
        | (apply J_region)
        | (apply al_none (t := 2); refine JL_o (by apply as_box; exact OpR_box' hs rfl) rfl rfl ?_; rintro _ _ ⟨b2, rfl, hb2, hs, hE⟩)
        | (apply al_none (t := 4); refine JL_o (by apply as_alloc; exact OpR_alloc' hs) rfl rfl ?_; rintro _ _ ⟨b4, rfl, hb4, hs, hE⟩)
        | (apply al_unit; refine JL_u (by apply as_store; exact OpR_store' hs rfl rfl rfl) rfl ?_; rintro _ _ ⟨hs, hF⟩)
        | (apply aj_cond; refine J_dec_t rfl (by first | assumption | omega) ?_))
      refine J_leave Tryd.func16 rfl (.agg' hs rfl rfl .nil) ⟨rfl, hs.frm.ext⟩
end Go.Eng
/- Record: own; Index, Contains; the reference's Spot, Who. -/
namespace Go.Eng
open Go.Proofs
theorem Sl.takeF {α : Type} {d : Ty α} {R : Nat → Prop} {w : World} {a : Option Addr} {n c : Nat} {xs : List α} (h : Sl d R w a n c xs) {m : Nat} (hm : m ≤ n) : Sl d R w a m c (xs.take m) := by
  obtain ⟨h1, h2, h3, s⟩ := h
  have hl := s.len
  refine ⟨by omega, h2, h3, ⟨by simp; omega, fun ha => by have := s.nil ha; omega, fun hp => s.plain (by omega), fun b o ha hp => s.reg b o ha (by omega), fun i x hx => s.el i x ?_⟩⟩
  rw [List.getElem?_take] at hx
  split at hx
  · exact hx
  · cases hx
theorem take_len {α : Type} (xs : List α) (m : Nat) : xs.take (xs.take m).length = xs.take m := by
  rw [List.length_take]
  by_cases h : m ≤ xs.length
  · rw [Nat.min_eq_left h]
  · rw [Nat.min_eq_right (by omega), List.take_of_length_le (Nat.le_refl _), List.take_of_length_le (by omega)]
theorem addr_add02 (a : Option Addr) : (a.map (fun x => x.add ((0 : Int).toNat * 2))) = a := by cases a <;> simp [Addr.add]
abbrev cSp (xs : List Sp) : List Value := encL (fun p : Sp => [Value.int .i64 p.1, .int .i64 p.2]) xs
/-- The place of a number in a row; -1: none. -/
def idxM (l : List Int) (x : Int) : Int := match l.findIdx? (fun y => decide (x = y)) with | some i => i | none => -1
def refWhoM (xs : List Sp) (s : Sp) : Nat := if 0 < s.1 then (match xs.findIdx? (fun y => decide (y = s)) with | some i => i + 1 | none => 0) else 0
theorem findIdx_first {α : Type} {xs : List α} {q : α → Bool} {k : Nat} {x : α} (hx : xs[k]? = some x) (hq : q x = true) (hn : ∀ y ∈ xs.take k, q y = false) : xs.findIdx? q = some k := by
  rw [List.findIdx?_eq_some_iff_getElem]
  obtain ⟨h1, h2⟩ := List.getElem?_eq_some_iff.1 hx
  refine ⟨h1, by rw [h2]; exact hq, fun j hj => ?_⟩
  have : xs[j] ∈ xs.take k := by
    rw [List.mem_iff_getElem?]
    exact ⟨j, by rw [List.getElem?_take, if_pos hj]; exact List.getElem?_eq_getElem (by omega)⟩
  rw [hn _ this]; simp
theorem findIdx_none {α : Type} {xs : List α} {q : α → Bool} (hn : ∀ y ∈ xs, q y = false) : xs.findIdx? q = none := by
  rw [List.findIdx?_eq_none_iff]; exact hn
attribute [local irreducible] J JL JD JX JXat OpR OpG Ret RetV Is Blk Row MapC
set_option maxRecDepth 100000
set_option maxHeartbeats 1000000
set_option linter.unusedSimpArgs false
set_option linter.unusedVariables false
theorem own_r (w : World) (a : Option Addr) (n c : Nat) (xs : List Sp) (h : Sl dSp All w a n c xs) :
    Ret Tryd.prog 9 #[.agg #[.slice a n c]] w fun v w' => ∃ a' c', v = .agg #[.slice a' (xs.take 40).length c'] ∧ Fresh w w' [Row a' (xs.take 40).length c' 34 2 (cSp (xs.take 40))] := by
  refine Ret_of (l := [_]) Tryd.func9 rfl Tryd.ntmps9 (by simp) ?_
  have hs := St.init w
  have hl := h.len
  have hc := h.le
  have hcm := h.cap
  unfold maxLen at hcm
  subst hl
  have hm : (min (xs.length : Int) 40) = ((xs.take 40).length : Nat) := by rw [List.length_take]; omega
  have hle : (xs.take 40).length ≤ xs.length := by rw [List.length_take]; omega
  have hle40 : (xs.take 40).length ≤ 40 := by rw [List.length_take]; omega
  have hsl := h.takeF hle
  rw [take_len] at hsl
  obtain ⟨hsrc, hpl, -⟩ := hsl.srcF
  repeat' (first
    | ((apply al_call 31; refine JL_o (by exact OpR_callF en31 rfl (clone31_r _ a (xs.take 40).length c (cSp (xs.take 40)) (Src.st hsrc hs) hpl (by omega))) rfl rfl ?_; rintro _ _ ⟨az, cz, rfl, hf⟩; have hs := hs.fresh hf; (try simp only [List.cons_append, List.nil_append] at hs)))
    | ((apply al_none; refine JL_pure (v := .int .i64 ((xs.take 40).length : Nat)) (by apply as_b_min; exact OpR_min rfl rfl (by rw [hm]; exact is_rfl)) rfl rfl ?_))
    | ((apply al_none; refine JL_pure (v := .slice a (xs.take 40).length c) (by apply as_slice; exact OpR_slice (kl := .i64) (km := .i64) (a' := a) (m := c) (h := ((xs.take 40).length : Nat)) rfl (.inl ⟨rfl, rfl⟩) (.inr ⟨_, rfl, rfl⟩) (.inl ⟨rfl, rfl⟩) (by omega) (by omega) (by omega) (by omega) (by split; rfl; exact addr_add02 a) (by rw [Int.sub_zero, Int.sub_zero, Int.toNat_natCast, Int.toNat_natCast]; exact is_rfl)) rfl rfl ?_))
    | (apply JL_nil)
    | ((apply JL_pure); (first
      | (apply as_fieldAddr; exact OpR_fieldAddr0 rfl rfl is_rfl)
      | (apply as_load; exact OpR_load' hs rfl rfl is_rfl)
      | (apply as_b_len; exact OpR_len rfl is_rfl)
      | (apply as_build; exact OpR_build rfl (by (simp only [bld, placesOf, splice, Value.cells, List.take_succ_cons, List.take_zero, List.drop_succ_cons, List.drop_zero, List.cons_append, List.nil_append, List.length_cons, List.length_nil, List.getElem?_cons_zero, List.getElem?_cons_succ, Option.map_some, List.append_nil, Nat.reduceAdd, Nat.reduceMul, Nat.zero_add, Nat.reduceLeDiff, and_self, if_true, List.toList_toArray, Nat.le_refl, Nat.zero_mul, Nat.one_mul]; first | done | rfl)) is_rfl)); first | (exact rfl; exact rfl) | exact rfl)
    | (apply J_seq)
    | (apply J_region)
    | (apply al_none (t := 1); refine JL_o (by apply as_box; exact OpR_box' hs rfl) rfl rfl ?_; rintro _ _ ⟨b1, rfl, hb1, hs, hE⟩)
    | (apply al_none (t := 2); refine JL_o (by apply as_alloc; exact OpR_alloc' hs) rfl rfl ?_; rintro _ _ ⟨b2, rfl, hb2, hs, hE⟩)
    | (apply al_unit; refine JL_u (by apply as_store; exact OpR_store' hs rfl rfl rfl) rfl ?_; rintro _ _ ⟨hs, hF⟩))
  refine J_leave Tryd.func9 rfl (.agg' hs rfl rfl .nil) ⟨az, cz, rfl, hs.out (.cons_cons _ (List.nil_sublist _))⟩
theorem index_r (w : World) (a : Option Addr) (n c : Nat) (l : List Int) (x : Int) (h : Sl (tInt .i64) All w a n c l) :
    Ret Tryd.prog 28 #[.slice a n c, .int .i64 x] w fun v w' => v = .int .i64 (idxM l x) ∧ Ext w w' := by
  refine Ret_of (l := [_, _]) Tryd.func28 rfl Tryd.ntmps28 (by simp) ?_
  have hs := St.init w
  have hl := h.len
  have hc := h.le
  have hm := h.cap
  unfold maxLen at hm
  repeat' (first
    | (apply JL_nil)
    | ((apply JL_pure); (first
      | (apply as_move; exact OpR_move rfl is_rfl)
      | (apply as_assign; exact OpR_assign rfl is_rfl)
      | (apply as_b_len; exact OpR_len rfl is_rfl)); first | (exact rfl; exact rfl) | exact rfl)
    | (apply J_seq)
    | (apply J_region)
    | (apply J_block))
  refine J_loopK (α := Nat) [(0, _), (1, _), (7, _)] (fun k => [(8, .int .i64 k)]) (fun k w' => St w NoF w' [] ∧ k ≤ n ∧ ∀ y ∈ l.take k, decide (x = y) = false) (fun k => n - k) 0 ⟨hs, by omega, by simp⟩ (by repeat' (first | exact trivial | exact rfl | apply And.intro)) ?_
  rintro k w' ⟨hs, hk, hj⟩ ih
  by_cases hlt : k < n
  · obtain ⟨p1, o1, rfl⟩ := h.sl.addr (by omega)
    have hx : l[k]? = some l[k] := List.getElem?_eq_getElem (by omega)
    by_cases he : x = l[k]
    · have hi : idxM l x = k := by unfold idxM; rw [findIdx_first hx (decide_eq_true he) hj]
      rw [hi]
      repeat' (first
        | (apply JL_nil)
        | ((apply JL_pure); (first
      | (apply as_load; exact OpR_load_int (h.sl.st hs) rfl hx is_rfl)
      | (apply as_move; exact OpR_move rfl is_rfl)
      | (apply as_assign; exact OpR_assign rfl is_rfl)
      | (apply as_binOp; exact OpR_ibin rfl rfl rfl is_rfl)
      | (apply as_indexAddr; exact OpR_indexAddr rfl rfl (by omega) (by omega) is_rfl)); first | (exact rfl; exact rfl) | exact rfl)
        | (apply J_seq)
        | (apply J_region)
        | (apply J_block)
        | (apply J_skip)
        | (apply aj_cond; refine J_dec_t rfl (by first | assumption | omega) ?_))
      refine J_leave Tryd.func28 rfl (.tmp rfl .nil) ⟨rfl, hs.frm.ext⟩
    · repeat' (first
        | (apply JL_nil)
        | ((apply JL_pure); (first
      | (apply as_load; exact OpR_load_int (h.sl.st hs) rfl hx is_rfl)
      | (apply as_move; exact OpR_move rfl is_rfl)
      | (apply as_assign; exact OpR_assign rfl is_rfl)
      | (apply as_add; exact OpR_addn rfl rfl (by omega) (by first | (simp only [Int.reduceAdd]; exact rfl) | exact rfl) is_rfl)
      | (apply as_binOp; exact OpR_ibin rfl rfl rfl is_rfl)
      | (apply as_indexAddr; exact OpR_indexAddr rfl rfl (by omega) (by omega) is_rfl)); first | (exact rfl; exact rfl) | exact rfl)
        | (apply J_seq)
        | (apply J_region)
        | (apply J_block)
        | (apply J_inBlock)
        | (apply J_skip)
        | (apply aj_cond; first | refine J_dec_t rfl (by first | assumption | omega) ?_ | refine J_dec_f rfl (by first | assumption | omega) ?_))
      refine ih (k + 1) _ _ ⟨hs, by omega, fun y hy => ?_⟩ (by omega) (by repeat' (first | exact trivial | exact rfl | apply And.intro))
      rw [List.take_add_one, hx] at hy
      rcases List.mem_append.1 hy with hy | hy
      · exact hj y hy
      · have hy : y = l[k] := by simpa using hy
        rw [hy]; exact decide_eq_false he
  · rw [List.take_of_length_le (by omega)] at hj
    have hi : idxM l x = -1 := by unfold idxM; rw [findIdx_none hj]
    rw [hi]
    repeat' (first
      | (apply JL_nil)
      | ((apply JL_pure); (first
      | (apply as_assign; exact OpR_assign rfl is_rfl)
      | (apply as_binOp; exact OpR_ibin rfl rfl rfl is_rfl)); first | (exact rfl; exact rfl) | exact rfl)
      | (apply J_seq)
      | (apply J_region)
      | (apply aj_exit; refine J_exit rfl ?_)
      | (apply aj_cond; refine J_dec_f rfl (by first | assumption | omega) ?_))
    refine J_leave Tryd.func28 rfl (.tmp rfl .nil) ⟨rfl, hs.frm.ext⟩
theorem contains_r (w : World) (a : Option Addr) (n c : Nat) (l : List Int) (x : Int) (h : Sl (tInt .i64) All w a n c l) :
    Ret Tryd.prog 27 #[.slice a n c, .int .i64 x] w fun v w' => v = .bool (decide (idxM l x ≥ 0)) ∧ Ext w w' := by
  refine Ret_of (l := [_, _]) Tryd.func27 rfl Tryd.ntmps27 (by simp) ?_
  have hs := St.init w
  repeat' (first
    | ((apply al_call 28; refine JL_o (by exact OpR_callF en28 rfl (index_r _ a n c l x (h.st hs))) rfl rfl ?_; rintro _ _ ⟨rfl, hE⟩; have hs := hs.ext hE; (try simp only [List.cons_append, List.nil_append] at hs)))
    | (apply JL_nil)
    | ((apply JL_pure); (first
      | (apply as_move; exact OpR_move rfl is_rfl)
      | (apply as_assign; exact OpR_assign rfl is_rfl)
      | (apply as_binOp; exact OpR_ibin rfl rfl rfl is_rfl)); first | (exact rfl; exact rfl) | exact rfl)
    | (apply J_seq)
    | (apply J_region))
  refine J_leave Tryd.func27 rfl (.tmp rfl .nil) ⟨rfl, hs.frm.ext⟩
end Go.Eng
/- Record: the reference's Spot, Who. -/
namespace Go.Eng
open Go.Proofs
attribute [local irreducible] J JL JD JX JXat OpR OpG Ret RetV Is Blk Row MapC
set_option maxRecDepth 100000
set_option maxHeartbeats 1000000
set_option linter.unusedSimpArgs false
set_option linter.unusedVariables false
theorem spotR_r (w : World) (a b : Int) : Ret Tryd.prog 32 #[.agg #[.int .i64 a, .int .i64 b]] w fun v w' => v = .bool (spotR (a, b)) ∧ Ext w w' := by
  refine Ret_of (l := [_]) Tryd.func32 rfl Tryd.ntmps32 (by simp) ?_
  have hs := St.init w
  unfold spotR
  by_cases h1 : 0 ≤ a
  · by_cases h2 : a ≤ 1048576
    · by_cases h3 : 0 ≤ b
      · by_cases h4 : b ≤ 1048578
        · by_cases h5 : 0 < a
          · repeat' (first
              | (apply JL_nil)
              | ((first | (apply JL_pure) | (apply JL_pure_on; exact rfl; (first | assumption | exact rfl | exact decide_eq_true (by first | assumption | omega) | exact decide_eq_false (by first | assumption | omega)))); (first
      | (apply as_move; exact OpR_move rfl is_rfl)
      | (apply as_assign; exact OpR_assign rfl is_rfl)
      | (apply as_fieldAddr; exact OpR_fieldAddr0 rfl rfl is_rfl)
      | (apply as_load; exact OpR_load' hs rfl rfl is_rfl)
      | (apply as_binOp; exact OpR_ibin rfl rfl rfl is_rfl)
      | (apply as_pick; exact OpR_pick_t rfl (by first | assumption | rfl | exact decide_eq_true (by first | assumption | omega) | exact decide_eq_false (by first | assumption | omega)) rfl is_rfl)); first | (exact rfl; exact rfl) | exact rfl)
              | (apply J_seq)
              | (apply J_region)
              | (apply al_none (t := 1); refine JL_o (by apply as_box; exact OpR_box' hs rfl) rfl rfl ?_; rintro _ _ ⟨b1, rfl, hb1, hs, hE⟩)
              | (apply al_guard; (refine JL_no rfl (by first | assumption | rfl | exact decide_eq_true (by first | assumption | omega) | exact decide_eq_false (by first | assumption | omega)) rfl ?_)))
            refine J_leave Tryd.func32 rfl (.tmp rfl .nil) ⟨by simp [mkRes, h1, h2, h3, h4, h5], hs.frm.ext⟩
          · by_cases h6 : b = 0
            · repeat' (first
                | (apply JL_nil)
                | ((first | (apply JL_pure) | (apply JL_pure_on; exact rfl; (first | assumption | exact rfl | exact decide_eq_true (by first | assumption | omega) | exact decide_eq_false (by first | assumption | omega)))); (first
      | (apply as_move; exact OpR_move rfl is_rfl)
      | (apply as_assign; exact OpR_assign rfl is_rfl)
      | (apply as_fieldAddr; exact OpR_fieldAddr0 rfl rfl is_rfl)
      | (apply as_load; exact OpR_load' hs rfl rfl is_rfl)
      | (apply as_binOp; exact OpR_ibin rfl rfl rfl is_rfl)
      | (apply as_pick; first | exact OpR_pick_t rfl (by first | assumption | rfl | exact decide_eq_true (by first | assumption | omega) | exact decide_eq_false (by first | assumption | omega)) rfl is_rfl | exact OpR_pick_f rfl (by first | assumption | rfl | exact decide_eq_true (by first | assumption | omega) | exact decide_eq_false (by first | assumption | omega)) rfl is_rfl)); first | (exact rfl; exact rfl) | exact rfl)
                | (apply J_seq)
                | (apply J_region)
                | (apply al_none (t := 1); refine JL_o (by apply as_box; exact OpR_box' hs rfl) rfl rfl ?_; rintro _ _ ⟨b1, rfl, hb1, hs, hE⟩))
              refine J_leave Tryd.func32 rfl (.tmp rfl .nil) ⟨by simp [mkRes, h1, h2, h3, h4, h5, h6], hs.frm.ext⟩
            · repeat' (first
                | (apply JL_nil)
                | ((first | (apply JL_pure) | (apply JL_pure_on; exact rfl; (first | assumption | exact rfl | exact decide_eq_true (by first | assumption | omega) | exact decide_eq_false (by first | assumption | omega)))); (first
      | (apply as_move; exact OpR_move rfl is_rfl)
      | (apply as_assign; exact OpR_assign rfl is_rfl)
      | (apply as_fieldAddr; exact OpR_fieldAddr0 rfl rfl is_rfl)
      | (apply as_load; exact OpR_load' hs rfl rfl is_rfl)
      | (apply as_binOp; exact OpR_ibin rfl rfl rfl is_rfl)
      | (apply as_pick; first | exact OpR_pick_t rfl (by first | assumption | rfl | exact decide_eq_true (by first | assumption | omega) | exact decide_eq_false (by first | assumption | omega)) rfl is_rfl | exact OpR_pick_f rfl (by first | assumption | rfl | exact decide_eq_true (by first | assumption | omega) | exact decide_eq_false (by first | assumption | omega)) rfl is_rfl)); first | (exact rfl; exact rfl) | exact rfl)
                | (apply J_seq)
                | (apply J_region)
                | (apply al_none (t := 1); refine JL_o (by apply as_box; exact OpR_box' hs rfl) rfl rfl ?_; rintro _ _ ⟨b1, rfl, hb1, hs, hE⟩))
              refine J_leave Tryd.func32 rfl (.tmp rfl .nil) ⟨by simp [mkRes, h1, h2, h3, h4, h5, h6], hs.frm.ext⟩
        · repeat' (first
            | (apply JL_nil)
            | ((first | (apply JL_pure) | (apply JL_pure_on; exact rfl; (first | assumption | exact rfl | exact decide_eq_true (by first | assumption | omega) | exact decide_eq_false (by first | assumption | omega)))); (first
      | (apply as_move; exact OpR_move rfl is_rfl)
      | (apply as_assign; exact OpR_assign rfl is_rfl)
      | (apply as_fieldAddr; exact OpR_fieldAddr0 rfl rfl is_rfl)
      | (apply as_load; exact OpR_load' hs rfl rfl is_rfl)
      | (apply as_binOp; exact OpR_ibin rfl rfl rfl is_rfl)
      | (apply as_pick; first | exact OpR_pick_t rfl (by first | assumption | rfl | exact decide_eq_true (by first | assumption | omega) | exact decide_eq_false (by first | assumption | omega)) rfl is_rfl | exact OpR_pick_f rfl (by first | assumption | rfl | exact decide_eq_true (by first | assumption | omega) | exact decide_eq_false (by first | assumption | omega)) rfl is_rfl)); first | (exact rfl; exact rfl) | exact rfl)
            | (apply J_seq)
            | (apply J_region)
            | (apply al_none (t := 1); refine JL_o (by apply as_box; exact OpR_box' hs rfl) rfl rfl ?_; rintro _ _ ⟨b1, rfl, hb1, hs, hE⟩)
            | (apply al_guard; first
    | (refine JL_nou rfl rfl ?_)
    | (refine JL_no rfl (by first | assumption | rfl | exact decide_eq_true (by first | assumption | omega) | exact decide_eq_false (by first | assumption | omega)) rfl ?_)))
          refine J_leave Tryd.func32 rfl (.tmp rfl .nil) ⟨by simp [mkRes, h1, h2, h3, h4], hs.frm.ext⟩
      · repeat' (first
          | (apply JL_nil)
          | ((first | (apply JL_pure) | (apply JL_pure_on; exact rfl; (first | assumption | exact rfl | exact decide_eq_true (by first | assumption | omega) | exact decide_eq_false (by first | assumption | omega)))); (first
      | (apply as_move; exact OpR_move rfl is_rfl)
      | (apply as_assign; exact OpR_assign rfl is_rfl)
      | (apply as_fieldAddr; exact OpR_fieldAddr0 rfl rfl is_rfl)
      | (apply as_load; exact OpR_load' hs rfl rfl is_rfl)
      | (apply as_binOp; exact OpR_ibin rfl rfl rfl is_rfl)
      | (apply as_pick; first | exact OpR_pick_t rfl (by first | assumption | rfl | exact decide_eq_true (by first | assumption | omega) | exact decide_eq_false (by first | assumption | omega)) rfl is_rfl | exact OpR_pick_f rfl (by first | assumption | rfl | exact decide_eq_true (by first | assumption | omega) | exact decide_eq_false (by first | assumption | omega)) rfl is_rfl)); first | (exact rfl; exact rfl) | exact rfl)
          | (apply J_seq)
          | (apply J_region)
          | (apply al_none (t := 1); refine JL_o (by apply as_box; exact OpR_box' hs rfl) rfl rfl ?_; rintro _ _ ⟨b1, rfl, hb1, hs, hE⟩)
          | (apply al_guard; first
    | (refine JL_nou rfl rfl ?_)
    | (refine JL_no rfl (by first | assumption | rfl | exact decide_eq_true (by first | assumption | omega) | exact decide_eq_false (by first | assumption | omega)) rfl ?_)))
        refine J_leave Tryd.func32 rfl (.tmp rfl .nil) ⟨by simp [mkRes, h1, h2, h3], hs.frm.ext⟩
    · repeat' (first
        | (apply JL_nil)
        | ((first | (apply JL_pure) | (apply JL_pure_on; exact rfl; (first | assumption | exact rfl | exact decide_eq_true (by first | assumption | omega) | exact decide_eq_false (by first | assumption | omega)))); (first
      | (apply as_move; exact OpR_move rfl is_rfl)
      | (apply as_assign; exact OpR_assign rfl is_rfl)
      | (apply as_fieldAddr; exact OpR_fieldAddr0 rfl rfl is_rfl)
      | (apply as_load; exact OpR_load' hs rfl rfl is_rfl)
      | (apply as_binOp; exact OpR_ibin rfl rfl rfl is_rfl)
      | (apply as_pick; first | exact OpR_pick_t rfl (by first | assumption | rfl | exact decide_eq_true (by first | assumption | omega) | exact decide_eq_false (by first | assumption | omega)) rfl is_rfl | exact OpR_pick_f rfl (by first | assumption | rfl | exact decide_eq_true (by first | assumption | omega) | exact decide_eq_false (by first | assumption | omega)) rfl is_rfl)); first | (exact rfl; exact rfl) | exact rfl)
        | (apply J_seq)
        | (apply J_region)
        | (apply al_none (t := 1); refine JL_o (by apply as_box; exact OpR_box' hs rfl) rfl rfl ?_; rintro _ _ ⟨b1, rfl, hb1, hs, hE⟩)
        | (apply al_guard; first
    | (refine JL_nou rfl rfl ?_)
    | (refine JL_no rfl (by first | assumption | rfl | exact decide_eq_true (by first | assumption | omega) | exact decide_eq_false (by first | assumption | omega)) rfl ?_)))
      refine J_leave Tryd.func32 rfl (.tmp rfl .nil) ⟨by simp [mkRes, h1, h2], hs.frm.ext⟩
  · repeat' (first
      | (apply JL_nil)
      | ((apply JL_pure); (first
      | (apply as_move; exact OpR_move rfl is_rfl)
      | (apply as_assign; exact OpR_assign rfl is_rfl)
      | (apply as_fieldAddr; exact OpR_fieldAddr0 rfl rfl is_rfl)
      | (apply as_load; exact OpR_load' hs rfl rfl is_rfl)
      | (apply as_binOp; exact OpR_ibin rfl rfl rfl is_rfl)
      | (apply as_pick; exact OpR_pick_f rfl (by first | assumption | rfl | exact decide_eq_true (by first | assumption | omega) | exact decide_eq_false (by first | assumption | omega)) rfl is_rfl)); first | (exact rfl; exact rfl) | exact rfl)
      | (apply J_seq)
      | (apply J_region)
      | (apply al_none (t := 1); refine JL_o (by apply as_box; exact OpR_box' hs rfl) rfl rfl ?_; rintro _ _ ⟨b1, rfl, hb1, hs, hE⟩)
      | (apply al_guard; first
    | (refine JL_nou rfl rfl ?_)
    | (refine JL_no rfl (by first | assumption | rfl | exact decide_eq_true (by first | assumption | omega) | exact decide_eq_false (by first | assumption | omega)) rfl ?_)))
    refine J_leave Tryd.func32 rfl (.tmp rfl .nil) ⟨by simp [mkRes, h1], hs.frm.ext⟩
theorem refWho_r (w : World) (a : Option Addr) (n c : Nat) (xs : List Sp) (s1 s2 : Int) (h : Sl dSp All w a n c xs) :
    Ret Tryd.prog 20 #[.agg #[.slice a n c], .agg #[.int .i64 s1, .int .i64 s2]] w fun v w' => v = .int .i64 (refWhoM xs (s1, s2)) ∧ Ext w w' := by
  refine Ret_of (l := [_, _]) Tryd.func20 rfl Tryd.ntmps20 (by simp) ?_
  have hs := St.init w
  have hl := h.len
  have hc := h.le
  have hm := h.cap
  unfold maxLen at hm
  repeat' (first
    | (apply JL_nil)
    | ((apply JL_pure); (first
      | (apply as_move; exact OpR_move rfl is_rfl)
      | (apply as_assign; exact OpR_assign rfl is_rfl)
      | (apply as_fieldAddr; exact OpR_fieldAddr0 rfl rfl is_rfl)
      | (apply as_load; exact OpR_load' hs rfl rfl is_rfl)
      | (apply as_b_len; exact OpR_len rfl is_rfl)); first | (exact rfl; exact rfl) | exact rfl)
    | (apply J_seq)
    | (apply J_region)
    | (apply J_block)
    | (apply al_none (t := 2); refine JL_o (by apply as_box; exact OpR_box' hs rfl) rfl rfl ?_; rintro _ _ ⟨b2, rfl, hb2, hs, hE⟩)
    | (apply al_none (t := 3); refine JL_o (by apply as_box; exact OpR_box' hs rfl) rfl rfl ?_; rintro _ _ ⟨b3, rfl, hb3, hs, hE⟩))
  refine J_loopK (α := Nat) [(3, _), (8, _), (9, _)] (fun k => [(10, .int .i64 k)]) (fun k w' => St w NoF w' [Blk b3 (.cells #[.int .i64 s1, .int .i64 s2] 34 (0, 0))] ∧ k ≤ n ∧ (0 < s1 → ∀ y ∈ xs.take k, decide (y = (s1, s2)) = false)) (fun k => n - k) 0 ⟨hs.sel [0] (by decide), by omega, by simp⟩ (by repeat' (first | exact trivial | exact rfl | apply And.intro)) ?_
  rintro k w' ⟨hs1, hk, hj⟩ ih
  by_cases hlt : k < n
  · obtain ⟨p1, o1, rfl⟩ := h.sl.addr (by omega)
    have hx : xs[k]? = some xs[k] := List.getElem?_eq_getElem (by omega)
    obtain ⟨x, hxd⟩ : ∃ x, x = xs[k] := ⟨_, rfl⟩
    rw [← hxd] at hx
    have hs : St w NoF w' [_] := hs1
    by_cases he : x.1 = s1 ∧ x.2 = s2
    · have he2 : x = (s1, s2) := Prod.ext he.1 he.2
      by_cases hp : 0 < s1
      · have hi : refWhoM xs (s1, s2) = k + 1 := by unfold refWhoM; rw [if_pos hp, findIdx_first hx (decide_eq_true he2) (hj hp)]
        rw [hi]
        repeat' (first
          | (apply JL_nil)
          | ((first | (apply JL_pure) | (apply JL_pure_on; exact rfl; (first | assumption | exact rfl | exact decide_eq_true (by first | assumption | omega) | exact decide_eq_false (by first | assumption | omega)))); (first
      | (apply as_load; first | exact OpR_load_agg' hs rfl is_rfl | exact OpR_load_el (h.st hs) hx rfl rfl is_rfl)
      | (apply as_move; exact OpR_move rfl is_rfl)
      | (apply as_assign; exact OpR_assign rfl is_rfl)
      | (apply as_fieldAddr; exact OpR_fieldAddr0 rfl rfl is_rfl)
      | (apply as_load; exact OpR_load' hs rfl rfl is_rfl)
      | (apply as_add; exact OpR_addn rfl rfl (by omega) (by first | (simp only [Int.reduceAdd]; exact rfl) | exact rfl) is_rfl)
      | (apply as_binOp; first | exact OpR_ibin rfl rfl rfl is_rfl | exact OpR_eqT rfl rfl is_rfl)
      | (apply as_pick; exact OpR_pick_t rfl (by first | assumption | rfl | exact decide_eq_true (by first | assumption | omega) | exact decide_eq_false (by first | assumption | omega)) rfl is_rfl)
      | (apply as_indexAddr; exact OpR_indexAddr rfl rfl (by omega) (by omega) is_rfl)); first | (exact rfl; exact rfl) | exact rfl)
          | (apply J_seq)
          | (apply J_region)
          | (apply J_block)
          | (apply J_skip)
          | (apply al_none (t := 6); refine JL_o (by apply as_alloc; exact OpR_alloc' hs) rfl rfl ?_; rintro _ _ ⟨b6, rfl, hb6, hs, hE⟩)
          | (apply al_unit; refine JL_u (by apply as_store; exact OpR_store' hs rfl rfl rfl) rfl ?_; rintro _ _ ⟨hs, hF⟩)
          | (apply aj_cond; refine J_dec_t rfl (by first | assumption | omega) ?_))
        refine J_leave Tryd.func20 rfl (.tmp rfl .nil) ⟨rfl, hs.frm.ext⟩
      · repeat' (first
          | (apply JL_nil)
          | ((first | (apply JL_pure) | (apply JL_pure_on; exact rfl; (first | assumption | exact rfl | exact decide_eq_true (by first | assumption | omega) | exact decide_eq_false (by first | assumption | omega)))); (first
      | (apply as_load; first | exact OpR_load_agg' hs rfl is_rfl | exact OpR_load_el (h.st hs) hx rfl rfl is_rfl)
      | (apply as_move; exact OpR_move rfl is_rfl)
      | (apply as_assign; exact OpR_assign rfl is_rfl)
      | (apply as_fieldAddr; exact OpR_fieldAddr0 rfl rfl is_rfl)
      | (apply as_load; exact OpR_load' hs rfl rfl is_rfl)
      | (apply as_add; exact OpR_addn rfl rfl (by omega) (by first | (simp only [Int.reduceAdd]; exact rfl) | exact rfl) is_rfl)
      | (apply as_binOp; first | exact OpR_ibin rfl rfl rfl is_rfl | exact OpR_eqT rfl rfl is_rfl)
      | (apply as_pick; exact OpR_pick_t rfl (by first | assumption | rfl | exact decide_eq_true (by first | assumption | omega) | exact decide_eq_false (by first | assumption | omega)) rfl is_rfl)
      | (apply as_indexAddr; exact OpR_indexAddr rfl rfl (by omega) (by omega) is_rfl)); first | (exact rfl; exact rfl) | exact rfl)
          | (apply J_seq)
          | (apply J_region)
          | (apply J_block)
          | (apply J_inBlock)
          | (apply J_skip)
          | (apply al_none (t := 6); refine JL_o (by apply as_alloc; exact OpR_alloc' hs) rfl rfl ?_; rintro _ _ ⟨b6, rfl, hb6, hs, hE⟩)
          | (apply al_unit; refine JL_u (by apply as_store; exact OpR_store' hs rfl rfl rfl) rfl ?_; rintro _ _ ⟨hs, hF⟩)
          | (apply aj_cond; first | refine J_dec_t rfl (by first | assumption | omega) ?_ | refine J_dec_f rfl (by first | assumption | omega) ?_))
        refine ih (k + 1) _ _ ⟨hs.sel [1] (by decide), by omega, fun h0 => absurd h0 hp⟩ (by omega) (by repeat' (first | exact trivial | exact rfl | apply And.intro))
    · repeat' (first
        | (apply JL_nil)
        | ((apply JL_pure); (first
      | (apply as_load; first | exact OpR_load_agg' hs rfl is_rfl | exact OpR_load_el (h.st hs) hx rfl rfl is_rfl)
      | (apply as_move; exact OpR_move rfl is_rfl)
      | (apply as_assign; exact OpR_assign rfl is_rfl)
      | (apply as_add; exact OpR_addn rfl rfl (by omega) (by first | (simp only [Int.reduceAdd]; exact rfl) | exact rfl) is_rfl)
      | (apply as_binOp; first | exact OpR_ibin rfl rfl rfl is_rfl | exact OpR_eqT rfl rfl is_rfl)
      | (apply as_pick; exact OpR_pick_f rfl (by first | assumption | rfl | exact decide_eq_true (by first | assumption | omega) | exact decide_eq_false (by first | assumption | omega)) rfl is_rfl)
      | (apply as_indexAddr; exact OpR_indexAddr rfl rfl (by omega) (by omega) is_rfl)); first | (exact rfl; exact rfl) | exact rfl)
        | (apply J_seq)
        | (apply J_region)
        | (apply J_block)
        | (apply J_inBlock)
        | (apply J_skip)
        | (apply al_none (t := 6); refine JL_o (by apply as_alloc; exact OpR_alloc' hs) rfl rfl ?_; rintro _ _ ⟨b6, rfl, hb6, hs, hE⟩)
        | (apply al_unit; refine JL_u (by apply as_store; exact OpR_store' hs rfl rfl rfl) rfl ?_; rintro _ _ ⟨hs, hF⟩)
        | (apply al_guard; (refine JL_no rfl (by first | assumption | rfl | exact decide_eq_true (by first | assumption | omega) | exact decide_eq_false (by first | assumption | omega)) rfl ?_))
        | (apply aj_cond; first | refine J_dec_t rfl (by first | assumption | omega) ?_ | refine J_cond_f rfl (by first | assumption | rfl | exact decide_eq_true (by first | assumption | omega) | exact decide_eq_false (by first | assumption | omega)) ?_))
      refine ih (k + 1) _ _ ⟨hs.sel [1] (by decide), by omega, fun h0 y hy => ?_⟩ (by omega) (by repeat' (first | exact trivial | exact rfl | apply And.intro))
      rw [List.take_add_one, hx] at hy
      rcases List.mem_append.1 hy with hy | hy
      · exact hj h0 y hy
      · have hy : y = x := by simpa using hy
        rw [hy]; exact decide_eq_false (fun e => he ⟨by rw [e], by rw [e]⟩)
  · rw [List.take_of_length_le (by omega)] at hj
    have hi : refWhoM xs (s1, s2) = 0 := by
      unfold refWhoM
      by_cases hp : 0 < s1
      · rw [if_pos hp, findIdx_none (hj hp)]
      · rw [if_neg hp]
    rw [hi]
    have hs : St w NoF w' [_] := hs1
    repeat' (first
      | (apply JL_nil)
      | ((apply JL_pure); (first
      | (apply as_assign; exact OpR_assign rfl is_rfl)
      | (apply as_binOp; exact OpR_ibin rfl rfl rfl is_rfl)); first | (exact rfl; exact rfl) | exact rfl)
      | (apply J_seq)
      | (apply J_region)
      | (apply aj_exit; refine J_exit rfl ?_)
      | (apply aj_cond; refine J_dec_f rfl (by first | assumption | omega) ?_))
    refine J_leave Tryd.func20 rfl (.tmp rfl .nil) ⟨rfl, hs.frm.ext⟩
end Go.Eng
/- Record: the reference's Right. -/
namespace Go.Eng
open Go.Proofs
/-- Which records may be, by places. -/
def RefRight (xs : List Sp) : Prop := xs.length ≤ 1048578 ∧ (∀ s, xs.getLast? = some s → s.1 ≠ 0) ∧ ∀ (i : Nat) (s : Sp), xs[i]? = some s → spotR s = true ∧ (0 < s.1 → ∀ (j : Nat) (t : Sp), j < i → xs[j]? = some t → ¬ t = s)
theorem standG_snd : ∀ (i : Nat) (xs : List Sp), (standG i xs).map Prod.snd = xs.filter (fun s => decide (s ≠ (0, 0)))
  | i, [] => rfl
  | i, s :: l => by
    rw [standG, List.filter_cons]
    by_cases h : s = (0, 0)
    · rw [if_pos h, standG_snd, if_neg (by simp [h])]
    · rw [if_neg h, List.map_cons, standG_snd, if_pos (by simp [h])]
theorem spotR_iff (s : Sp) : spotR s = true ↔ s = (0, 0) ∨ spotB s = true := by
  unfold spotR spotB
  simp only [decide_eq_true_eq]
  constructor
  · intro h
    by_cases h0 : 0 < s.1
    · right; omega
    · left; exact Prod.ext (by show s.1 = 0; omega) (by show s.2 = 0; omega)
  · rintro (rfl | h)
    · simp
    · omega
theorem stB_iff (xs : List Sp) : stB xs = true ↔ ∀ s ∈ xs, spotR s = true := by
  have e : stB xs = ((standG 0 xs).map Prod.snd).all spotB := by unfold stB; rw [List.all_map]; rfl
  rw [e, standG_snd, List.all_eq_true]
  constructor
  · intro h s hs
    rw [spotR_iff]
    by_cases h0 : s = (0, 0)
    · exact .inl h0
    · exact .inr (h s (List.mem_filter.2 ⟨hs, by simp [h0]⟩))
  · intro h s hs
    obtain ⟨h1, h2⟩ := List.mem_filter.1 hs
    rcases (spotR_iff s).1 (h s h1) with h3 | h3
    · simp [h3] at h2
    · exact h3
theorem right_iff (xs : List Sp) : rightB xs = true ↔ RefRight xs := by
  unfold rightB RefRight
  simp only [Bool.and_eq_true, decide_eq_true_eq, Bool.not_eq_true', decide_eq_false_iff_not]
  rw [stB_iff, standG_snd, List.Nodup, List.pairwise_filter, List.pairwise_iff_getElem]
  constructor
  · rintro ⟨h1, h2, h3, h4⟩
    refine ⟨h1, fun s hs h0 => ?_, fun i s hs => ⟨h3 s (List.mem_of_getElem? hs), fun hp j t hj ht e => ?_⟩⟩
    · have hr := h3 s (List.mem_of_getLast? hs)
      have : s = (0, 0) := by
        rcases (spotR_iff s).1 hr with h | h
        · exact h
        · unfold spotB at h; simp at h; omega
      rw [this] at hs; exact h2 hs
    · obtain ⟨hi, hie⟩ := List.getElem?_eq_some_iff.1 hs
      obtain ⟨hj2, hje⟩ := List.getElem?_eq_some_iff.1 ht
      have hne : ∀ u : Sp, u = s → ¬ u = (0, 0) := fun u hu h0 => by rw [hu] at h0; rw [h0] at hp; exact absurd hp (by decide)
      exact h4 j i hj2 hi hj (by rw [hje]; exact decide_eq_true (hne t e)) (by rw [hie]; exact decide_eq_true (hne s rfl)) (by rw [hje, hie]; exact e)
  · rintro ⟨h1, h2, h3⟩
    refine ⟨h1, fun hs => h2 _ hs rfl, fun s hs => ?_, fun i j hi hj hij p1 p2 e => ?_⟩
    · obtain ⟨i, hi⟩ := List.mem_iff_getElem?.1 hs
      exact (h3 i s hi).1
    · have hx := List.getElem?_eq_getElem hj
      have := (h3 j xs[j] hx)
      have hp : 0 < xs[j].1 := by
        rcases (spotR_iff _).1 this.1 with h | h
        · exact absurd h (of_decide_eq_true p2)
        · unfold spotB at h; simp at h; omega
      exact this.2 hp i xs[i] hij (List.getElem?_eq_getElem hi) e
theorem right_f {xs : List Sp} (h : ¬ RefRight xs) : rightB xs = false := by
  cases hb : rightB xs with
  | false => rfl
  | true => exact absurd ((right_iff xs).1 hb) h
attribute [local irreducible] J JL JD JX JXat OpR OpG Ret RetV Is Blk Row MapC
set_option maxRecDepth 100000
set_option maxHeartbeats 1000000
set_option linter.unusedSimpArgs false
set_option linter.unusedVariables false
theorem right10_r (w : World) (a : Option Addr) (n c : Nat) (xs : List Sp) (h : Sl dSp All w a n c xs) :
    Ret Tryd.prog 10 #[.agg #[.slice a n c]] w fun v w' => v = .bool (rightB xs) ∧ Ext w w' := by
  refine Ret_of (l := [_]) Tryd.func10 rfl Tryd.ntmps10 (by simp) ?_
  have hs := St.init w
  have hl := h.len
  have hc := h.le
  have hm := h.cap
  unfold maxLen at hm
  by_cases h1 : 1048578 < n
  · rw [right_f (fun hr => by have := hr.1; omega)]
    repeat' (first
      | (apply JL_nil)
      | ((apply JL_pure); (first
      | (apply as_move; exact OpR_move rfl is_rfl)
      | (apply as_assign; exact OpR_assign rfl is_rfl)
      | (apply as_fieldAddr; exact OpR_fieldAddr0 rfl rfl is_rfl)
      | (apply as_load; exact OpR_load' hs rfl rfl is_rfl)
      | (apply as_binOp; exact OpR_ibin rfl rfl rfl is_rfl)
      | (apply as_pick; exact OpR_pick_t rfl (by first | assumption | rfl | exact decide_eq_true (by first | assumption | omega) | exact decide_eq_false (by first | assumption | omega)) rfl is_rfl)
      | (apply as_b_len; exact OpR_len rfl is_rfl)); first | (exact rfl; exact rfl) | exact rfl)
      | (apply J_seq)
      | (apply J_region)
      | (apply al_none (t := 1); refine JL_o (by apply as_box; exact OpR_box' hs rfl) rfl rfl ?_; rintro _ _ ⟨b1, rfl, hb1, hs, hE⟩)
      | (apply al_guard; first
    | (refine JL_nou rfl rfl ?_)
    | (refine JL_no rfl (by first | assumption | rfl | exact decide_eq_true (by first | assumption | omega) | exact decide_eq_false (by first | assumption | omega)) rfl ?_))
      | (apply aj_cond; refine J_cond_t rfl (by first | assumption | rfl | exact decide_eq_true (by first | assumption | omega) | exact decide_eq_false (by first | assumption | omega)) ?_))
    refine J_leave Tryd.func10 rfl (.tmp rfl .nil) ⟨rfl, hs.frm.ext⟩
  · have hor : n = 0 ∨ ∃ p1 o1 s, a = some ⟨p1, o1, none⟩ ∧ 0 < n ∧ xs[((n : Int) - 1).toNat]? = some s ∧ xs.getLast? = some s := by
      rcases Nat.eq_zero_or_pos n with h0 | h0
      · exact .inl h0
      · obtain ⟨p1, o1, rfl⟩ := h.sl.addr h0
        have e : ((n : Int) - 1).toNat = xs.length - 1 := by omega
        exact .inr ⟨p1, o1, xs[((n : Int) - 1).toNat], rfl, h0, List.getElem?_eq_getElem (by omega), by rw [List.getLast?_eq_getElem?, ← e]; exact List.getElem?_eq_getElem (by omega)⟩
    by_cases hbad : ∃ s, xs.getLast? = some s ∧ s.1 = 0
    · obtain ⟨s0, hs0, hz⟩ := hbad
      obtain hn0 | ⟨p1, o1, s, rfl, hnp, hx, hlast⟩ := hor
      · have : xs = [] := List.eq_nil_of_length_eq_zero (by omega)
        subst this; simp at hs0
      · obtain rfl : s = s0 := by rw [hlast] at hs0; injection hs0
        rw [right_f (fun hr => hr.2.1 s hlast hz)]
        repeat' (first
          | (apply JL_nil)
          | ((first | (apply JL_pure) | (apply JL_pure_on; exact rfl; (first | assumption | exact rfl | exact decide_eq_true (by first | assumption | omega) | exact decide_eq_false (by first | assumption | omega)))); (first
      | (apply as_load; exact OpR_load_el1 (i := ((n : Int) - 1).toNat) (j := 0) (h.st hs) hx rfl rfl rfl is_rfl)
      | (apply as_move; exact OpR_move rfl is_rfl)
      | (apply as_assign; exact OpR_assign rfl is_rfl)
      | (apply as_fieldAddr; first | exact OpR_fieldAddr0 rfl rfl is_rfl | exact OpR_fieldAddr rfl rfl is_rfl)
      | (apply as_load; exact OpR_load' hs rfl rfl is_rfl)
      | (apply as_sub; exact OpR_sub rfl rfl (by omega) is_rfl)
      | (apply as_binOp; exact OpR_ibin rfl rfl rfl is_rfl)
      | (apply as_pick; first | exact OpR_pick_t rfl (by first | assumption | rfl | exact decide_eq_true (by first | assumption | omega) | exact decide_eq_false (by first | assumption | omega)) rfl is_rfl | exact OpR_pick_f rfl (by first | assumption | rfl | exact decide_eq_true (by first | assumption | omega) | exact decide_eq_false (by first | assumption | omega)) rfl is_rfl)
      | (apply as_b_len; exact OpR_len rfl is_rfl)
      | (apply as_indexAddr; exact OpR_indexAddr rfl rfl (by omega) (by omega) is_rfl)); first | (exact rfl; exact rfl) | exact rfl)
          | (apply J_seq)
          | (apply J_region)
          | (apply al_none (t := 1); refine JL_o (by apply as_box; exact OpR_box' hs rfl) rfl rfl ?_; rintro _ _ ⟨b1, rfl, hb1, hs, hE⟩)
          | (apply aj_cond; refine J_dec_t rfl (by first | assumption | omega) ?_))
        refine J_leave Tryd.func10 rfl (.tmp rfl .nil) ⟨rfl, hs.frm.ext⟩
    · have hg2 : ∀ s, xs.getLast? = some s → s.1 ≠ 0 := fun s hs hz => hbad ⟨s, hs, hz⟩
      obtain ⟨rb, hrb⟩ : ∃ rb, rb = rightB xs := ⟨_, rfl⟩
      rw [← hrb]
      have hor2 : n = 0 ∨ ∃ p1 o1 s, a = some ⟨p1, o1, none⟩ ∧ 0 < n ∧ xs[((n : Int) - 1).toNat]? = some s ∧ ¬ s.1 = 0 := by
        rcases hor with h0 | ⟨p1, o1, s, q1, q2, q3, q4⟩
        · exact .inl h0
        · exact .inr ⟨p1, o1, s, q1, q2, q3, hg2 s q4⟩
      obtain hn0 | ⟨p2, o2, s, rfl, hnp, hx, hsz⟩ := hor2
      all_goals
        repeat' (first
          | (apply JL_nil)
          | ((first | (apply JL_pure) | (apply JL_pure_on; exact rfl; (first | assumption | exact rfl | exact decide_eq_true (by first | assumption | omega) | exact decide_eq_false (by first | assumption | omega)))); (first
      | (apply as_load; first | exact OpR_load' hs rfl rfl is_rfl | exact OpR_load_el1 (i := ((n : Int) - 1).toNat) (j := 0) (h.st hs) hx rfl rfl rfl is_rfl)
      | (apply as_move; exact OpR_move rfl is_rfl)
      | (apply as_assign; exact OpR_assign rfl is_rfl)
      | (apply as_fieldAddr; first | exact OpR_fieldAddr0 rfl rfl is_rfl | exact OpR_fieldAddr rfl rfl is_rfl)
      | (apply as_sub; exact OpR_sub rfl rfl (by omega) is_rfl)
      | (apply as_binOp; exact OpR_ibin rfl rfl rfl is_rfl)
      | (apply as_pick; first | exact OpR_pick_t rfl (by first | assumption | rfl | exact decide_eq_true (by first | assumption | omega) | exact decide_eq_false (by first | assumption | omega)) rfl is_rfl | exact OpR_pick_f rfl (by first | assumption | rfl | exact decide_eq_true (by first | assumption | omega) | exact decide_eq_false (by first | assumption | omega)) rfl is_rfl)
      | (apply as_b_len; exact OpR_len rfl is_rfl)
      | (apply as_indexAddr; exact OpR_indexAddr rfl rfl (by omega) (by omega) is_rfl)); first | (exact rfl; exact rfl) | exact rfl)
          | (apply J_seq)
          | (apply J_region)
          | (apply J_block)
          | (apply J_skip)
          | (apply al_none (t := 1); refine JL_o (by apply as_box; exact OpR_box' hs rfl) rfl rfl ?_; rintro _ _ ⟨b1, rfl, hb1, hs, hE⟩)
          | (apply al_guard; (refine JL_no rfl (by first | assumption | rfl | exact decide_eq_true (by first | assumption | omega) | exact decide_eq_false (by first | assumption | omega)) rfl ?_))
          | (apply aj_cond; first | refine J_dec_f rfl (by first | assumption | omega) ?_ | refine J_cond_f rfl (by first | assumption | rfl | exact decide_eq_true (by first | assumption | omega) | exact decide_eq_false (by first | assumption | omega)) ?_))
        try clear hn0
        refine J_loopK (α := Nat) [(1, _), (28, _), (29, _)] (fun k => [(30, .int .i64 k)]) (fun k w' => St w NoF w' [Blk b1 (.cells #[.slice _ n c] 24 (0, 0))] ∧ k ≤ n ∧ ∀ (i : Nat) (s : Sp), i < k → xs[i]? = some s → spotR s = true ∧ (0 < s.1 → ∀ (j : Nat) (t : Sp), j < i → xs[j]? = some t → ¬ t = s)) (fun k => n - k) 0 ⟨hs, by omega, fun i s hi => by omega⟩ (by repeat' (first | exact trivial | exact rfl | apply And.intro)) ?_
        rintro k w' ⟨hs1, hk, hK⟩ ih
        by_cases hlt : k < n
        · obtain ⟨p2, o2, haddr⟩ := h.sl.addr (by omega)
          have hx : xs[k]? = some xs[k] := List.getElem?_eq_getElem (by omega)
          obtain ⟨x, hxd⟩ : ∃ x, x = xs[k] := ⟨_, rfl⟩
          rw [← hxd] at hx
          first | (cases haddr) | skip
          have hs : St w NoF w' [_] := hs1
          by_cases hsp : spotR (x.1, x.2) = true
          · have hq : (!spotR (x.1, x.2)) = false := by rw [hsp]; rfl
            repeat' (first
              | ((apply al_call 32; refine JL_o (by exact OpR_callF en32 rfl (spotR_r _ x.1 x.2)) rfl rfl ?_; rintro _ _ ⟨rfl, hE⟩; have hs := hs.ext hE; (try simp only [List.cons_append, List.nil_append] at hs)))
              | ((apply al_none; refine JL_pure (v := .slice (some ⟨p2, o2, none⟩) k c) (by apply as_slice; exact OpR_slice (kl := .i64) (km := .i64) (a' := some ⟨p2, o2, none⟩) (m := c) (h := (k : Nat)) rfl (.inl ⟨rfl, rfl⟩) (.inr ⟨_, rfl, rfl⟩) (.inl ⟨rfl, rfl⟩) (by omega) (by omega) (by omega) (by omega) (by split; rfl; exact addr_add02 _) (by rw [Int.sub_zero, Int.sub_zero, Int.toNat_natCast, Int.toNat_natCast]; exact is_rfl)) rfl rfl ?_))
              | (apply JL_nil)
              | ((apply JL_pure); (first
      | (apply as_load; first | exact OpR_load' hs rfl rfl is_rfl | exact OpR_load_agg' hs rfl is_rfl | exact OpR_load_el (h.st hs) hx rfl rfl is_rfl)
      | (apply as_move; exact OpR_move rfl is_rfl)
      | (apply as_assign; exact OpR_assign rfl is_rfl)
      | (apply as_fieldAddr; exact OpR_fieldAddr0 rfl rfl is_rfl)
      | (apply as_binOp; exact OpR_ibin rfl rfl rfl is_rfl)
      | (apply as_unOp; exact OpR_not rfl is_rfl)
      | (apply as_b_len; exact OpR_len rfl is_rfl)
      | (apply as_indexAddr; exact OpR_indexAddr rfl rfl (by omega) (by omega) is_rfl)); first | (exact rfl; exact rfl) | exact rfl)
              | (apply J_seq)
              | (apply J_region)
              | (apply J_block)
              | (apply J_skip)
              | (apply al_none (t := 5); refine JL_o (by apply as_alloc; exact OpR_alloc' hs) rfl rfl ?_; rintro _ _ ⟨b5, rfl, hb5, hs, hE⟩)
              | (apply al_unit; refine JL_u (by apply as_store; exact OpR_store' hs rfl rfl rfl) rfl ?_; rintro _ _ ⟨hs, hF⟩)
              | (apply aj_cond; first | refine J_dec_t rfl (by first | assumption | omega) ?_ | refine J_cond_f rfl (by first | assumption | rfl | exact decide_eq_true (by first | assumption | omega) | exact decide_eq_false (by first | assumption | omega)) ?_))
            refine J_loopK (α := Nat) [(1, _), (5, _), (28, _), (29, _), (30, _), (41, _), (42, _)] (fun j => [(43, .int .i64 j)]) (fun j w' => St w NoF w' [Blk b5 (.cells #[.int .i64 x.1, .int .i64 x.2] 34 (0, 0)), Blk b1 (.cells #[.slice (some ⟨p2, o2, none⟩) n c] 24 (0, 0))] ∧ j ≤ k ∧ (0 < x.1 → ∀ (i : Nat) (t : Sp), i < j → xs[i]? = some t → ¬ t = x)) (fun j => k - j) 0 ⟨hs, by omega, fun _ i t hi => by omega⟩ (by repeat' (first | exact trivial | exact rfl | apply And.intro)) ?_
            rintro j w2 ⟨hs, hj, hJ⟩ ih2
            by_cases hlj : j < k
            · have hy : xs[j]? = some xs[j] := List.getElem?_eq_getElem (by omega)
              obtain ⟨y, hyd⟩ : ∃ y, y = xs[j] := ⟨_, rfl⟩
              rw [← hyd] at hy
              by_cases hp : 0 < x.1
              · by_cases he : y.1 = x.1 ∧ y.2 = x.2
                · have he2 : y = x := Prod.ext he.1 he.2
                  rw [hrb, right_f (fun hr => (hr.2.2 k x hx).2 hp j y hlj hy he2)]
                  repeat' (first
                    | (apply JL_nil)
                    | ((first | (apply JL_pure) | (apply JL_pure_on; exact rfl; (first | assumption | exact rfl | exact decide_eq_true (by first | assumption | omega) | exact decide_eq_false (by first | assumption | omega)))); (first
      | (apply as_load; first | exact OpR_load' hs rfl rfl is_rfl | exact OpR_load_agg' hs rfl is_rfl | exact OpR_load_el (h.st hs) hy rfl rfl is_rfl)
      | (apply as_move; exact OpR_move rfl is_rfl)
      | (apply as_assign; exact OpR_assign rfl is_rfl)
      | (apply as_fieldAddr; exact OpR_fieldAddr0 rfl rfl is_rfl)
      | (apply as_binOp; first | exact OpR_ibin rfl rfl rfl is_rfl | exact OpR_eqT rfl rfl is_rfl)
      | (apply as_pick; exact OpR_pick_t rfl (by first | assumption | rfl | exact decide_eq_true (by first | assumption | omega) | exact decide_eq_false (by first | assumption | omega)) rfl is_rfl)
      | (apply as_indexAddr; exact OpR_indexAddr rfl rfl (by omega) (by omega) is_rfl)); first | (exact rfl; exact rfl) | exact rfl)
                    | (apply J_seq)
                    | (apply J_region)
                    | (apply J_block)
                    | (apply J_skip)
                    | (apply al_none (t := 7); refine JL_o (by apply as_alloc; exact OpR_alloc' hs) rfl rfl ?_; rintro _ _ ⟨b7, rfl, hb7, hs, hE⟩)
                    | (apply al_unit; refine JL_u (by apply as_store; exact OpR_store' hs rfl rfl rfl) rfl ?_; rintro _ _ ⟨hs, hF⟩)
                    | (apply aj_cond; refine J_dec_t rfl (by first | assumption | omega) ?_))
                  refine J_leave Tryd.func10 rfl (.tmp rfl .nil) ⟨rfl, hs.frm.ext⟩
                · repeat' (first
                    | (apply JL_nil)
                    | ((first | (apply JL_pure) | (apply JL_pure_on; exact rfl; (first | assumption | exact rfl | exact decide_eq_true (by first | assumption | omega) | exact decide_eq_false (by first | assumption | omega)))); (first
      | (apply as_load; first | exact OpR_load' hs rfl rfl is_rfl | exact OpR_load_agg' hs rfl is_rfl | exact OpR_load_el (h.st hs) hy rfl rfl is_rfl)
      | (apply as_move; exact OpR_move rfl is_rfl)
      | (apply as_fieldAddr; exact OpR_fieldAddr0 rfl rfl is_rfl)
      | (apply as_add; exact OpR_addn rfl rfl (by omega) (by first | (simp only [Int.reduceAdd]; exact rfl) | exact rfl) is_rfl)
      | (apply as_binOp; first | exact OpR_ibin rfl rfl rfl is_rfl | exact OpR_eqT rfl rfl is_rfl)
      | (apply as_pick; exact OpR_pick_t rfl (by first | assumption | rfl | exact decide_eq_true (by first | assumption | omega) | exact decide_eq_false (by first | assumption | omega)) rfl is_rfl)
      | (apply as_indexAddr; exact OpR_indexAddr rfl rfl (by omega) (by omega) is_rfl)); first | (exact rfl; exact rfl) | exact rfl)
                    | (apply J_seq)
                    | (apply J_region)
                    | (apply J_block)
                    | (apply J_inBlock)
                    | (apply J_skip)
                    | (apply al_none (t := 7); refine JL_o (by apply as_alloc; exact OpR_alloc' hs) rfl rfl ?_; rintro _ _ ⟨b7, rfl, hb7, hs, hE⟩)
                    | (apply al_unit; refine JL_u (by apply as_store; exact OpR_store' hs rfl rfl rfl) rfl ?_; rintro _ _ ⟨hs, hF⟩)
                    | (apply aj_cond; first | refine J_dec_t rfl (by first | assumption | omega) ?_ | refine J_dec_f rfl (by first | assumption | omega) ?_))
                  refine ih2 (j + 1) _ _ ⟨hs.sel [1, 2] (by decide), by omega, fun h0 i t hi ht => ?_⟩ (by omega) (by repeat' (first | exact trivial | exact rfl | apply And.intro))
                  by_cases hij : i < j
                  · exact hJ h0 i t hij ht
                  · obtain rfl : i = j := by omega
                    rw [hy] at ht
                    injection ht with ht
                    rw [← ht]
                    exact fun e => he ⟨by rw [e], by rw [e]⟩
              · repeat' (first
                  | (apply JL_nil)
                  | ((apply JL_pure); (first
      | (apply as_load; first | exact OpR_load' hs rfl rfl is_rfl | exact OpR_load_agg' hs rfl is_rfl | exact OpR_load_el (h.st hs) hy rfl rfl is_rfl)
      | (apply as_move; exact OpR_move rfl is_rfl)
      | (apply as_fieldAddr; exact OpR_fieldAddr0 rfl rfl is_rfl)
      | (apply as_add; exact OpR_addn rfl rfl (by omega) (by first | (simp only [Int.reduceAdd]; exact rfl) | exact rfl) is_rfl)
      | (apply as_binOp; exact OpR_ibin rfl rfl rfl is_rfl)
      | (apply as_pick; exact OpR_pick_f rfl (by first | assumption | rfl | exact decide_eq_true (by first | assumption | omega) | exact decide_eq_false (by first | assumption | omega)) rfl is_rfl)
      | (apply as_indexAddr; exact OpR_indexAddr rfl rfl (by omega) (by omega) is_rfl)); first | (exact rfl; exact rfl) | exact rfl)
                  | (apply J_seq)
                  | (apply J_region)
                  | (apply J_block)
                  | (apply J_inBlock)
                  | (apply J_skip)
                  | (apply al_none (t := 7); refine JL_o (by apply as_alloc; exact OpR_alloc' hs) rfl rfl ?_; rintro _ _ ⟨b7, rfl, hb7, hs, hE⟩)
                  | (apply al_unit; refine JL_u (by apply as_store; exact OpR_store' hs rfl rfl rfl) rfl ?_; rintro _ _ ⟨hs, hF⟩)
                  | (apply al_guard; (refine JL_no rfl (by first | assumption | rfl | exact decide_eq_true (by first | assumption | omega) | exact decide_eq_false (by first | assumption | omega)) rfl ?_))
                  | (apply aj_cond; first | refine J_dec_t rfl (by first | assumption | omega) ?_ | refine J_cond_f rfl (by first | assumption | rfl | exact decide_eq_true (by first | assumption | omega) | exact decide_eq_false (by first | assumption | omega)) ?_))
                refine ih2 (j + 1) _ _ ⟨hs.sel [1, 2] (by decide), by omega, fun h0 => absurd h0 hp⟩ (by omega) (by repeat' (first | exact trivial | exact rfl | apply And.intro))
            · obtain rfl : j = k := by omega
              repeat' (first
                | (apply JL_nil)
                | ((apply JL_pure); (first
      | (apply as_move; exact OpR_move rfl is_rfl)
      | (apply as_add; exact OpR_addn rfl rfl (by omega) (by first | (simp only [Int.reduceAdd]; exact rfl) | exact rfl) is_rfl)
      | (apply as_binOp; exact OpR_ibin rfl rfl rfl is_rfl)); first | (exact rfl; exact rfl) | exact rfl)
                | (apply J_seq)
                | (apply J_region)
                | (apply J_inBlock)
                | (apply aj_exit; refine J_exit rfl ?_)
                | (apply aj_cond; refine J_dec_f rfl (by first | assumption | omega) ?_))
              refine ih (j + 1) _ _ ⟨hs.sel [1] (by decide), by omega, fun i s hi hsx => ?_⟩ (by omega) (by repeat' (first | exact trivial | exact rfl | apply And.intro))
              by_cases hij : i < j
              · exact hK i s hij hsx
              · obtain rfl : i = j := by omega
                rw [hx] at hsx
                injection hsx with hsx
                rw [← hsx]
                exact ⟨hsp, fun h0 i t hi ht => hJ h0 i t hi ht⟩
          · rw [hrb, right_f (fun hr => hsp (hr.2.2 k x hx).1)]
            have hq : (!spotR (x.1, x.2)) = true := by simpa using hsp
            repeat' (first
              | ((apply al_call 32; refine JL_o (by exact OpR_callF en32 rfl (spotR_r _ x.1 x.2)) rfl rfl ?_; rintro _ _ ⟨rfl, hE⟩; have hs := hs.ext hE; (try simp only [List.cons_append, List.nil_append] at hs)))
              | (apply JL_nil)
              | ((apply JL_pure); (first
      | (apply as_load; first | exact OpR_load' hs rfl rfl is_rfl | exact OpR_load_agg' hs rfl is_rfl | exact OpR_load_el (h.st hs) hx rfl rfl is_rfl)
      | (apply as_move; exact OpR_move rfl is_rfl)
      | (apply as_assign; exact OpR_assign rfl is_rfl)
      | (apply as_binOp; exact OpR_ibin rfl rfl rfl is_rfl)
      | (apply as_unOp; exact OpR_not rfl is_rfl)
      | (apply as_indexAddr; exact OpR_indexAddr rfl rfl (by omega) (by omega) is_rfl)); first | (exact rfl; exact rfl) | exact rfl)
              | (apply J_seq)
              | (apply J_region)
              | (apply J_block)
              | (apply J_skip)
              | (apply al_none (t := 5); refine JL_o (by apply as_alloc; exact OpR_alloc' hs) rfl rfl ?_; rintro _ _ ⟨b5, rfl, hb5, hs, hE⟩)
              | (apply al_unit; refine JL_u (by apply as_store; exact OpR_store' hs rfl rfl rfl) rfl ?_; rintro _ _ ⟨hs, hF⟩)
              | (apply aj_cond; first | refine J_dec_t rfl (by first | assumption | omega) ?_ | refine J_cond_t rfl (by first | assumption | rfl | exact decide_eq_true (by first | assumption | omega) | exact decide_eq_false (by first | assumption | omega)) ?_))
            refine J_leave Tryd.func10 rfl (.tmp rfl .nil) ⟨rfl, hs.frm.ext⟩
        · have hr : rb = true := by
            rw [hrb, right_iff]
            refine ⟨by omega, hg2, fun i s hs => hK i s ?_ hs⟩
            have := (List.getElem?_eq_some_iff.1 hs).1
            omega
          rw [hr]
          have hs : St w NoF w' [_] := hs1
          repeat' (first
            | (apply JL_nil)
            | ((apply JL_pure); (first
      | (apply as_assign; exact OpR_assign rfl is_rfl)
      | (apply as_binOp; exact OpR_ibin rfl rfl rfl is_rfl)); first | (exact rfl; exact rfl) | exact rfl)
            | (apply J_seq)
            | (apply J_region)
            | (apply aj_exit; refine J_exit rfl ?_)
            | (apply aj_cond; refine J_dec_f rfl (by first | assumption | omega) ?_))
          refine J_leave Tryd.func10 rfl (.tmp rfl .nil) ⟨rfl, hs.frm.ext⟩
end Go.Eng
/- Record: small. -/
namespace Go.Eng
open Go.Proofs
attribute [local irreducible] J JL JD JX JXat OpR OpG Ret RetV Is Blk Row MapC
set_option maxRecDepth 100000
set_option maxHeartbeats 1000000
set_option linter.unusedSimpArgs false
set_option linter.unusedVariables false
abbrev smallM : List Sp := [(0, 0), (0, 0), (1, 0), (1, 1), (0, 0), (2, 0)]
theorem small_r (w : World) : Ret Tryd.prog 30 #[] w fun v w' => ∃ a c, v = .agg #[.slice a 6 c] ∧ Fresh w w' [Row a 6 c 34 2 (cSp smallM)] := by
  refine Ret_of (l := []) Tryd.func30 rfl Tryd.ntmps30 (by simp) ?_
  have hs := St.init w
  repeat' (first
    | (apply JL_nil)
    | ((apply JL_pure); (apply as_build; exact OpR_build rfl (by (simp only [bld, placesOf, splice, Value.cells, List.take_succ_cons, List.take_zero, List.drop_succ_cons, List.drop_zero, List.cons_append, List.nil_append, List.length_cons, List.length_nil, List.getElem?_cons_zero, List.getElem?_cons_succ, Option.map_some, List.append_nil, Nat.reduceAdd, Nat.reduceMul, Nat.zero_add, Nat.reduceLeDiff, and_self, if_true, List.toList_toArray, Nat.le_refl, Nat.zero_mul, Nat.one_mul]; first | done | rfl)) is_rfl); first | (exact rfl; exact rfl) | exact rfl)
    | (apply J_seq)
    | (apply J_region)
    | (apply al_none (t := 0); refine JL_o (by apply as_alloc; exact OpR_alloc' hs) rfl rfl ?_; rintro _ _ ⟨b0, rfl, hb0, hs, hE⟩)
    | (apply al_none (t := 7); refine JL_o (by apply as_buildSlice; exact OpR_buildSlice hs rfl (by omega) rfl) rfl rfl ?_; rintro _ _ ⟨b7, rfl, hb7, hs, hE⟩)
    | (apply al_unit; refine JL_u (by apply as_store; exact OpR_store' hs rfl rfl rfl) rfl ?_; rintro _ _ ⟨hs, hF⟩))
  have hs := hs.toRow 0 6 6 2 (xs := cSp smallM) (Nat.le_refl _) (by unfold maxLen; omega) (by decide) rfl
  refine J_leave Tryd.func30 rfl (.agg' hs rfl rfl .nil) ⟨_, _, rfl, hs.out (.cons_cons _ (List.nil_sublist _))⟩
end Go.Eng
/- Record: IndexFunc, ContainsFunc; who stands above. -/
namespace Go.Eng
open Go.Proofs
def aboveB (s : Sp) (last : Int) (t : Sp) : Bool := decide (t.1 = s.1) && decide (last < t.2)
attribute [local irreducible] J JL JD JX JXat OpR OpG Ret RetV Is Blk Row MapC
set_option maxRecDepth 100000
set_option maxHeartbeats 1000000
set_option linter.unusedSimpArgs false
set_option linter.unusedVariables false
theorem above_r (w : World) (bs bl : Nat) (s1 s2 last t1 t2 : Int) (hbs : w.heap[bs]? = some (.cells #[.int .i64 s1, .int .i64 s2] 34 (0, 0))) (hbl : w.heap[bl]? = some (.cells #[.int .i64 last] 3 (0, 0))) :
    Ret Tryd.prog 45 (#[.agg #[.int .i64 t1, .int .i64 t2]] ++ #[ptr bs, ptr bl]) w fun v w' => v = .bool (aboveB (s1, s2) last (t1, t2)) ∧ Ext w w' := by
  refine Ret_of (l := [_, _, _]) Tryd.func45 rfl Tryd.ntmps45 (by simp) ?_
  have hs := St.init w
  unfold aboveB
  have hc1 : w.cell? ⟨bs, 0, none⟩ = some (.int .i64 s1) := cell_blk hbs rfl
  have hc2 : w.cell? ⟨bl, 0, none⟩ = some (.int .i64 last) := cell_blk hbl rfl
  by_cases h1 : t1 = s1
  · repeat' (first
      | (apply JL_nil)
      | ((first | (apply JL_pure) | (apply JL_pure_on; exact rfl; (first | assumption | exact rfl | exact decide_eq_true (by first | assumption | omega) | exact decide_eq_false (by first | assumption | omega)))); (first
      | (apply as_load; first | exact OpR_load' hs rfl rfl is_rfl | exact OpR_load_cell (hs.old_cell hc1) rfl is_rfl | exact OpR_load_cell (hs.old_cell hc2) rfl is_rfl)
      | (apply as_move; exact OpR_move rfl is_rfl)
      | (apply as_assign; exact OpR_assign rfl is_rfl)
      | (apply as_fieldAddr; exact OpR_fieldAddr0 rfl rfl is_rfl)
      | (apply as_binOp; exact OpR_ibin rfl rfl rfl is_rfl)
      | (apply as_pick; exact OpR_pick_t rfl (by first | assumption | rfl | exact decide_eq_true (by first | assumption | omega) | exact decide_eq_false (by first | assumption | omega)) rfl is_rfl)); first | (exact rfl; exact rfl) | exact rfl)
      | (apply J_seq)
      | (apply J_region)
      | (apply al_none (t := 3); refine JL_o (by apply as_box; exact OpR_box' hs rfl) rfl rfl ?_; rintro _ _ ⟨b3, rfl, hb3, hs, hE⟩))
    refine J_leave Tryd.func45 rfl (.tmp rfl .nil) ⟨by simp [mkRes, h1], hs.frm.ext⟩
  · repeat' (first
      | (apply JL_nil)
      | ((apply JL_pure); (first
      | (apply as_load; first | exact OpR_load' hs rfl rfl is_rfl | exact OpR_load_cell (hs.old_cell hc1) rfl is_rfl | exact OpR_load_cell (hs.old_cell hc2) rfl is_rfl)
      | (apply as_move; exact OpR_move rfl is_rfl)
      | (apply as_assign; exact OpR_assign rfl is_rfl)
      | (apply as_fieldAddr; exact OpR_fieldAddr0 rfl rfl is_rfl)
      | (apply as_binOp; exact OpR_ibin rfl rfl rfl is_rfl)
      | (apply as_pick; exact OpR_pick_f rfl (by first | assumption | rfl | exact decide_eq_true (by first | assumption | omega) | exact decide_eq_false (by first | assumption | omega)) rfl is_rfl)); first | (exact rfl; exact rfl) | exact rfl)
      | (apply J_seq)
      | (apply J_region)
      | (apply al_none (t := 3); refine JL_o (by apply as_box; exact OpR_box' hs rfl) rfl rfl ?_; rintro _ _ ⟨b3, rfl, hb3, hs, hE⟩)
      | (apply al_guard; (refine JL_no rfl (by first | assumption | rfl | exact decide_eq_true (by first | assumption | omega) | exact decide_eq_false (by first | assumption | omega)) rfl ?_)))
    refine J_leave Tryd.func45 rfl (.tmp rfl .nil) ⟨by simp [mkRes, h1], hs.frm.ext⟩
/-- The place of the first one of which q is true. -/
def idxQ (xs : List Sp) (q : Sp → Bool) : Int := match xs.findIdx? q with | some i => i | none => -1
theorem indexFunc_r (w : World) (a : Option Addr) (n c : Nat) (xs : List Sp) (q : Sp → Bool) (g : Nat) (cap : Array Value) (eg : Enters Tryd.prog g) (h : Sl dSp All w a n c xs) (hq : ∀ W, Ext w W → ∀ s : Sp, Ret Tryd.prog g (#[.agg #[.int .i64 s.1, .int .i64 s.2]] ++ cap) W fun v w' => v = .bool (q s) ∧ Ext W w') :
    Ret Tryd.prog 51 #[.slice a n c, .func (.func g) #[] cap] w fun v w' => v = .int .i64 (idxQ xs q) ∧ Ext w w' := by
  refine Ret_of (l := [_, _]) Tryd.func51 rfl Tryd.ntmps51 (by simp) ?_
  have hs := St.init w
  have hl := h.len
  have hc := h.le
  have hm := h.cap
  unfold maxLen at hm
  repeat' (first
    | (apply JL_nil)
    | ((apply JL_pure); (first
      | (apply as_move; exact OpR_move rfl is_rfl)
      | (apply as_assign; exact OpR_assign rfl is_rfl)
      | (apply as_b_len; exact OpR_len rfl is_rfl)); first | (exact rfl; exact rfl) | exact rfl)
    | (apply J_seq)
    | (apply J_region)
    | (apply J_block))
  refine J_loopK (α := Nat) [(0, _), (1, _), (7, _)] (fun k => [(8, .int .i64 k)]) (fun k w' => St w NoF w' [] ∧ k ≤ n ∧ ∀ y ∈ xs.take k, q y = false) (fun k => n - k) 0 ⟨hs, by omega, by simp⟩ (by repeat' (first | exact trivial | exact rfl | apply And.intro)) ?_
  rintro k w' ⟨hs, hk, hj⟩ ih
  by_cases hlt : k < n
  · obtain ⟨p1, o1, rfl⟩ := h.sl.addr (by omega)
    have hx : xs[k]? = some xs[k] := List.getElem?_eq_getElem (by omega)
    obtain ⟨x, hxd⟩ : ∃ x, x = xs[k] := ⟨_, rfl⟩
    rw [← hxd] at hx
    cases hqx : q x with
    | true =>
      have hi : idxQ xs q = k := by unfold idxQ; rw [findIdx_first hx hqx hj]
      rw [hi]
      repeat' (first
        | ((apply al_none; refine JL_o (OpR_callV rfl rfl (Ret.value (cap := cap) eg (hq _ hs.frm.ext x))) rfl rfl ?_; rintro _ _ ⟨rfl, hE⟩; rw [hqx]; have hs := hs.ext hE))
        | (apply JL_nil)
        | ((apply JL_pure); (first
      | (apply as_load; exact OpR_load_el (h.st hs) hx rfl rfl is_rfl)
      | (apply as_move; exact OpR_move rfl is_rfl)
      | (apply as_assign; exact OpR_assign rfl is_rfl)
      | (apply as_binOp; exact OpR_ibin rfl rfl rfl is_rfl)
      | (apply as_indexAddr; exact OpR_indexAddr rfl rfl (by omega) (by omega) is_rfl)); first | (exact rfl; exact rfl) | exact rfl)
        | (apply J_seq)
        | (apply J_region)
        | (apply J_block)
        | (apply J_skip)
        | (apply aj_cond; first | refine J_dec_t rfl (by first | assumption | omega) ?_ | refine J_cond_t rfl (by first | assumption | rfl | exact decide_eq_true (by first | assumption | omega) | exact decide_eq_false (by first | assumption | omega)) ?_))
      refine J_leave Tryd.func51 rfl (.tmp rfl .nil) ⟨rfl, hs.frm.ext⟩
    | false =>
      repeat' (first
        | ((apply al_none; refine JL_o (OpR_callV rfl rfl (Ret.value (cap := cap) eg (hq _ hs.frm.ext x))) rfl rfl ?_; rintro _ _ ⟨rfl, hE⟩; rw [hqx]; have hs := hs.ext hE))
        | (apply JL_nil)
        | ((apply JL_pure); (first
      | (apply as_load; exact OpR_load_el (h.st hs) hx rfl rfl is_rfl)
      | (apply as_move; exact OpR_move rfl is_rfl)
      | (apply as_assign; exact OpR_assign rfl is_rfl)
      | (apply as_add; exact OpR_addn rfl rfl (by omega) (by first | (simp only [Int.reduceAdd]; exact rfl) | exact rfl) is_rfl)
      | (apply as_binOp; exact OpR_ibin rfl rfl rfl is_rfl)
      | (apply as_indexAddr; exact OpR_indexAddr rfl rfl (by omega) (by omega) is_rfl)); first | (exact rfl; exact rfl) | exact rfl)
        | (apply J_seq)
        | (apply J_region)
        | (apply J_block)
        | (apply J_inBlock)
        | (apply J_skip)
        | (apply aj_cond; first | refine J_dec_t rfl (by first | assumption | omega) ?_ | refine J_cond_f rfl (by first | assumption | rfl | exact decide_eq_true (by first | assumption | omega) | exact decide_eq_false (by first | assumption | omega)) ?_))
      refine ih (k + 1) _ _ ⟨hs, by omega, fun y hy => ?_⟩ (by omega) (by repeat' (first | exact trivial | exact rfl | apply And.intro))
      rw [List.take_add_one, hx] at hy
      rcases List.mem_append.1 hy with hy | hy
      · exact hj y hy
      · have hy : y = x := by simpa using hy
        rw [hy]; exact hqx
  · rw [List.take_of_length_le (by omega)] at hj
    have hi : idxQ xs q = -1 := by unfold idxQ; rw [findIdx_none hj]
    rw [hi]
    repeat' (first
      | (apply JL_nil)
      | ((apply JL_pure); (first
      | (apply as_assign; exact OpR_assign rfl is_rfl)
      | (apply as_binOp; exact OpR_ibin rfl rfl rfl is_rfl)); first | (exact rfl; exact rfl) | exact rfl)
      | (apply J_seq)
      | (apply J_region)
      | (apply aj_exit; refine J_exit rfl ?_)
      | (apply aj_cond; refine J_dec_f rfl (by first | assumption | omega) ?_))
    refine J_leave Tryd.func51 rfl (.tmp rfl .nil) ⟨rfl, hs.frm.ext⟩
theorem idxQ_any (xs : List Sp) (q : Sp → Bool) : decide (idxQ xs q ≥ 0) = xs.any q := by
  unfold idxQ
  cases h : xs.findIdx? q with
  | none =>
    rw [List.findIdx?_eq_none_iff] at h
    have : xs.any q = false := by rw [List.any_eq_false]; intro x hx; rw [h x hx]; simp
    rw [this]; simp
  | some i =>
    rw [List.findIdx?_eq_some_iff_getElem] at h
    obtain ⟨h1, h2, _⟩ := h
    have : xs.any q = true := List.any_eq_true.2 ⟨xs[i], List.getElem_mem _, h2⟩
    rw [this]; simp
theorem containsFunc_r (w : World) (a : Option Addr) (n c : Nat) (xs : List Sp) (q : Sp → Bool) (g : Nat) (cap : Array Value) (eg : Enters Tryd.prog g) (h : Sl dSp All w a n c xs) (hq : ∀ W, Ext w W → ∀ s : Sp, Ret Tryd.prog g (#[.agg #[.int .i64 s.1, .int .i64 s.2]] ++ cap) W fun v w' => v = .bool (q s) ∧ Ext W w') :
    Ret Tryd.prog 46 #[.slice a n c, .func (.func g) #[] cap] w fun v w' => v = .bool (xs.any q) ∧ Ext w w' := by
  refine Ret_of (l := [_, _]) Tryd.func46 rfl Tryd.ntmps46 (by simp) ?_
  have hs := St.init w
  repeat' (first
    | ((apply al_call 51; refine JL_o (by exact OpR_callF en51 rfl (indexFunc_r _ a n c xs q g cap eg (h.st hs) (fun W hW s => hq W (hs.frm.ext.trans hW) s))) rfl rfl ?_; rintro _ _ ⟨rfl, hE⟩; have hs := hs.ext hE; (try simp only [List.cons_append, List.nil_append] at hs)))
    | (apply JL_nil)
    | ((apply JL_pure); (first
      | (apply as_move; exact OpR_move rfl is_rfl)
      | (apply as_assign; exact OpR_assign rfl is_rfl)
      | (apply as_binOp; exact OpR_ibin rfl rfl rfl is_rfl)); first | (exact rfl; exact rfl) | exact rfl)
    | (apply J_seq)
    | (apply J_region))
  refine J_leave Tryd.func46 rfl (.tmp rfl .nil) ⟨by rw [← idxQ_any]; rfl, hs.frm.ext⟩
end Go.Eng
/- Record: what does hands its callee: put. -/
namespace Go.Eng
open Go.Proofs
def growM (xs : List Sp) (i : Nat) : List Sp := xs ++ List.replicate (i - xs.length) (0, 0)
def putM (xs : List Sp) (i : Nat) (s : Sp) : List Sp := (growM xs i).set (i - 1) s
theorem growM_len (xs : List Sp) (i : Nat) : (growM xs i).length = max xs.length i := by simp [growM]; omega
theorem growM_step {xs : List Sp} {m : Nat} (h : xs.length ≤ m) : growM xs m ++ [(0, 0)] = growM xs (m + 1) := by
  unfold growM
  rw [List.append_assoc, show m + 1 - xs.length = (m - xs.length) + 1 by omega, List.replicate_succ']
theorem cSp_app (xs ys : List Sp) : cSp (xs ++ ys) = cSp xs ++ cSp ys := encL_app _ _
theorem cSp_set (xs : List Sp) (i : Nat) (y : Sp) (h : i < xs.length) : cSp (xs.set i y) = splice (cSp xs) (i * 2) [.int .i64 y.1, .int .i64 y.2] := encL_set (d := dSp) xs i y h
theorem RowV.srcN {w : World} {a : Option Addr} {n c e sz : Nat} {xs : List Value} (h : RowV w a n c e sz xs) (ho : ∀ u ∈ xs, u.oneCell' = true) : Src w a n sz xs := by
  refine ⟨h.1, fun ha => ?_, ho, fun b o hb j u hj => h.cells hb hj⟩
  obtain ⟨_, q2, _, q4⟩ := h
  rcases q4 with ⟨_, hc⟩ | ⟨g, o, _, hs, _⟩
  · omega
  · rw [ha] at hs; cases hs
attribute [local irreducible] J JL JD JX JXat OpR OpG Ret RetV Is Blk Row MapC
set_option maxRecDepth 100000
set_option maxHeartbeats 1000000
set_option linter.unusedSimpArgs false
set_option linter.unusedVariables false
theorem put50_r (w : World) (hG : Gz w) (bl : Nat) (a : Option Addr) (n c : Nat) (xs : List Sp) (i : Nat) (s1 s2 : Int) (hi : 1 ≤ i ∧ i ≤ 1048578) (hn : xs.length = n) (hn2 : n ≤ 4000000)
    (hheld : Held w [Blk bl (.cells #[.slice a n c] 22 (0, 0)), Row a n c 34 2 (cSp xs)]) (h0 : ¬ (Star [Blk bl (.cells #[.slice a n c] 22 (0, 0)), Row a n c 34 2 (cSp xs)]).foot 0) :
    Ret Tryd.prog 50 (#[.int .i64 i, .agg #[.int .i64 s1, .int .i64 s2]] ++ #[ptr bl]) w fun _ w' => ∃ a' c', Turn w [Blk bl (.cells #[.slice a n c] 22 (0, 0)), Row a n c 34 2 (cSp xs)] w' [Blk bl (.cells #[.slice a' (putM xs i (s1, s2)).length c'] 22 (0, 0)), Row a' (putM xs i (s1, s2)).length c' 34 2 (cSp (putM xs i (s1, s2)))] := by
  refine Ret_of (l := [_, _, _]) Tryd.func50 rfl Tryd.ntmps50 (by simp) ?_
  have hs := hheld.st
  subst hn
  have hge : growM xs xs.length = xs := by simp [growM]
  repeat' (first
    | (apply JL_nil)
    | (apply J_seq)
    | (apply J_region)
    | (apply J_block)
    | (apply al_none (t := 4); refine JL_o (by apply as_box; exact OpR_box' hs rfl) rfl rfl ?_; rintro _ _ ⟨b4, rfl, hb4, hs, hE⟩))
  obtain ⟨k, rfl⟩ : ∃ k, i = k + 1 := ⟨i - 1, by omega⟩
  have e2 : ((k + 1 : Nat) : Int) - 1 = (k : Int) := by omega
  refine J_loopK (α := Nat) [(0, _), (2, _), (4, _)] (fun m => []) (fun m w' => xs.length ≤ m ∧ (m = xs.length ∨ m ≤ k + 1) ∧ ∃ a' c', St w (Star [Blk bl (.cells #[.slice a xs.length c] 22 (0, 0)), Row a xs.length c 34 2 (cSp xs)]).foot w' [Blk b4 (.cells #[.int .i64 s1, .int .i64 s2] 34 (0, 0)), Blk bl (.cells #[.slice a' m c'] 22 (0, 0)), Row a' m c' 34 2 (cSp (growM xs m))]) (fun m => k + 1 - m) xs.length ⟨Nat.le_refl _, .inl rfl, a, c, by rw [hge]; exact hs⟩ (by repeat' (first | exact trivial | exact rfl | apply And.intro)) ?_
  rintro m w' ⟨hm1, hm2, a2, c2, hs⟩ ih
  have hml : (growM xs m).length = m := by rw [growM_len]; omega
  by_cases hlt : m < k + 1
  · repeat' (first
      | ((apply al_none (t := 11); refine JL_o (by apply as_buildSlice; exact OpR_buildSlice hs rfl (by omega) rfl) rfl rfl ?_; rintro _ _ ⟨b11, rfl, hb11, hs, hE⟩; have hs := hs.toRow 0 1 1 2 (xs := cSp [(0, 0)]) (Nat.le_refl _) (by unfold maxLen; omega) (by decide) rfl))
      | ((apply al_none; refine JL_o (by apply as_b_append; exact OpR_append (xs := cSp (growM xs m)) hs rfl rfl (RowV.srcN (hs.row (some ⟨b11, 0, none⟩) 1 1) (encL_one (d := dSp) _)) (fun _ => (hs.row (some ⟨b11, 0, none⟩) 1 1).plain) rfl (by omega) (by unfold maxLen; omega)) rfl rfl ?_; rintro _ _ ⟨a3, c3, rfl, hs, hF, hnil⟩))
      | (apply JL_nil)
      | ((apply JL_pure); (first
      | (apply as_load; exact OpR_load_cells (T := 34) (vs := [.int .i64 0, .int .i64 0]) rfl (fun j u hu => hs.keep_cell (hG j u hu) h0) rfl is_rfl)
      | (apply as_move; exact OpR_move rfl is_rfl)
      | (apply as_load; exact OpR_load' hs rfl rfl is_rfl)
      | (apply as_binOp; exact OpR_ibin rfl rfl rfl is_rfl)
      | (apply as_b_len; exact OpR_len rfl is_rfl)); first | (exact rfl; exact rfl) | exact rfl)
      | (apply J_seq)
      | (apply J_region)
      | (apply J_block)
      | (apply J_inBlock)
      | (apply J_skip)
      | (apply al_unit; refine JL_u (by apply as_store; exact OpR_store' hs rfl rfl rfl) rfl ?_; rintro _ _ ⟨hs, hF⟩)
      | (apply aj_cond; refine J_dec_t rfl (by first | assumption | omega) ?_))
    rw [← cSp_app, growM_step hm1] at hs
    refine ih (m + 1) _ _ ⟨by omega, by omega, a3, c3, hs.sel [1, 2, 3] (by decide)⟩ (by omega) (by repeat' (first | exact trivial | exact rfl | apply And.intro))
  · have hmm : m = (putM xs (k + 1) (s1, s2)).length := by unfold putM; rw [List.length_set, growM_len]; omega
    obtain ⟨b2, o2, rfl⟩ := (hs.row a2 m c2).some (by omega)
    have hgm : growM xs m = growM xs (k + 1) := by
      rcases hm2 with h | h
      · rw [h, hge]; unfold growM; rw [show k + 1 - xs.length = 0 by omega]; simp
      · rw [show m = k + 1 by omega]
    repeat' (first
      | ((apply al_none; refine JL_pure (v := .int .i64 (k : Int)) (by apply as_sub; exact OpR_sub rfl rfl (by omega) (by rw [e2]; exact is_rfl)) rfl rfl ?_))
      | ((apply al_unit; refine JL_u (by apply as_store; exact OpR_storeN (b := b2) (o := o2) (off := k * 2) (n := m) (c := c2) (vs := [.int .i64 s1, .int .i64 s2]) hs rfl rfl rfl rfl (by simp [Value.oneCell']) (by show k * 2 + 2 ≤ m * 2; omega)) rfl ?_; rintro _ _ ⟨hs, hF⟩))
      | (apply JL_nil)
      | ((apply JL_pure); (first
      | (apply as_move; exact OpR_move rfl is_rfl)
      | (apply as_load; first | exact OpR_load' hs rfl rfl is_rfl | exact OpR_load_agg' hs rfl is_rfl)
      | (apply as_binOp; exact OpR_ibin rfl rfl rfl is_rfl)
      | (apply as_b_len; exact OpR_len rfl is_rfl)
      | (apply as_indexAddr; exact OpR_indexAddr rfl rfl (by omega) (by omega) is_rfl)); first | (exact rfl; exact rfl) | exact rfl)
      | (apply J_seq)
      | (apply J_region)
      | (apply aj_exit; refine J_exit rfl ?_)
      | (apply aj_cond; refine J_dec_f rfl (by first | assumption | omega) ?_))
    have hput : splice (cSp (growM xs m)) (k * 2) [.int .i64 s1, .int .i64 s2] = cSp (putM xs (k + 1) (s1, s2)) := by
      unfold putM
      rw [hgm, Nat.add_sub_cancel, cSp_set _ _ _ (by rw [growM_len]; omega)]
    rw [hput] at hs
    rw [← hmm]
    have hs := hs.sel [1, 2] (by decide)
    refine J_leave_end Tryd.func50 rfl .nil ⟨_, _, St.turned (M := []) hs⟩
end Go.Eng
