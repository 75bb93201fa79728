/- Column: the plain laws: rows, and words. -/
import Derived.Test.YtkeejkengoolpaaC7
namespace Go.Eng
open Go.Proofs
set_option linter.unusedSimpArgs false
set_option linter.unusedVariables false
theorem flat_take {α : Type} (W : Nat) : ∀ (vss : List (List α)) (k : Nat), (∀ v ∈ vss, v.length = W) → (vss.take k).flatten = vss.flatten.take (k * W)
  | [], k, _ => by simp
  | v :: l, 0, _ => by simp
  | v :: l, k + 1, h => by
    have hv := h v List.mem_cons_self
    rw [List.take_succ_cons, List.flatten_cons, List.flatten_cons, flat_take W l k (fun u hu => h u (List.mem_cons_of_mem _ hu)), List.take_append, hv, Nat.add_mul, Nat.one_mul, Nat.add_sub_cancel, List.take_of_length_le (l := v) (by omega)]
theorem flat_drop {α : Type} (W : Nat) : ∀ (vss : List (List α)) (k : Nat), (∀ v ∈ vss, v.length = W) → (vss.drop k).flatten = vss.flatten.drop (k * W)
  | [], k, _ => by simp
  | v :: l, 0, _ => by simp
  | v :: l, k + 1, h => by
    have hv := h v List.mem_cons_self
    rw [List.drop_succ_cons, List.flatten_cons, flat_drop W l k (fun u hu => h u (List.mem_cons_of_mem _ hu)), List.drop_append, hv, Nat.add_mul, Nat.one_mul, Nat.add_sub_cancel, List.drop_of_length_le (l := v) (by omega), List.nil_append]
theorem flat_set {W : Nat} {vss : List (List Int)} {r : Nat} {v : List Int} (h : ∀ v ∈ vss, v.length = W) (hr : r < vss.length) (hv : v.length = W) : (vss.set r v).flatten = spl vss.flatten (r * W) v := by
  rw [List.set_eq_take_append_cons_drop, if_pos hr, List.flatten_append, List.flatten_cons, flat_take W _ _ h, flat_drop W _ _ h, spl, hv, Nat.add_mul, Nat.one_mul, List.append_assoc]
theorem rowsM_len (W R : Int) (ws : List Int) : (rowsM W R ws).length = R.toNat := by simp [rowsM]
theorem rowsM_get {W R r : Int} {ws : List Int} (hr : 0 ≤ r ∧ r < R) : (rowsM W R ws)[r.toNat]? = some (rowOf W r ws) := by
  rw [rowsM, List.getElem?_map, List.getElem?_range (by omega)]
  simp only [Option.map_some]
  rw [Int.toNat_of_nonneg hr.1]
theorem rowsM_W {W R : Int} {ws : List Int} (hB : colB W R ws.length = true) : ∀ v ∈ rowsM W R ws, v.length = W.toNat := by
  intro v hv
  obtain ⟨i, hi, rfl⟩ := List.mem_map.1 hv
  have hi := List.mem_range.1 hi
  have hb := row_bd (r := i) hB (by omega)
  have hw := colB_W hB
  simp [rowOf]; omega
theorem rowsM_flat {W R : Int} {ws : List Int} (hB : colB W R ws.length = true) : (rowsM W R ws).flatten = ws := by
  have hw := colB_W hB
  have key : ∀ k : Nat, ((List.range k).map (fun (i : Nat) => rowOf W (i : Int) ws)).flatten = ws.take (k * W.toNat) := by
    intro k
    induction k with
    | zero => simp
    | succ k ih =>
      rw [List.range_succ, List.map_append, List.flatten_append, ih, Nat.add_mul, Nat.one_mul, List.take_add]
      simp only [List.map_cons, List.map_nil, List.flatten_cons, List.flatten_nil, List.append_nil, rowOf]
      have e : ((k : Int) * W).toNat = k * W.toNat := by
        have : (k : Int) * W = ((k * W.toNat : Nat) : Int) := by rw [Int.natCast_mul, Int.toNat_of_nonneg hw.1.1]
        omega
      rw [e]
  rw [rowsM, key, List.take_of_length_le]
  have e : ((R.toNat * W.toNat : Nat) : Int) = R * W := by rw [Int.natCast_mul, Int.toNat_of_nonneg hw.1.1, Int.toNat_of_nonneg hw.2.1.1]
  have e2 : W * R = R * W := Int.mul_comm _ _
  omega
theorem natMul {W r : Int} (h1 : 0 ≤ W) (h2 : 0 ≤ r) : (r * W).toNat = r.toNat * W.toNat := by
  have : r * W = ((r.toNat * W.toNat : Nat) : Int) := by rw [Int.natCast_mul, Int.toNat_of_nonneg h1, Int.toNat_of_nonneg h2]
  omega
theorem with_flat {W R r : Int} {ws vs : List Int} (hB : colB W R ws.length = true) (hr : 0 ≤ r ∧ r < R) (hv : (vs.length : Int) = W) : ((rowsM W R ws).set r.toNat vs).flatten = setW W r ws vs := by
  have hw := colB_W hB
  rw [flat_set (rowsM_W hB) (by rw [rowsM_len]; omega) (by omega), rowsM_flat hB, setW, if_pos hv, natMul hw.1.1 hr.1]
theorem without_flat {W R r : Int} {ws : List Int} (hB : colB W R ws.length = true) (hr : 0 ≤ r ∧ r < R) : (withoutM (rowsM W R ws) r.toNat).flatten = swapW W R r ws := by
  have hw := colB_W hB
  have hl := rowsM_len W R ws
  have hlast : (rowsM W R ws).getD ((rowsM W R ws).length - 1) [] = rowOf W (R - 1) ws := by
    have := rowsM_get (W := W) (R := R) (r := R - 1) (ws := ws) (by omega)
    rw [hl, List.getD_eq_getElem?_getD, show R.toNat - 1 = (R - 1).toNat by omega, this]; rfl
  have hlr : (rowOf W (R - 1) ws).length = W.toNat := by
    have := rowsM_W hB (rowOf W (R - 1) ws) (List.mem_of_getElem? (rowsM_get (r := R - 1) (by omega)))
    exact this
  rw [withoutM, hlast]
  rw [flat_take W.toNat, flat_set (rowsM_W hB) (by rw [hl]; omega) hlr, rowsM_flat hB, hl, swapW, natMul hw.1.1 hr.1]
  · have e : ((R - 1) * W).toNat = (R.toNat - 1) * W.toNat := by rw [natMul hw.1.1 (by omega), show (R - 1).toNat = R.toNat - 1 by omega]
    rw [rowOf, e]
  · intro v hv
    rcases List.mem_or_eq_of_mem_set hv with h | rfl
    · exact rowsM_W hB v h
    · exact hlr
theorem without_len {W R r : Int} {ws : List Int} (hr : 0 ≤ r ∧ r < R) : (withoutM (rowsM W R ws) r.toNat).length = R.toNat - 1 := by
  simp [withoutM, rowsM_len]
theorem equal19_t (w : World) (a1 a2 : Option Addr) (n1 c1 n2 c2 : Nat) (xs : List Int) (h1 : WR w a1 n1 c1 xs) (h2 : WR w a2 n2 c2 xs) : Ret Try.prog 19 #[.slice a1 n1 c1, .slice a2 n2 c2] w fun v w' => v = .bool true ∧ Ext w w' := by
  have := equal19_r w a1 a2 n1 c1 n2 c2 xs xs All All h1.2.2.2 h2.2.2.2 (by have := h1.1; have := h1.2.1; unfold maxLen at *; omega)
  rwa [decide_eq_true rfl] at this
theorem rsame_t (w : World) (W1 R1 W2 R2 : Int) (a1 a2 : Option Addr) (n1 c1 n2 c2 : Nat) (xs ys : List Int) (h1 : WR w a1 n1 c1 xs) (h2 : WR w a2 n2 c2 ys) (e : W1 = W2 ∧ R1 = R2 ∧ xs = ys) :
    Ret Try.prog 20 #[.agg #[.int .i64 W1, .int .i64 R1, .slice a1 n1 c1], .agg #[.int .i64 W2, .int .i64 R2, .slice a2 n2 c2]] w fun v w' => v = .bool true ∧ Ext w w' := by
  have := rsame_r w W1 R1 W2 R2 a1 a2 n1 c1 n2 c2 xs ys h1.2.2.2 h2.2.2.2 (by have := h1.1; have := h1.2.1; unfold maxLen at *; omega)
  rwa [decide_eq_true e] at this
theorem Sl.ofRep {α : Type} {d : Ty α} {R : Nat → Prop} {w : World} {a : Option Addr} {n c : Nat} {xs : List α} (h : (tSl d).rep R w [.slice a n c] xs) : Sl d R w a n c xs := by
  obtain ⟨a', n', c', e, h1, h2, h3, h4⟩ := h
  injection e with e _
  injection e with e1 e2 e3
  subst e1; subst e2; subst e3
  exact ⟨h1, h2, h3, h4⟩
theorem DatsV.wr {R : Nat → Prop} {w : World} {cells : List Value} {xss : List (List Int)} (h : DatsV R (tSl (tInt .u64)) w cells xss) {i : Nat} {a : Option Addr} {n c : Nat} {xs : List Int} (hc : cells[i]? = some (.slice a n c)) (hx : xss[i]? = some xs) : WR w a n c xs :=
  ((Sl.ofRep (h.2 i _ _ hc hx)).weak (fun _ _ => trivial)).wr
theorem DatsV.cell {R : Nat → Prop} {w : World} {cells : List Value} {xss : List (List Int)} (h : DatsV R (tSl (tInt .u64)) w cells xss) {i : Nat} {xs : List Int} (hx : xss[i]? = some xs) : ∃ a n c, cells[i]? = some (.slice a n c) := by
  have hi := (List.getElem?_eq_some_iff.1 hx).1
  have hl := h.1
  have hc := List.getElem?_eq_getElem (l := cells) (i := i) (by omega)
  obtain ⟨a, n, c, e, _⟩ := h.2 i _ _ hc hx
  injection e with e _
  rw [e] at hc
  exact ⟨a, n, c, hc⟩
theorem u64_take {ws : List Int} (h : U64 ws) (k : Nat) : U64 (ws.take k) := fun x hx => h x (List.mem_of_mem_take hx)
theorem u64_drop {ws : List Int} (h : U64 ws) (k : Nat) : U64 (ws.drop k) := fun x hx => h x (List.mem_of_mem_drop hx)
theorem u64_row {Wd r : Int} {ws : List Int} (h : U64 ws) : U64 (rowOf Wd r ws) := u64_take (u64_drop h _) _
theorem u64_spl {cs vs : List Int} {k : Nat} (h : U64 cs) (h2 : U64 vs) : U64 (spl cs k vs) := by
  intro x hx
  simp only [spl, List.mem_append] at hx
  rcases hx with (hx | hx) | hx
  · exact h x (List.mem_of_mem_take hx)
  · exact h2 x hx
  · exact h x (List.mem_of_mem_drop hx)
theorem u64_swap {Wd Rr r : Int} {ws : List Int} (h : U64 ws) : U64 (swapW Wd Rr r ws) := u64_take (u64_spl h (u64_take (u64_drop h _) _)) _
theorem u64_set {Wd r : Int} {ws vs : List Int} (h : U64 ws) (h2 : U64 vs) : U64 (setW Wd r ws vs) := by
  unfold setW; split
  · exact u64_spl h h2
  · exact h
theorem isv_f {p : Prop} [Decidable p] (h : ¬ p) : some (Value.bool (decide p)) = some (.bool false) := by rw [decide_eq_false h]
theorem isv_t {p : Prop} [Decidable p] (h : p) : some (Value.bool (decide p)) = some (.bool true) := by rw [decide_eq_true h]
theorem u64_nil : U64 [] := fun x hx => by simp at hx
end Go.Eng
