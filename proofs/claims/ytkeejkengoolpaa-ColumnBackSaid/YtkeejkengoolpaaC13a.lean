/- Column: lemmas for the law ColumnSets. -/
import Derived.Test.YtkeejkengoolpaaC12
namespace Go.Eng
open Go.Proofs
theorem rowOf_flat {W : Int} (hW : 0 ≤ W) {vss : List (List Int)} (h : ∀ v ∈ vss, v.length = W.toNat) {i : Nat} (hi : i < vss.length) : rowOf W i vss.flatten = vss[i] := by
  have e : ((i : Int) * W).toNat = i * W.toNat := by rw [natMul hW (by omega)]; simp
  rw [rowOf, e, ← flat_drop W.toNat vss i h, List.drop_eq_getElem_cons hi, List.flatten_cons, List.take_append, h _ (List.getElem_mem hi), Nat.sub_self, List.take_zero, List.append_nil, List.take_of_length_le (by rw [h _ (List.getElem_mem hi)]; exact Nat.le_refl _)]
theorem rowsM_of {W R : Int} (hW : 0 ≤ W) {vss : List (List Int)} (h : ∀ v ∈ vss, v.length = W.toNat) (hl : vss.length = R.toNat) : rowsM W R vss.flatten = vss := by
  apply List.ext_getElem?
  intro i
  by_cases hi : i < vss.length
  · have hi2 : i < R.toNat := by omega
    rw [List.getElem?_eq_getElem hi, ← rowOf_flat hW h hi, rowsM, List.getElem?_map, List.getElem?_range hi2, Option.map_some]
  · rw [List.getElem?_eq_none (l := rowsM W R vss.flatten) (by rw [rowsM_len]; omega), List.getElem?_eq_none (l := vss) (by omega)]
theorem set_allW {W R r : Int} {ws vs : List Int} (hB : colB W R ws.length = true) (hv : (vs.length : Int) = W) : ∀ v ∈ (rowsM W R ws).set r.toNat vs, v.length = W.toNat := by
  intro v h
  rcases List.mem_or_eq_of_mem_set h with h | rfl
  · exact rowsM_W hB v h
  · omega
section
variable {W R r : Int} {ws vs : List Int} (hB : colB W R ws.length = true) (hr : 0 ≤ r ∧ r < R) (hv : (vs.length : Int) = W)
include hB hr hv
theorem setW_len : (setW W r ws vs).length = ws.length := by
  have := row_bd hB hr
  rw [setW, if_pos hv, spl_length (by omega)]
theorem rowsM_setW : rowsM W R (setW W r ws vs) = (rowsM W R ws).set r.toNat vs := by
  have hw := colB_W hB
  rw [← with_flat hB hr hv]
  exact rowsM_of hw.1.1 (set_allW hB hv) (by rw [List.length_set, rowsM_len])
theorem rowOf_setW : rowOf W r (setW W r ws vs) = vs := by
  have h1 := rowsM_get (W := W) (R := R) (r := r) (ws := setW W r ws vs) hr
  rw [rowsM_setW hB hr hv, List.getElem?_set_self (by rw [rowsM_len]; omega)] at h1
  exact (Option.some.inj h1).symm
theorem setW_back : setW W r (setW W r ws vs) (rowOf W r ws) = ws := by
  have hw := colB_W hB
  have h1 := rowsM_get (W := W) (R := R) (r := r) (ws := ws) hr
  have hl : ((rowOf W r ws).length : Int) = W := by
    have := rowsM_W hB _ (List.mem_of_getElem? h1); omega
  have hB2 : colB W R (setW W r ws vs).length = true := by rw [setW_len hB hr hv]; exact hB
  rw [← with_flat hB2 hr hl, rowsM_setW hB hr hv, List.set_set]
  have : (rowsM W R ws).set r.toNat (rowOf W r ws) = rowsM W R ws := by
    obtain ⟨hi, he⟩ := List.getElem?_eq_some_iff.1 h1
    rw [← he]; exact List.set_getElem_self hi
  rw [this, rowsM_flat hB]
end
theorem same26_t (w : World) (W1 R1 W2 R2 : Int) (a1 a2 : Option Addr) (n1 c1 n2 c2 : Nat) (xs : List Int) (h1 : WR w a1 n1 c1 xs) (h2 : WR w a2 n2 c2 xs) (e : W1 = W2 ∧ R1 = R2) :
    Ret Try.prog 26 #[.agg #[.int .i64 W1, .int .i64 R1, .slice a1 n1 c1], .agg #[.int .i64 W2, .int .i64 R2, .slice a2 n2 c2]] w fun v w' => v = .bool true ∧ Ext w w' := by
  have := same_r w W1 R1 W2 R2 a1 a2 n1 c1 n2 c2 xs xs All All h1.2.2.2 h2.2.2.2 (by have := h1.1; have := h1.2.1; unfold maxLen at *; omega)
  rwa [decide_eq_true (by exact ⟨e.1, e.2, rfl⟩)] at this
attribute [local irreducible] J JL JD JX JXat OpR OpG Ret RetV Is Blk Row
set_option maxRecDepth 100000
set_option maxHeartbeats 2000000
set_option linter.unusedSimpArgs false
set_option linter.unusedVariables false
theorem columnSets_r (w : World) (Wd Rr r : Int) (a av : Option Addr) (n c nv cv : Nat) (ws vs : List Int) (h : WR w a n c ws) (hvr : WR w av nv cv vs) :
    Ret Try.prog 5 #[.agg #[.int .i64 Wd, .int .i64 Rr, .slice a n c], .int .i64 r, .slice av nv cv] w fun v w' => v = .bool true ∧ Ext w w' := by
  refine Ret_of (l := [_, _, _]) Try.func5 rfl Try.ntmps5 (by simp) ?_
  have hs := St.init w
  obtain ⟨c0, hc0⟩ : ∃ c0, c0 = ws.take 60 := ⟨_, rfl⟩
  have hu0 : U64 c0 := by rw [hc0]; exact u64_take h.u64 _
  have huv := hvr.u64
  have hlv := hvr.len
  subst hlv
  have hc60 : c0.length ≤ 60 := by rw [hc0]; simp; omega
  by_cases hok : (colB Wd Rr c0.length = true ∧ 0 ≤ r ∧ r < Rr) ∧ (vs.length : Int) = Wd
  · obtain ⟨⟨hB, hr⟩, hv⟩ := hok
    have hw := colB_W hB
    have hset : setM Wd Rr r c0 vs = (Wd, Rr, setW Wd r c0 vs, 0) := by unfold setM doesM; rw [if_pos hB, if_pos hr, if_pos hv]; rfl
    obtain ⟨c1, hc1⟩ : ∃ c1, c1 = setW Wd r c0 vs := ⟨_, rfl⟩
    have hl1 : c1.length = c0.length := by rw [hc1]; exact setW_len hB hr hv
    have hB1 : colB Wd Rr c1.length = true := by rw [hl1]; exact hB
    have hu1 : U64 c1 := by rw [hc1]; exact u64_set hu0 huv
    rw [← hc1] at hset
    have hg1 : getM Wd Rr r c1 = (vs, 0) := by unfold getM; rw [if_pos hB1, if_pos hr, hc1, rowOf_setW hB hr hv]
    obtain ⟨old, hold⟩ : ∃ old, old = rowOf Wd r c0 := ⟨_, rfl⟩
    have hg0 : getM Wd Rr r c0 = (old, 0) := by unfold getM; rw [if_pos hB, if_pos hr, hold]
    have huo : U64 old := by rw [hold]; exact u64_row hu0
    have hlo : (old.length : Int) = Wd := by
      have := rowsM_W hB _ (List.mem_of_getElem? (rowsM_get hr)); rw [hold]; omega
    have hset2 : setM Wd Rr r c1 old = (Wd, Rr, c0, 0) := by unfold setM doesM; rw [if_pos hB1, if_pos hr, if_pos hlo, hc1, hold, setW_back hB hr hv]; rfl
    have hrows0 : rowsF Wd Rr c0 = rowsM Wd Rr c0 := by unfold rowsF; rw [if_pos hB]
    have hrows1 : rowsF Wd Rr c1 = (rowsM Wd Rr c0).set r.toNat vs := by unfold rowsF; rw [if_pos hB1, hc1, rowsM_setW hB hr hv]
    obtain ⟨m0, hm0⟩ : ∃ m0, m0 = rowsM Wd Rr c0 := ⟨_, rfl⟩
    rw [← hm0] at hrows0 hrows1
    have hml : m0.length = Rr.toNat := by rw [hm0, rowsM_len]
    have hml1 : (m0.set r.toNat vs).length = Rr.toNat := by rw [List.length_set]; exact hml
    repeat' (first
      | ((apply al_call 9; refine JL_o (by exact OpR_callF en9 rfl (wakes_r _)) rfl rfl ?_; rintro _ _ ⟨hE, rfl⟩; have hs := hs.ext hE; (try simp only [List.cons_append, List.nil_append] at hs)))
      | ((apply al_callg 9; refine JL_o_on rfl (by first | assumption | rfl | exact decide_eq_true (by first | assumption | omega) | exact decide_eq_false (by first | assumption | omega)) (by exact OpR_callF en9 rfl (wakes_r _)) rfl rfl ?_; rintro _ _ ⟨hE, rfl⟩; have hs := hs.ext hE; (try simp only [List.cons_append, List.nil_append] at hs)))
      | ((apply ax_c; apply JX_cF 9; exact rfl; (intro W X hN hs; exact OpR_callF en9 rfl (wakes_r _)); (rintro _ _ _ _ ⟨hE, rfl⟩; first | exact hE | exact Fresh.ext hf); rintro W X _ _ hN hs ⟨hE, rfl⟩; have hs := hs.ext hE; (try simp only [List.cons_append, List.nil_append] at hs); refine JX.at hs ?_))
      | ((apply ax_c; apply JX_cFg 9; exact rfl; exact rfl; exact (by first | assumption | rfl | exact decide_eq_true (by first | assumption | omega) | exact decide_eq_false (by first | assumption | omega)); (intro W X hN hs; exact OpR_callF en9 rfl (wakes_r _)); (rintro _ _ _ _ ⟨hE, rfl⟩; first | exact hE | exact Fresh.ext hf); rintro W X _ _ hN hs ⟨hE, rfl⟩; have hs := hs.ext hE; (try simp only [List.cons_append, List.nil_append] at hs); refine JX.at hs ?_))
      | ((apply al_call 10; refine JL_o (by exact OpR_callF en10 rfl (own_r _ Wd Rr a n c ws (h.st hs))) rfl rfl ?_; rintro _ _ ⟨ac, cc, rfl, hf⟩; rw [← hc0] at hf ⊢; have hs := hs.fresh hf; (try simp only [List.cons_append, List.nil_append] at hs)))
      | ((apply al_callg 10; refine JL_o_on rfl (by first | assumption | rfl | exact decide_eq_true (by first | assumption | omega) | exact decide_eq_false (by first | assumption | omega)) (by exact OpR_callF en10 rfl (own_r _ Wd Rr a n c ws (h.st hs))) rfl rfl ?_; rintro _ _ ⟨ac, cc, rfl, hf⟩; rw [← hc0] at hf ⊢; have hs := hs.fresh hf; (try simp only [List.cons_append, List.nil_append] at hs)))
      | ((apply ax_c; apply JX_cF 10; exact rfl; (intro W X hN hs; exact OpR_callF en10 rfl (own_r _ Wd Rr a n c ws (h.st hs))); (rintro _ _ _ _ ⟨ac, cc, rfl, hf⟩; first | exact hE | exact Fresh.ext hf); rintro W X _ _ hN hs ⟨ac, cc, rfl, hf⟩; rw [← hc0] at hf ⊢; have hs := hs.fresh hf; (try simp only [List.cons_append, List.nil_append] at hs); refine JX.at hs ?_))
      | ((apply ax_c; apply JX_cFg 10; exact rfl; exact rfl; exact (by first | assumption | rfl | exact decide_eq_true (by first | assumption | omega) | exact decide_eq_false (by first | assumption | omega)); (intro W X hN hs; exact OpR_callF en10 rfl (own_r _ Wd Rr a n c ws (h.st hs))); (rintro _ _ _ _ ⟨ac, cc, rfl, hf⟩; first | exact hE | exact Fresh.ext hf); rintro W X _ _ hN hs ⟨ac, cc, rfl, hf⟩; rw [← hc0] at hf ⊢; have hs := hs.fresh hf; (try simp only [List.cons_append, List.nil_append] at hs); refine JX.at hs ?_))
      | ((apply al_call 12; refine JL_o (by exact OpR_callF en12 rfl (small_r _ Wd Rr ac c0.length cc)) rfl rfl ?_; rintro _ _ ⟨hE, rfl⟩; have hs := hs.ext hE; (try simp only [List.cons_append, List.nil_append] at hs)))
      | ((apply al_callg 12; refine JL_o_on rfl (by first | assumption | rfl | exact decide_eq_true (by first | assumption | omega) | exact decide_eq_false (by first | assumption | omega)) (by exact OpR_callF en12 rfl (small_r _ Wd Rr ac c0.length cc)) rfl rfl ?_; rintro _ _ ⟨hE, rfl⟩; have hs := hs.ext hE; (try simp only [List.cons_append, List.nil_append] at hs)))
      | ((apply ax_c; apply JX_cF 12; exact rfl; (intro W X hN hs; exact OpR_callF en12 rfl (small_r _ Wd Rr ac c0.length cc)); (rintro _ _ _ _ ⟨hE, rfl⟩; first | exact hE | exact Fresh.ext hf); rintro W X _ _ hN hs ⟨hE, rfl⟩; have hs := hs.ext hE; (try simp only [List.cons_append, List.nil_append] at hs); refine JX.at hs ?_))
      | ((apply ax_c; apply JX_cFg 12; exact rfl; exact rfl; exact (by first | assumption | rfl | exact decide_eq_true (by first | assumption | omega) | exact decide_eq_false (by first | assumption | omega)); (intro W X hN hs; exact OpR_callF en12 rfl (small_r _ Wd Rr ac c0.length cc)); (rintro _ _ _ _ ⟨hE, rfl⟩; first | exact hE | exact Fresh.ext hf); rintro W X _ _ hN hs ⟨hE, rfl⟩; have hs := hs.ext hE; (try simp only [List.cons_append, List.nil_append] at hs); refine JX.at hs ?_))
      | ((apply al_call 22; refine JL_o (by exact OpR_callF en22 rfl (set_r _ Wd Rr r ac av c0.length cc vs.length cv c0 vs ((hs.row ac c0.length cc).wr hu0) (hvr.st hs))) rfl rfl ?_; rintro _ _ ⟨a1, d1, rfl, hf⟩; rw [hset] at hf ⊢; dsimp only at hf ⊢; have hs := hs.fresh hf; (try simp only [List.cons_append, List.nil_append] at hs)))
      | ((apply al_callg 22; refine JL_o_on rfl (by first | assumption | rfl | exact decide_eq_true (by first | assumption | omega) | exact decide_eq_false (by first | assumption | omega)) (by exact OpR_callF en22 rfl (set_r _ Wd Rr r ac av c0.length cc vs.length cv c0 vs ((hs.row ac c0.length cc).wr hu0) (hvr.st hs))) rfl rfl ?_; rintro _ _ ⟨a1, d1, rfl, hf⟩; rw [hset] at hf ⊢; dsimp only at hf ⊢; have hs := hs.fresh hf; (try simp only [List.cons_append, List.nil_append] at hs)))
      | ((apply ax_c; apply JX_cF 22; exact rfl; (intro W X hN hs; exact OpR_callF en22 rfl (set_r _ Wd Rr r ac av c0.length cc vs.length cv c0 vs ((hs.row ac c0.length cc).wr hu0) (hvr.st hs))); (rintro _ _ _ _ ⟨a1, d1, rfl, hf⟩; first | exact hE | exact Fresh.ext hf); rintro W X _ _ hN hs ⟨a1, d1, rfl, hf⟩; rw [hset] at hf ⊢; dsimp only at hf ⊢; have hs := hs.fresh hf; (try simp only [List.cons_append, List.nil_append] at hs); refine JX.at hs ?_))
      | ((apply ax_c; apply JX_cFg 22; exact rfl; exact rfl; exact (by first | assumption | rfl | exact decide_eq_true (by first | assumption | omega) | exact decide_eq_false (by first | assumption | omega)); (intro W X hN hs; exact OpR_callF en22 rfl (set_r _ Wd Rr r ac av c0.length cc vs.length cv c0 vs ((hs.row ac c0.length cc).wr hu0) (hvr.st hs))); (rintro _ _ _ _ ⟨a1, d1, rfl, hf⟩; first | exact hE | exact Fresh.ext hf); rintro W X _ _ hN hs ⟨a1, d1, rfl, hf⟩; rw [hset] at hf ⊢; dsimp only at hf ⊢; have hs := hs.fresh hf; (try simp only [List.cons_append, List.nil_append] at hs); refine JX.at hs ?_))
      | ((apply al_call 14; refine JL_o (by exact OpR_callF en14 rfl (get_r _ Wd Rr r a1 c1.length d1 c1 ((hs.row a1 c1.length d1).wr hu1))) rfl rfl ?_; rintro _ _ ⟨ag, cg, rfl, hf⟩; rw [hg1] at hf ⊢; dsimp only at hf ⊢; have hs := hs.fresh hf; (try simp only [List.cons_append, List.nil_append] at hs)))
      | ((apply al_callg 14; refine JL_o_on rfl (by first | assumption | rfl | exact decide_eq_true (by first | assumption | omega) | exact decide_eq_false (by first | assumption | omega)) (by exact OpR_callF en14 rfl (get_r _ Wd Rr r a1 c1.length d1 c1 ((hs.row a1 c1.length d1).wr hu1))) rfl rfl ?_; rintro _ _ ⟨ag, cg, rfl, hf⟩; rw [hg1] at hf ⊢; dsimp only at hf ⊢; have hs := hs.fresh hf; (try simp only [List.cons_append, List.nil_append] at hs)))
      | ((apply ax_c; apply JX_cF 14; exact rfl; (intro W X hN hs; exact OpR_callF en14 rfl (get_r _ Wd Rr r a1 c1.length d1 c1 ((hs.row a1 c1.length d1).wr hu1))); (rintro _ _ _ _ ⟨ag, cg, rfl, hf⟩; first | exact hE | exact Fresh.ext hf); rintro W X _ _ hN hs ⟨ag, cg, rfl, hf⟩; rw [hg1] at hf ⊢; dsimp only at hf ⊢; have hs := hs.fresh hf; (try simp only [List.cons_append, List.nil_append] at hs); refine JX.at hs ?_))
      | ((apply ax_c; apply JX_cFg 14; exact rfl; exact rfl; exact (by first | assumption | rfl | exact decide_eq_true (by first | assumption | omega) | exact decide_eq_false (by first | assumption | omega)); (intro W X hN hs; exact OpR_callF en14 rfl (get_r _ Wd Rr r a1 c1.length d1 c1 ((hs.row a1 c1.length d1).wr hu1))); (rintro _ _ _ _ ⟨ag, cg, rfl, hf⟩; first | exact hE | exact Fresh.ext hf); rintro W X _ _ hN hs ⟨ag, cg, rfl, hf⟩; rw [hg1] at hf ⊢; dsimp only at hf ⊢; have hs := hs.fresh hf; (try simp only [List.cons_append, List.nil_append] at hs); refine JX.at hs ?_))
      | ((apply al_call 14; refine JL_o (by exact OpR_callF en14 rfl (get_r _ Wd Rr r ac c0.length cc c0 ((hs.row ac c0.length cc).wr hu0))) rfl rfl ?_; rintro _ _ ⟨ao, co, rfl, hf⟩; rw [hg0] at hf ⊢; dsimp only at hf ⊢; have hs := hs.fresh hf; (try simp only [List.cons_append, List.nil_append] at hs)))
      | ((apply al_callg 14; refine JL_o_on rfl (by first | assumption | rfl | exact decide_eq_true (by first | assumption | omega) | exact decide_eq_false (by first | assumption | omega)) (by exact OpR_callF en14 rfl (get_r _ Wd Rr r ac c0.length cc c0 ((hs.row ac c0.length cc).wr hu0))) rfl rfl ?_; rintro _ _ ⟨ao, co, rfl, hf⟩; rw [hg0] at hf ⊢; dsimp only at hf ⊢; have hs := hs.fresh hf; (try simp only [List.cons_append, List.nil_append] at hs)))
      | ((apply ax_c; apply JX_cF 14; exact rfl; (intro W X hN hs; exact OpR_callF en14 rfl (get_r _ Wd Rr r ac c0.length cc c0 ((hs.row ac c0.length cc).wr hu0))); (rintro _ _ _ _ ⟨ao, co, rfl, hf⟩; first | exact hE | exact Fresh.ext hf); rintro W X _ _ hN hs ⟨ao, co, rfl, hf⟩; rw [hg0] at hf ⊢; dsimp only at hf ⊢; have hs := hs.fresh hf; (try simp only [List.cons_append, List.nil_append] at hs); refine JX.at hs ?_))
      | ((apply ax_c; apply JX_cFg 14; exact rfl; exact rfl; exact (by first | assumption | rfl | exact decide_eq_true (by first | assumption | omega) | exact decide_eq_false (by first | assumption | omega)); (intro W X hN hs; exact OpR_callF en14 rfl (get_r _ Wd Rr r ac c0.length cc c0 ((hs.row ac c0.length cc).wr hu0))); (rintro _ _ _ _ ⟨ao, co, rfl, hf⟩; first | exact hE | exact Fresh.ext hf); rintro W X _ _ hN hs ⟨ao, co, rfl, hf⟩; rw [hg0] at hf ⊢; dsimp only at hf ⊢; have hs := hs.fresh hf; (try simp only [List.cons_append, List.nil_append] at hs); refine JX.at hs ?_))
      | ((apply al_call 22; refine JL_o (by exact OpR_callF en22 rfl (set_r _ Wd Rr r a1 ao c1.length d1 old.length co c1 old ((hs.row a1 c1.length d1).wr hu1) ((hs.row ao old.length co).wr huo))) rfl rfl ?_; rintro _ _ ⟨a2, d2, rfl, hf⟩; rw [hset2] at hf ⊢; dsimp only at hf ⊢; have hs := hs.fresh hf; (try simp only [List.cons_append, List.nil_append] at hs)))
      | ((apply al_callg 22; refine JL_o_on rfl (by first | assumption | rfl | exact decide_eq_true (by first | assumption | omega) | exact decide_eq_false (by first | assumption | omega)) (by exact OpR_callF en22 rfl (set_r _ Wd Rr r a1 ao c1.length d1 old.length co c1 old ((hs.row a1 c1.length d1).wr hu1) ((hs.row ao old.length co).wr huo))) rfl rfl ?_; rintro _ _ ⟨a2, d2, rfl, hf⟩; rw [hset2] at hf ⊢; dsimp only at hf ⊢; have hs := hs.fresh hf; (try simp only [List.cons_append, List.nil_append] at hs)))
      | ((apply ax_c; apply JX_cF 22; exact rfl; (intro W X hN hs; exact OpR_callF en22 rfl (set_r _ Wd Rr r a1 ao c1.length d1 old.length co c1 old ((hs.row a1 c1.length d1).wr hu1) ((hs.row ao old.length co).wr huo))); (rintro _ _ _ _ ⟨a2, d2, rfl, hf⟩; first | exact hE | exact Fresh.ext hf); rintro W X _ _ hN hs ⟨a2, d2, rfl, hf⟩; rw [hset2] at hf ⊢; dsimp only at hf ⊢; have hs := hs.fresh hf; (try simp only [List.cons_append, List.nil_append] at hs); refine JX.at hs ?_))
      | ((apply ax_c; apply JX_cFg 22; exact rfl; exact rfl; exact (by first | assumption | rfl | exact decide_eq_true (by first | assumption | omega) | exact decide_eq_false (by first | assumption | omega)); (intro W X hN hs; exact OpR_callF en22 rfl (set_r _ Wd Rr r a1 ao c1.length d1 old.length co c1 old ((hs.row a1 c1.length d1).wr hu1) ((hs.row ao old.length co).wr huo))); (rintro _ _ _ _ ⟨a2, d2, rfl, hf⟩; first | exact hE | exact Fresh.ext hf); rintro W X _ _ hN hs ⟨a2, d2, rfl, hf⟩; rw [hset2] at hf ⊢; dsimp only at hf ⊢; have hs := hs.fresh hf; (try simp only [List.cons_append, List.nil_append] at hs); refine JX.at hs ?_))
      | ((apply al_call 19; refine JL_o (by exact OpR_callF en19 rfl (equal19_t _ _ _ _ _ _ _ vs ((hs.row ag vs.length cg).wr huv) (hvr.st hs))) rfl rfl ?_; rintro _ _ ⟨rfl, hE⟩; have hs := hs.ext hE; (try simp only [List.cons_append, List.nil_append] at hs)))
      | ((apply al_callg 19; refine JL_o_on rfl (by first | assumption | rfl | exact decide_eq_true (by first | assumption | omega) | exact decide_eq_false (by first | assumption | omega)) (by exact OpR_callF en19 rfl (equal19_t _ _ _ _ _ _ _ vs ((hs.row ag vs.length cg).wr huv) (hvr.st hs))) rfl rfl ?_; rintro _ _ ⟨rfl, hE⟩; have hs := hs.ext hE; (try simp only [List.cons_append, List.nil_append] at hs)))
      | ((apply ax_c; apply JX_cF 19; exact rfl; (intro W X hN hs; exact OpR_callF en19 rfl (equal19_t _ _ _ _ _ _ _ vs ((hs.row ag vs.length cg).wr huv) (hvr.st hs))); (rintro _ _ _ _ ⟨rfl, hE⟩; first | exact hE | exact Fresh.ext hf); rintro W X _ _ hN hs ⟨rfl, hE⟩; have hs := hs.ext hE; (try simp only [List.cons_append, List.nil_append] at hs); refine JX.at hs ?_))
      | ((apply ax_c; apply JX_cFg 19; exact rfl; exact rfl; exact (by first | assumption | rfl | exact decide_eq_true (by first | assumption | omega) | exact decide_eq_false (by first | assumption | omega)); (intro W X hN hs; exact OpR_callF en19 rfl (equal19_t _ _ _ _ _ _ _ vs ((hs.row ag vs.length cg).wr huv) (hvr.st hs))); (rintro _ _ _ _ ⟨rfl, hE⟩; first | exact hE | exact Fresh.ext hf); rintro W X _ _ hN hs ⟨rfl, hE⟩; have hs := hs.ext hE; (try simp only [List.cons_append, List.nil_append] at hs); refine JX.at hs ?_))
      | ((apply al_call 26; refine JL_o (by exact OpR_callF en26 rfl (same26_t _ _ _ _ _ _ _ _ _ _ _ c0 ((hs.row a2 c0.length d2).wr hu0) ((hs.row ac c0.length cc).wr hu0) ⟨rfl, rfl⟩)) rfl rfl ?_; rintro _ _ ⟨rfl, hE⟩; have hs := hs.ext hE; (try simp only [List.cons_append, List.nil_append] at hs)))
      | ((apply al_callg 26; refine JL_o_on rfl (by first | assumption | rfl | exact decide_eq_true (by first | assumption | omega) | exact decide_eq_false (by first | assumption | omega)) (by exact OpR_callF en26 rfl (same26_t _ _ _ _ _ _ _ _ _ _ _ c0 ((hs.row a2 c0.length d2).wr hu0) ((hs.row ac c0.length cc).wr hu0) ⟨rfl, rfl⟩)) rfl rfl ?_; rintro _ _ ⟨rfl, hE⟩; have hs := hs.ext hE; (try simp only [List.cons_append, List.nil_append] at hs)))
      | ((apply ax_c; apply JX_cF 26; exact rfl; (intro W X hN hs; exact OpR_callF en26 rfl (same26_t _ _ _ _ _ _ _ _ _ _ _ c0 ((hs.row a2 c0.length d2).wr hu0) ((hs.row ac c0.length cc).wr hu0) ⟨rfl, rfl⟩)); (rintro _ _ _ _ ⟨rfl, hE⟩; first | exact hE | exact Fresh.ext hf); rintro W X _ _ hN hs ⟨rfl, hE⟩; have hs := hs.ext hE; (try simp only [List.cons_append, List.nil_append] at hs); refine JX.at hs ?_))
      | ((apply ax_c; apply JX_cFg 26; exact rfl; exact rfl; exact (by first | assumption | rfl | exact decide_eq_true (by first | assumption | omega) | exact decide_eq_false (by first | assumption | omega)); (intro W X hN hs; exact OpR_callF en26 rfl (same26_t _ _ _ _ _ _ _ _ _ _ _ c0 ((hs.row a2 c0.length d2).wr hu0) ((hs.row ac c0.length cc).wr hu0) ⟨rfl, rfl⟩)); (rintro _ _ _ _ ⟨rfl, hE⟩; first | exact hE | exact Fresh.ext hf); rintro W X _ _ hN hs ⟨rfl, hE⟩; have hs := hs.ext hE; (try simp only [List.cons_append, List.nil_append] at hs); refine JX.at hs ?_))
      | ((apply al_call 27; refine JL_o (by exact OpR_callF en27 rfl (rows_r _ Wd Rr ac c0.length cc c0 ((hs.row ac c0.length cc).wr hu0))) rfl rfl ?_; rintro _ _ ⟨Ra, aa, ca, cella, rfl, hf⟩; rw [hrows0] at hf ⊢; have hs := hs.fresh hf; (try simp only [List.cons_append, List.nil_append] at hs)))
      | ((apply al_callg 27; refine JL_o_on rfl (by first | assumption | rfl | exact decide_eq_true (by first | assumption | omega) | exact decide_eq_false (by first | assumption | omega)) (by exact OpR_callF en27 rfl (rows_r _ Wd Rr ac c0.length cc c0 ((hs.row ac c0.length cc).wr hu0))) rfl rfl ?_; rintro _ _ ⟨Ra, aa, ca, cella, rfl, hf⟩; rw [hrows0] at hf ⊢; have hs := hs.fresh hf; (try simp only [List.cons_append, List.nil_append] at hs)))
      | ((apply ax_c; apply JX_cF 27; exact rfl; (intro W X hN hs; exact OpR_callF en27 rfl (rows_r _ Wd Rr ac c0.length cc c0 ((hs.row ac c0.length cc).wr hu0))); (rintro _ _ _ _ ⟨Ra, aa, ca, cella, rfl, hf⟩; first | exact hE | exact Fresh.ext hf); rintro W X _ _ hN hs ⟨Ra, aa, ca, cella, rfl, hf⟩; rw [hrows0] at hf ⊢; have hs := hs.fresh hf; (try simp only [List.cons_append, List.nil_append] at hs); refine JX.at hs ?_))
      | ((apply ax_c; apply JX_cFg 27; exact rfl; exact rfl; exact (by first | assumption | rfl | exact decide_eq_true (by first | assumption | omega) | exact decide_eq_false (by first | assumption | omega)); (intro W X hN hs; exact OpR_callF en27 rfl (rows_r _ Wd Rr ac c0.length cc c0 ((hs.row ac c0.length cc).wr hu0))); (rintro _ _ _ _ ⟨Ra, aa, ca, cella, rfl, hf⟩; first | exact hE | exact Fresh.ext hf); rintro W X _ _ hN hs ⟨Ra, aa, ca, cella, rfl, hf⟩; rw [hrows0] at hf ⊢; have hs := hs.fresh hf; (try simp only [List.cons_append, List.nil_append] at hs); refine JX.at hs ?_))
      | ((apply al_call 27; refine JL_o (by exact OpR_callF en27 rfl (rows_r _ Wd Rr a1 c1.length d1 c1 ((hs.row a1 c1.length d1).wr hu1))) rfl rfl ?_; rintro _ _ ⟨Rb, ab, cb, cellb, rfl, hf⟩; rw [hrows1] at hf ⊢; have hs := hs.fresh hf; (try simp only [List.cons_append, List.nil_append] at hs)))
      | ((apply al_callg 27; refine JL_o_on rfl (by first | assumption | rfl | exact decide_eq_true (by first | assumption | omega) | exact decide_eq_false (by first | assumption | omega)) (by exact OpR_callF en27 rfl (rows_r _ Wd Rr a1 c1.length d1 c1 ((hs.row a1 c1.length d1).wr hu1))) rfl rfl ?_; rintro _ _ ⟨Rb, ab, cb, cellb, rfl, hf⟩; rw [hrows1] at hf ⊢; have hs := hs.fresh hf; (try simp only [List.cons_append, List.nil_append] at hs)))
      | ((apply ax_c; apply JX_cF 27; exact rfl; (intro W X hN hs; exact OpR_callF en27 rfl (rows_r _ Wd Rr a1 c1.length d1 c1 ((hs.row a1 c1.length d1).wr hu1))); (rintro _ _ _ _ ⟨Rb, ab, cb, cellb, rfl, hf⟩; first | exact hE | exact Fresh.ext hf); rintro W X _ _ hN hs ⟨Rb, ab, cb, cellb, rfl, hf⟩; rw [hrows1] at hf ⊢; have hs := hs.fresh hf; (try simp only [List.cons_append, List.nil_append] at hs); refine JX.at hs ?_))
      | ((apply ax_c; apply JX_cFg 27; exact rfl; exact rfl; exact (by first | assumption | rfl | exact decide_eq_true (by first | assumption | omega) | exact decide_eq_false (by first | assumption | omega)); (intro W X hN hs; exact OpR_callF en27 rfl (rows_r _ Wd Rr a1 c1.length d1 c1 ((hs.row a1 c1.length d1).wr hu1))); (rintro _ _ _ _ ⟨Rb, ab, cb, cellb, rfl, hf⟩; first | exact hE | exact Fresh.ext hf); rintro W X _ _ hN hs ⟨Rb, ab, cb, cellb, rfl, hf⟩; rw [hrows1] at hf ⊢; have hs := hs.fresh hf; (try simp only [List.cons_append, List.nil_append] at hs); refine JX.at hs ?_))
      | (apply JL_nil)
      | ((first | (apply JL_pure) | (apply JL_pure_on; exact rfl; (first | assumption | exact rfl | exact decide_eq_true (by first | assumption | omega) | exact decide_eq_false (by first | assumption | omega))) | (apply JX_f; exact rfl; intro W X hs) | (apply JX_fz; exact rfl; intro W hs) | (apply JX_f_on; exact rfl; exact rfl; (first | assumption | exact rfl | exact decide_eq_true (by first | assumption | omega) | exact decide_eq_false (by first | assumption | omega)); intro W X hs)); (first
      | (apply as_move; first | exact OpR_move rfl is_rfl)
      | (apply as_assign; first | exact OpR_assign rfl is_rfl)
      | (apply as_fieldAddr; first | exact OpR_fieldAddr0 rfl rfl is_rfl | exact OpR_fieldAddr rfl rfl is_rfl)
      | (apply as_load; first | exact OpR_load' hs rfl rfl is_rfl | exact OpR_load_agg' hs rfl is_rfl)
      | (apply as_add; first | exact OpR_addn rfl rfl (by omega) (by first | (simp only [Int.reduceAdd]; exact rfl) | exact rfl) is_rfl | exact OpR_ibin rfl rfl rfl is_rfl)
      | (apply as_binOp; first | exact OpR_ibin rfl rfl rfl is_rfl | exact OpR_beq rfl rfl is_rfl | exact OpR_bne rfl rfl is_rfl | exact OpR_eqNil rfl rfl is_rfl | exact OpR_neNil rfl rfl is_rfl)
      | (apply as_unOp; first | exact OpR_not rfl is_rfl)
      | (apply as_pick; first | exact OpR_pick_t rfl (by first | assumption | rfl | exact decide_eq_true (by first | assumption | omega) | exact decide_eq_false (by first | assumption | omega)) rfl is_rfl | exact OpR_pick_f rfl (by first | assumption | rfl | exact decide_eq_true (by first | assumption | omega) | exact decide_eq_false (by first | assumption | omega)) rfl is_rfl)
      | (apply as_b_len; first | exact OpR_len rfl is_rfl | exact OpR_len_str rfl is_rfl | exact OpR_len_arr rfl is_rfl)
      | (apply as_extract; first | exact OpR_extract rfl rfl is_rfl)
      | (apply as_indexAddr; first | exact OpR_indexAddr rfl rfl (by omega) (by omega) is_rfl | exact OpR_indexAddr_arr' rfl rfl (by omega) (by omega) (by first | (simp only [Int.reduceToNat, Nat.reduceMul, Nat.reduceAdd]; exact rfl) | exact rfl) is_rfl)); first | (exact rfl; exact rfl) | exact rfl)
      | (apply J_seq)
      | (apply J_region)
      | (apply J_block)
      | (apply J_inBlock)
      | (apply aj_exit; refine J_exit rfl ?_)
      | (apply J_skip)
      | (apply al_none (t := 3); refine JL_o (by apply as_box; exact OpR_box' hs rfl) rfl rfl ?_; rintro _ _ ⟨b3, rfl, hb3, hs, hE⟩)
      | (apply ax_n; refine JX_n (t := 3) rfl (fun W L hs => by apply as_box; exact OpR_box' hs rfl) rfl ?_)
      | (apply ax_k; (first | refine JX_k (t := 3) ?_ | refine JX_k2 (t := 3) rfl ?_); intro b3)
      | (apply al_none (t := 7); refine JL_o (by apply as_alloc; exact OpR_alloc' hs) rfl rfl ?_; rintro _ _ ⟨b7, rfl, hb7, hs, hE⟩)
      | (apply ax_n; refine JX_n (t := 7) rfl (fun W L hs => by apply as_alloc; exact OpR_alloc' hs) rfl ?_)
      | (apply ax_k; (first | refine JX_k (t := 7) ?_ | refine JX_k2 (t := 7) rfl ?_); intro b7)
      | (apply al_none (t := 8); refine JL_o (by apply as_alloc; exact OpR_alloc' hs) rfl rfl ?_; rintro _ _ ⟨b8, rfl, hb8, hs, hE⟩)
      | (apply ax_n; refine JX_n (t := 8) rfl (fun W L hs => by apply as_alloc; exact OpR_alloc' hs) rfl ?_)
      | (apply ax_k; (first | refine JX_k (t := 8) ?_ | refine JX_k2 (t := 8) rfl ?_); intro b8)
      | (apply al_none (t := 14); refine JL_o (by apply as_alloc; exact OpR_alloc' hs) rfl rfl ?_; rintro _ _ ⟨b14, rfl, hb14, hs, hE⟩)
      | (apply ax_n; refine JX_n (t := 14) rfl (fun W L hs => by apply as_alloc; exact OpR_alloc' hs) rfl ?_)
      | (apply ax_k; (first | refine JX_k (t := 14) ?_ | refine JX_k2 (t := 14) rfl ?_); intro b14)
      | (apply al_unit; refine JL_u (by apply as_store; exact OpR_store' hs rfl rfl rfl) rfl ?_; rintro _ _ ⟨hs, hF⟩)
      | (apply al_guard; first
    | (refine JL_no rfl (by first | assumption | rfl | exact decide_eq_true (by first | assumption | omega) | exact decide_eq_false (by first | assumption | omega)) rfl ?_)
    | (fail_if_success (apply JL_o_on rfl (by first | assumption | rfl | exact decide_eq_true (by first | assumption | omega) | exact decide_eq_false (by first | assumption | omega)))); first | (refine JL_split_dec rfl (fun _ => ?_) (fun _ => ?_)) | (refine JL_split rfl (fun _ => ?_) (fun _ => ?_)))
      | (apply aj_cond; first | refine J_dec_t rfl (by first | assumption | omega) ?_ | refine J_dec_f rfl (by first | assumption | omega) ?_ | refine J_cond_t rfl (by first | assumption | rfl | exact decide_eq_true (by first | assumption | omega) | exact decide_eq_false (by first | assumption | omega)) ?_ | refine J_cond_f rfl (by first | assumption | rfl | exact decide_eq_true (by first | assumption | omega) | exact decide_eq_false (by first | assumption | omega)) ?_ | (refine J_cond_dec rfl (fun _ => ?_) (fun _ => ?_)) | (refine J_cond rfl (fun _ => ?_) (fun _ => ?_)))
      | (apply aj_draw; first
    | (refine J_drawX (id := 14) [0, 1, 0, 7, 15, 31] [(0, 0), (2, 0), (1, 1), (3, 1), (4, 0), (5, 0)] [] hs mixed (by kernel_rfl) (by kernel_rfl) (by kernel_rfl) (by kernel_rfl) (by kernel_rfl) ?_)
    | (refine J_drawX (id := 18) [0, 0, 3, 7, 15, 15, 63, 127, 15, 15, 783, 1807, 4095, 8191, 16383] [(0, 0), (1, 0), (2, 0), (3, 0), (4, 0), (5, 0), (6, 0), (7, 0), (8, 0), (9, 0), (10, 0), (11, 0), (12, 1), (13, 0), (14, 0)] [] hs mixed (by kernel_rfl) (by kernel_rfl) (by kernel_rfl) (by kernel_rfl) (by kernel_rfl) ?_))
      | (refine JX_done (fun W hs => ?_))
      | (refine JX_f_off rfl rfl (by first | assumption | rfl | exact decide_eq_true (by first | assumption | omega) | exact decide_eq_false (by first | assumption | omega)) rfl ?_)
      | (refine JX_c_off rfl rfl (by first | assumption | rfl | exact decide_eq_true (by first | assumption | omega) | exact decide_eq_false (by first | assumption | omega)) rfl ?_)
      | (refine JX_split_dec rfl rfl (fun hq => ?_) (fun hq => ?_); (fail_if_success (exact absurd (by clear hq; first | assumption | omega) (not_not_intro hq))); rotate_left; (fail_if_success (exact absurd (by clear hq; first | assumption | omega) hq)); rotate_left)
      | (refine JX_split rfl rfl (fun hq => ?_) (fun hq => ?_); (fail_if_success (exact bool_contra hq (by clear hq; exact (by first | assumption | rfl | exact decide_eq_true (by first | assumption | omega) | exact decide_eq_false (by first | assumption | omega))))); rotate_left; (fail_if_success (exact bool_contra (by clear hq; exact (by first | assumption | rfl | exact decide_eq_true (by first | assumption | omega) | exact decide_eq_false (by first | assumption | omega))) hq)); rotate_left)
      | (apply JD_done)
      | (apply JD_tail; case' hos => (simp only [List.map_cons, List.map_nil, List.getElem?_toArray, List.getElem?_cons_succ, List.getElem?_cons_zero]; repeat' (first | exact ms_nil | apply ms_cons)))
      | (refine JD_f_off rfl rfl (by first | assumption | rfl | exact decide_eq_true (by first | assumption | omega) | exact decide_eq_false (by first | assumption | omega)) rfl ?_)
      | (refine JD_c_off rfl rfl (by first | assumption | rfl | exact decide_eq_true (by first | assumption | omega) | exact decide_eq_false (by first | assumption | omega)) rfl ?_)
      | (refine JD_split_dec rfl rfl (fun _ => ?_) (fun _ => ?_))
      | (refine JD_split rfl rfl (fun _ => ?_) (fun _ => ?_)))
    · refine J_leave Try.func5 rfl (.tmp rfl .nil) ⟨rfl, hs.frm.ext⟩
    refine J_loopK (α := Nat) [(1, _), (16, _), (17, _), (84, _)] (fun k => [(85, .int .i64 k)]) (fun k w' => St w NoF w' [Row ab (m0.set r.toNat vs).length cb 31 1 cellb, Dats Rb (tSl (tInt .u64)) cellb (m0.set r.toNat vs), Row aa m0.length ca 31 1 cella, Dats Ra (tSl (tInt .u64)) cella m0] ∧ k ≤ m0.length) (fun k => m0.length - k) 0 ⟨hs.sel [0, 1, 2, 3] (by decide), by omega⟩ (by repeat' (first | exact trivial | exact rfl | apply And.intro)) ?_
    rintro k w' ⟨hs, hk⟩ ih
    by_cases hlt : k < m0.length
    · by_cases hkr : (k : Int) = r
      · repeat' (first
          | (apply JL_nil)
          | ((first | (apply JL_pure) | (apply JL_pure_on; exact rfl; (first | assumption | exact rfl | exact decide_eq_true (by first | assumption | omega) | exact decide_eq_false (by first | assumption | omega))) | (apply JX_f; exact rfl; intro W X hs) | (apply JX_fz; exact rfl; intro W hs) | (apply JX_f_on; exact rfl; exact rfl; (first | assumption | exact rfl | exact decide_eq_true (by first | assumption | omega) | exact decide_eq_false (by first | assumption | omega)); intro W X hs)); (first
      | (apply as_move; first | exact OpR_move rfl is_rfl)
      | (apply as_assign; first | exact OpR_assign rfl is_rfl)
      | (apply as_fieldAddr; first | exact OpR_fieldAddr0 rfl rfl is_rfl | exact OpR_fieldAddr rfl rfl is_rfl)
      | (apply as_load; first | exact OpR_load' hs rfl rfl is_rfl | exact OpR_load_agg' hs rfl is_rfl)
      | (apply as_add; first | exact OpR_addn rfl rfl (by omega) (by first | (simp only [Int.reduceAdd]; exact rfl) | exact rfl) is_rfl | exact OpR_ibin rfl rfl rfl is_rfl)
      | (apply as_binOp; first | exact OpR_ibin rfl rfl rfl is_rfl | exact OpR_beq rfl rfl is_rfl | exact OpR_bne rfl rfl is_rfl | exact OpR_eqNil rfl rfl is_rfl | exact OpR_neNil rfl rfl is_rfl)
      | (apply as_unOp; first | exact OpR_not rfl is_rfl)
      | (apply as_pick; first | exact OpR_pick_t rfl (by first | assumption | rfl | exact decide_eq_true (by first | assumption | omega) | exact decide_eq_false (by first | assumption | omega)) rfl is_rfl | exact OpR_pick_f rfl (by first | assumption | rfl | exact decide_eq_true (by first | assumption | omega) | exact decide_eq_false (by first | assumption | omega)) rfl is_rfl)
      | (apply as_b_len; first | exact OpR_len rfl is_rfl | exact OpR_len_str rfl is_rfl | exact OpR_len_arr rfl is_rfl)
      | (apply as_extract; first | exact OpR_extract rfl rfl is_rfl)
      | (apply as_indexAddr; first | exact OpR_indexAddr rfl rfl (by omega) (by omega) is_rfl | exact OpR_indexAddr_arr' rfl rfl (by omega) (by omega) (by first | (simp only [Int.reduceToNat, Nat.reduceMul, Nat.reduceAdd]; exact rfl) | exact rfl) is_rfl)); first | (exact rfl; exact rfl) | exact rfl)
          | (apply J_seq)
          | (apply J_region)
          | (apply J_block)
          | (apply J_inBlock)
          | (apply aj_exit; refine J_exit rfl ?_)
          | (apply J_skip)
          | (apply al_none (t := 3); refine JL_o (by apply as_box; exact OpR_box' hs rfl) rfl rfl ?_; rintro _ _ ⟨b3, rfl, hb3, hs, hE⟩)
          | (apply ax_n; refine JX_n (t := 3) rfl (fun W L hs => by apply as_box; exact OpR_box' hs rfl) rfl ?_)
          | (apply ax_k; (first | refine JX_k (t := 3) ?_ | refine JX_k2 (t := 3) rfl ?_); intro b3)
          | (apply al_none (t := 7); refine JL_o (by apply as_alloc; exact OpR_alloc' hs) rfl rfl ?_; rintro _ _ ⟨b7, rfl, hb7, hs, hE⟩)
          | (apply ax_n; refine JX_n (t := 7) rfl (fun W L hs => by apply as_alloc; exact OpR_alloc' hs) rfl ?_)
          | (apply ax_k; (first | refine JX_k (t := 7) ?_ | refine JX_k2 (t := 7) rfl ?_); intro b7)
          | (apply al_none (t := 8); refine JL_o (by apply as_alloc; exact OpR_alloc' hs) rfl rfl ?_; rintro _ _ ⟨b8, rfl, hb8, hs, hE⟩)
          | (apply ax_n; refine JX_n (t := 8) rfl (fun W L hs => by apply as_alloc; exact OpR_alloc' hs) rfl ?_)
          | (apply ax_k; (first | refine JX_k (t := 8) ?_ | refine JX_k2 (t := 8) rfl ?_); intro b8)
          | (apply al_none (t := 14); refine JL_o (by apply as_alloc; exact OpR_alloc' hs) rfl rfl ?_; rintro _ _ ⟨b14, rfl, hb14, hs, hE⟩)
          | (apply ax_n; refine JX_n (t := 14) rfl (fun W L hs => by apply as_alloc; exact OpR_alloc' hs) rfl ?_)
          | (apply ax_k; (first | refine JX_k (t := 14) ?_ | refine JX_k2 (t := 14) rfl ?_); intro b14)
          | (apply al_unit; refine JL_u (by apply as_store; exact OpR_store' hs rfl rfl rfl) rfl ?_; rintro _ _ ⟨hs, hF⟩)
          | (apply al_guard; first
    | (refine JL_no rfl (by first | assumption | rfl | exact decide_eq_true (by first | assumption | omega) | exact decide_eq_false (by first | assumption | omega)) rfl ?_)
    | (fail_if_success (apply JL_o_on rfl (by first | assumption | rfl | exact decide_eq_true (by first | assumption | omega) | exact decide_eq_false (by first | assumption | omega)))); first | (refine JL_split_dec rfl (fun _ => ?_) (fun _ => ?_)) | (refine JL_split rfl (fun _ => ?_) (fun _ => ?_)))
          | (apply aj_cond; first | refine J_dec_t rfl (by first | assumption | omega) ?_ | refine J_dec_f rfl (by first | assumption | omega) ?_ | refine J_cond_t rfl (by first | assumption | rfl | exact decide_eq_true (by first | assumption | omega) | exact decide_eq_false (by first | assumption | omega)) ?_ | refine J_cond_f rfl (by first | assumption | rfl | exact decide_eq_true (by first | assumption | omega) | exact decide_eq_false (by first | assumption | omega)) ?_ | (refine J_cond_dec rfl (fun _ => ?_) (fun _ => ?_)) | (refine J_cond rfl (fun _ => ?_) (fun _ => ?_)))
          | (apply aj_draw; first
    | (refine J_drawX (id := 14) [0, 1, 0, 7, 15, 31] [(0, 0), (2, 0), (1, 1), (3, 1), (4, 0), (5, 0)] [] hs mixed (by kernel_rfl) (by kernel_rfl) (by kernel_rfl) (by kernel_rfl) (by kernel_rfl) ?_)
    | (refine J_drawX (id := 18) [0, 0, 3, 7, 15, 15, 63, 127, 15, 15, 783, 1807, 4095, 8191, 16383] [(0, 0), (1, 0), (2, 0), (3, 0), (4, 0), (5, 0), (6, 0), (7, 0), (8, 0), (9, 0), (10, 0), (11, 0), (12, 1), (13, 0), (14, 0)] [] hs mixed (by kernel_rfl) (by kernel_rfl) (by kernel_rfl) (by kernel_rfl) (by kernel_rfl) ?_))
          | (refine JX_done (fun W hs => ?_))
          | (refine JX_f_off rfl rfl (by first | assumption | rfl | exact decide_eq_true (by first | assumption | omega) | exact decide_eq_false (by first | assumption | omega)) rfl ?_)
          | (refine JX_c_off rfl rfl (by first | assumption | rfl | exact decide_eq_true (by first | assumption | omega) | exact decide_eq_false (by first | assumption | omega)) rfl ?_)
          | (refine JX_split_dec rfl rfl (fun hq => ?_) (fun hq => ?_); (fail_if_success (exact absurd (by clear hq; first | assumption | omega) (not_not_intro hq))); rotate_left; (fail_if_success (exact absurd (by clear hq; first | assumption | omega) hq)); rotate_left)
          | (refine JX_split rfl rfl (fun hq => ?_) (fun hq => ?_); (fail_if_success (exact bool_contra hq (by clear hq; exact (by first | assumption | rfl | exact decide_eq_true (by first | assumption | omega) | exact decide_eq_false (by first | assumption | omega))))); rotate_left; (fail_if_success (exact bool_contra (by clear hq; exact (by first | assumption | rfl | exact decide_eq_true (by first | assumption | omega) | exact decide_eq_false (by first | assumption | omega))) hq)); rotate_left)
          | (apply JD_done)
          | (apply JD_tail; case' hos => (simp only [List.map_cons, List.map_nil, List.getElem?_toArray, List.getElem?_cons_succ, List.getElem?_cons_zero]; repeat' (first | exact ms_nil | apply ms_cons)))
          | (refine JD_f_off rfl rfl (by first | assumption | rfl | exact decide_eq_true (by first | assumption | omega) | exact decide_eq_false (by first | assumption | omega)) rfl ?_)
          | (refine JD_c_off rfl rfl (by first | assumption | rfl | exact decide_eq_true (by first | assumption | omega) | exact decide_eq_false (by first | assumption | omega)) rfl ?_)
          | (refine JD_split_dec rfl rfl (fun _ => ?_) (fun _ => ?_))
          | (refine JD_split rfl rfl (fun _ => ?_) (fun _ => ?_)))
        refine ih (k + 1) _ _ ⟨hs, by omega⟩ (by omega) (by repeat' (first | exact trivial | exact rfl | apply And.intro))
      · have hx : m0[k]? = some m0[k] := List.getElem?_eq_getElem hlt
        have hy : (m0.set r.toNat vs)[k]? = some m0[k] := by rw [List.getElem?_set_ne (by omega)]; exact hx
        obtain ⟨p1, o1, rfl⟩ := (hs.row aa m0.length ca).some (by omega)
        obtain ⟨p2, o2, rfl⟩ := (hs.row ab (m0.set r.toNat vs).length cb).some (by omega)
        obtain ⟨x1, x2, x3, hcx⟩ := DatsV.cell (hs.all (Dats Ra (tSl (tInt .u64)) cella m0) (.tail _ (.tail _ (.tail _ (.head _))))) hx
        obtain ⟨y1, y2, y3, hcy⟩ := DatsV.cell (hs.all (Dats Rb (tSl (tInt .u64)) cellb _) (.tail _ (.head _))) hy
        repeat' (first
          | ((apply al_call 19; refine JL_o (by exact OpR_callF en19 rfl (equal19_t _ _ _ _ _ _ _ m0[k] (DatsV.wr (hs.all (Dats Ra (tSl (tInt .u64)) cella m0) (.tail _ (.tail _ (.tail _ (.tail _ (.head _)))))) hcx hx) (DatsV.wr (hs.all (Dats Rb (tSl (tInt .u64)) cellb _) (.tail _ (.tail _ (.head _)))) hcy hy))) rfl rfl ?_; rintro _ _ ⟨rfl, hE⟩; have hs := hs.ext hE; (try simp only [List.cons_append, List.nil_append] at hs)))
          | ((apply al_callg 19; refine JL_o_on rfl (by first | assumption | rfl | exact decide_eq_true (by first | assumption | omega) | exact decide_eq_false (by first | assumption | omega)) (by exact OpR_callF en19 rfl (equal19_t _ _ _ _ _ _ _ m0[k] (DatsV.wr (hs.all (Dats Ra (tSl (tInt .u64)) cella m0) (.tail _ (.tail _ (.tail _ (.tail _ (.head _)))))) hcx hx) (DatsV.wr (hs.all (Dats Rb (tSl (tInt .u64)) cellb _) (.tail _ (.tail _ (.head _)))) hcy hy))) rfl rfl ?_; rintro _ _ ⟨rfl, hE⟩; have hs := hs.ext hE; (try simp only [List.cons_append, List.nil_append] at hs)))
          | ((apply ax_c; apply JX_cF 19; exact rfl; (intro W X hN hs; exact OpR_callF en19 rfl (equal19_t _ _ _ _ _ _ _ m0[k] (DatsV.wr (hs.all (Dats Ra (tSl (tInt .u64)) cella m0) (.tail _ (.tail _ (.tail _ (.tail _ (.head _)))))) hcx hx) (DatsV.wr (hs.all (Dats Rb (tSl (tInt .u64)) cellb _) (.tail _ (.tail _ (.head _)))) hcy hy))); (rintro _ _ _ _ ⟨rfl, hE⟩; first | exact hE | exact Fresh.ext hf); rintro W X _ _ hN hs ⟨rfl, hE⟩; have hs := hs.ext hE; (try simp only [List.cons_append, List.nil_append] at hs); refine JX.at hs ?_))
          | ((apply ax_c; apply JX_cFg 19; exact rfl; exact rfl; exact (by first | assumption | rfl | exact decide_eq_true (by first | assumption | omega) | exact decide_eq_false (by first | assumption | omega)); (intro W X hN hs; exact OpR_callF en19 rfl (equal19_t _ _ _ _ _ _ _ m0[k] (DatsV.wr (hs.all (Dats Ra (tSl (tInt .u64)) cella m0) (.tail _ (.tail _ (.tail _ (.tail _ (.head _)))))) hcx hx) (DatsV.wr (hs.all (Dats Rb (tSl (tInt .u64)) cellb _) (.tail _ (.tail _ (.head _)))) hcy hy))); (rintro _ _ _ _ ⟨rfl, hE⟩; first | exact hE | exact Fresh.ext hf); rintro W X _ _ hN hs ⟨rfl, hE⟩; have hs := hs.ext hE; (try simp only [List.cons_append, List.nil_append] at hs); refine JX.at hs ?_))
          | (apply JL_nil)
          | ((first | (apply JL_pure) | (apply JL_pure_on; exact rfl; (first | assumption | exact rfl | exact decide_eq_true (by first | assumption | omega) | exact decide_eq_false (by first | assumption | omega))) | (apply JX_f; exact rfl; intro W X hs) | (apply JX_fz; exact rfl; intro W hs) | (apply JX_f_on; exact rfl; exact rfl; (first | assumption | exact rfl | exact decide_eq_true (by first | assumption | omega) | exact decide_eq_false (by first | assumption | omega)); intro W X hs)); (first
      | (apply as_load; exact OpR_loadRow (b := p1) (o := o1) (i := k) (n := m0.length) (c := ca) hs rfl hcx is_rfl)
      | (apply as_load; exact OpR_loadRow (b := p2) (o := o2) (i := k) (n := (m0.set r.toNat vs).length) (c := cb) hs rfl hcy is_rfl)
      | (apply as_move; first | exact OpR_move rfl is_rfl)
      | (apply as_assign; first | exact OpR_assign rfl is_rfl)
      | (apply as_fieldAddr; first | exact OpR_fieldAddr0 rfl rfl is_rfl | exact OpR_fieldAddr rfl rfl is_rfl)
      | (apply as_load; first | exact OpR_load' hs rfl rfl is_rfl | exact OpR_load_agg' hs rfl is_rfl)
      | (apply as_add; first | exact OpR_addn rfl rfl (by omega) (by first | (simp only [Int.reduceAdd]; exact rfl) | exact rfl) is_rfl | exact OpR_ibin rfl rfl rfl is_rfl)
      | (apply as_binOp; first | exact OpR_ibin rfl rfl rfl is_rfl | exact OpR_beq rfl rfl is_rfl | exact OpR_bne rfl rfl is_rfl | exact OpR_eqNil rfl rfl is_rfl | exact OpR_neNil rfl rfl is_rfl)
      | (apply as_unOp; first | exact OpR_not rfl is_rfl)
      | (apply as_pick; first | exact OpR_pick_t rfl (by first | assumption | rfl | exact decide_eq_true (by first | assumption | omega) | exact decide_eq_false (by first | assumption | omega)) rfl is_rfl | exact OpR_pick_f rfl (by first | assumption | rfl | exact decide_eq_true (by first | assumption | omega) | exact decide_eq_false (by first | assumption | omega)) rfl is_rfl)
      | (apply as_b_len; first | exact OpR_len rfl is_rfl | exact OpR_len_str rfl is_rfl | exact OpR_len_arr rfl is_rfl)
      | (apply as_extract; first | exact OpR_extract rfl rfl is_rfl)
      | (apply as_indexAddr; first | exact OpR_indexAddr rfl rfl (by omega) (by omega) is_rfl | exact OpR_indexAddr_arr' rfl rfl (by omega) (by omega) (by first | (simp only [Int.reduceToNat, Nat.reduceMul, Nat.reduceAdd]; exact rfl) | exact rfl) is_rfl)); first | (exact rfl; exact rfl) | exact rfl)
          | (apply J_seq)
          | (apply J_region)
          | (apply J_block)
          | (apply J_inBlock)
          | (apply aj_exit; refine J_exit rfl ?_)
          | (apply J_skip)
          | (apply al_none (t := 3); refine JL_o (by apply as_box; exact OpR_box' hs rfl) rfl rfl ?_; rintro _ _ ⟨b3, rfl, hb3, hs, hE⟩)
          | (apply ax_n; refine JX_n (t := 3) rfl (fun W L hs => by apply as_box; exact OpR_box' hs rfl) rfl ?_)
          | (apply ax_k; (first | refine JX_k (t := 3) ?_ | refine JX_k2 (t := 3) rfl ?_); intro b3)
          | (apply al_none (t := 7); refine JL_o (by apply as_alloc; exact OpR_alloc' hs) rfl rfl ?_; rintro _ _ ⟨b7, rfl, hb7, hs, hE⟩)
          | (apply ax_n; refine JX_n (t := 7) rfl (fun W L hs => by apply as_alloc; exact OpR_alloc' hs) rfl ?_)
          | (apply ax_k; (first | refine JX_k (t := 7) ?_ | refine JX_k2 (t := 7) rfl ?_); intro b7)
          | (apply al_none (t := 8); refine JL_o (by apply as_alloc; exact OpR_alloc' hs) rfl rfl ?_; rintro _ _ ⟨b8, rfl, hb8, hs, hE⟩)
          | (apply ax_n; refine JX_n (t := 8) rfl (fun W L hs => by apply as_alloc; exact OpR_alloc' hs) rfl ?_)
          | (apply ax_k; (first | refine JX_k (t := 8) ?_ | refine JX_k2 (t := 8) rfl ?_); intro b8)
          | (apply al_none (t := 14); refine JL_o (by apply as_alloc; exact OpR_alloc' hs) rfl rfl ?_; rintro _ _ ⟨b14, rfl, hb14, hs, hE⟩)
          | (apply ax_n; refine JX_n (t := 14) rfl (fun W L hs => by apply as_alloc; exact OpR_alloc' hs) rfl ?_)
          | (apply ax_k; (first | refine JX_k (t := 14) ?_ | refine JX_k2 (t := 14) rfl ?_); intro b14)
          | (apply al_unit; refine JL_u (by apply as_store; exact OpR_store' hs rfl rfl rfl) rfl ?_; rintro _ _ ⟨hs, hF⟩)
          | (apply al_guard; first
    | (refine JL_no rfl (by first | assumption | rfl | exact decide_eq_true (by first | assumption | omega) | exact decide_eq_false (by first | assumption | omega)) rfl ?_)
    | (fail_if_success (apply JL_o_on rfl (by first | assumption | rfl | exact decide_eq_true (by first | assumption | omega) | exact decide_eq_false (by first | assumption | omega)))); first | (refine JL_split_dec rfl (fun _ => ?_) (fun _ => ?_)) | (refine JL_split rfl (fun _ => ?_) (fun _ => ?_)))
          | (apply aj_cond; first | refine J_dec_t rfl (by first | assumption | omega) ?_ | refine J_dec_f rfl (by first | assumption | omega) ?_ | refine J_cond_t rfl (by first | assumption | rfl | exact decide_eq_true (by first | assumption | omega) | exact decide_eq_false (by first | assumption | omega)) ?_ | refine J_cond_f rfl (by first | assumption | rfl | exact decide_eq_true (by first | assumption | omega) | exact decide_eq_false (by first | assumption | omega)) ?_ | (refine J_cond_dec rfl (fun _ => ?_) (fun _ => ?_)) | (refine J_cond rfl (fun _ => ?_) (fun _ => ?_)))
          | (apply aj_draw; first
    | (refine J_drawX (id := 14) [0, 1, 0, 7, 15, 31] [(0, 0), (2, 0), (1, 1), (3, 1), (4, 0), (5, 0)] [] hs mixed (by kernel_rfl) (by kernel_rfl) (by kernel_rfl) (by kernel_rfl) (by kernel_rfl) ?_)
    | (refine J_drawX (id := 18) [0, 0, 3, 7, 15, 15, 63, 127, 15, 15, 783, 1807, 4095, 8191, 16383] [(0, 0), (1, 0), (2, 0), (3, 0), (4, 0), (5, 0), (6, 0), (7, 0), (8, 0), (9, 0), (10, 0), (11, 0), (12, 1), (13, 0), (14, 0)] [] hs mixed (by kernel_rfl) (by kernel_rfl) (by kernel_rfl) (by kernel_rfl) (by kernel_rfl) ?_))
          | (refine JX_done (fun W hs => ?_))
          | (refine JX_f_off rfl rfl (by first | assumption | rfl | exact decide_eq_true (by first | assumption | omega) | exact decide_eq_false (by first | assumption | omega)) rfl ?_)
          | (refine JX_c_off rfl rfl (by first | assumption | rfl | exact decide_eq_true (by first | assumption | omega) | exact decide_eq_false (by first | assumption | omega)) rfl ?_)
          | (refine JX_split_dec rfl rfl (fun hq => ?_) (fun hq => ?_); (fail_if_success (exact absurd (by clear hq; first | assumption | omega) (not_not_intro hq))); rotate_left; (fail_if_success (exact absurd (by clear hq; first | assumption | omega) hq)); rotate_left)
          | (refine JX_split rfl rfl (fun hq => ?_) (fun hq => ?_); (fail_if_success (exact bool_contra hq (by clear hq; exact (by first | assumption | rfl | exact decide_eq_true (by first | assumption | omega) | exact decide_eq_false (by first | assumption | omega))))); rotate_left; (fail_if_success (exact bool_contra (by clear hq; exact (by first | assumption | rfl | exact decide_eq_true (by first | assumption | omega) | exact decide_eq_false (by first | assumption | omega))) hq)); rotate_left)
          | (apply JD_done)
          | (apply JD_tail; case' hos => (simp only [List.map_cons, List.map_nil, List.getElem?_toArray, List.getElem?_cons_succ, List.getElem?_cons_zero]; repeat' (first | exact ms_nil | apply ms_cons)))
          | (refine JD_f_off rfl rfl (by first | assumption | rfl | exact decide_eq_true (by first | assumption | omega) | exact decide_eq_false (by first | assumption | omega)) rfl ?_)
          | (refine JD_c_off rfl rfl (by first | assumption | rfl | exact decide_eq_true (by first | assumption | omega) | exact decide_eq_false (by first | assumption | omega)) rfl ?_)
          | (refine JD_split_dec rfl rfl (fun _ => ?_) (fun _ => ?_))
          | (refine JD_split rfl rfl (fun _ => ?_) (fun _ => ?_)))
        refine ih (k + 1) _ _ ⟨hs, by omega⟩ (by omega) (by repeat' (first | exact trivial | exact rfl | apply And.intro))
    · repeat' (first
        | (apply JL_nil)
        | ((first | (apply JL_pure) | (apply JL_pure_on; exact rfl; (first | assumption | exact rfl | exact decide_eq_true (by first | assumption | omega) | exact decide_eq_false (by first | assumption | omega))) | (apply JX_f; exact rfl; intro W X hs) | (apply JX_fz; exact rfl; intro W hs) | (apply JX_f_on; exact rfl; exact rfl; (first | assumption | exact rfl | exact decide_eq_true (by first | assumption | omega) | exact decide_eq_false (by first | assumption | omega)); intro W X hs)); (first
      | (apply as_move; first | exact OpR_move rfl is_rfl)
      | (apply as_assign; first | exact OpR_assign rfl is_rfl)
      | (apply as_fieldAddr; first | exact OpR_fieldAddr0 rfl rfl is_rfl | exact OpR_fieldAddr rfl rfl is_rfl)
      | (apply as_load; first | exact OpR_load' hs rfl rfl is_rfl | exact OpR_load_agg' hs rfl is_rfl)
      | (apply as_add; first | exact OpR_addn rfl rfl (by omega) (by first | (simp only [Int.reduceAdd]; exact rfl) | exact rfl) is_rfl | exact OpR_ibin rfl rfl rfl is_rfl)
      | (apply as_binOp; first | exact OpR_ibin rfl rfl rfl is_rfl | exact OpR_beq rfl rfl is_rfl | exact OpR_bne rfl rfl is_rfl | exact OpR_eqNil rfl rfl is_rfl | exact OpR_neNil rfl rfl is_rfl)
      | (apply as_unOp; first | exact OpR_not rfl is_rfl)
      | (apply as_pick; first | exact OpR_pick_t rfl (by first | assumption | rfl | exact decide_eq_true (by first | assumption | omega) | exact decide_eq_false (by first | assumption | omega)) rfl is_rfl | exact OpR_pick_f rfl (by first | assumption | rfl | exact decide_eq_true (by first | assumption | omega) | exact decide_eq_false (by first | assumption | omega)) rfl is_rfl)
      | (apply as_b_len; first | exact OpR_len rfl is_rfl | exact OpR_len_str rfl is_rfl | exact OpR_len_arr rfl is_rfl)
      | (apply as_extract; first | exact OpR_extract rfl rfl is_rfl)
      | (apply as_indexAddr; first | exact OpR_indexAddr rfl rfl (by omega) (by omega) is_rfl | exact OpR_indexAddr_arr' rfl rfl (by omega) (by omega) (by first | (simp only [Int.reduceToNat, Nat.reduceMul, Nat.reduceAdd]; exact rfl) | exact rfl) is_rfl)); first | (exact rfl; exact rfl) | exact rfl)
        | (apply J_seq)
        | (apply J_region)
        | (apply J_block)
        | (apply J_inBlock)
        | (apply aj_exit; refine J_exit rfl ?_)
        | (apply J_skip)
        | (apply al_none (t := 3); refine JL_o (by apply as_box; exact OpR_box' hs rfl) rfl rfl ?_; rintro _ _ ⟨b3, rfl, hb3, hs, hE⟩)
        | (apply ax_n; refine JX_n (t := 3) rfl (fun W L hs => by apply as_box; exact OpR_box' hs rfl) rfl ?_)
        | (apply ax_k; (first | refine JX_k (t := 3) ?_ | refine JX_k2 (t := 3) rfl ?_); intro b3)
        | (apply al_none (t := 7); refine JL_o (by apply as_alloc; exact OpR_alloc' hs) rfl rfl ?_; rintro _ _ ⟨b7, rfl, hb7, hs, hE⟩)
        | (apply ax_n; refine JX_n (t := 7) rfl (fun W L hs => by apply as_alloc; exact OpR_alloc' hs) rfl ?_)
        | (apply ax_k; (first | refine JX_k (t := 7) ?_ | refine JX_k2 (t := 7) rfl ?_); intro b7)
        | (apply al_none (t := 8); refine JL_o (by apply as_alloc; exact OpR_alloc' hs) rfl rfl ?_; rintro _ _ ⟨b8, rfl, hb8, hs, hE⟩)
        | (apply ax_n; refine JX_n (t := 8) rfl (fun W L hs => by apply as_alloc; exact OpR_alloc' hs) rfl ?_)
        | (apply ax_k; (first | refine JX_k (t := 8) ?_ | refine JX_k2 (t := 8) rfl ?_); intro b8)
        | (apply al_none (t := 14); refine JL_o (by apply as_alloc; exact OpR_alloc' hs) rfl rfl ?_; rintro _ _ ⟨b14, rfl, hb14, hs, hE⟩)
        | (apply ax_n; refine JX_n (t := 14) rfl (fun W L hs => by apply as_alloc; exact OpR_alloc' hs) rfl ?_)
        | (apply ax_k; (first | refine JX_k (t := 14) ?_ | refine JX_k2 (t := 14) rfl ?_); intro b14)
        | (apply al_unit; refine JL_u (by apply as_store; exact OpR_store' hs rfl rfl rfl) rfl ?_; rintro _ _ ⟨hs, hF⟩)
        | (apply al_guard; first
    | (refine JL_no rfl (by first | assumption | rfl | exact decide_eq_true (by first | assumption | omega) | exact decide_eq_false (by first | assumption | omega)) rfl ?_)
    | (fail_if_success (apply JL_o_on rfl (by first | assumption | rfl | exact decide_eq_true (by first | assumption | omega) | exact decide_eq_false (by first | assumption | omega)))); first | (refine JL_split_dec rfl (fun _ => ?_) (fun _ => ?_)) | (refine JL_split rfl (fun _ => ?_) (fun _ => ?_)))
        | (apply aj_cond; first | refine J_dec_t rfl (by first | assumption | omega) ?_ | refine J_dec_f rfl (by first | assumption | omega) ?_ | refine J_cond_t rfl (by first | assumption | rfl | exact decide_eq_true (by first | assumption | omega) | exact decide_eq_false (by first | assumption | omega)) ?_ | refine J_cond_f rfl (by first | assumption | rfl | exact decide_eq_true (by first | assumption | omega) | exact decide_eq_false (by first | assumption | omega)) ?_ | (refine J_cond_dec rfl (fun _ => ?_) (fun _ => ?_)) | (refine J_cond rfl (fun _ => ?_) (fun _ => ?_)))
        | (apply aj_draw; first
    | (refine J_drawX (id := 14) [0, 1, 0, 7, 15, 31] [(0, 0), (2, 0), (1, 1), (3, 1), (4, 0), (5, 0)] [] hs mixed (by kernel_rfl) (by kernel_rfl) (by kernel_rfl) (by kernel_rfl) (by kernel_rfl) ?_)
    | (refine J_drawX (id := 18) [0, 0, 3, 7, 15, 15, 63, 127, 15, 15, 783, 1807, 4095, 8191, 16383] [(0, 0), (1, 0), (2, 0), (3, 0), (4, 0), (5, 0), (6, 0), (7, 0), (8, 0), (9, 0), (10, 0), (11, 0), (12, 1), (13, 0), (14, 0)] [] hs mixed (by kernel_rfl) (by kernel_rfl) (by kernel_rfl) (by kernel_rfl) (by kernel_rfl) ?_))
        | (refine JX_done (fun W hs => ?_))
        | (refine JX_f_off rfl rfl (by first | assumption | rfl | exact decide_eq_true (by first | assumption | omega) | exact decide_eq_false (by first | assumption | omega)) rfl ?_)
        | (refine JX_c_off rfl rfl (by first | assumption | rfl | exact decide_eq_true (by first | assumption | omega) | exact decide_eq_false (by first | assumption | omega)) rfl ?_)
        | (refine JX_split_dec rfl rfl (fun hq => ?_) (fun hq => ?_); (fail_if_success (exact absurd (by clear hq; first | assumption | omega) (not_not_intro hq))); rotate_left; (fail_if_success (exact absurd (by clear hq; first | assumption | omega) hq)); rotate_left)
        | (refine JX_split rfl rfl (fun hq => ?_) (fun hq => ?_); (fail_if_success (exact bool_contra hq (by clear hq; exact (by first | assumption | rfl | exact decide_eq_true (by first | assumption | omega) | exact decide_eq_false (by first | assumption | omega))))); rotate_left; (fail_if_success (exact bool_contra (by clear hq; exact (by first | assumption | rfl | exact decide_eq_true (by first | assumption | omega) | exact decide_eq_false (by first | assumption | omega))) hq)); rotate_left)
        | (apply JD_done)
        | (apply JD_tail; case' hos => (simp only [List.map_cons, List.map_nil, List.getElem?_toArray, List.getElem?_cons_succ, List.getElem?_cons_zero]; repeat' (first | exact ms_nil | apply ms_cons)))
        | (refine JD_f_off rfl rfl (by first | assumption | rfl | exact decide_eq_true (by first | assumption | omega) | exact decide_eq_false (by first | assumption | omega)) rfl ?_)
        | (refine JD_c_off rfl rfl (by first | assumption | rfl | exact decide_eq_true (by first | assumption | omega) | exact decide_eq_false (by first | assumption | omega)) rfl ?_)
        | (refine JD_split_dec rfl rfl (fun _ => ?_) (fun _ => ?_))
        | (refine JD_split rfl rfl (fun _ => ?_) (fun _ => ?_)))
      refine J_leave Try.func5 rfl (.tmp rfl .nil) ⟨?_, hs.frm.ext⟩
      simp only [mkRes]
      rw [decide_eq_true (by omega)]
  · have hset : ∃ e, e ≠ 0 ∧ setM Wd Rr r c0 vs = (0, 0, [], e) := by
      unfold setM doesM
      by_cases hB : colB Wd Rr c0.length = true
      · rw [if_pos hB]
        by_cases hr : 0 ≤ r ∧ r < Rr
        · rw [if_pos hr, if_neg (fun hv => hok ⟨⟨hB, hr⟩, hv⟩)]
          exact ⟨140, by omega, rfl⟩
        · rw [if_neg hr]; exact ⟨2, by omega, rfl⟩
      · rw [if_neg hB]; exact ⟨180, by omega, rfl⟩
    obtain ⟨e, he, hset⟩ := hset
    repeat' (first
      | ((apply al_call 9; refine JL_o (by exact OpR_callF en9 rfl (wakes_r _)) rfl rfl ?_; rintro _ _ ⟨hE, rfl⟩; have hs := hs.ext hE; (try simp only [List.cons_append, List.nil_append] at hs)))
      | ((apply al_callg 9; refine JL_o_on rfl (by first | assumption | rfl | exact decide_eq_true (by first | assumption | omega) | exact decide_eq_false (by first | assumption | omega)) (by exact OpR_callF en9 rfl (wakes_r _)) rfl rfl ?_; rintro _ _ ⟨hE, rfl⟩; have hs := hs.ext hE; (try simp only [List.cons_append, List.nil_append] at hs)))
      | ((apply ax_c; apply JX_cF 9; exact rfl; (intro W X hN hs; exact OpR_callF en9 rfl (wakes_r _)); (rintro _ _ _ _ ⟨hE, rfl⟩; first | exact hE | exact Fresh.ext hf); rintro W X _ _ hN hs ⟨hE, rfl⟩; have hs := hs.ext hE; (try simp only [List.cons_append, List.nil_append] at hs); refine JX.at hs ?_))
      | ((apply ax_c; apply JX_cFg 9; exact rfl; exact rfl; exact (by first | assumption | rfl | exact decide_eq_true (by first | assumption | omega) | exact decide_eq_false (by first | assumption | omega)); (intro W X hN hs; exact OpR_callF en9 rfl (wakes_r _)); (rintro _ _ _ _ ⟨hE, rfl⟩; first | exact hE | exact Fresh.ext hf); rintro W X _ _ hN hs ⟨hE, rfl⟩; have hs := hs.ext hE; (try simp only [List.cons_append, List.nil_append] at hs); refine JX.at hs ?_))
      | ((apply al_call 10; refine JL_o (by exact OpR_callF en10 rfl (own_r _ Wd Rr a n c ws (h.st hs))) rfl rfl ?_; rintro _ _ ⟨ac, cc, rfl, hf⟩; rw [← hc0] at hf ⊢; have hs := hs.fresh hf; (try simp only [List.cons_append, List.nil_append] at hs)))
      | ((apply al_callg 10; refine JL_o_on rfl (by first | assumption | rfl | exact decide_eq_true (by first | assumption | omega) | exact decide_eq_false (by first | assumption | omega)) (by exact OpR_callF en10 rfl (own_r _ Wd Rr a n c ws (h.st hs))) rfl rfl ?_; rintro _ _ ⟨ac, cc, rfl, hf⟩; rw [← hc0] at hf ⊢; have hs := hs.fresh hf; (try simp only [List.cons_append, List.nil_append] at hs)))
      | ((apply ax_c; apply JX_cF 10; exact rfl; (intro W X hN hs; exact OpR_callF en10 rfl (own_r _ Wd Rr a n c ws (h.st hs))); (rintro _ _ _ _ ⟨ac, cc, rfl, hf⟩; first | exact hE | exact Fresh.ext hf); rintro W X _ _ hN hs ⟨ac, cc, rfl, hf⟩; rw [← hc0] at hf ⊢; have hs := hs.fresh hf; (try simp only [List.cons_append, List.nil_append] at hs); refine JX.at hs ?_))
      | ((apply ax_c; apply JX_cFg 10; exact rfl; exact rfl; exact (by first | assumption | rfl | exact decide_eq_true (by first | assumption | omega) | exact decide_eq_false (by first | assumption | omega)); (intro W X hN hs; exact OpR_callF en10 rfl (own_r _ Wd Rr a n c ws (h.st hs))); (rintro _ _ _ _ ⟨ac, cc, rfl, hf⟩; first | exact hE | exact Fresh.ext hf); rintro W X _ _ hN hs ⟨ac, cc, rfl, hf⟩; rw [← hc0] at hf ⊢; have hs := hs.fresh hf; (try simp only [List.cons_append, List.nil_append] at hs); refine JX.at hs ?_))
      | ((apply al_call 12; refine JL_o (by exact OpR_callF en12 rfl (small_r _ Wd Rr ac c0.length cc)) rfl rfl ?_; rintro _ _ ⟨hE, rfl⟩; have hs := hs.ext hE; (try simp only [List.cons_append, List.nil_append] at hs)))
      | ((apply al_callg 12; refine JL_o_on rfl (by first | assumption | rfl | exact decide_eq_true (by first | assumption | omega) | exact decide_eq_false (by first | assumption | omega)) (by exact OpR_callF en12 rfl (small_r _ Wd Rr ac c0.length cc)) rfl rfl ?_; rintro _ _ ⟨hE, rfl⟩; have hs := hs.ext hE; (try simp only [List.cons_append, List.nil_append] at hs)))
      | ((apply ax_c; apply JX_cF 12; exact rfl; (intro W X hN hs; exact OpR_callF en12 rfl (small_r _ Wd Rr ac c0.length cc)); (rintro _ _ _ _ ⟨hE, rfl⟩; first | exact hE | exact Fresh.ext hf); rintro W X _ _ hN hs ⟨hE, rfl⟩; have hs := hs.ext hE; (try simp only [List.cons_append, List.nil_append] at hs); refine JX.at hs ?_))
      | ((apply ax_c; apply JX_cFg 12; exact rfl; exact rfl; exact (by first | assumption | rfl | exact decide_eq_true (by first | assumption | omega) | exact decide_eq_false (by first | assumption | omega)); (intro W X hN hs; exact OpR_callF en12 rfl (small_r _ Wd Rr ac c0.length cc)); (rintro _ _ _ _ ⟨hE, rfl⟩; first | exact hE | exact Fresh.ext hf); rintro W X _ _ hN hs ⟨hE, rfl⟩; have hs := hs.ext hE; (try simp only [List.cons_append, List.nil_append] at hs); refine JX.at hs ?_))
      | ((apply al_call 22; refine JL_o (by exact OpR_callF en22 rfl (set_r _ Wd Rr r ac av c0.length cc vs.length cv c0 vs ((hs.row ac c0.length cc).wr hu0) (hvr.st hs))) rfl rfl ?_; rintro _ _ ⟨a1, d1, rfl, hf⟩; rw [hset] at hf ⊢; dsimp only at hf ⊢; have hs := hs.fresh hf; (try simp only [List.cons_append, List.nil_append] at hs)))
      | ((apply al_callg 22; refine JL_o_on rfl (by first | assumption | rfl | exact decide_eq_true (by first | assumption | omega) | exact decide_eq_false (by first | assumption | omega)) (by exact OpR_callF en22 rfl (set_r _ Wd Rr r ac av c0.length cc vs.length cv c0 vs ((hs.row ac c0.length cc).wr hu0) (hvr.st hs))) rfl rfl ?_; rintro _ _ ⟨a1, d1, rfl, hf⟩; rw [hset] at hf ⊢; dsimp only at hf ⊢; have hs := hs.fresh hf; (try simp only [List.cons_append, List.nil_append] at hs)))
      | ((apply ax_c; apply JX_cF 22; exact rfl; (intro W X hN hs; exact OpR_callF en22 rfl (set_r _ Wd Rr r ac av c0.length cc vs.length cv c0 vs ((hs.row ac c0.length cc).wr hu0) (hvr.st hs))); (rintro _ _ _ _ ⟨a1, d1, rfl, hf⟩; first | exact hE | exact Fresh.ext hf); rintro W X _ _ hN hs ⟨a1, d1, rfl, hf⟩; rw [hset] at hf ⊢; dsimp only at hf ⊢; have hs := hs.fresh hf; (try simp only [List.cons_append, List.nil_append] at hs); refine JX.at hs ?_))
      | ((apply ax_c; apply JX_cFg 22; exact rfl; exact rfl; exact (by first | assumption | rfl | exact decide_eq_true (by first | assumption | omega) | exact decide_eq_false (by first | assumption | omega)); (intro W X hN hs; exact OpR_callF en22 rfl (set_r _ Wd Rr r ac av c0.length cc vs.length cv c0 vs ((hs.row ac c0.length cc).wr hu0) (hvr.st hs))); (rintro _ _ _ _ ⟨a1, d1, rfl, hf⟩; first | exact hE | exact Fresh.ext hf); rintro W X _ _ hN hs ⟨a1, d1, rfl, hf⟩; rw [hset] at hf ⊢; dsimp only at hf ⊢; have hs := hs.fresh hf; (try simp only [List.cons_append, List.nil_append] at hs); refine JX.at hs ?_))
      | (apply JL_nil)
      | ((first | (apply JL_pure) | (apply JL_pure_on; exact rfl; (first | assumption | exact rfl | exact decide_eq_true (by first | assumption | omega) | exact decide_eq_false (by first | assumption | omega))) | (apply JX_f; exact rfl; intro W X hs) | (apply JX_fz; exact rfl; intro W hs) | (apply JX_f_on; exact rfl; exact rfl; (first | assumption | exact rfl | exact decide_eq_true (by first | assumption | omega) | exact decide_eq_false (by first | assumption | omega)); intro W X hs)); (first
      | (apply as_move; first | exact OpR_move rfl is_rfl)
      | (apply as_assign; first | exact OpR_assign rfl is_rfl)
      | (apply as_fieldAddr; first | exact OpR_fieldAddr0 rfl rfl is_rfl | exact OpR_fieldAddr rfl rfl is_rfl)
      | (apply as_load; first | exact OpR_load' hs rfl rfl is_rfl | exact OpR_load_agg' hs rfl is_rfl)
      | (apply as_add; first | exact OpR_addn rfl rfl (by omega) (by first | (simp only [Int.reduceAdd]; exact rfl) | exact rfl) is_rfl | exact OpR_ibin rfl rfl rfl is_rfl)
      | (apply as_binOp; first | exact OpR_ibin rfl rfl rfl is_rfl | exact OpR_beq rfl rfl is_rfl | exact OpR_bne rfl rfl is_rfl | exact OpR_eqNil rfl rfl is_rfl | exact OpR_neNil rfl rfl is_rfl)
      | (apply as_unOp; first | exact OpR_not rfl is_rfl)
      | (apply as_pick; first | exact OpR_pick_t rfl (by first | assumption | rfl | exact decide_eq_true (by first | assumption | omega) | exact decide_eq_false (by first | assumption | omega)) rfl is_rfl | exact OpR_pick_f rfl (by first | assumption | rfl | exact decide_eq_true (by first | assumption | omega) | exact decide_eq_false (by first | assumption | omega)) rfl is_rfl)
      | (apply as_b_len; first | exact OpR_len rfl is_rfl | exact OpR_len_str rfl is_rfl | exact OpR_len_arr rfl is_rfl)
      | (apply as_extract; first | exact OpR_extract rfl rfl is_rfl)
      | (apply as_indexAddr; first | exact OpR_indexAddr rfl rfl (by omega) (by omega) is_rfl | exact OpR_indexAddr_arr' rfl rfl (by omega) (by omega) (by first | (simp only [Int.reduceToNat, Nat.reduceMul, Nat.reduceAdd]; exact rfl) | exact rfl) is_rfl)); first | (exact rfl; exact rfl) | exact rfl)
      | (apply J_seq)
      | (apply J_region)
      | (apply J_block)
      | (apply J_inBlock)
      | (apply aj_exit; refine J_exit rfl ?_)
      | (apply J_skip)
      | (apply al_none (t := 3); refine JL_o (by apply as_box; exact OpR_box' hs rfl) rfl rfl ?_; rintro _ _ ⟨b3, rfl, hb3, hs, hE⟩)
      | (apply ax_n; refine JX_n (t := 3) rfl (fun W L hs => by apply as_box; exact OpR_box' hs rfl) rfl ?_)
      | (apply ax_k; (first | refine JX_k (t := 3) ?_ | refine JX_k2 (t := 3) rfl ?_); intro b3)
      | (apply al_none (t := 7); refine JL_o (by apply as_alloc; exact OpR_alloc' hs) rfl rfl ?_; rintro _ _ ⟨b7, rfl, hb7, hs, hE⟩)
      | (apply ax_n; refine JX_n (t := 7) rfl (fun W L hs => by apply as_alloc; exact OpR_alloc' hs) rfl ?_)
      | (apply ax_k; (first | refine JX_k (t := 7) ?_ | refine JX_k2 (t := 7) rfl ?_); intro b7)
      | (apply al_none (t := 8); refine JL_o (by apply as_alloc; exact OpR_alloc' hs) rfl rfl ?_; rintro _ _ ⟨b8, rfl, hb8, hs, hE⟩)
      | (apply ax_n; refine JX_n (t := 8) rfl (fun W L hs => by apply as_alloc; exact OpR_alloc' hs) rfl ?_)
      | (apply ax_k; (first | refine JX_k (t := 8) ?_ | refine JX_k2 (t := 8) rfl ?_); intro b8)
      | (apply al_none (t := 14); refine JL_o (by apply as_alloc; exact OpR_alloc' hs) rfl rfl ?_; rintro _ _ ⟨b14, rfl, hb14, hs, hE⟩)
      | (apply ax_n; refine JX_n (t := 14) rfl (fun W L hs => by apply as_alloc; exact OpR_alloc' hs) rfl ?_)
      | (apply ax_k; (first | refine JX_k (t := 14) ?_ | refine JX_k2 (t := 14) rfl ?_); intro b14)
      | (apply al_unit; refine JL_u (by apply as_store; exact OpR_store' hs rfl rfl rfl) rfl ?_; rintro _ _ ⟨hs, hF⟩)
      | (apply al_guard; first
    | (refine JL_no rfl (by first | assumption | rfl | exact decide_eq_true (by first | assumption | omega) | exact decide_eq_false (by first | assumption | omega)) rfl ?_)
    | (fail_if_success (apply JL_o_on rfl (by first | assumption | rfl | exact decide_eq_true (by first | assumption | omega) | exact decide_eq_false (by first | assumption | omega)))); first | (refine JL_split_dec rfl (fun _ => ?_) (fun _ => ?_)) | (refine JL_split rfl (fun _ => ?_) (fun _ => ?_)))
      | (apply aj_cond; first | refine J_dec_t rfl (by first | assumption | omega) ?_ | refine J_dec_f rfl (by first | assumption | omega) ?_ | refine J_cond_t rfl (by first | assumption | rfl | exact decide_eq_true (by first | assumption | omega) | exact decide_eq_false (by first | assumption | omega)) ?_ | refine J_cond_f rfl (by first | assumption | rfl | exact decide_eq_true (by first | assumption | omega) | exact decide_eq_false (by first | assumption | omega)) ?_ | (refine J_cond_dec rfl (fun _ => ?_) (fun _ => ?_)) | (refine J_cond rfl (fun _ => ?_) (fun _ => ?_)))
      | (apply aj_draw; first
    | (refine J_drawX (id := 14) [0, 1, 0, 7, 15, 31] [(0, 0), (2, 0), (1, 1), (3, 1), (4, 0), (5, 0)] [] hs mixed (by kernel_rfl) (by kernel_rfl) (by kernel_rfl) (by kernel_rfl) (by kernel_rfl) ?_)
    | (refine J_drawX (id := 18) [0, 0, 3, 7, 15, 15, 63, 127, 15, 15, 783, 1807, 4095, 8191, 16383] [(0, 0), (1, 0), (2, 0), (3, 0), (4, 0), (5, 0), (6, 0), (7, 0), (8, 0), (9, 0), (10, 0), (11, 0), (12, 1), (13, 0), (14, 0)] [] hs mixed (by kernel_rfl) (by kernel_rfl) (by kernel_rfl) (by kernel_rfl) (by kernel_rfl) ?_))
      | (refine JX_done (fun W hs => ?_))
      | (refine JX_f_off rfl rfl (by first | assumption | rfl | exact decide_eq_true (by first | assumption | omega) | exact decide_eq_false (by first | assumption | omega)) rfl ?_)
      | (refine JX_c_off rfl rfl (by first | assumption | rfl | exact decide_eq_true (by first | assumption | omega) | exact decide_eq_false (by first | assumption | omega)) rfl ?_)
      | (refine JX_split_dec rfl rfl (fun hq => ?_) (fun hq => ?_); (fail_if_success (exact absurd (by clear hq; first | assumption | omega) (not_not_intro hq))); rotate_left; (fail_if_success (exact absurd (by clear hq; first | assumption | omega) hq)); rotate_left)
      | (refine JX_split rfl rfl (fun hq => ?_) (fun hq => ?_); (fail_if_success (exact bool_contra hq (by clear hq; exact (by first | assumption | rfl | exact decide_eq_true (by first | assumption | omega) | exact decide_eq_false (by first | assumption | omega))))); rotate_left; (fail_if_success (exact bool_contra (by clear hq; exact (by first | assumption | rfl | exact decide_eq_true (by first | assumption | omega) | exact decide_eq_false (by first | assumption | omega))) hq)); rotate_left)
      | (apply JD_done)
      | (apply JD_tail; case' hos => (simp only [List.map_cons, List.map_nil, List.getElem?_toArray, List.getElem?_cons_succ, List.getElem?_cons_zero]; repeat' (first | exact ms_nil | apply ms_cons)))
      | (refine JD_f_off rfl rfl (by first | assumption | rfl | exact decide_eq_true (by first | assumption | omega) | exact decide_eq_false (by first | assumption | omega)) rfl ?_)
      | (refine JD_c_off rfl rfl (by first | assumption | rfl | exact decide_eq_true (by first | assumption | omega) | exact decide_eq_false (by first | assumption | omega)) rfl ?_)
      | (refine JD_split_dec rfl rfl (fun _ => ?_) (fun _ => ?_))
      | (refine JD_split rfl rfl (fun _ => ?_) (fun _ => ?_)))
    all_goals refine J_leave Try.func5 rfl (.tmp rfl .nil) ⟨rfl, hs.frm.ext⟩
end Go.Eng
namespace Go.Eng
open Go.Proofs
end Go.Eng
