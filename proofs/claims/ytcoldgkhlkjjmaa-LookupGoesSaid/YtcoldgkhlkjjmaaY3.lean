/- The texts L21, L22, L23, L24, L25, L26, L27, L28, L29, joined. -/
import Derived.Test.YtcoldgkhlkjjmaaY2
import Derived.Test.YtcoldgkhlkjjmaaE27
/- Lookups: the reference's Same, Without. -/
namespace Go.Eng
open Go.Proofs
set_option linter.unusedSimpArgs false
set_option linter.unusedVariables false
theorem getD_ne {xs ys : List Ent} {k : Nat} {x y : Ent} (hx : xs[k]? = some x) (hy : ys[k]? = some y) (h : x ≠ y) : decide (xs = ys) = false := by
  refine decide_eq_false (fun e => ?_)
  subst e
  rw [hx] at hy
  exact h (Option.some.inj hy)
attribute [local irreducible] Hold J JL JD JX JXat OpR OpG Ret RetV Is Blk Row MapC
set_option maxRecDepth 100000
set_option maxHeartbeats 1000000
theorem same7_r (w : World) (a1 a2 : Option Addr) (n1 c1 n2 c2 : Nat) (xs ys : List Ent) (h1 : Sl dEnt All w a1 n1 c1 xs) (h2 : Sl dEnt All w a2 n2 c2 ys) (hn : n1 ≤ 1048576) :
    Ret Try.prog 17 #[.slice a1 n1 c1, .slice a2 n2 c2] w fun v w' => v = .bool (decide (xs = ys)) ∧ Ext w w' := by
  refine Ret_of (l := [_, _]) Try.func17 rfl Try.ntmps17 (by simp) ?_
  have hs := St.init w
  obtain ⟨rs, hr, hm⟩ := Sl.raw (D := rawEnt) h1
  obtain ⟨qs, hq, hmq⟩ := Sl.raw (D := rawEnt) h2
  have hl := hr.len
  have hl2 := hq.len
  have hle := h1.len
  have hle2 := h2.len
  by_cases hnn : n1 = n2
  · subst hnn
    repeat' (first
      | (apply JL_nil)
      | ((apply JL_pure); (first
      | (apply as_move; exact OpR_move rfl is_rfl)
      | (apply as_assign; exact OpR_assign rfl is_rfl)
      | (apply as_binOp; exact OpR_ibin rfl rfl rfl is_rfl)
      | (apply as_b_len; exact OpR_len rfl is_rfl)); first | (exact rfl; exact rfl) | exact rfl)
      | (apply J_seq)
      | (apply J_region)
      | (apply J_block)
      | (apply J_skip)
      | (apply aj_cond; refine J_dec_f rfl ob ?_))
    refine J_loopK (α := Nat) [(1, _), (12, _), (13, _)] (fun k => [(14, .int .i64 k)]) (fun k w' => St w NoF w' [] ∧ k ≤ n1 ∧ xs.take k = ys.take k) (fun k => n1 - k) 0 ⟨hs, by omega, rfl⟩ (by repeat' (first | exact trivial | exact rfl | apply And.intro)) ?_
    rintro k w' ⟨hs1, hk, hG⟩ ih
    by_cases hlt : k < n1
    · obtain ⟨p1, o1, rfl⟩ := hr.sl.addr (by omega)
      obtain ⟨p2, o2, rfl⟩ := hq.sl.addr (by omega)
      have hs : St w NoF w' [] := hs1
      have hx : xs[k]? = some xs[k] := List.getElem?_eq_getElem (by omega)
      have hy : ys[k]? = some ys[k] := List.getElem?_eq_getElem (by omega)
      obtain ⟨x, hxd⟩ : ∃ x, x = xs[k] := ⟨_, rfl⟩
      obtain ⟨y, hyd⟩ : ∃ y, y = ys[k] := ⟨_, rfl⟩
      rw [← hxd] at hx
      rw [← hyd] at hy
      obtain ⟨r, hrx, hrel⟩ := hm.get hx
      obtain ⟨q, hqx, hqel⟩ := hmq.get hy
      have e1 : r.1 = x.1 := hrel.1
      have e3 : r.2.2 = x.2.2 := hrel.2.2
      have mx : Sl (tInt .u64) All w r.2.1.1 r.2.1.2.1 r.2.1.2.2 x.2.1 := hrel.2.1
      have f1 : q.1 = y.1 := hqel.1
      have f3 : q.2.2 = y.2.2 := hqel.2.2
      have my : Sl (tInt .u64) All w q.2.1.1 q.2.1.2.1 q.2.1.2.2 y.2.1 := hqel.2.1
      by_cases g1 : r.1 = q.1
      · by_cases g3 : r.2.2 = q.2.2
        · by_cases g2 : x.2.1 = y.2.1
          · have hxy : x = y := by
              have a1 : x.1 = y.1 := by omega
              have a3 : x.2.2 = y.2.2 := by omega
              obtain ⟨xa, xb, xc⟩ := x
              obtain ⟨ya, yb, yc⟩ := y
              simp only at a1 a3 g2
              rw [a1, g2, a3]
            have hT := take_eq_succ hx (by rw [hxy]; exact hy) hG
            repeat' (first
              | ((apply ax_c; apply JX_cFg 57; exact rfl; exact rfl; exact gb; (intro W X hN hs; exact OpR_callF en57 rfl (sameR_r _ r.2.1.1 q.2.1.1 r.2.1.2.1 r.2.1.2.2 q.2.1.2.1 q.2.1.2.2 x.2.1 y.2.1 (mx.st hs) (my.st hs))); (rintro _ _ _ _ ⟨rfl, hE⟩; first | exact hE | exact Fresh.ext hf); rintro W X _ _ hN hs ⟨rfl, hE⟩; rw [decide_eq_true g2]; have hs := hs.ext hE; (try simp only [List.cons_append, List.nil_append] at hs); refine JX.at hs ?_))
              | (apply JL_nil)
              | ((first | (apply JL_pure) | (apply JX_f; exact rfl; intro W X hs) | (apply JX_f_on; exact rfl; exact rfl; exact gb; intro W X hs)); (first
      | (apply as_load; first | exact OpR_load' hs rfl rfl is_rfl | exact OpR_load_agg' hs rfl is_rfl | exact OpR_load_el (hr.st hs) hrx rfl rfl is_rfl | exact OpR_load_el1 (i := k) (j := 0) (hq.st hs) hqx rfl rfl rfl is_rfl | exact OpR_load_el1 (i := k) (j := 2) (hq.st hs) hqx rfl rfl rfl is_rfl | exact OpR_load_el1 (i := k) (j := 1) (hq.st hs) hqx rfl rfl rfl is_rfl)
      | (apply as_move; exact OpR_move rfl is_rfl)
      | (apply as_assign; exact OpR_assign rfl is_rfl)
      | (apply as_fieldAddr; first | exact OpR_fieldAddr0 rfl rfl is_rfl | exact OpR_fieldAddr rfl rfl is_rfl)
      | (apply as_add; exact OpR_addn rfl rfl (by omega) (by first | (simp only [Int.reduceAdd]; exact rfl) | exact rfl) is_rfl)
      | (apply as_binOp; exact OpR_ibin rfl rfl rfl is_rfl)
      | (apply as_unOp; exact OpR_not rfl is_rfl)
      | (apply as_pick; exact OpR_pick_f rfl gb rfl is_rfl)
      | (apply as_indexAddr; exact OpR_indexAddr rfl rfl (by omega) (by omega) is_rfl)); first | (exact rfl; exact rfl) | exact rfl)
              | (apply J_seq)
              | (apply J_region)
              | (apply J_block)
              | (apply J_inBlock)
              | (apply J_skip)
              | (apply al_none (t := 6); refine JL_o (by apply as_alloc; exact OpR_alloc' hs) rfl rfl ?_; rintro _ _ ⟨b6, rfl, hb6, hs, hE⟩)
              | (apply al_unit; refine JL_u (by apply as_store; exact OpR_store' hs rfl rfl rfl) rfl ?_; rintro _ _ ⟨hs, hF⟩)
              | (apply aj_cond; first | refine J_dec_t rfl ob ?_ | refine J_cond_f rfl gb ?_)
              | (apply aj_draw; (refine J_drawX (id := 6) [0, 1, 0, 0, 12, 28, 60, 127, 255, 511, 1023, 511, 511, 6655, 14847, 31231, 65535, 131071, 262143, 524287, 1048575, 524287, 524287, 6815743, 15204351, 31981567, 67108863, 134217727, 268435455] [(0, 0), (1, 0), (2, 0), (3, 0), (4, 0), (5, 0), (6, 0), (7, 0), (8, 0), (9, 0), (10, 0), (11, 0), (12, 0), (13, 0), (14, 0), (15, 0), (16, 0), (17, 0), (18, 0), (19, 0), (20, 0), (21, 0), (22, 0), (23, 0), (24, 0), (25, 0), (26, 1), (27, 0), (28, 0)] [] hs mixed (by kernel_rfl) (by kernel_rfl) (by kernel_rfl) (by kernel_rfl) (by kernel_rfl) ?_))
              | (refine JX_done (fun W hs => ?_))
              | (apply JD_done))
            refine ih (k + 1) _ _ ⟨hs.sel [] (by decide), by omega, hT⟩ (by omega) (by repeat' (first | exact trivial | exact rfl | apply And.intro))
          · rw [getD_ne hx hy (fun e => g2 (by rw [e]))]
            repeat' (first
              | ((apply ax_c; apply JX_cFg 57; exact rfl; exact rfl; exact gb; (intro W X hN hs; exact OpR_callF en57 rfl (sameR_r _ r.2.1.1 q.2.1.1 r.2.1.2.1 r.2.1.2.2 q.2.1.2.1 q.2.1.2.2 x.2.1 y.2.1 (mx.st hs) (my.st hs))); (rintro _ _ _ _ ⟨rfl, hE⟩; first | exact hE | exact Fresh.ext hf); rintro W X _ _ hN hs ⟨rfl, hE⟩; rw [decide_eq_false g2]; have hs := hs.ext hE; (try simp only [List.cons_append, List.nil_append] at hs); refine JX.at hs ?_))
              | (apply JL_nil)
              | ((first | (apply JL_pure) | (apply JX_f; exact rfl; intro W X hs) | (apply JX_f_on; exact rfl; exact rfl; exact gb; intro W X hs)); (first
      | (apply as_load; first | exact OpR_load' hs rfl rfl is_rfl | exact OpR_load_agg' hs rfl is_rfl | exact OpR_load_el (hr.st hs) hrx rfl rfl is_rfl | exact OpR_load_el1 (i := k) (j := 0) (hq.st hs) hqx rfl rfl rfl is_rfl | exact OpR_load_el1 (i := k) (j := 2) (hq.st hs) hqx rfl rfl rfl is_rfl | exact OpR_load_el1 (i := k) (j := 1) (hq.st hs) hqx rfl rfl rfl is_rfl)
      | (apply as_move; exact OpR_move rfl is_rfl)
      | (apply as_assign; exact OpR_assign rfl is_rfl)
      | (apply as_fieldAddr; first | exact OpR_fieldAddr0 rfl rfl is_rfl | exact OpR_fieldAddr rfl rfl is_rfl)
      | (apply as_binOp; exact OpR_ibin rfl rfl rfl is_rfl)
      | (apply as_unOp; exact OpR_not rfl is_rfl)
      | (apply as_pick; exact OpR_pick_f rfl gb rfl is_rfl)
      | (apply as_indexAddr; exact OpR_indexAddr rfl rfl (by omega) (by omega) is_rfl)); first | (exact rfl; exact rfl) | exact rfl)
              | (apply J_seq)
              | (apply J_region)
              | (apply J_block)
              | (apply J_skip)
              | (apply al_none (t := 6); refine JL_o (by apply as_alloc; exact OpR_alloc' hs) rfl rfl ?_; rintro _ _ ⟨b6, rfl, hb6, hs, hE⟩)
              | (apply al_unit; refine JL_u (by apply as_store; exact OpR_store' hs rfl rfl rfl) rfl ?_; rintro _ _ ⟨hs, hF⟩)
              | (apply aj_cond; first | refine J_dec_t rfl ob ?_ | refine J_cond_t rfl gb ?_)
              | (apply aj_draw; (refine J_drawX (id := 6) [0, 1, 0, 0, 12, 28, 60, 127, 255, 511, 1023, 511, 511, 6655, 14847, 31231, 65535, 131071, 262143, 524287, 1048575, 524287, 524287, 6815743, 15204351, 31981567, 67108863, 134217727, 268435455] [(0, 0), (1, 0), (2, 0), (3, 0), (4, 0), (5, 0), (6, 0), (7, 0), (8, 0), (9, 0), (10, 0), (11, 0), (12, 0), (13, 0), (14, 0), (15, 0), (16, 0), (17, 0), (18, 0), (19, 0), (20, 0), (21, 0), (22, 0), (23, 0), (24, 0), (25, 0), (26, 1), (27, 0), (28, 0)] [] hs mixed (by kernel_rfl) (by kernel_rfl) (by kernel_rfl) (by kernel_rfl) (by kernel_rfl) ?_))
              | (refine JX_done (fun W hs => ?_))
              | (apply JD_done))
            refine J_leave Try.func17 rfl (.tmp rfl .nil) ⟨rfl, hs.frm.ext⟩
        · rw [getD_ne hx hy (fun e => g3 (by rw [e3, f3, e]))]
          repeat' (first
            | (apply JL_nil)
            | ((first | (apply JL_pure) | (apply JX_f; exact rfl; intro W X hs) | (apply JX_f_on; exact rfl; exact rfl; exact gb; intro W X hs)); (first
      | (apply as_load; first | exact OpR_load' hs rfl rfl is_rfl | exact OpR_load_agg' hs rfl is_rfl | exact OpR_load_el (hr.st hs) hrx rfl rfl is_rfl | exact OpR_load_el1 (i := k) (j := 0) (hq.st hs) hqx rfl rfl rfl is_rfl | exact OpR_load_el1 (i := k) (j := 2) (hq.st hs) hqx rfl rfl rfl is_rfl | exact OpR_load_el1 (i := k) (j := 1) (hq.st hs) hqx rfl rfl rfl is_rfl)
      | (apply as_move; exact OpR_move rfl is_rfl)
      | (apply as_assign; exact OpR_assign rfl is_rfl)
      | (apply as_fieldAddr; first | exact OpR_fieldAddr0 rfl rfl is_rfl | exact OpR_fieldAddr rfl rfl is_rfl)
      | (apply as_binOp; exact OpR_ibin rfl rfl rfl is_rfl)
      | (apply as_pick; first | exact OpR_pick_t rfl gb rfl is_rfl | exact OpR_pick_f rfl gb rfl is_rfl)
      | (apply as_indexAddr; exact OpR_indexAddr rfl rfl (by omega) (by omega) is_rfl)); first | (exact rfl; exact rfl) | exact rfl)
            | (apply J_seq)
            | (apply J_region)
            | (apply J_block)
            | (apply J_skip)
            | (apply al_none (t := 6); refine JL_o (by apply as_alloc; exact OpR_alloc' hs) rfl rfl ?_; rintro _ _ ⟨b6, rfl, hb6, hs, hE⟩)
            | (apply al_unit; refine JL_u (by apply as_store; exact OpR_store' hs rfl rfl rfl) rfl ?_; rintro _ _ ⟨hs, hF⟩)
            | (apply aj_cond; first | refine J_dec_t rfl ob ?_ | refine J_cond_t rfl gb ?_)
            | (apply aj_draw; (refine J_drawX (id := 6) [0, 1, 0, 0, 12, 28, 60, 127, 255, 511, 1023, 511, 511, 6655, 14847, 31231, 65535, 131071, 262143, 524287, 1048575, 524287, 524287, 6815743, 15204351, 31981567, 67108863, 134217727, 268435455] [(0, 0), (1, 0), (2, 0), (3, 0), (4, 0), (5, 0), (6, 0), (7, 0), (8, 0), (9, 0), (10, 0), (11, 0), (12, 0), (13, 0), (14, 0), (15, 0), (16, 0), (17, 0), (18, 0), (19, 0), (20, 0), (21, 0), (22, 0), (23, 0), (24, 0), (25, 0), (26, 1), (27, 0), (28, 0)] [] hs mixed (by kernel_rfl) (by kernel_rfl) (by kernel_rfl) (by kernel_rfl) (by kernel_rfl) ?_))
            | (refine JX_done (fun W hs => ?_))
            | (refine JX_f_off rfl rfl gb rfl ?_)
            | (refine JX_c_off rfl rfl gb rfl ?_)
            | (apply JD_done))
          refine J_leave Try.func17 rfl (.tmp rfl .nil) ⟨rfl, hs.frm.ext⟩
      · rw [getD_ne hx hy (fun e => g1 (by rw [e1, f1, e]))]
        repeat' (first
          | (apply JL_nil)
          | ((first | (apply JL_pure) | (apply JX_f; exact rfl; intro W X hs)); (first
      | (apply as_load; first | exact OpR_load' hs rfl rfl is_rfl | exact OpR_load_agg' hs rfl is_rfl | exact OpR_load_el (hr.st hs) hrx rfl rfl is_rfl | exact OpR_load_el1 (i := k) (j := 0) (hq.st hs) hqx rfl rfl rfl is_rfl | exact OpR_load_el1 (i := k) (j := 2) (hq.st hs) hqx rfl rfl rfl is_rfl | exact OpR_load_el1 (i := k) (j := 1) (hq.st hs) hqx rfl rfl rfl is_rfl)
      | (apply as_move; exact OpR_move rfl is_rfl)
      | (apply as_assign; exact OpR_assign rfl is_rfl)
      | (apply as_fieldAddr; first | exact OpR_fieldAddr0 rfl rfl is_rfl | exact OpR_fieldAddr rfl rfl is_rfl)
      | (apply as_binOp; exact OpR_ibin rfl rfl rfl is_rfl)
      | (apply as_pick; exact OpR_pick_t rfl gb rfl is_rfl)
      | (apply as_indexAddr; exact OpR_indexAddr rfl rfl (by omega) (by omega) is_rfl)); first | (exact rfl; exact rfl) | exact rfl)
          | (apply J_seq)
          | (apply J_region)
          | (apply J_block)
          | (apply J_skip)
          | (apply al_none (t := 6); refine JL_o (by apply as_alloc; exact OpR_alloc' hs) rfl rfl ?_; rintro _ _ ⟨b6, rfl, hb6, hs, hE⟩)
          | (apply al_unit; refine JL_u (by apply as_store; exact OpR_store' hs rfl rfl rfl) rfl ?_; rintro _ _ ⟨hs, hF⟩)
          | (apply aj_cond; first | refine J_dec_t rfl ob ?_ | refine J_cond_t rfl gb ?_)
          | (apply aj_draw; (refine J_drawX (id := 6) [0, 1, 0, 0, 12, 28, 60, 127, 255, 511, 1023, 511, 511, 6655, 14847, 31231, 65535, 131071, 262143, 524287, 1048575, 524287, 524287, 6815743, 15204351, 31981567, 67108863, 134217727, 268435455] [(0, 0), (1, 0), (2, 0), (3, 0), (4, 0), (5, 0), (6, 0), (7, 0), (8, 0), (9, 0), (10, 0), (11, 0), (12, 0), (13, 0), (14, 0), (15, 0), (16, 0), (17, 0), (18, 0), (19, 0), (20, 0), (21, 0), (22, 0), (23, 0), (24, 0), (25, 0), (26, 1), (27, 0), (28, 0)] [] hs mixed (by kernel_rfl) (by kernel_rfl) (by kernel_rfl) (by kernel_rfl) (by kernel_rfl) ?_))
          | (refine JX_done (fun W hs => ?_))
          | (refine JX_f_off rfl rfl gb rfl ?_)
          | (refine JX_c_off rfl rfl gb rfl ?_)
          | (apply JD_done))
        refine J_leave Try.func17 rfl (.tmp rfl .nil) ⟨rfl, hs.frm.ext⟩
    · have hs : St w NoF w' [] := hs1
      rw [List.take_of_length_le (by omega), List.take_of_length_le (by omega)] at hG
      rw [decide_eq_true hG]
      repeat' (first
        | (apply JL_nil)
        | ((apply JL_pure); (first
      | (apply as_assign; exact OpR_assign rfl is_rfl)
      | (apply as_binOp; exact OpR_ibin rfl rfl rfl is_rfl)); first | (exact rfl; exact rfl) | exact rfl)
        | (apply J_seq)
        | (apply J_region)
        | (apply aj_exit; refine J_exit rfl ?_)
        | (apply aj_cond; refine J_dec_f rfl ob ?_))
      refine J_leave Try.func17 rfl (.tmp rfl .nil) ⟨rfl, hs.frm.ext⟩
  · rw [decide_eq_false (fun e => hnn (by subst e; omega))]
    repeat' (first
      | (apply JL_nil)
      | ((apply JL_pure); (first
      | (apply as_move; exact OpR_move rfl is_rfl)
      | (apply as_assign; exact OpR_assign rfl is_rfl)
      | (apply as_binOp; exact OpR_ibin rfl rfl rfl is_rfl)
      | (apply as_b_len; exact OpR_len rfl is_rfl)); first | (exact rfl; exact rfl) | exact rfl)
      | (apply J_seq)
      | (apply J_region)
      | (apply aj_cond; refine J_dec_t rfl ob ?_))
    refine J_leave Try.func17 rfl (.tmp rfl .nil) ⟨rfl, hs.frm.ext⟩
end Go.Eng
/- Lookups: laying entries into free slots: the plain law. -/
namespace Go.Eng
set_option linter.unusedSimpArgs false
set_option linter.unusedVariables false
/-- The first free slot, from turn k on, f turns more. -/
def freeG (es : List Ent) (h : Int) : Nat → Nat → Option Nat
  | 0, _ => none
  | f + 1, k => if (es.getD (probeN h es.length k) e0).1 = 0 then some (probeN h es.length k) else freeG es h f (k + 1)
def freeM (es : List Ent) (h : Int) : Option Nat := freeG es h es.length 0
def insE (es : List Ent) (e : Ent) : List Ent := match freeM es (ofM e.2.1) with | some q => es.set q e | none => es
theorem freeG_some {es : List Ent} {h : Int} {q : Nat} : ∀ (f k : Nat), freeG es h f k = some q → ∃ j, k ≤ j ∧ j < k + f ∧ q = probeN h es.length j ∧ (es.getD q e0).1 = 0 ∧ ∀ i, k ≤ i → i < j → (es.getD (probeN h es.length i) e0).1 ≠ 0
  | 0, k, e => by unfold freeG at e; cases e
  | f + 1, k, e => by
    unfold freeG at e
    by_cases c : (es.getD (probeN h es.length k) e0).1 = 0
    · rw [if_pos c] at e
      cases e
      exact ⟨k, Nat.le_refl _, by omega, rfl, c, fun i h1 h2 => by omega⟩
    · rw [if_neg c] at e
      obtain ⟨j, h1, h2, h3, h4, h5⟩ := freeG_some f (k + 1) e
      refine ⟨j, by omega, by omega, h3, h4, fun i hi hij => ?_⟩
      by_cases hik : i = k
      · rw [hik]; exact c
      · exact h5 i (by omega) hij
theorem freeG_none {es : List Ent} {h : Int} : ∀ (f k : Nat), freeG es h f k = none → ∀ i, k ≤ i → i < k + f → (es.getD (probeN h es.length i) e0).1 ≠ 0
  | 0, k, e, i, h1, h2 => by omega
  | f + 1, k, e, i, h1, h2 => by
    unfold freeG at e
    by_cases c : (es.getD (probeN h es.length k) e0).1 = 0
    · rw [if_pos c] at e; cases e
    · rw [if_neg c] at e
      by_cases hik : i = k
      · rw [hik]; exact c
      · exact freeG_none f (k + 1) e i (by omega) (by omega)
theorem probe_hit (h : Int) {m q : Nat} (hq : q < m) : ∃ k, k < m ∧ probeN h m k = q := by
  have hm : h.toNat % m < m := Nat.mod_lt _ (by omega)
  refine ⟨(q + m - h.toNat % m) % m, Nat.mod_lt _ (by omega), ?_⟩
  unfold probeN
  rw [Nat.mod_mod, Nat.add_mod_mod, show h.toNat % m + (q + m - h.toNat % m) = q + m by omega, Nat.add_mod_right, Nat.mod_eq_of_lt hq]
theorem getD_set_ne {es : List Ent} {q s : Nat} {e : Ent} (h : s ≠ q) : (es.set q e).getD s e0 = es.getD s e0 := by
  rw [List.getD_eq_getElem?_getD, List.getD_eq_getElem?_getD, List.getElem?_set_ne (by omega)]
theorem getD_set_eq {es : List Ent} {q : Nat} {e : Ent} (h : q < es.length) : (es.set q e).getD q e0 = e := by
  rw [List.getD_eq_getElem?_getD, List.getElem?_set_self h]; rfl
/-- A place stays, where a free slot is filled. -/
theorem placeG_set {es : List Ent} {t : List Int} {h : Int} {q : Nat} {e : Ent} (hq : (es.getD q e0).1 = 0) {i : Nat} : ∀ (f k : Nat), placeG es t h f k = (i : Int) → placeG (es.set q e) t h f k = (i : Int)
  | 0, k, w => by unfold placeG at w; omega
  | f + 1, k, w => by
    unfold placeG at w ⊢
    rw [List.length_set]
    by_cases c : (es.getD (probeN h es.length k) e0).1 = 0
    · rw [if_pos c] at w; omega
    · have hne : probeN h es.length k ≠ q := fun z => c (by rw [z]; exact hq)
      rw [getD_set_ne hne, if_neg c]
      rw [if_neg c] at w
      split
      · rename_i c2; rw [if_pos c2] at w; exact w
      · rename_i c2; rw [if_neg c2] at w; exact placeG_set hq f (k + 1) w
theorem placeG_skip {es : List Ent} {t : List Int} {h : Int} {j : Nat} : ∀ (f k : Nat), k ≤ j → j < k + f → (∀ i, k ≤ i → i < j → (es.getD (probeN h es.length i) e0).1 ≠ 0 ∧ ¬ ((es.getD (probeN h es.length i) e0).1 = 1 ∧ (es.getD (probeN h es.length i) e0).2.1 = t)) → (es.getD (probeN h es.length j) e0).1 = 1 → (es.getD (probeN h es.length j) e0).2.1 = t → placeG es t h f k = (probeN h es.length j : Nat)
  | 0, k, h1, h2, _, _, _ => by omega
  | f + 1, k, h1, h2, hn, hj1, hj2 => by
    unfold placeG
    by_cases c : k = j
    · subst c
      rw [if_neg (by omega), if_pos ⟨hj1, hj2⟩]
    · obtain ⟨n1, n2⟩ := hn k (Nat.le_refl _) (by omega)
      rw [if_neg n1, if_neg n2]
      exact placeG_skip f (k + 1) (by omega) (by omega) (fun i hi hij => hn i (by omega) hij) hj1 hj2
theorem filter_set {es : List Ent} {q : Nat} {x e : Ent} (hx : es[q]? = some x) (hx1 : x.1 ≠ 1) (he : e.1 = 1) : ((es.set q e).filter stands).Perm (es.filter stands ++ [e]) := by
  have hq := (List.getElem?_eq_some_iff.1 hx).1
  have h1 : es = es.take q ++ x :: es.drop (q + 1) := by
    conv => lhs; rw [← List.take_append_drop q es, List.drop_eq_getElem_cons hq, (List.getElem?_eq_some_iff.1 hx).2]
  have h2 : es.set q e = es.take q ++ e :: es.drop (q + 1) := by
    rw [List.set_eq_take_append_cons_drop, if_pos hq]
  rw [h2]
  conv => rhs; rw [h1]
  rw [List.filter_append, List.filter_append, List.filter_cons_of_pos (by simp [stands, he]), List.filter_cons_of_neg (by simp [stands, hx1])]
  refine List.perm_middle.trans ?_
  exact (List.perm_append_comm (l₁ := [e])).trans (List.Perm.refl _)
/-- A table into which just these entries were laid. -/
structure Lay (many : Nat) (done es : List Ent) : Prop where
  len : es.length = many
  el : ∀ x ∈ es, x = e0 ∨ x.1 = 1
  perm : (es.filter stands).Perm done
  at_ : ∀ (i : Nat) (x : Ent), es[i]? = some x → x.1 = 1 → placeM es x.2.1 = (i : Int)
theorem Lay.start (many : Nat) : Lay many [] (List.replicate many e0) :=
  ⟨by simp, fun x hx => .inl (List.eq_of_mem_replicate hx), by
    rw [List.filter_eq_nil_iff.2 (fun x hx => by rw [List.eq_of_mem_replicate hx]; decide)], fun i x hx h1 => by
    have := List.eq_of_mem_replicate (List.mem_of_getElem? hx)
    rw [this] at h1; exact absurd h1 (by decide)⟩
theorem Lay.free {many : Nat} {done es : List Ent} (h : Lay many done es) (hlt : done.length < many) (g : Int) : ∃ q, freeM es g = some q := by
  cases hf : freeM es g with
  | some q => exact ⟨q, rfl⟩
  | none =>
    exfalso
    have hall : ∀ x ∈ es, x.1 ≠ 0 := by
      intro x hx
      obtain ⟨q, hq⟩ := List.mem_iff_getElem?.1 hx
      obtain ⟨k, hk, hp⟩ := probe_hit g (m := es.length) (List.getElem?_eq_some_iff.1 hq).1
      have := freeG_none _ _ hf k (Nat.zero_le _) (by omega)
      rw [hp, getD_ent hq] at this
      exact this
    have hfe : es.filter stands = es := List.filter_eq_self.2 (fun x hx => by
      rcases h.el x hx with rfl | h1
      · exact absurd rfl (hall _ hx)
      · exact decide_eq_true h1)
    have := h.perm.length_eq
    rw [hfe, h.len] at this
    omega
theorem Lay.step {many : Nat} {done es : List Ent} (h : Lay many done es) {e : Ent} (he : e.1 = 1) (hd : ∀ y ∈ done, y.2.1 ≠ e.2.1) (hlt : done.length < many) :
    ∃ q, freeM es (ofM e.2.1) = some q ∧ insE es e = es.set q e ∧ Lay many (done ++ [e]) (es.set q e) := by
  obtain ⟨q, hq⟩ := h.free hlt (ofM e.2.1)
  refine ⟨q, hq, by unfold insE; rw [hq], ?_⟩
  obtain ⟨j, _, hj, hqj, hq0, hbef⟩ := freeG_some _ _ hq
  have hlen := h.len
  have hql : q < es.length := by rw [hqj]; exact probeN_lt _ _ (by omega)
  have hx : es[q]? = some es[q] := List.getElem?_eq_getElem hql
  have hx0 : es[q].1 = 0 := by rw [← getD_ent hx]; exact hq0
  have hnew : placeM (es.set q e) e.2.1 = (q : Int) := by
    unfold placeM
    rw [List.length_set]
    have := placeG_skip (es := es.set q e) (t := e.2.1) (h := ofM e.2.1) (j := j) es.length 0 (Nat.zero_le _) hj (fun i hi hij => ?_) ?_ ?_
    · rw [this, List.length_set, ← hqj]
    · rw [List.length_set]
      have hb := hbef i hi hij
      have hne : probeN (ofM e.2.1) es.length i ≠ q := fun z => hb (by rw [z]; exact hq0)
      rw [getD_set_ne hne]
      refine ⟨hb, fun z => ?_⟩
      have hsl : probeN (ofM e.2.1) es.length i < es.length := probeN_lt _ _ (by omega)
      have hy : es[probeN (ofM e.2.1) es.length i]? = some (es[probeN (ofM e.2.1) es.length i]'hsl) := List.getElem?_eq_getElem hsl
      rw [getD_ent hy] at z
      refine hd _ (h.perm.mem_iff.1 (List.mem_filter.2 ⟨List.mem_of_getElem? hy, decide_eq_true z.1⟩)) z.2
    · rw [List.length_set, ← hqj, getD_set_eq hql]; exact he
    · rw [List.length_set, ← hqj, getD_set_eq hql]
  refine ⟨by rw [List.length_set]; exact hlen, fun x hx' => ?_, ?_, fun i x hi h1 => ?_⟩
  · rcases List.mem_or_eq_of_mem_set hx' with hm | rfl
    · exact h.el x hm
    · exact .inr he
  · exact (filter_set hx (by omega) he).trans (h.perm.append_right [e])
  · rw [List.getElem?_set] at hi
    split at hi
    · rename_i hqi
      subst hqi
      try rw [if_pos hql] at hi
      cases hi
      exact hnew
    · have := h.at_ i x hi h1
      unfold placeM at this ⊢
      rw [List.length_set]
      exact placeG_set hq0 _ _ this
theorem Lay.check {many : Nat} {done es : List Ent} (h : Lay many done es) (hp : powB many = true) (hok : ∀ x ∈ done, typeB x.2.1 = true ∧ 0 ≤ x.2.2) (h4 : 4 * done.length ≤ 3 * many) (h5 : done.length ≤ 4000) : checkB es = true := by
  have h01 : ∀ x ∈ es, x.1 = 0 ∨ x.1 = 1 := fun x hx => by
    rcases h.el x hx with rfl | h1
    · exact .inl rfl
    · exact .inr h1
  have hst : stOk es = true := by
    unfold stOk; rw [List.all_eq_true]
    exact fun x hx => decide_eq_true (by have := h01 x hx; omega)
  have htk : taken es = done.length := by
    unfold taken cnt
    have e2 : es.filter (fun x => decide (x.1 = 2)) = [] := List.filter_eq_nil_iff.2 (fun x hx => by have := h01 x hx; simp; omega)
    rw [e2, List.length_nil, Nat.add_zero]
    exact h.perm.length_eq
  unfold powB at hp
  rw [Bool.and_eq_true, decide_eq_true_eq, decide_eq_true_eq] at hp
  unfold checkB baseB
  rw [htk, hst, h.len, decide_eq_true hp.1, decide_eq_true hp.2, decide_eq_true h4, decide_eq_true h5]
  rw [Bool.true_and, Bool.true_and, Bool.true_and, Bool.true_and, Bool.true_and, okK_iff]
  intro i hi
  have hx : es[i]? = some (es[i]'(by rw [h.len]; exact hi)) := List.getElem?_eq_getElem _
  obtain ⟨x, hxd⟩ : ∃ x, x = es[i]'(by rw [h.len]; exact hi) := ⟨_, rfl⟩
  rw [← hxd] at hx
  have hmem := List.mem_of_getElem? hx
  unfold slotOk
  rw [getD_ent hx]
  by_cases c : x.1 = 1
  · rw [if_pos c]
    obtain ⟨o1, o2⟩ := hok x (h.perm.mem_iff.1 (List.mem_filter.2 ⟨hmem, decide_eq_true c⟩))
    rw [o1, decide_eq_true o2, decide_eq_true (h.at_ i x hx c)]; rfl
  · rw [if_neg c]
    rcases h.el x hmem with rfl | h1
    · decide
    · exact absurd h1 c
end Go.Eng
/- Lookups: laying one entry. -/
namespace Go.Eng
open Go.Proofs
set_option linter.unusedSimpArgs false
set_option linter.unusedVariables false
abbrev TabRow (a : Option Addr) (n c : Nat) (rs : List REnt) : HP := Row a n c 39 3 (encL cREnt rs)
theorem tabSl {W : World} {a : Option Addr} {n c : Nat} {rs : List REnt} (h : (TabRow a n c rs).holds W) (hok : ∀ r ∈ rs, okE r) : Sl dREnt All W a n c rs := rowSl h hok
def turnKG (bt bl : Nat) (a2 : Option Addr) (n2 : Nat) (k : Nat) : Prop := k = bt ∨ k = bl ∨ (afoot a2 k ∧ 0 < n2)
theorem free_step {es : List Ent} {h : Int} {k : Nat} (hk : k < es.length) {q : Nat} (hq : q = probeN h es.length k) {x : Ent} (hx : es[q]? = some x) :
    freeG es h (es.length - k) k = if x.1 = 0 then some q else freeG es h (es.length - (k + 1)) (k + 1) := by
  rw [show es.length - k = (es.length - (k + 1)) + 1 by omega, freeG, ← hq, getD_ent hx]
attribute [local irreducible] Hold J JL JD JX JXat OpR OpG Ret RetV Is Blk Row MapC
set_option maxRecDepth 100000
set_option maxHeartbeats 1000000
theorem turnsItG_ok (wr : World) (bt bl : Nat) (a2 : Option Addr) (n2 c2 : Nat) (t : List Int) (a : Option Addr) (n c : Nat) (rs : List REnt) (h2 : Sl (tInt .u64) (fun k => afoot a2 k ∧ 0 < n2) wr a2 n2 c2 t) (hl : rs.length = n) (hok : ∀ r ∈ rs, okE r) (hn : n ≤ 1048576)
    (hbt : wr.heap[bt]? = some (.cells #[.slice a2 n2 c2] 34 (0, 0))) (hbl : wr.heap[bl]? = some (.cells #[.slice a n c] 24 (0, 0))) :
    IterG Try.prog (.func (.func 148) #[] #[ptr bt, ptr bl]) n (turnX rs (ofM t)) wr (turnKG bt bl a2 n2) (fun cc => TabRow a n c rs ∈ cc) := by
  intro y C Cs w c0 hy hK hGd h0 hheld
  refine RetV.closure (avs := [_]) (cap := [_, _]) en148 ?_
  refine Ret_of (l := [_, _, _]) Try.func148 rfl Try.ntmps148 (by simp) ?_
  have hs := hheld.st
  have htw := (hK bt (.inl rfl)).1.trans hbt
  have htF := (hK bt (.inl rfl)).2
  have hlw := (hK bl (.inr (.inl rfl))).1.trans hbl
  have hlF := (hK bl (.inr (.inl rfl))).2
  have hh := ofM_lt t
  have h2w : ∀ {W : World} {L : List HP}, St w (Star c0).foot W L → Sl (tInt .u64) All W a2 n2 c2 t := fun hs => (h2.loc (fun k hk hlt => hs.keepK (hK k (.inr (.inr hk))).1 (hK k (.inr (.inr hk))).2 hlt)).weak (fun _ _ => trivial)
  repeat' (first
    | ((apply al_call 149; refine JL_o (by exact OpR_callF en149 rfl (hof_r _ a2 n2 c2 t (h2w hs))) rfl rfl ?_; rintro _ _ ⟨rfl, hE⟩; have hs := hs.ext hE; (try simp only [List.cons_append, List.nil_append] at hs)))
    | (apply JL_nil)
    | ((apply JL_pure); (first
      | (apply as_load; first | exact OpR_load_cell (hs.keep_cell (cell_blk (off := 0) htw rfl) htF) rfl is_rfl | exact OpR_load_cell (hs.keep_cell (cell_blk (off := 0) hlw rfl) hlF) rfl is_rfl)
      | (apply as_move; exact OpR_move rfl is_rfl)
      | (apply as_assign; exact OpR_assign rfl is_rfl)
      | (apply as_fieldAddr; exact OpR_fieldAddr0 rfl rfl is_rfl)
      | (apply as_b_len; exact OpR_len rfl is_rfl)); first | (exact rfl; exact rfl) | exact rfl)
    | (apply J_seq)
    | (apply J_region)
    | (apply J_block))
  refine J_loopK (α := Nat × List HP) [(0, _), (2, _), (4, _), (12, _)] (fun g => [(13, .int .i64 g.1)]) (fun g w' => St w (Star c0).foot w' g.2 ∧ C g.1 g.2 ∧ g.1 ≤ n) (fun g => n - g.1) (0, c0) ⟨hs, h0, by omega⟩ (by repeat' (first | exact trivial | exact rfl | apply And.intro)) ?_
  rintro ⟨k, ck⟩ w' ⟨hs, hC, hk⟩ ih
  dsimp only at hs hC hk ih ⊢
  have hmem : TabRow a n c rs ∈ ck := hGd _ _ hC
  have hrw : ∀ {W : World}, St w (Star c0).foot W ck → Sl dREnt All W a n c rs := fun hs => tabSl (hs.all _ hmem) hok
  by_cases hlt : k < n
  · obtain ⟨p1, o1, rfl⟩ := (hrw hs).sl.addr (by omega)
    obtain ⟨q, hqd⟩ : ∃ q, q = probeN (ofM t) n k := ⟨_, rfl⟩
    have hq : q < n := by rw [hqd]; exact probeN_lt _ _ (by omega)
    have hx : rs[q]? = some rs[q] := List.getElem?_eq_getElem (by omega)
    obtain ⟨r, hrd⟩ : ∃ r, r = rs[q] := ⟨_, rfl⟩
    rw [← hrd] at hx
    have hX : turnX rs (ofM t) k [.int .i64 (q : Nat), .agg (cREnt r).toArray] [] := ⟨r, by rw [hl, ← hqd]; exact hx, by rw [hl, ← hqd], rfl⟩
    repeat' (first
      | ((apply al_call 150; refine JL_o (by exact OpR_callF en150 rfl (probe_r _ (ofM t) n k hh ⟨by omega, by omega⟩)) rfl rfl ?_; rintro _ _ ⟨rfl, hE⟩; rw [← hqd]; have hs := hs.ext hE; (try simp only [List.cons_append, List.nil_append] at hs)))
      | ((apply al_guard; have hs2 : St w (Star c0).foot _ ((ck ++ []) ++ []) := (by simpa using hs); refine JL_o_on (t := 35) rfl gb (OpR_callV rfl rfl (hy k _ [_, _] _ ck hlt hC hX hs2.held hs2.frm)) rfl rfl ?_; rintro _ _ ⟨c', ⟨rfl, hC'⟩ | ⟨rfl, hC'⟩, ht⟩ <;> have hs : St w (Star c0).foot _ c' := (hs2.take ht).sub (List.sublist_append_left _ _)))
      | (apply JL_nil)
      | ((first | (apply JL_pure) | (apply JL_pure_on; exact rfl; exact gb)); (first
      | (apply as_load; first | exact OpR_load_cell (hs.keep_cell (cell_blk (off := 0) hlw rfl) hlF) rfl is_rfl | exact OpR_load_el (hrw hs) hx rfl rfl is_rfl)
      | (apply as_move; exact OpR_move rfl is_rfl)
      | (apply as_assign; exact OpR_assign rfl is_rfl)
      | (apply as_fieldAddr; exact OpR_fieldAddr0 rfl rfl is_rfl)
      | (apply as_add; exact OpR_addn rfl rfl (by omega) (by first | (simp only [Int.reduceAdd]; exact rfl) | exact rfl) is_rfl)
      | (apply as_binOp; exact OpR_ibin rfl rfl rfl is_rfl)
      | (apply as_unOp; exact OpR_not rfl is_rfl)
      | (apply as_pick; exact OpR_pick_f rfl gb rfl is_rfl)
      | (apply as_b_len; exact OpR_len rfl is_rfl)
      | (apply as_extract; exact OpR_extract rfl rfl is_rfl)
      | (apply as_indexAddr; exact OpR_indexAddr rfl rfl (by omega) (by omega) is_rfl)); first | (exact rfl; exact rfl) | exact rfl)
      | (apply J_seq)
      | (apply J_region)
      | (apply J_block)
      | (apply J_inBlock)
      | (apply J_skip)
      | (apply aj_cond; first | refine J_dec_t rfl ob ?_ | refine J_cond_t rfl gb ?_ | refine J_cond_f rfl gb ?_))
    · refine ih (k + 1, c') _ _ ⟨hs, hC', by dsimp only; omega⟩ (by dsimp only; omega) (by repeat' (first | exact trivial | exact rfl | apply And.intro))
    · refine J_leave Try.func148 rfl .nil ⟨c', .inr hC', St.turned (M := []) (by simpa using hs)⟩
  · have hkn : k = n := by omega
    subst hkn
    repeat' (first
      | (apply JL_nil)
      | ((apply JL_pure); (apply as_binOp; exact OpR_ibin rfl rfl rfl is_rfl); first | (exact rfl; exact rfl) | exact rfl)
      | (apply J_seq)
      | (apply J_region)
      | (apply aj_exit; refine J_exit rfl ?_)
      | (apply aj_cond; refine J_dec_f rfl ob ?_))
    refine J_leave_end Try.func148 rfl .nil ⟨ck, .inl hC, St.turned (M := []) (by simpa using hs)⟩
end Go.Eng
/- Lookups: put, within laid. -/
namespace Go.Eng
open Go.Proofs
set_option linter.unusedSimpArgs false
set_option linter.unusedVariables false
theorem St.oldF {wS w w1 W : World} {F : Nat → Prop} {A B L L1 : List HP} (hs0 : St wS F w (A ++ L)) (hold : ∀ k, k < w.heap.size → ¬ (Star A).foot k → w1.heap[k]? = w.heap[k]?) (hsz : w.heap.size ≤ w1.heap.size) (hB : ∀ k, (Star B).foot k → F k ∨ wS.heap.size ≤ k) (hs : St w1 (Star B).foot W L1) :
    ∀ k, k < wS.heap.size → ¬ F k → W.heap[k]? = wS.heap[k]? := fun k hk hF => by
  have h0 := hs0.frm.size
  have h1 := hs.frm.old k (by omega) (fun hf => by rcases hB k hf with h | h; exact hF h; omega)
  have h2 := hold k (by omega) (fun ⟨c, hc, hck⟩ => by
    rcases (hs0.foot c (List.mem_append_left _ hc) k hck).2 with h | h
    · exact hF h
    · omega)
  rw [h1, h2]; exact hs0.frm.old k hk hF
theorem blk_foot' {b k : Nat} {o : Obj} (h : (Blk b o).foot k) : k = b := h
theorem tab_foot {a : Option Addr} {n c : Nat} {rs : List REnt} {k : Nat} (h : afoot a k) : (Star [TabRow a n c rs]).foot k := ⟨_, .head _, h⟩
theorem tab_foot' {a : Option Addr} {n c : Nat} {rs : List REnt} {k : Nat} (h : (Star [TabRow a n c rs]).foot k) : afoot a k := by
  obtain ⟨c, hc, hk⟩ := h
  rw [List.mem_singleton.1 hc] at hk; exact hk
theorem tab_set {a : Option Addr} {n c : Nat} {rs : List REnt} {q : Nat} (r : REnt) (h : q < rs.length) : Row a n c 39 3 (splice (encL cREnt rs) (q * 3) (cREnt r)) = TabRow a n c (rs.set q r) := by
  unfold TabRow
  rw [show encL cREnt (rs.set q r) = splice (encL cREnt rs) (q * 3) (cREnt r) from encL_set (d := dREnt) rs q r h]
attribute [local irreducible] Hold J JL JD JX JXat OpR OpG Ret RetV Is Blk Row MapC
set_option maxRecDepth 100000
set_option maxHeartbeats 1000000
theorem laid1_r (w : World) (b : Nat) (a : Option Addr) (n c : Nat) (rs : List REnt) (es : List Ent) (r : REnt) (x : Ent) (q : Nat) (hb : w.heap[b]? = some (.cells #[.slice a n c] 24 (0, 0))) (hh0 : Held w [TabRow a n c rs]) (hbF : ¬ afoot a b) (hlen : rs.length = n) (hle : es.length = n) (hok : ∀ r ∈ rs, okE r)
    (hst : ∀ (i : Nat) (u : REnt) (v : Ent), rs[i]? = some u → es[i]? = some v → u.1 = v.1) (hm : Sl (tInt .u64) (fun k => afoot r.2.1.1 k ∧ 0 < r.2.1.2.1) w r.2.1.1 r.2.1.2.1 r.2.1.2.2 x.2.1) (hsep : ∀ k, afoot r.2.1.1 k ∧ 0 < r.2.1.2.1 → ¬ afoot a k) (hn : n ≤ 1048576) (hfree : freeM es (ofM x.2.1) = some q) :
    Ret Try.prog 115 #[.agg (cREnt r).toArray, ptr b] w fun _ w' => Turn w [TabRow a n c rs] w' [TabRow a n c (rs.set q r)] := by
  refine Ret_of (l := [_, _]) Try.func115 rfl Try.ntmps115 (by simp) ?_
  have hn0 : 0 < n := by
    rcases Nat.eq_zero_or_pos n with h | h
    · exfalso
      unfold freeM at hfree
      rw [hle, h] at hfree
      cases hfree
    · exact h
  obtain ⟨p, o, rfl⟩ := (tabSl (hh0.1.1 _ (.head _)) hok).sl.addr hn0
  have hs := hh0.st
  have hbF' : ¬ (Star [TabRow (some ⟨p, o, none⟩) n c rs]).foot b := fun h => hbF (tab_foot' h)
  have hsl := tabSl (hh0.1.1 _ (.head _)) hok
  have hmw : ∀ {W : World} {L : List HP}, St w (Star [TabRow (some ⟨p, o, none⟩) n c rs]).foot W L → Sl (tInt .u64) (fun k => afoot r.2.1.1 k ∧ 0 < r.2.1.2.1) W r.2.1.1 r.2.1.2.1 r.2.1.2.2 x.2.1 := fun hs => hm.loc (fun k hk hlt => hs.frm.old k hlt (fun h => hsep k hk (tab_foot' h)))
  repeat' (first
    | ((apply al_call 113; refine JL_o (by exact OpR_callF en113 rfl (turns_r _ (some ⟨p, o, none⟩) r.2.1.1 n c r.2.1.2.1 r.2.1.2.2)) rfl rfl ?_; rintro _ _ ⟨bt, bl, rfl, hf⟩; have hs := hs.fresh hf; (try simp only [List.cons_append, List.nil_append] at hs)))
    | (apply JL_nil)
    | ((apply JL_pure); (first
      | (apply as_load; first | exact OpR_load' hs rfl rfl is_rfl | exact OpR_load_aggX hs (hs.keep hb hbF') rfl is_rfl | exact OpR_load_cells (s := 1) (vs := [.slice (some ⟨p, o, none⟩) n c]) rfl (fun j v hj => hs.keep_cell (cell_blk hb (by simpa using hj)) hbF') rfl is_rfl)
      | (apply as_fieldAddr; exact OpR_fieldAddr0 rfl rfl is_rfl)); first | (exact rfl; exact rfl) | exact rfl)
    | (apply J_seq)
    | (apply J_region)
    | (apply J_block)
    | (apply al_none (t := 2); refine JL_o (by apply as_box; exact OpR_box' hs rfl) rfl rfl ?_; rintro _ _ ⟨b2, rfl, hb2, hs, hE⟩))
  have hbt := hs.blk (b := bt)
  have hbl := hs.blk (b := bl)
  have hlt1 := hs.lt (b := bt)
  have hlt2 := hs.lt (b := bl)
  have hs0 : St w (Star [TabRow (some ⟨p, o, none⟩) n c rs]).foot _ ([TabRow (some ⟨p, o, none⟩) n c rs, Blk b2 (.cells (cREnt r).toArray 39 (0, 0))] ++ [Blk bt _, Blk bl _]) := hs.sel [3, 2, 0, 1] (by decide)
  have hbA : ¬ (Star [TabRow (some ⟨p, o, none⟩) n c rs, Blk b2 (.cells (cREnt r).toArray 39 (0, 0))]).foot b := by
    rintro ⟨d, hd, hdk⟩
    rcases (hs0.foot d (List.mem_append_left _ hd) b hdk).2 with h | h
    · exact hbF' h
    · have := (Array.getElem?_eq_some_iff.1 hb).1
      omega
  refine J_rangeG (ps := [9, 10]) hs0 rfl ⟨148, #[ptr bt, ptr bl], rfl, en148⟩ (turnsItG_ok _ bt bl r.2.1.1 r.2.1.2.1 r.2.1.2.2 x.2.1 (some ⟨p, o, none⟩) n c rs (hmw hs0) hlen hok hn hbt hbl)
    (fun k A => A = [TabRow (some ⟨p, o, none⟩) n c rs, Blk b2 (.cells (cREnt r).toArray 39 (0, 0))] ∧ freeG es (ofM x.2.1) (n - k) k = some q)
    (fun j A => j = .ret ∧ A = [TabRow (some ⟨p, o, none⟩) n c (rs.set q r), Blk b2 (.cells (cREnt r).toArray 39 (0, 0))]) (fun l o i A1 hC => by rw [hC.1]; exact .tail _ (.head _)) ⟨rfl, by unfold freeM at hfree; rw [hle] at hfree; exact hfree⟩ ?_ (by decide) ?_ ?_ ?_ ?_
  · rintro k (rfl | rfl | hk)
    · exact ⟨rfl, fun hf => hs0.sepA (.head _) hf (blk_foot _ _), hlt1⟩
    · exact ⟨rfl, fun hf => hs0.sepA (.tail _ (.head _)) hf (blk_foot _ _), hlt2⟩
    · have h1 := Sl.below (d := tInt .u64) (by decide) hm k hk
      refine ⟨rfl, fun ⟨d, hd, hdk⟩ => ?_, Nat.lt_of_lt_of_le h1 hs0.frm.size⟩
      rcases (hs0.foot d (List.mem_append_left _ hd) k hdk).2 with h | h
      · exact hsep k hk (tab_foot' h)
      · omega
  · rintro i vals cx ⟨_, _, rfl, _⟩; rfl
  · rintro l D tm k w1 A1 cx vals hD hDl hk ⟨rfl, hG⟩ ⟨r2, hrq, rfl, rfl⟩ hh hold
    have hs : St _ _ _ [_, _, _] := hh.st
    have hsz := hs0.frm.size
    have hll := hs.lt (b := l)
    rw [hlen] at hrq
    obtain ⟨s, hsd⟩ : ∃ s, s = probeN (ofM x.2.1) n k := ⟨_, rfl⟩
    rw [hlen, ← hsd]
    rw [← hsd] at hrq
    have hsl' : s < n := by rw [← hlen]; exact (List.getElem?_eq_some_iff.1 hrq).1
    have hx : es[s]? = some es[s] := List.getElem?_eq_getElem (by omega)
    obtain ⟨y, hyd⟩ : ∃ y, y = es[s] := ⟨_, rfl⟩
    rw [← hyd] at hx
    have e1 := hst s r2 y hrq hx
    have hfs := free_step (es := es) (h := ofM x.2.1) (k := k) (by omega) (by rw [hle]; exact hsd) hx
    rw [hle] at hfs
    rw [hfs] at hG
    have hw1b : w1.heap[b]? = some (.cells #[.slice (some ⟨p, o, none⟩) n c] 24 (0, 0)) := by
      rw [hold b (Nat.lt_of_lt_of_le (Array.getElem?_eq_some_iff.1 hb).1 hs0.frm.size) hbA]
      exact hs0.keep hb hbF'
    have hbl' : ∀ ob : Obj, ¬ (Star [Blk l ob, TabRow (some ⟨p, o, none⟩) n c rs, Blk b2 (.cells (cREnt r).toArray 39 (0, 0))]).foot b := by
      rintro ob ⟨d, hd, hdk⟩
      rcases List.mem_cons.1 hd with rfl | hd
      · have hdk : b = l := blk_foot' hdk
        have := (Array.getElem?_eq_some_iff.1 hb).1
        omega
      · exact hbA ⟨d, hd, hdk⟩
    by_cases c0 : r2.1 = 0
    · rw [if_pos (by omega)] at hG
      have hqs : s = q := Option.some.inj hG
      subst hqs
      have hts := tab_set (a := some ⟨p, o, none⟩) (n := n) (c := c) (rs := rs) (q := s) r (by omega)
      repeat' (first
        | ((refine J_beginRound hs (fun w2 hs => ?_)))
        | ((apply al_unit; refine JL_u (by apply as_store; exact OpR_storeN (b := p) (o := o) (off := s * 3) (n := n) (c := c) (vs := cREnt r) hs rfl rfl rfl rfl (fun u hu => by simp only [List.mem_cons, List.not_mem_nil, or_false] at hu; rcases hu with rfl | rfl | rfl <;> rfl) (by show s * 3 + 3 ≤ n * 3; omega)) rfl ?_; rintro _ _ ⟨hs, hF⟩; rw [hts] at hs))
        | (apply JL_nil)
        | ((apply JL_pure); (first
      | (apply as_load; first | exact OpR_load' hs rfl rfl is_rfl | exact OpR_load_agg' hs rfl is_rfl | exact OpR_load_cell (hs.keep_cell (cell_blk (off := 0) hw1b rfl) (hbl' _)) rfl is_rfl)
      | (apply as_move; exact OpR_move rfl is_rfl)
      | (apply as_assign; exact OpR_assign rfl is_rfl)
      | (apply as_fieldAddr; exact OpR_fieldAddr0 rfl rfl is_rfl)
      | (apply as_binOp; exact OpR_ibin rfl rfl rfl is_rfl)
      | (apply as_indexAddr; exact OpR_indexAddr rfl rfl (by omega) (by omega) is_rfl)); first | (exact rfl; exact rfl) | exact rfl)
        | (apply J_seq)
        | (apply J_region)
        | (apply J_block)
        | (apply al_none (t := 4); refine JL_o (by apply as_alloc; exact OpR_alloc' hs) rfl rfl ?_; rintro _ _ ⟨b4, rfl, hb4, hs, hE⟩)
        | (apply al_unit; refine JL_u (by apply as_store; exact OpR_store' hs rfl rfl rfl) rfl ?_; rintro _ _ ⟨hs, hF⟩)
        | (apply aj_cond; refine J_dec_t rfl ob ?_))
      have hs : St _ _ _ [_, _, _] := hs.sel [1, 2, 3] (by decide)
      refine J_roundRet hs (fun w3 hs => .inr ⟨rfl, .ret, _, ⟨rfl, rfl⟩, St.turned (M := []) hs⟩)
    · rw [if_neg (by omega)] at hG
      repeat' (first
        | ((refine J_beginRound hs (fun w2 hs => ?_)))
        | (apply JL_nil)
        | ((apply JL_pure); (first
      | (apply as_assign; exact OpR_assign rfl is_rfl)
      | (apply as_fieldAddr; exact OpR_fieldAddr0 rfl rfl is_rfl)
      | (apply as_load; exact OpR_load' hs rfl rfl is_rfl)
      | (apply as_binOp; exact OpR_ibin rfl rfl rfl is_rfl)); first | (exact rfl; exact rfl) | exact rfl)
        | (apply J_seq)
        | (apply J_region)
        | (apply J_block)
        | (apply J_inBlock)
        | (apply J_skip)
        | (apply al_none (t := 4); refine JL_o (by apply as_alloc; exact OpR_alloc' hs) rfl rfl ?_; rintro _ _ ⟨b4, rfl, hb4, hs, hE⟩)
        | (apply al_unit; refine JL_u (by apply as_store; exact OpR_store' hs rfl rfl rfl) rfl ?_; rintro _ _ ⟨hs, hF⟩)
        | (apply aj_cond; refine J_dec_f rfl ob ?_))
      have hs : St _ _ _ [_, _, _] := hs.sel [1, 2, 3] (by decide)
      refine J_roundEnd hs (fun w3 hs => .inl ⟨rfl, _, ⟨rfl, hG⟩, St.turned (M := []) hs⟩)
  · rintro w2 D A2 ⟨rfl, hG⟩ hs
    rw [Nat.sub_self] at hG
    cases hG
  · rintro w2 D A2 j ⟨rfl, rfl⟩ hs
    have hs : St w (Star [TabRow (some ⟨p, o, none⟩) n c rs]).foot _ [_, _, _, _, _] := hs
    refine J_retL (Lv_coll hs (fun w3 hs => Lv_nil Try.func115 rfl .nil (St.turned (M := [_, _, _]) hs)))
end Go.Eng
/- Lookups: laid. -/
namespace Go.Eng
open Go.Proofs
set_option linter.unusedSimpArgs false
set_option linter.unusedVariables false
abbrev OfZ (rs0 : List REnt) (es0 : List Ent) (zs : List ZE) : Prop := ∀ p ∈ zs, p ∈ rs0.zip es0 ∨ p = (r0, e0)
theorem ofZ_ok {rs0 : List REnt} {es0 : List Ent} {zs : List ZE} (h : OfZ rs0 es0 zs) (hok : ∀ r ∈ rs0, okE r) : ∀ r ∈ zs.map Prod.fst, okE r := fun r hr => by
  obtain ⟨p, hp, rfl⟩ := List.mem_map.1 hr
  rcases h p hp with h | rfl
  · exact hok _ (List.of_mem_zip h).1
  · exact ⟨by unfold inK; decide, trivial, by unfold inK; decide⟩
theorem ofZ_st {R : Nat → Prop} {w : World} {rs0 : List REnt} {es0 : List Ent} {zs : List ZE} (h : OfZ rs0 es0 zs) (hm : MeanV mEnt R w rs0 es0) : ∀ (i : Nat) (u : REnt) (v : Ent), (zs.map Prod.fst)[i]? = some u → (zs.map Prod.snd)[i]? = some v → u.1 = v.1 := by
  intro i u v hu hv
  rw [List.getElem?_map] at hu hv
  obtain ⟨p, hp, rfl⟩ := Option.map_eq_some_iff.1 hu
  rw [hp] at hv
  cases hv
  rcases h p (List.mem_of_getElem? hp) with h | rfl
  · exact (hm.zip p h).1
  · rfl
theorem distinct_take {es : List Ent} (h : distinctE es) {k : Nat} {x : Ent} (hx : es[k]? = some x) : ∀ y ∈ es.take k, y.2.1 ≠ x.2.1 := by
  intro y hy
  obtain ⟨i, hi⟩ := List.mem_iff_getElem?.1 hy
  rw [List.getElem?_take] at hi
  split at hi
  · rename_i hik
    obtain ⟨hk1, hk2⟩ := List.getElem?_eq_some_iff.1 hx
    obtain ⟨hi1, hi2⟩ := List.getElem?_eq_some_iff.1 hi
    unfold distinctE at h
    rw [List.pairwise_iff_getElem] at h
    have := h i k hi1 hk1 hik
    rwa [hi2, hk2] at this
  · cases hi
theorem afoot_some {b o k : Nat} (h : afoot (some ⟨b, o, none⟩) k) : k = b := by simpa [afoot, eq_comm] using h
attribute [local irreducible] Hold J JL JD JX JXat OpR OpG Ret RetV Is Blk Row MapC
set_option maxRecDepth 100000
set_option maxHeartbeats 1000000
theorem laid_r (w : World) (a0 : Option Addr) (m0 c0 : Nat) (rs0 : List REnt) (es0 : List Ent) (many : Nat) (hr : Sl dREnt All w a0 m0 c0 rs0) (hm : MeanV mEnt All w rs0 es0) (h1 : ∀ x ∈ es0, x.1 = 1) (hd : distinctE es0) (hlt : m0 < many) (hn : many ≤ 1048576) :
    Ret Try.prog 64 #[.slice a0 m0 c0, .int .i64 many] w fun v w' => ∃ (zs : List ZE) (a : Option Addr), Lay many es0 (zs.map Prod.snd) ∧ OfZ rs0 es0 zs ∧ v = .agg #[.slice a many many] ∧ Fresh w w' [TabRow a many many (zs.map Prod.fst)] := by
  refine Ret_of (l := [_, _]) Try.func64 rfl Try.ntmps64 (by simp) ?_
  have hs := St.init w
  have hl := hr.len
  have hle : es0.length = m0 := by rw [← hm.1]; exact hl
  obtain ⟨_, _, hokr⟩ := hr.srcF
  repeat' (first
    | ((apply al_none (t := 10); refine JL_o (by apply as_makeSlice; exact OpR_make (n := many) hs rfl rfl (by omega) (by omega)) rfl rfl ?_; rintro _ _ ⟨b10, rfl, hb10, hs, hE⟩; have hs := hs.toRow 0 many many 3 (xs := encL cREnt (newR many)) (Nat.le_refl _) (by unfold maxLen; omega) (by simp [madeCells]) (by rw [← zc_eq many, List.drop_zero, List.take_of_length_le (by simp [madeCells])])))
    | (apply JL_nil)
    | ((apply JL_pure); (first
      | (apply as_move; exact OpR_move rfl is_rfl)
      | (apply as_assign; exact OpR_assign rfl is_rfl)
      | (apply as_b_len; exact OpR_len rfl is_rfl)
      | (apply as_makeFunc; exact OpR_func rfl is_rfl)
      | (apply as_build; exact OpR_build rfl (by (simp only [bld, placesOf, splice, Value.cells, List.take_succ_cons, List.take_zero, List.drop_succ_cons, List.drop_zero, List.cons_append, List.nil_append, List.length_cons, List.length_nil, List.getElem?_cons_zero, List.getElem?_cons_succ, Option.map_some, List.append_nil, Nat.reduceAdd, Nat.reduceMul, Nat.zero_add, Nat.reduceLeDiff, and_self, if_true, List.toList_toArray, Nat.le_refl, Nat.zero_mul, Nat.one_mul]; first | done | rfl)) is_rfl)); first | (exact rfl; exact rfl) | exact rfl)
    | (apply J_seq)
    | (apply J_region)
    | (apply J_block)
    | (apply al_none (t := 4); refine JL_o (by apply as_alloc; exact OpR_alloc' hs) rfl rfl ?_; rintro _ _ ⟨b4, rfl, hb4, hs, hE⟩)
    | (apply al_none (t := 5); refine JL_o (by apply as_alloc; exact OpR_alloc' hs) rfl rfl ?_; rintro _ _ ⟨b5, rfl, hb5, hs, hE⟩)
    | (apply al_unit; refine JL_u (by apply as_store; exact OpR_store' hs rfl rfl rfl) rfl ?_; rintro _ _ ⟨hs, hF⟩))
  have hs0 : St w NoF _ [_, _, _] := hs.sel [1, 0, 2] (by decide)
  have hgb : w.heap.size ≤ b10 := ((hs0.foot _ (.head _) b10 (row_foot rfl)).2).resolve_left id
  obtain ⟨ta, hta⟩ : ∃ ta : Option Addr, ta = some ⟨b10, 0, none⟩ := ⟨_, rfl⟩
  have hgt : ∀ k, afoot ta k → w.heap.size ≤ k := fun k hk => by rw [hta] at hk; rw [afoot_some hk]; exact hgb
  rw [← hta] at hs0
  have hz0 : (List.replicate many (r0, e0)).map Prod.fst = newR many := by rw [List.map_replicate]
  have hz1 : (List.replicate many (r0, e0)).map Prod.snd = newE many := by rw [List.map_replicate]
  refine J_loopK (α := Nat × List ZE) [(4, _), (5, _), (6, _), (13, _), (14, _)] (fun g => [(15, .int .i64 g.1)])
    (fun g w' => St w NoF w' [TabRow ta many many (g.2.map Prod.fst), Blk b5 (.cells #[.slice ta many many] 24 (0, 0)), Blk b4 (.cells #[.slice none 0 0] 24 (0, 0))] ∧ g.1 ≤ m0 ∧ OfZ rs0 es0 g.2 ∧ Lay many (es0.take g.1) (g.2.map Prod.snd))
    (fun g => m0 - g.1) (0, List.replicate many (r0, e0)) ⟨by dsimp only; rw [hz0]; exact hs0, by dsimp only; omega, fun p hp => .inr (List.eq_of_mem_replicate hp), by dsimp only; rw [hz1]; exact Lay.start many⟩ (by repeat' (first | exact trivial | exact rfl | apply And.intro)) ?_
  rintro ⟨k, zs⟩ w2 ⟨hs1, hk, hz, hL⟩ ih
  dsimp only at hs1 hk hz hL ih ⊢
  by_cases hkm : k < m0
  · obtain ⟨p, o, rfl⟩ := hr.sl.addr (by omega)
    have hs : St w NoF w2 [_, _, _] := hs1
    have hx : es0[k]? = some (es0[k]'(by omega)) := List.getElem?_eq_getElem (by omega)
    obtain ⟨x, hxd⟩ : ∃ x, x = es0[k]'(by omega) := ⟨_, rfl⟩
    rw [← hxd] at hx
    obtain ⟨r, hrx, hrel⟩ := hm.get hx
    have mx : Sl (tInt .u64) All w r.2.1.1 r.2.1.2.1 r.2.1.2.2 x.2.1 := hrel.2.1
    have htk : es0.take (k + 1) = es0.take k ++ [x] := by rw [List.take_add_one, hx]; rfl
    obtain ⟨q, hq, _, hL2⟩ := hL.step (e := x) (h1 x (List.mem_of_getElem? hx)) (distinct_take hd hx) (by rw [List.length_take]; omega)
    rw [← htk] at hL2
    have hlz : (zs.map Prod.snd).length = many := hL.len
    have hlz1 : (zs.map Prod.fst).length = many := by rw [List.length_map] at hlz ⊢; exact hlz
    have e1 : (zs.map Prod.fst).set q r = (zs.set q (r, x)).map Prod.fst := by rw [List.map_set]
    have e2 : (zs.map Prod.snd).set q x = (zs.set q (r, x)).map Prod.snd := by rw [List.map_set]
    rw [e2] at hL2
    repeat' (first
      | ((apply al_none (t := 21); have hs2 : St w NoF _ ([TabRow ta many many (zs.map Prod.fst)] ++ [Blk b8 _, Blk b5 (.cells #[.slice ta many many] 24 (0, 0)), Blk b4 _]) := hs.sel [1, 0, 2, 3] (by decide); refine JL_o (OpR_callV rfl rfl (Ret.value (cap := #[ptr b5]) en115 (laid1_r _ b5 ta many many (zs.map Prod.fst) (zs.map Prod.snd) r x q (hs.blk (b := b5)) (St.held (A := [_]) hs2) (fun hf => hs2.sepA (A := [_]) (.tail _ (.head _)) (tab_foot hf) (blk_foot _ _)) hlz1 hlz (ofZ_ok hz hokr) (ofZ_st hz hm) (mx.st hs2).foc (fun k hk hf => by have h1 := Sl.below (d := tInt .u64) (by decide) mx k hk; have h2 := hgt k hf; omega) hn hq))) rfl rfl ?_; rintro _ _ ht; have hs : St w NoF _ [_, _, _, _] := St.take (A := [_]) (A' := [_]) hs2 ht; clear ht hs2))
      | (apply JL_nil)
      | ((apply JL_pure); (first
      | (apply as_load; first | exact OpR_load' hs rfl rfl is_rfl | exact OpR_load_agg' hs rfl is_rfl | exact OpR_load_el (hr.st hs) hrx rfl rfl is_rfl)
      | (apply as_move; exact OpR_move rfl is_rfl)
      | (apply as_add; exact OpR_addn rfl rfl (by omega) (by first | (simp only [Int.reduceAdd]; exact rfl) | exact rfl) is_rfl)
      | (apply as_binOp; exact OpR_ibin rfl rfl rfl is_rfl)
      | (apply as_indexAddr; exact OpR_indexAddr rfl rfl (by omega) (by omega) is_rfl)); first | (exact rfl; exact rfl) | exact rfl)
      | (apply J_seq)
      | (apply J_region)
      | (apply J_block)
      | (apply J_inBlock)
      | (apply J_skip)
      | (apply al_none (t := 8); refine JL_o (by apply as_alloc; exact OpR_alloc' hs) rfl rfl ?_; rintro _ _ ⟨b8, rfl, hb8, hs, hE⟩)
      | (apply al_unit; refine JL_u (by apply as_store; exact OpR_store' hs rfl rfl rfl) rfl ?_; rintro _ _ ⟨hs, hF⟩)
      | (apply aj_cond; refine J_dec_t rfl ob ?_))
    rw [e1] at hs
    refine ih (k + 1, zs.set q (r, x)) _ _ ⟨hs.sel [0, 2, 3] (by decide), by dsimp only; omega, ?_, hL2⟩ (by dsimp only; omega) (by repeat' (first | exact trivial | exact rfl | apply And.intro))
    intro p hp
    rcases List.mem_or_eq_of_mem_set hp with hp | rfl
    · exact hz p hp
    · exact .inl (zip_get hrx hx)
  · have hs : St w NoF w2 [_, _, _] := hs1
    rw [List.take_of_length_le (by omega)] at hL
    repeat' (first
      | (apply JL_nil)
      | ((apply JL_pure); (first
      | (apply as_load; exact OpR_load_agg' hs rfl is_rfl)
      | (apply as_binOp; exact OpR_ibin rfl rfl rfl is_rfl)); first | (exact rfl; exact rfl) | exact rfl)
      | (apply J_seq)
      | (apply J_region)
      | (apply aj_exit; refine J_exit rfl ?_)
      | (apply al_unit; refine JL_u (by apply as_store; exact OpR_store' hs rfl rfl rfl) rfl ?_; rintro _ _ ⟨hs, hF⟩)
      | (apply aj_cond; refine J_dec_f rfl ob ?_))
    refine J_leave Try.func64 rfl (.agg' hs rfl rfl .nil) ⟨zs, ta, hL, hz, rfl, hs.out (.cons_cons _ (List.nil_sublist _))⟩
end Go.Eng
/- Lookups: Put. -/
namespace Go.Eng
open Go.Proofs
set_option linter.unusedSimpArgs false
set_option linter.unusedVariables false
theorem St.ownZ {w0 w : World} {F : Nat → Prop} {L : List HP} {rs : List REnt} {es : List Ent} {zs : List ZE} (h : St w0 F w (Own rs es :: L)) (hz : OfZ rs es zs) : St w0 F w (Own (zs.map Prod.fst) (zs.map Prod.snd) :: L) := by
  refine h.conv (fun k hk => ?_) (fun hh => ?_)
  · obtain ⟨r, hr, hk⟩ := hk
    obtain ⟨p, hp, rfl⟩ := List.mem_map.1 hr
    rcases hz p hp with h | rfl
    · exact ⟨p.1, (List.of_mem_zip h).1, hk⟩
    · simp [afoot] at hk
  · have hh : OwnV w rs es := hh
    refine ⟨by simp, fun i r x hr hx => ?_⟩
    rw [List.getElem?_map] at hr hx
    obtain ⟨p, hp, rfl⟩ := Option.map_eq_some_iff.1 hr
    rw [hp] at hx
    cases hx
    rcases hz p (List.mem_of_getElem? hp) with h | rfl
    · obtain ⟨j, hj⟩ := List.mem_iff_getElem?.1 h
      rw [List.getElem?_zip_eq_some] at hj
      exact hh.2 j _ _ hj.1 hj.2
    · exact ⟨⟨rfl, rfl, rfl, by unfold inK; decide, by unfold inK; decide⟩, rowV_nil w _ _, fun v hv => by cases hv⟩
theorem St.ownV {w0 w : World} {F : Nat → Prop} {L : List HP} {rs : List REnt} {es : List Ent} (h : St w0 F w L) (hm : Own rs es ∈ L) : OwnV w rs es := h.all _ hm
def putE (es : List Ent) (t : List Int) (v : Int) : Int := if checkB es then (if typeB t then (if v < 0 then 2 else if 0 ≤ placeM es t then 5 else if (allM es).length = 4000 then 6 else 0) else 130) else 170
theorem place_none {es : List Ent} {t : List Int} (hc : checkB es = true) (h : ¬ 0 ≤ placeM es t) : ∀ y ∈ es.filter stands, y.2.1 ≠ t := by
  intro y hy e
  obtain ⟨h1, h2⟩ := List.mem_filter.1 hy
  obtain ⟨i, hi⟩ := List.mem_iff_getElem?.1 h1
  have := ((check_slot hc hi).1 (of_decide_eq_true h2)).2.2
  rw [e] at this
  omega
theorem distinct_snoc {l : List Ent} {e : Ent} (h : distinctE l) (he : ∀ y ∈ l, y.2.1 ≠ e.2.1) : distinctE (l ++ [e]) := by
  unfold distinctE at *
  rw [List.pairwise_append]
  exact ⟨h, List.pairwise_singleton _ _, fun a ha b hb => by rw [List.mem_singleton.1 hb]; exact he a ha⟩
theorem allM_distinct {es : List Ent} (hc : checkB es = true) : distinctE (allM es) := ((allM_perm es).symm.pairwise_iff (fun h => Ne.symm h)).1 (check_distinct hc)
theorem allM_mem {es : List Ent} {x : Ent} (h : x ∈ allM es) : x ∈ es ∧ x.1 = 1 := by
  have := (allM_perm es).mem_iff.1 h
  obtain ⟨h1, h2⟩ := List.mem_filter.1 this
  exact ⟨h1, of_decide_eq_true h2⟩
theorem allM_le {es : List Ent} (hc : checkB es = true) : (allM es).length ≤ 4000 := by
  rw [(allM_perm es).length_eq]
  unfold checkB at hc
  rw [Bool.and_eq_true] at hc
  have := hc.1
  unfold baseB at this
  simp only [Bool.and_eq_true, decide_eq_true_eq] at this
  obtain ⟨_, _, _, _, h⟩ := this
  unfold taken cnt at h
  have e : es.filter stands = es.filter (fun x => decide (x.1 = 1)) := rfl
  rw [e]; omega
attribute [local irreducible] Hold J JL JD JX JXat OpR OpG Ret RetV Is Blk Row MapC
set_option maxRecDepth 100000
set_option maxHeartbeats 1000000
theorem put_r (w : World) (a : Option Addr) (n c : Nat) (es : List Ent) (a2 : Option Addr) (n2 c2 : Nat) (t : List Int) (v : Int) (h : Sl dEnt All w a n c es) (hn : n ≤ 1048576) (h2 : Sl (tInt .u64) All w a2 n2 c2 t) (hv : inK .i64 v) :
    Ret Try.prog 28 #[.agg #[.slice a n c], .slice a2 n2 c2, .int .i64 v] w fun u w' => (putE es t v ≠ 0 ∧ u = .tuple #[.agg #[.slice none 0 0], .int .i64 (putE es t v)] ∧ Ext w w') ∨
      (putE es t v = 0 ∧ ∃ (es' : List Ent) (rs' : List REnt) (a' : Option Addr), (checkB es' = true ∧ (es'.filter stands).Perm (allM es ++ [(1, t, v)]) ∧ es'.length ≤ 1048576) ∧ u = .tuple #[.agg #[.slice a' es'.length es'.length], .int .i64 0] ∧ Fresh w w' [TabRow a' es'.length es'.length rs', Own rs' es']) := by
  refine Ret_of (l := [_, _, _]) Try.func28 rfl Try.ntmps28 (by simp) ?_
  have hs := St.init w
  unfold putE
  have hl2 := h2.len
  by_cases hc : checkB es = true
  · rw [if_pos hc]
    have hlen := fun x hx => Nat.le_trans (check_len hc (x := x) hx) (by decide : 12 ≤ 4000000000)
    have hal := allM_le hc
    by_cases ht : typeB t = true
    · rw [if_pos ht]
      by_cases hv0 : v < 0
      · rw [if_pos hv0]
        repeat' (first
          | ((apply al_call 16; refine JL_o (by exact OpR_callF en16 rfl (lcheck_r _ a n c es (h.st hs) hn)) rfl rfl ?_; rintro _ _ ⟨rfl, hE⟩; rw [if_pos hc]; have hs := hs.ext hE; (try simp only [List.cons_append, List.nil_append] at hs)))
          | ((apply al_call 58; refine JL_o (by exact OpR_callF en58 rfl (used_r _ a n c es (h.st hs) hn hlen)) rfl rfl ?_; rintro _ _ ⟨es1, rs1, hp, hpw, a1, c1, rfl, hf⟩; have hs := hs.fresh hf; (try simp only [List.cons_append, List.nil_append] at hs)))
          | ((apply al_call 33; refine JL_o (by exact OpR_callF en33 rfl (tcheck_r _ a2 n2 c2 t (h2.st hs))) rfl rfl ?_; rintro _ _ ⟨rfl, hE⟩; rw [ht]; have hs := hs.ext hE; (try simp only [List.cons_append, List.nil_append] at hs)))
          | (apply JL_nil)
          | ((apply JL_pure); (first
      | (apply as_move; exact OpR_move rfl is_rfl)
      | (apply as_assign; exact OpR_assign rfl is_rfl)
      | (apply as_load; exact OpR_load_agg' hs rfl is_rfl)
      | (apply as_binOp; exact OpR_ibin rfl rfl rfl is_rfl)
      | (apply as_build; exact OpR_build rfl (by (simp only [bld, placesOf, splice, Value.cells, List.take_succ_cons, List.take_zero, List.drop_succ_cons, List.drop_zero, List.cons_append, List.nil_append, List.length_cons, List.length_nil, List.getElem?_cons_zero, List.getElem?_cons_succ, Option.map_some, List.append_nil, Nat.reduceAdd, Nat.reduceMul, Nat.zero_add, Nat.reduceLeDiff, and_self, if_true, List.toList_toArray, Nat.le_refl, Nat.zero_mul, Nat.one_mul]; first | done | rfl)) is_rfl)); first | (exact rfl; exact rfl) | exact rfl)
          | (apply J_seq)
          | (apply J_region)
          | (apply J_block)
          | (apply J_skip)
          | (apply al_none (t := 3); refine JL_o (by apply as_box; exact OpR_box' hs rfl) rfl rfl ?_; rintro _ _ ⟨b3, rfl, hb3, hs, hE⟩)
          | (apply al_none (t := 6); refine JL_o (by apply as_alloc; exact OpR_alloc' hs) rfl rfl ?_; rintro _ _ ⟨b6, rfl, hb6, hs, hE⟩)
          | (apply al_unit; refine JL_u (by apply as_store; exact OpR_store' hs rfl rfl rfl) rfl ?_; rintro _ _ ⟨hs, hF⟩)
          | (apply aj_cond; first | refine J_dec_t rfl ob ?_ | refine J_dec_f rfl ob ?_ | refine J_cond_f rfl gb ?_))
        refine J_leave Try.func28 rfl (.agg' hs rfl rfl (.tmp rfl .nil)) (.inl ⟨by decide, rfl, hs.frm.ext⟩)
      · rw [if_neg hv0]
        by_cases hpl : 0 ≤ placeM es t
        · rw [if_pos hpl]
          repeat' (first
            | ((apply al_call 16; refine JL_o (by exact OpR_callF en16 rfl (lcheck_r _ a n c es (h.st hs) hn)) rfl rfl ?_; rintro _ _ ⟨rfl, hE⟩; rw [if_pos hc]; have hs := hs.ext hE; (try simp only [List.cons_append, List.nil_append] at hs)))
            | ((apply al_call 58; refine JL_o (by exact OpR_callF en58 rfl (used_r _ a n c es (h.st hs) hn hlen)) rfl rfl ?_; rintro _ _ ⟨es1, rs1, hp, hpw, a1, c1, rfl, hf⟩; have hs := hs.fresh hf; (try simp only [List.cons_append, List.nil_append] at hs)))
            | ((apply al_call 33; refine JL_o (by exact OpR_callF en33 rfl (tcheck_r _ a2 n2 c2 t (h2.st hs))) rfl rfl ?_; rintro _ _ ⟨rfl, hE⟩; rw [ht]; have hs := hs.ext hE; (try simp only [List.cons_append, List.nil_append] at hs)))
            | ((apply al_call 60; refine JL_o (by exact OpR_callF en60 rfl (place_r _ a n c es a2 n2 c2 t (h.st hs) hn (h2.st hs))) rfl rfl ?_; rintro _ _ ⟨rfl, hE⟩; have hs := hs.ext hE; (try simp only [List.cons_append, List.nil_append] at hs)))
            | (apply JL_nil)
            | ((apply JL_pure); (first
      | (apply as_move; exact OpR_move rfl is_rfl)
      | (apply as_assign; exact OpR_assign rfl is_rfl)
      | (apply as_load; exact OpR_load_agg' hs rfl is_rfl)
      | (apply as_binOp; exact OpR_ibin rfl rfl rfl is_rfl)
      | (apply as_build; exact OpR_build rfl (by (simp only [bld, placesOf, splice, Value.cells, List.take_succ_cons, List.take_zero, List.drop_succ_cons, List.drop_zero, List.cons_append, List.nil_append, List.length_cons, List.length_nil, List.getElem?_cons_zero, List.getElem?_cons_succ, Option.map_some, List.append_nil, Nat.reduceAdd, Nat.reduceMul, Nat.zero_add, Nat.reduceLeDiff, and_self, if_true, List.toList_toArray, Nat.le_refl, Nat.zero_mul, Nat.one_mul]; first | done | rfl)) is_rfl)); first | (exact rfl; exact rfl) | exact rfl)
            | (apply J_seq)
            | (apply J_region)
            | (apply J_block)
            | (apply J_skip)
            | (apply al_none (t := 3); refine JL_o (by apply as_box; exact OpR_box' hs rfl) rfl rfl ?_; rintro _ _ ⟨b3, rfl, hb3, hs, hE⟩)
            | (apply al_none (t := 6); refine JL_o (by apply as_alloc; exact OpR_alloc' hs) rfl rfl ?_; rintro _ _ ⟨b6, rfl, hb6, hs, hE⟩)
            | (apply al_unit; refine JL_u (by apply as_store; exact OpR_store' hs rfl rfl rfl) rfl ?_; rintro _ _ ⟨hs, hF⟩)
            | (apply aj_cond; first | refine J_dec_t rfl ob ?_ | refine J_dec_f rfl ob ?_ | refine J_cond_f rfl gb ?_))
          refine J_leave Try.func28 rfl (.agg' hs rfl rfl (.tmp rfl .nil)) (.inl ⟨by decide, rfl, hs.frm.ext⟩)
        · rw [if_neg hpl]
          by_cases h4 : (allM es).length = 4000
          · rw [if_pos h4]
            repeat' (first
              | ((apply al_call 16; refine JL_o (by exact OpR_callF en16 rfl (lcheck_r _ a n c es (h.st hs) hn)) rfl rfl ?_; rintro _ _ ⟨rfl, hE⟩; rw [if_pos hc]; have hs := hs.ext hE; (try simp only [List.cons_append, List.nil_append] at hs)))
              | ((apply al_call 58; refine JL_o (by exact OpR_callF en58 rfl (used_r _ a n c es (h.st hs) hn hlen)) rfl rfl ?_; rintro _ _ ⟨es1, rs1, hp, hpw, a1, c1, rfl, hf⟩; have hs := hs.fresh hf; have he1 : es1.length = 4000 := by rw [allM_uniq (check_distinct hc) hp hpw]; exact h4; (try simp only [List.cons_append, List.nil_append] at hs)))
              | ((apply al_call 33; refine JL_o (by exact OpR_callF en33 rfl (tcheck_r _ a2 n2 c2 t (h2.st hs))) rfl rfl ?_; rintro _ _ ⟨rfl, hE⟩; rw [ht]; have hs := hs.ext hE; (try simp only [List.cons_append, List.nil_append] at hs)))
              | ((apply al_call 60; refine JL_o (by exact OpR_callF en60 rfl (place_r _ a n c es a2 n2 c2 t (h.st hs) hn (h2.st hs))) rfl rfl ?_; rintro _ _ ⟨rfl, hE⟩; have hs := hs.ext hE; (try simp only [List.cons_append, List.nil_append] at hs)))
              | (apply JL_nil)
              | ((apply JL_pure); (first
      | (apply as_move; exact OpR_move rfl is_rfl)
      | (apply as_assign; exact OpR_assign rfl is_rfl)
      | (apply as_load; exact OpR_load_agg' hs rfl is_rfl)
      | (apply as_binOp; exact OpR_ibin rfl rfl rfl is_rfl)
      | (apply as_b_len; exact OpR_len rfl is_rfl)
      | (apply as_build; exact OpR_build rfl (by (simp only [bld, placesOf, splice, Value.cells, List.take_succ_cons, List.take_zero, List.drop_succ_cons, List.drop_zero, List.cons_append, List.nil_append, List.length_cons, List.length_nil, List.getElem?_cons_zero, List.getElem?_cons_succ, Option.map_some, List.append_nil, Nat.reduceAdd, Nat.reduceMul, Nat.zero_add, Nat.reduceLeDiff, and_self, if_true, List.toList_toArray, Nat.le_refl, Nat.zero_mul, Nat.one_mul]; first | done | rfl)) is_rfl)); first | (exact rfl; exact rfl) | exact rfl)
              | (apply J_seq)
              | (apply J_region)
              | (apply J_block)
              | (apply J_skip)
              | (apply al_none (t := 3); refine JL_o (by apply as_box; exact OpR_box' hs rfl) rfl rfl ?_; rintro _ _ ⟨b3, rfl, hb3, hs, hE⟩)
              | (apply al_none (t := 6); refine JL_o (by apply as_alloc; exact OpR_alloc' hs) rfl rfl ?_; rintro _ _ ⟨b6, rfl, hb6, hs, hE⟩)
              | (apply al_unit; refine JL_u (by apply as_store; exact OpR_store' hs rfl rfl rfl) rfl ?_; rintro _ _ ⟨hs, hF⟩)
              | (apply aj_cond; first | refine J_dec_t rfl ob ?_ | refine J_dec_f rfl ob ?_ | refine J_cond_f rfl gb ?_))
            refine J_leave Try.func28 rfl (.agg' hs rfl rfl (.tmp rfl .nil)) (.inl ⟨by decide, rfl, hs.frm.ext⟩)
          · rw [if_neg h4]
            obtain ⟨al, hald⟩ : ∃ al, al = allM es := ⟨_, rfl⟩
            rw [← hald] at hal h4
            have ht64 : ∀ u ∈ t, inK .u64 u := (h2.srcF).2.2
            have h12 := (typeB_true.1 ht).1
            repeat' (first
              | ((apply al_call 16; refine JL_o (by exact OpR_callF en16 rfl (lcheck_r _ a n c es (h.st hs) hn)) rfl rfl ?_; rintro _ _ ⟨rfl, hE⟩; rw [if_pos hc]; have hs := hs.ext hE; (try simp only [List.cons_append, List.nil_append] at hs)))
              | ((apply al_call 58; refine JL_o (by exact OpR_callF en58 rfl (used_r _ a n c es (h.st hs) hn hlen)) rfl rfl ?_; rintro _ _ ⟨es1, rs1, hp, hpw, a1, c1, rfl, hf⟩; have hs := hs.fresh hf; have he1 := allM_uniq (check_distinct hc) hp hpw; rw [← hald] at he1; subst he1; (try simp only [List.cons_append, List.nil_append] at hs)))
              | ((apply al_call 33; refine JL_o (by exact OpR_callF en33 rfl (tcheck_r _ a2 n2 c2 t (h2.st hs))) rfl rfl ?_; rintro _ _ ⟨rfl, hE⟩; rw [ht]; have hs := hs.ext hE; (try simp only [List.cons_append, List.nil_append] at hs)))
              | ((apply al_call 60; refine JL_o (by exact OpR_callF en60 rfl (place_r _ a n c es a2 n2 c2 t (h.st hs) hn (h2.st hs))) rfl rfl ?_; rintro _ _ ⟨rfl, hE⟩; have hs := hs.ext hE; (try simp only [List.cons_append, List.nil_append] at hs)))
              | ((apply al_call 23; refine JL_o (by exact OpR_callF en23 rfl (cloneI_r _ a2 n2 c2 t (h2.st hs) (by omega))) rfl rfl ?_; rintro _ _ ⟨a3, c3, rfl, hf3⟩; have hs := hs.fresh hf3; (try simp only [List.cons_append, List.nil_append] at hs)))
              | ((apply al_none (t := 45); refine JL_o (by apply as_b_append; exact OpR_append (xs := encL cREnt rs1) (news := cREnt (1, (a3, n2, c3), v)) hs rfl rfl (src_blk3 (r := (1, (a3, n2, c3), v)) (hs.blk (b := b44))) plain_blk rfl (by omega) (by unfold maxLen; omega)) rfl rfl ?_; rintro _ _ ⟨a4, c4, rfl, hs, hF, hnil⟩))
              | (apply JL_nil)
              | ((apply JL_pure); (first
      | (apply as_move; exact OpR_move rfl is_rfl)
      | (apply as_assign; exact OpR_assign rfl is_rfl)
      | (apply as_load; exact OpR_load_agg' hs rfl is_rfl)
      | (apply as_binOp; exact OpR_ibin rfl rfl rfl is_rfl)
      | (apply as_b_len; exact OpR_len rfl is_rfl)
      | (apply as_build; exact OpR_build rfl (by (simp only [bld, placesOf, splice, Value.cells, List.take_succ_cons, List.take_zero, List.drop_succ_cons, List.drop_zero, List.cons_append, List.nil_append, List.length_cons, List.length_nil, List.getElem?_cons_zero, List.getElem?_cons_succ, Option.map_some, List.append_nil, Nat.reduceAdd, Nat.reduceMul, Nat.zero_add, Nat.reduceLeDiff, and_self, if_true, List.toList_toArray, Nat.le_refl, Nat.zero_mul, Nat.one_mul]; first | done | rfl)) is_rfl)); first | (exact rfl; exact rfl) | exact rfl)
              | (apply J_seq)
              | (apply J_region)
              | (apply J_block)
              | (apply J_inBlock)
              | (apply J_skip)
              | (apply al_none (t := 3); refine JL_o (by apply as_box; exact OpR_box' hs rfl) rfl rfl ?_; rintro _ _ ⟨b3, rfl, hb3, hs, hE⟩)
              | (apply al_none (t := 6); refine JL_o (by apply as_alloc; exact OpR_alloc' hs) rfl rfl ?_; rintro _ _ ⟨b6, rfl, hb6, hs, hE⟩)
              | (apply al_none (t := 44); refine JL_o (by apply as_buildSlice; exact OpR_buildSlice hs rfl (by omega) rfl) rfl rfl ?_; rintro _ _ ⟨b44, rfl, hb44, hs, hE⟩)
              | (apply aj_cond; first | refine J_dec_f rfl ob ?_ | refine J_cond_f rfl gb ?_))
            have hcc : encL cREnt rs1 ++ cREnt (1, (a3, n2, c3), v) = encL cREnt (rs1 ++ [(1, (a3, n2, c3), v)]) := by rw [encL_app]; simp [encL]
            rw [show encL cREnt rs1 ++ cREnt (1, (a3, n2, c3), v) = encL cREnt (rs1 ++ [(1, (a3, n2, c3), v)]) from hcc] at hs
            have hs : St w NoF _ [_, _, _, _] := hs.sel [1, 3, 2, 4] (by decide)
            have hs := St.pushOwn hs hl2.symm 1 v (by unfold inK; decide) hv ht64
            obtain ⟨rs2, hrs2⟩ : ∃ rs2, rs2 = rs1 ++ [((1 : Int), (a3, n2, c3), v)] := ⟨_, rfl⟩
            obtain ⟨es2, hes2⟩ : ∃ es2 : List Ent, es2 = es1 ++ [(1, t, v)] := ⟨_, rfl⟩
            have hl3 : es2.length = es1.length + 1 := by rw [hes2]; simp
            rw [← hrs2, ← hes2, ← hl3] at hs
            have hs : St w NoF _ [Own rs2 es2, TabRow a4 es2.length c4 rs2, Blk b6 (.cells #[.slice none 0 0] 24 (0, 0))] := hs
            have hd2 : distinctE es2 := by
              rw [hes2]
              have hdd := allM_distinct hc
              rw [← hald] at hdd
              refine distinct_snoc hdd (fun y hy => ?_)
              rw [hald] at hy
              exact place_none hc hpl y ((allM_perm es).mem_iff.1 hy)
            have hok2 : ∀ x ∈ es2, x.1 = 1 ∧ typeB x.2.1 = true ∧ 0 ≤ x.2.2 := by
              intro x hx
              rw [hes2] at hx
              rcases List.mem_append.1 hx with hx | hx
              · rw [hald] at hx
                obtain ⟨m1, m2⟩ := allM_mem hx
                obtain ⟨q1, q2⟩ := (check_mem hc m1).1 m2
                exact ⟨m2, q1, q2⟩
              · rw [List.mem_singleton.1 hx]; exact ⟨rfl, ht, by show 0 ≤ v; omega⟩
            refine J_loopK (α := Nat × Nat) [(6, _), (9, _)] (fun g => [(10, .int .i64 g.1)]) (fun g w' => St w NoF w' [Own rs2 es2, TabRow a4 es2.length c4 rs2, Blk b6 (.cells #[.slice none 0 0] 24 (0, 0))] ∧ g.1 = 8 * 2 ^ g.2 ∧ (g.2 = 0 ∨ g.1 ≤ 4 * es2.length)) (fun g => 4 * es2.length - g.1) (8, 0) ⟨hs, rfl, .inl rfl⟩ (by rw [← hl3]; repeat' (first | exact trivial | exact rfl | apply And.intro)) ?_
            rintro ⟨N, j⟩ w2 ⟨hs1, hN, hlo⟩ ih
            dsimp only at hN hlo ih ⊢
            have hs : St w NoF w2 [_, _, _] := hs1
            have hN8 : 8 ≤ N := by have hp : 0 < 2 ^ j := Nat.pow_pos (by decide); omega
            have hNb : N ≤ 100000 := by
              rcases hlo with h | h
              · subst h; omega
              · omega
            by_cases hlt : 2 * N < 4 * es2.length
            · repeat' (first
                | (apply JL_nil)
                | ((apply JL_pure); (first
      | (apply as_move; exact OpR_move rfl is_rfl)
      | (apply as_assign; exact OpR_assign rfl is_rfl)
      | (apply as_binOp; first | exact OpR_mul rfl rfl (by omega) is_rfl | exact OpR_ibin rfl rfl rfl is_rfl)
      | (apply as_b_len; exact OpR_len rfl is_rfl)); first | (exact rfl; exact rfl) | exact rfl)
                | (apply J_seq)
                | (apply J_region)
                | (apply J_block)
                | (apply J_inBlock)
                | (apply J_skip)
                | (apply aj_cond; refine J_dec_t rfl ob ?_))
              have e : (N : Int) * 2 = ((N * 2 : Nat) : Int) := by omega
              refine ih (N * 2, j + 1) _ _ ⟨hs, by dsimp only; rw [hN, Nat.pow_succ]; omega, .inr (by dsimp only; omega)⟩ (by dsimp only; omega) (by rw [e]; repeat' (first | exact trivial | exact rfl | apply And.intro))
            · have ho := St.ownV hs (.head _)
              repeat' (first
                | ((apply al_call 64; refine JL_o (by exact OpR_callF en64 rfl (laid_r _ a4 es2.length c4 rs2 es2 N (rowSl (hs.row a4 es2.length c4) ho.ok) ((St.ownV hs (.head _)).mean.weak (fun _ _ => trivial)) (fun x hx => (hok2 x hx).1) hd2 (by omega) (by omega))) rfl rfl ?_; rintro _ _ ⟨zs, ta, hL, hz, rfl, hf4⟩; have hs := hs.fresh hf4; (try simp only [List.cons_append, List.nil_append] at hs)))
                | (apply JL_nil)
                | ((apply JL_pure); (first
      | (apply as_move; exact OpR_move rfl is_rfl)
      | (apply as_assign; exact OpR_assign rfl is_rfl)
      | (apply as_binOp; first | exact OpR_mul rfl rfl (by omega) is_rfl | exact OpR_ibin rfl rfl rfl is_rfl)
      | (apply as_b_len; exact OpR_len rfl is_rfl)); first | (exact rfl; exact rfl) | exact rfl)
                | (apply J_seq)
                | (apply J_region)
                | (apply aj_exit; refine J_exit rfl ?_)
                | (apply al_unit; refine JL_u (by apply as_store; exact OpR_store' hs rfl rfl rfl) rfl ?_; rintro _ _ ⟨hs, hF⟩)
                | (apply aj_cond; refine J_dec_f rfl ob ?_))
              have hs : St w NoF _ [Own rs2 es2, TabRow ta N N (zs.map Prod.fst), Blk b6 _, TabRow a4 es2.length c4 rs2] := hs.sel [1, 0, 3, 2] (by decide)
              have hs := St.ownZ hs hz
              have hs : St w NoF _ [TabRow ta N N (zs.map Prod.fst), Own (zs.map Prod.fst) (zs.map Prod.snd), Blk b6 _, TabRow a4 es2.length c4 rs2] := hs.sel [1, 0, 2, 3] (by decide)
              have hlz := hL.len
              have hpw : powB N = true := (powB_iff N).2 ⟨j, hN⟩
              have hck := hL.check hpw (fun x hx => (hok2 x hx).2) (by omega) (by omega)
              have hp2 := hL.perm
              rw [hes2, hald] at hp2
              obtain ⟨es3, hes3⟩ : ∃ es3, es3 = zs.map Prod.snd := ⟨_, rfl⟩
              rw [← hes3] at hs hlz hck hp2
              rw [← hlz] at hs ⊢
              refine J_leave Try.func28 rfl (.agg' hs rfl rfl (.tmp rfl .nil)) (.inr ⟨rfl, es3, zs.map Prod.fst, ta, ⟨hck, hp2, by omega⟩, rfl, hs.out (.cons_cons _ (.cons_cons _ (List.nil_sublist _)))⟩)
    · have ht : typeB t = false := by simpa using ht
      rw [if_neg (by rw [ht]; decide)]
      repeat' (first
        | ((apply al_call 16; refine JL_o (by exact OpR_callF en16 rfl (lcheck_r _ a n c es (h.st hs) hn)) rfl rfl ?_; rintro _ _ ⟨rfl, hE⟩; rw [if_pos hc]; have hs := hs.ext hE; (try simp only [List.cons_append, List.nil_append] at hs)))
        | ((apply al_call 58; refine JL_o (by exact OpR_callF en58 rfl (used_r _ a n c es (h.st hs) hn hlen)) rfl rfl ?_; rintro _ _ ⟨es1, rs1, hp, hpw, a1, c1, rfl, hf⟩; have hs := hs.fresh hf; (try simp only [List.cons_append, List.nil_append] at hs)))
        | ((apply al_call 33; refine JL_o (by exact OpR_callF en33 rfl (tcheck_r _ a2 n2 c2 t (h2.st hs))) rfl rfl ?_; rintro _ _ ⟨rfl, hE⟩; rw [ht]; have hs := hs.ext hE; (try simp only [List.cons_append, List.nil_append] at hs)))
        | (apply JL_nil)
        | ((apply JL_pure); (first
      | (apply as_move; exact OpR_move rfl is_rfl)
      | (apply as_assign; exact OpR_assign rfl is_rfl)
      | (apply as_load; exact OpR_load_agg' hs rfl is_rfl)
      | (apply as_binOp; exact OpR_ibin rfl rfl rfl is_rfl)
      | (apply as_build; exact OpR_build rfl (by (simp only [bld, placesOf, splice, Value.cells, List.take_succ_cons, List.take_zero, List.drop_succ_cons, List.drop_zero, List.cons_append, List.nil_append, List.length_cons, List.length_nil, List.getElem?_cons_zero, List.getElem?_cons_succ, Option.map_some, List.append_nil, Nat.reduceAdd, Nat.reduceMul, Nat.zero_add, Nat.reduceLeDiff, and_self, if_true, List.toList_toArray, Nat.le_refl, Nat.zero_mul, Nat.one_mul]; first | done | rfl)) is_rfl)); first | (exact rfl; exact rfl) | exact rfl)
        | (apply J_seq)
        | (apply J_region)
        | (apply J_block)
        | (apply J_skip)
        | (apply al_none (t := 3); refine JL_o (by apply as_box; exact OpR_box' hs rfl) rfl rfl ?_; rintro _ _ ⟨b3, rfl, hb3, hs, hE⟩)
        | (apply al_none (t := 6); refine JL_o (by apply as_alloc; exact OpR_alloc' hs) rfl rfl ?_; rintro _ _ ⟨b6, rfl, hb6, hs, hE⟩)
        | (apply al_unit; refine JL_u (by apply as_store; exact OpR_store' hs rfl rfl rfl) rfl ?_; rintro _ _ ⟨hs, hF⟩)
        | (apply aj_cond; first | refine J_dec_f rfl ob ?_ | refine J_cond_t rfl gb ?_))
      refine J_leave Try.func28 rfl (.agg' hs rfl rfl (.tmp rfl .nil)) (.inl ⟨by decide, rfl, hs.frm.ext⟩)
  · rw [if_neg hc]
    repeat' (first
      | ((apply al_call 16; refine JL_o (by exact OpR_callF en16 rfl (lcheck_r _ a n c es (h.st hs) hn)) rfl rfl ?_; rintro _ _ ⟨rfl, hE⟩; rw [if_neg hc]; have hs := hs.ext hE; (try simp only [List.cons_append, List.nil_append] at hs)))
      | (apply JL_nil)
      | ((apply JL_pure); (first
      | (apply as_move; exact OpR_move rfl is_rfl)
      | (apply as_assign; exact OpR_assign rfl is_rfl)
      | (apply as_load; exact OpR_load_agg' hs rfl is_rfl)
      | (apply as_binOp; exact OpR_ibin rfl rfl rfl is_rfl)
      | (apply as_build; exact OpR_build rfl (by (simp only [bld, placesOf, splice, Value.cells, List.take_succ_cons, List.take_zero, List.drop_succ_cons, List.drop_zero, List.cons_append, List.nil_append, List.length_cons, List.length_nil, List.getElem?_cons_zero, List.getElem?_cons_succ, Option.map_some, List.append_nil, Nat.reduceAdd, Nat.reduceMul, Nat.zero_add, Nat.reduceLeDiff, and_self, if_true, List.toList_toArray, Nat.le_refl, Nat.zero_mul, Nat.one_mul]; first | done | rfl)) is_rfl)); first | (exact rfl; exact rfl) | exact rfl)
      | (apply J_seq)
      | (apply J_region)
      | (apply al_none (t := 3); refine JL_o (by apply as_box; exact OpR_box' hs rfl) rfl rfl ?_; rintro _ _ ⟨b3, rfl, hb3, hs, hE⟩)
      | (apply al_none (t := 6); refine JL_o (by apply as_alloc; exact OpR_alloc' hs) rfl rfl ?_; rintro _ _ ⟨b6, rfl, hb6, hs, hE⟩)
      | (apply al_unit; refine JL_u (by apply as_store; exact OpR_store' hs rfl rfl rfl) rfl ?_; rintro _ _ ⟨hs, hF⟩)
      | (apply aj_cond; refine J_dec_t rfl ob ?_))
    refine J_leave Try.func28 rfl (.agg' hs rfl rfl (.tmp rfl .nil)) (.inl ⟨by decide, rfl, hs.frm.ext⟩)
end Go.Eng
/- Lookups: the law's own. -/
namespace Go.Eng
open Go.Proofs Go.RowKit
set_option linter.unusedSimpArgs false
set_option linter.unusedVariables false
theorem Sl.cut {α : Type} {d : Ty α} {R : Nat → Prop} {w : World} {a : Option Addr} {n c : Nat} {xs : List α} (h : Sl d R w a n c xs) (m : Nat) (hm : m ≤ n) : Sl d R w a m c (xs.take m) := by
  obtain ⟨h1, h2, h3, s⟩ := h
  have hl := s.len
  refine ⟨by omega, h2, h3, ⟨by rw [List.length_take]; omega, fun ha => by have := s.nil ha; omega, fun hp => s.plain (by omega), fun b o ha hp => s.reg b o ha (by omega), fun i x hx => ?_⟩⟩
  rw [List.getElem?_take] at hx
  split at hx
  · exact s.el i x hx
  · cases hx
def cutE (x : Ent) : Ent := (x.1, x.2.1.take 14, x.2.2)
def ownM (es : List Ent) : List Ent := (es.take 130).map cutE
theorem ownM_len (es : List Ent) : (ownM es).length ≤ 130 := by unfold ownM; simp; omega
theorem ownM_succ {es : List Ent} {k : Nat} {x : Ent} (hx : es[k]? = some x) : ownM (es.take (k + 1)) = if k < 130 then ownM (es.take k) ++ [cutE x] else ownM (es.take k) := by
  unfold ownM
  rw [List.take_take, List.take_take]
  by_cases h : k < 130
  · rw [if_pos h, show min 130 (k + 1) = k + 1 by omega, show min 130 k = k by omega, List.take_add_one, hx, List.map_append]; rfl
  · rw [if_neg h, show min 130 (k + 1) = 130 by omega, show min 130 k = 130 by omega]
attribute [local irreducible] Hold J JL JD JX JXat OpR OpG Ret RetV Is Blk Row MapC
set_option maxRecDepth 100000
set_option maxHeartbeats 1000000
theorem own_r (w : World) (a : Option Addr) (n c : Nat) (es : List Ent) (h : Sl dEnt All w a n c es) :
    Ret Try.prog 12 #[.agg #[.slice a n c]] w fun v w' => ∃ (rs' : List REnt) (a' : Option Addr) (c' : Nat), v = .agg #[.slice a' (ownM es).length c'] ∧ Fresh w w' [Row a' (ownM es).length c' 39 3 (encL cREnt rs'), Own rs' (ownM es)] := by
  refine Ret_of (l := [_]) Try.func12 rfl Try.ntmps12 (by simp) ?_
  have hs := St.init w
  obtain ⟨rs, hr, hm⟩ := Sl.raw (D := rawEnt) h
  have hl := hr.len
  have hle := h.len
  have hcap : n ≤ 9223372036854775807 := by have h1 := h.le; have h2 := h.cap; unfold maxLen at h2; omega
  have hok := sl_entOk h
  repeat' (first
    | (apply JL_nil)
    | ((apply JL_pure); (first
      | (apply as_move; exact OpR_move rfl is_rfl)
      | (apply as_fieldAddr; exact OpR_fieldAddr0 rfl rfl is_rfl)
      | (apply as_load; exact OpR_load' hs rfl rfl is_rfl)
      | (apply as_b_len; exact OpR_len rfl is_rfl)); first | (exact rfl; exact rfl) | exact rfl)
    | (apply J_seq)
    | (apply J_region)
    | (apply J_block)
    | (apply al_none (t := 1); refine JL_o (by apply as_box; exact OpR_box' hs rfl) rfl rfl ?_; rintro _ _ ⟨b1, rfl, hb1, hs, hE⟩)
    | (apply al_none (t := 2); refine JL_o (by apply as_alloc; exact OpR_alloc' hs) rfl rfl ?_; rintro _ _ ⟨b2, rfl, hb2, hs, hE⟩)
    | (apply al_none (t := 3); refine JL_o (by apply as_alloc; exact OpR_alloc' hs) rfl rfl ?_; rintro _ _ ⟨b3, rfl, hb3, hs, hE⟩))
  have hs := (hs.nilOwn).nilRow 39 3
  refine J_loopK (α := Nat × List REnt × Nat × Option Addr × Nat) [(2, _), (3, _), (7, _), (8, _)] (fun g => [(9, .int .i64 g.1)])
    (fun g w' => St w NoF w' [Row g.2.2.2.1 g.2.2.1 g.2.2.2.2 39 3 (encL cREnt g.2.1), Own g.2.1 (ownM (es.take g.1)), Blk b3 (.cells #[.slice g.2.2.2.1 g.2.2.1 g.2.2.2.2] 24 (0, 0)), Blk b2 (.cells #[.slice none 0 0] 24 (0, 0))] ∧ g.1 ≤ n ∧ g.2.2.1 = (ownM (es.take g.1)).length)
    (fun g => n - g.1) (0, [], 0, none, 0) ⟨hs.sel [0, 1, 2, 3] (by decide), by dsimp only; omega, rfl⟩ (by repeat' (first | exact trivial | exact rfl | apply And.intro)) ?_
  rintro ⟨k, ro, m, a', c'⟩ w2 ⟨hs1, hk, hml⟩ ih
  dsimp only at hs1 hk hml ih ⊢
  by_cases hlt : k < n
  · obtain ⟨p, o, rfl⟩ := hr.sl.addr (by omega)
    have hs : St w NoF w2 [_, _, _, _] := hs1
    have hx : es[k]? = some (es[k]'(by omega)) := List.getElem?_eq_getElem (by omega)
    obtain ⟨x, hxd⟩ : ∃ x, x = es[k]'(by omega) := ⟨_, rfl⟩
    rw [← hxd] at hx
    obtain ⟨r, hrx, hrel⟩ := hm.get hx
    have e1 : r.1 = x.1 := hrel.1
    have e3 : r.2.2 = x.2.2 := hrel.2.2
    have mx : Sl (tInt .u64) All w r.2.1.1 r.2.1.2.1 r.2.1.2.2 x.2.1 := hrel.2.1
    obtain ⟨o1, o2, o3⟩ := hok x (List.mem_of_getElem? hx)
    have hsu := ownM_succ hx
    by_cases h130 : k < 130
    · rw [if_pos h130] at hsu
      have hm130 : m ≤ 130 := by rw [hml]; exact ownM_len _
      obtain ⟨q, hq⟩ : ∃ q, q = min r.2.1.2.1 14 := ⟨_, rfl⟩
      have hq1 : q ≤ r.2.1.2.1 := by omega
      have mcut := mx.cut q hq1
      have hmn := mx.len
      have htk : x.2.1.take q = x.2.1.take 14 := by
        rw [hq, ← hmn, List.take_eq_take_min (l := x.2.1) (i := 14)]; rw [Nat.min_comm]
      rw [htk] at mcut
      have hcl := mcut.len
      have hmcap := mx.le
      repeat' (first
        | ((apply al_none (t := 22); refine JL_pure (v := .slice r.2.1.1 q r.2.1.2.2) (by apply as_slice; exact OpR_slice (kl := .i64) (kh := .i64) (km := .i64) (a' := r.2.1.1) (m := r.2.1.2.2) (h := min (r.2.1.2.1 : Int) 14) rfl (.inl ⟨rfl, rfl⟩) (.inr ⟨_, rfl, rfl⟩) (.inl ⟨rfl, rfl⟩) (by omega) (by omega) (by omega) (by omega) (by split; rfl; exact addr0 _) (by rw [show (min (r.2.1.2.1 : Int) 14 - 0).toNat = q by omega, Int.sub_zero, Int.toNat_natCast]; exact is_rfl)) rfl rfl ?_))
        | ((apply al_call 23; refine JL_o (by exact OpR_callF en23 rfl (cloneI_r _ r.2.1.1 q r.2.1.2.2 (x.2.1.take 14) (mcut.st hs) (by omega))) rfl rfl ?_; rintro _ _ ⟨a3, c3, rfl, hf3⟩; have hs := hs.fresh hf3; (try simp only [List.cons_append, List.nil_append] at hs)))
        | ((apply al_none (t := 29); refine JL_o (by apply as_b_append; exact OpR_append (xs := encL cREnt ro) (news := cREnt (r.1, (a3, q, c3), r.2.2)) hs rfl rfl (src_blk3 (r := (r.1, (a3, q, c3), r.2.2)) (hs.blk (b := b28))) plain_blk rfl (by omega) (by unfold maxLen; omega)) rfl rfl ?_; rintro _ _ ⟨a4, c4, rfl, hs, hF, hnil⟩))
        | (apply JL_nil)
        | ((apply JL_pure); (first
      | (apply as_load; first | exact OpR_load' hs rfl rfl is_rfl | exact OpR_load_agg' hs rfl is_rfl | exact OpR_load_el (hr.st hs) hrx rfl rfl is_rfl)
      | (apply as_move; exact OpR_move rfl is_rfl)
      | (apply as_assign; exact OpR_assign rfl is_rfl)
      | (apply as_fieldAddr; exact OpR_fieldAddr0 rfl rfl is_rfl)
      | (apply as_add; exact OpR_addn rfl rfl (by omega) (by first | (simp only [Int.reduceAdd]; exact rfl) | exact rfl) is_rfl)
      | (apply as_binOp; exact OpR_ibin rfl rfl rfl is_rfl)
      | (apply as_b_len; exact OpR_len rfl is_rfl)
      | (apply as_b_min; exact OpR_min rfl rfl is_rfl)
      | (apply as_indexAddr; exact OpR_indexAddr rfl rfl (by omega) (by omega) is_rfl)); first | (exact rfl; exact rfl) | exact rfl)
        | (apply J_seq)
        | (apply J_region)
        | (apply J_block)
        | (apply J_inBlock)
        | (apply J_skip)
        | (apply al_none (t := 5); refine JL_o (by apply as_alloc; exact OpR_alloc' hs) rfl rfl ?_; rintro _ _ ⟨b5, rfl, hb5, hs, hE⟩)
        | (apply al_none (t := 28); refine JL_o (by apply as_buildSlice; exact OpR_buildSlice hs rfl (by omega) rfl) rfl rfl ?_; rintro _ _ ⟨b28, rfl, hb28, hs, hE⟩)
        | (apply al_unit; refine JL_u (by apply as_store; exact OpR_store' hs rfl rfl rfl) rfl ?_; rintro _ _ ⟨hs, hF⟩)
        | (apply aj_cond; refine J_dec_t rfl ob ?_))
      have hs : St w NoF _ [_, _, _, _, _] := hs.sel [1, 4, 3, 5, 6] (by decide)
      have hs := St.pushOwn hs hcl.symm r.1 r.2.2 (by rw [e1]; exact o1) (by rw [e3]; exact o2) (fun u hu => o3 u (List.mem_of_mem_take hu))
      have hce : (r.1, x.2.1.take 14, r.2.2) = cutE x := by unfold cutE; rw [e1, e3]
      have hcc : encL cREnt ro ++ cREnt (r.1, (a3, q, c3), r.2.2) = encL cREnt (ro ++ [(r.1, (a3, q, c3), r.2.2)]) := by rw [encL_app]; simp [encL]
      rw [hce, ← hsu, show encL cREnt ro ++ cREnt (r.1, (a3, q, c3), r.2.2) = encL cREnt (ro ++ [(r.1, (a3, q, c3), r.2.2)]) from hcc] at hs
      refine ih (k + 1, ro ++ [(r.1, (a3, q, c3), r.2.2)], m + 1, a4, c4) _ _ ⟨hs.sel [1, 0, 2, 3] (by decide), by dsimp only; omega, by dsimp only; rw [hsu, List.length_append, ← hml]; rfl⟩ (by dsimp only; omega) (by repeat' (first | exact trivial | exact rfl | apply And.intro))
    · rw [if_neg h130] at hsu
      repeat' (first
        | (apply JL_nil)
        | ((apply JL_pure); (first
      | (apply as_load; first | exact OpR_load' hs rfl rfl is_rfl | exact OpR_load_agg' hs rfl is_rfl | exact OpR_load_el (hr.st hs) hrx rfl rfl is_rfl)
      | (apply as_move; exact OpR_move rfl is_rfl)
      | (apply as_assign; exact OpR_assign rfl is_rfl)
      | (apply as_add; exact OpR_addn rfl rfl (by omega) (by first | (simp only [Int.reduceAdd]; exact rfl) | exact rfl) is_rfl)
      | (apply as_binOp; exact OpR_ibin rfl rfl rfl is_rfl)
      | (apply as_indexAddr; exact OpR_indexAddr rfl rfl (by omega) (by omega) is_rfl)); first | (exact rfl; exact rfl) | exact rfl)
        | (apply J_seq)
        | (apply J_region)
        | (apply J_block)
        | (apply J_inBlock)
        | (apply J_skip)
        | (apply al_none (t := 5); refine JL_o (by apply as_alloc; exact OpR_alloc' hs) rfl rfl ?_; rintro _ _ ⟨b5, rfl, hb5, hs, hE⟩)
        | (apply al_unit; refine JL_u (by apply as_store; exact OpR_store' hs rfl rfl rfl) rfl ?_; rintro _ _ ⟨hs, hF⟩)
        | (apply aj_cond; first | refine J_dec_t rfl ob ?_ | refine J_dec_f rfl ob ?_))
      rw [← hsu] at hs hml
      refine ih (k + 1, ro, m, a', c') _ _ ⟨hs.sel [1, 2, 3, 4] (by decide), by dsimp only; omega, hml⟩ (by dsimp only; omega) (by repeat' (first | exact trivial | exact rfl | apply And.intro))
  · have hs : St w NoF w2 [_, _, _, _] := hs1
    rw [List.take_of_length_le (by omega)] at hml hs
    repeat' (first
      | (apply JL_nil)
      | ((apply JL_pure); (first
      | (apply as_load; exact OpR_load_agg' hs rfl is_rfl)
      | (apply as_binOp; exact OpR_ibin rfl rfl rfl is_rfl)); first | (exact rfl; exact rfl) | exact rfl)
      | (apply J_seq)
      | (apply J_region)
      | (apply aj_exit; refine J_exit rfl ?_)
      | (apply al_unit; refine JL_u (by apply as_store; exact OpR_store' hs rfl rfl rfl) rfl ?_; rintro _ _ ⟨hs, hF⟩)
      | (apply aj_cond; refine J_dec_f rfl ob ?_))
    rw [hml] at hs ⊢
    refine J_leave Try.func12 rfl (.agg' hs rfl rfl .nil) ⟨ro, a', c', rfl, hs.out (.cons_cons _ (.cons_cons _ (List.nil_sublist _)))⟩
end Go.Eng
/- Lookups: the law's wakes. -/
namespace Go.Eng
open Go.Proofs
set_option linter.unusedSimpArgs false
set_option linter.unusedVariables false
theorem check_new : checkB (newE 8) = true := by decide
theorem all_new : allM (newE 8) = [] := by decide
theorem place_new (n : Nat) (t : List Int) : placeM (newE n) t = -1 := by
  rcases placeM_cases (newE n) t with h | ⟨q, x, hx, _, h1, _⟩
  · exact h
  · have := List.eq_of_mem_replicate (List.mem_of_getElem? hx)
    rw [this] at h1; exact absurd h1 (by decide)
theorem putE_zero {es : List Ent} {t : List Int} {v : Int} (hc : checkB es = true) (ht : typeB t = true) (hv : 0 ≤ v) (hp : ∀ y ∈ es.filter stands, y.2.1 ≠ t) (hl : (allM es).length ≠ 4000) : putE es t v = 0 := by
  unfold putE
  rw [if_pos hc, if_pos ht, if_neg (by omega)]
  rcases placeM_cases es t with h | ⟨q, x, hx, _, h1, h2⟩
  · rw [h, if_neg (by decide), if_neg hl]
  · exact absurd h2 (hp x (List.mem_filter.2 ⟨List.mem_of_getElem? hx, decide_eq_true h1⟩))
theorem place_mem {es : List Ent} (hc : checkB es = true) {x : Ent} (hx : x ∈ es.filter stands) : ∃ i : Nat, placeM es x.2.1 = (i : Int) ∧ es[i]? = some x := by
  obtain ⟨h1, h2⟩ := List.mem_filter.1 hx
  obtain ⟨i, hi⟩ := List.mem_iff_getElem?.1 h1
  exact ⟨i, ((check_slot hc hi).1 (of_decide_eq_true h2)).2.2, hi⟩
theorem find_mem {es : List Ent} (hc : checkB es = true) {x : Ent} (hx : x ∈ es.filter stands) : findM es x.2.1 = (x.2.2, true) := by
  obtain ⟨i, h1, h2⟩ := place_mem hc hx
  unfold findM
  rw [if_pos hc, h1, if_neg (by omega), Int.toNat_natCast, getD_ent h2]
theorem putE_five {es : List Ent} {t : List Int} {v : Int} (hc : checkB es = true) (ht : typeB t = true) (hv : 0 ≤ v) {x : Ent} (hx : x ∈ es.filter stands) (hxt : x.2.1 = t) : putE es t v = 5 := by
  obtain ⟨i, h1, h2⟩ := place_mem hc hx
  unfold putE
  rw [if_pos hc, if_pos ht, if_neg (by omega), ← hxt, h1, if_pos (by omega)]
theorem slOwn {w0 w : World} {F : Nat → Prop} {L : List HP} {a : Option Addr} {n c : Nat} {rs : List REnt} {es : List Ent} (hs : St w0 F w L) (h1 : TabRow a n c rs ∈ L) (h2 : Own rs es ∈ L) : Sl dEnt All w a n c es := (OwnV.sl (by exact hs.all _ h1) (by exact hs.all _ h2)).weak (fun _ _ => trivial)
theorem tw : typeB [4611686018427387905] = true := by decide
theorem tw0 : typeB [] = true := by decide
abbrev wA : Ent := (1, [4611686018427387905], 5)
abbrev wB : Ent := (1, [], 6)
theorem wake1 {es1 : List Ent} (hc : checkB es1 = true) (hp : (es1.filter stands).Perm (allM (newE 8) ++ [wA])) : allM es1 = [wA] ∧ putE es1 [] 6 = 0 := by
  rw [all_new, List.nil_append] at hp
  have h1 : allM es1 = [wA] := List.perm_singleton.1 ((allM_perm es1).trans hp)
  refine ⟨h1, putE_zero hc tw0 (by decide) (fun y hy => ?_) (by rw [h1]; decide)⟩
  have := hp.mem_iff.1 hy
  rw [List.mem_singleton.1 this]
  decide
theorem wake2 {es1 es2 : List Ent} (h1 : allM es1 = [wA]) (hc : checkB es2 = true) (hp : (es2.filter stands).Perm (allM es1 ++ [wB])) : findM es2 [4611686018427387905] = (5, true) ∧ putE es2 [4611686018427387905] 7 = 5 ∧ (allF es2).length = 2 := by
  rw [h1] at hp
  have hm : wA ∈ es2.filter stands := hp.mem_iff.2 (by simp)
  refine ⟨find_mem hc hm, putE_five hc tw (by decide) hm rfl, ?_⟩
  unfold allF
  rw [if_pos hc, (allM_perm es2).length_eq, hp.length_eq]; rfl
attribute [local irreducible] Hold J JL JD JX JXat OpR OpG Ret RetV Is Blk Row MapC
set_option maxRecDepth 100000
set_option maxHeartbeats 1000000
theorem put_ok (w : World) (a : Option Addr) (n c : Nat) (es : List Ent) (a2 : Option Addr) (n2 c2 : Nat) (t : List Int) (v : Int) (h : Sl dEnt All w a n c es) (hn : n ≤ 1048576) (h2 : Sl (tInt .u64) All w a2 n2 c2 t) (hv : inK .i64 v) (hp : putE es t v = 0) :
    Ret Try.prog 28 #[.agg #[.slice a n c], .slice a2 n2 c2, .int .i64 v] w fun u w' => ∃ (es' : List Ent) (rs' : List REnt) (a' : Option Addr), (checkB es' = true ∧ (es'.filter stands).Perm (allM es ++ [(1, t, v)]) ∧ es'.length ≤ 1048576) ∧ u = .tuple #[.agg #[.slice a' es'.length es'.length], .int .i64 0] ∧ Fresh w w' [TabRow a' es'.length es'.length rs', Own rs' es'] :=
  (put_r w a n c es a2 n2 c2 t v h hn h2 hv).mono fun u w' hh => by
    rcases hh with ⟨h1, _⟩ | ⟨_, h2⟩
    · exact absurd hp h1
    · exact h2
theorem put_bad (w : World) (a : Option Addr) (n c : Nat) (es : List Ent) (a2 : Option Addr) (n2 c2 : Nat) (t : List Int) (v : Int) (h : Sl dEnt All w a n c es) (hn : n ≤ 1048576) (h2 : Sl (tInt .u64) All w a2 n2 c2 t) (hv : inK .i64 v) (hp : putE es t v ≠ 0) :
    Ret Try.prog 28 #[.agg #[.slice a n c], .slice a2 n2 c2, .int .i64 v] w fun u w' => u = .tuple #[.agg #[.slice none 0 0], .int .i64 (putE es t v)] ∧ Ext w w' :=
  (put_r w a n c es a2 n2 c2 t v h hn h2 hv).mono fun u w' hh => by
    rcases hh with ⟨_, h1⟩ | ⟨h1, _⟩
    · exact h1
    · exact absurd h1 hp
theorem wakes_r (w : World) : Ret Try.prog 11 #[] w fun v w' => v = .bool true ∧ Ext w w' := by
  refine Ret_of (l := []) Try.func11 rfl Try.ntmps11 (by simp) ?_
  have hs := St.init w
  have hA : inK .u64 4611686018427387905 := by unfold inK; decide
  have hT : ∀ v ∈ [(4611686018427387905 : Int)], inK .u64 v := fun v hv => by rw [List.mem_singleton.1 hv]; exact hA
  have hM : [(4611686018427387905 : Int)].length ≤ maxLen := by unfold maxLen; simp
  have hz : ∀ {W : World}, Sl (tInt .u64) All W none 0 0 [] := ⟨Nat.le_refl _, by unfold maxLen; omega, fun _ => rfl, ⟨rfl, fun _ => rfl, fun h => absurd h (Nat.lt_irrefl 0), fun _ _ h _ => (by cases h), fun i x hx => by simp at hx⟩⟩
  have p1 : putE (newE 8) [4611686018427387905] 5 = 0 := putE_zero check_new tw (by decide) (fun y hy => by
    have := (List.mem_filter.1 hy); rw [List.eq_of_mem_replicate this.1] at this; exact absurd this.2 (by decide)) (by rw [all_new]; decide)
  repeat' (first
    | ((apply al_call 55; refine JL_o (by exact OpR_callF en55 rfl (madeR_r _ 4611686018427387904 0 1 (by omega) (by omega) (by omega))) rfl rfl ?_; rintro _ _ ⟨rfl, hE⟩; rw [show (4611686018427387904 + 0 * 4294967296 + 1 : Int) = 4611686018427387905 from rfl]; have hs := hs.ext hE; (try simp only [List.cons_append, List.nil_append] at hs)))
    | ((apply al_none (t := 12); refine JL_o (OpR_callF en21 rfl (new_r _)) rfl rfl ?_; rintro _ _ ⟨a0, rfl, hf⟩; have hs := hs.fresh hf))
    | ((apply al_call 28; refine JL_o (by exact OpR_callF en28 rfl (put_ok _ a0 8 8 (newE 8) (some ⟨b14, 0, none⟩) 1 1 [4611686018427387905] 5 (slOwn (rs := newR 8) hs (by repeat (first | exact List.Mem.head _ | apply List.Mem.tail)) (by repeat (first | exact List.Mem.head _ | apply List.Mem.tail))) (by omega) (sl_blkE [4611686018427387905] (hs.blk (b := b14)) rfl hT hM) (by unfold inK; decide) p1)) rfl rfl ?_; rintro _ _ ⟨es1, rs1, a1, ⟨hc1, hp1, hb1⟩, rfl, hf⟩; have hs := hs.fresh hf; obtain ⟨hal1, p2⟩ := wake1 hc1 hp1; (try simp only [List.cons_append, List.nil_append] at hs)))
    | ((apply al_call 28; refine JL_o (by exact OpR_callF en28 rfl (put_ok _ a1 es1.length es1.length es1 none 0 0 [] 6 (slOwn (rs := rs1) hs (by repeat (first | exact List.Mem.head _ | apply List.Mem.tail)) (by repeat (first | exact List.Mem.head _ | apply List.Mem.tail))) hb1 hz (by unfold inK; decide) p2)) rfl rfl ?_; rintro _ _ ⟨es2, rs2, a2, ⟨hc2, hp2, hb2⟩, rfl, hf⟩; have hs := hs.fresh hf; obtain ⟨hfd, p3, hmn⟩ := wake2 hal1 hc2 hp2; have p3' : putE es2 [4611686018427387905] 7 ≠ 0 := by rw [p3]; decide; (try simp only [List.cons_append, List.nil_append] at hs)))
    | ((apply al_call 19; refine JL_o (by exact OpR_callF en19 rfl (find_r _ a2 es2.length es2.length es2 (some ⟨b26, 0, none⟩) 1 1 [4611686018427387905] (slOwn (rs := rs2) hs (by repeat (first | exact List.Mem.head _ | apply List.Mem.tail)) (by repeat (first | exact List.Mem.head _ | apply List.Mem.tail))) hb2 (sl_blkE [4611686018427387905] (hs.blk (b := b26)) rfl hT hM))) rfl rfl ?_; rintro _ _ ⟨rfl, hE⟩; rw [hfd]; have hs := hs.ext hE; (try simp only [List.cons_append, List.nil_append] at hs)))
    | ((apply al_none (t := 34); refine JL_o (OpR_callF en28 rfl (put_bad _ a2 es2.length es2.length es2 (some ⟨b33, 0, none⟩) 1 1 [4611686018427387905] 7 (slOwn (rs := rs2) hs (by repeat (first | exact List.Mem.head _ | apply List.Mem.tail)) (by repeat (first | exact List.Mem.head _ | apply List.Mem.tail))) hb2 (sl_blkE [4611686018427387905] (hs.blk (b := b33)) rfl hT hM) (by unfold inK; decide) p3')) rfl rfl ?_; rintro _ _ ⟨rfl, hE⟩; rw [p3]; have hs := hs.ext hE))
    | ((apply al_callg 18; refine JL_o_on rfl gb (by exact OpR_callF en18 rfl (many_r _ a2 es2.length es2.length es2 (slOwn (rs := rs2) hs (by repeat (first | exact List.Mem.head _ | apply List.Mem.tail)) (by repeat (first | exact List.Mem.head _ | apply List.Mem.tail))) hb2)) rfl rfl ?_; rintro _ _ ⟨rfl, hE⟩; rw [hmn]; have hs := hs.ext hE; (try simp only [List.cons_append, List.nil_append] at hs)))
    | ((apply al_guard; refine JL_o_on (t := 60) rfl gb (OpR_callF en21 rfl (new_r _)) rfl rfl ?_; rintro _ _ ⟨a9, rfl, hf⟩; have hs := hs.fresh hf))
    | (apply JL_nil)
    | ((first | (apply JL_pure) | (apply JL_pure_on; exact rfl; exact gb)); (first
      | (apply as_move; exact OpR_move rfl is_rfl)
      | (apply as_assign; exact OpR_assign rfl is_rfl)
      | (apply as_load; exact OpR_load_agg' hs rfl is_rfl)
      | (apply as_binOp; exact OpR_ibin rfl rfl rfl is_rfl)
      | (apply as_pick; exact OpR_pick_t rfl gb rfl is_rfl)
      | (apply as_b_len; exact OpR_len rfl is_rfl)
      | (apply as_extract; exact OpR_extract rfl rfl is_rfl)
      | (apply as_field; exact OpR_field rfl rfl rfl is_rfl)); first | (exact rfl; exact rfl) | exact rfl)
    | (apply J_seq)
    | (apply J_region)
    | (apply al_none (t := 14); refine JL_o (by apply as_buildSlice; exact OpR_buildSlice hs rfl (by omega) rfl) rfl rfl ?_; rintro _ _ ⟨b14, rfl, hb14, hs, hE⟩)
    | (apply al_none (t := 2); refine JL_o (by apply as_alloc; exact OpR_alloc' hs) rfl rfl ?_; rintro _ _ ⟨b2, rfl, hb2, hs, hE⟩)
    | (apply al_none (t := 4); refine JL_o (by apply as_alloc; exact OpR_alloc' hs) rfl rfl ?_; rintro _ _ ⟨b4, rfl, hb4, hs, hE⟩)
    | (apply al_none (t := 26); refine JL_o (by apply as_buildSlice; exact OpR_buildSlice hs rfl (by omega) rfl) rfl rfl ?_; rintro _ _ ⟨b26, rfl, hb26, hs, hE⟩)
    | (apply al_none (t := 33); refine JL_o (by apply as_buildSlice; exact OpR_buildSlice hs rfl (by omega) rfl) rfl rfl ?_; rintro _ _ ⟨b33, rfl, hb33, hs, hE⟩)
    | (apply al_none (t := 8); refine JL_o (by apply as_alloc; exact OpR_alloc' hs) rfl rfl ?_; rintro _ _ ⟨b8, rfl, hb8, hs, hE⟩)
    | (apply al_unit; refine JL_u (by apply as_store; exact OpR_store' hs rfl rfl rfl) rfl ?_; rintro _ _ ⟨hs, hF⟩))
  refine J_leave Try.func11 rfl (.tmp rfl .nil) ⟨congrArg Value.bool (decide_eq_true rfl), hs.frm.ext⟩
end Go.Eng
/- Lookups: spoiling entries of one's own; finding them. -/
namespace Go.Eng
open Go.Proofs Go.RowKit
set_option linter.unusedSimpArgs false
set_option linter.unusedVariables false
def WildV (rs : List REnt) (w : World) : Prop := ∀ r ∈ rs, ∀ b o, r.2.1.1 = some ⟨b, o, none⟩ → ∃ cs : Array Value, w.heap[b]? = some (.cells cs 41 (0, 0)) ∧ o + r.2.1.2.1 ≤ cs.size ∧ ∀ i, i < r.2.1.2.1 → ∃ x, cs.toList[o + i]? = some (.int .u64 x)
/-- Rows of numbers, whatever they hold. -/
def Wild (rs : List REnt) : HP := ⟨ownF rs, WildV rs, fun w w' h hw r hr b o hb => by
  obtain ⟨cs, h1, h2⟩ := hw r hr b o hb
  exact ⟨cs, (h b ⟨r, hr, by rw [hb]; rfl⟩).trans h1, h2⟩⟩
theorem OwnV.wild {w : World} {rs : List REnt} {es : List Ent} (h : OwnV w rs es) : WildV rs w := by
  intro r hr b o hb
  obtain ⟨i, hi⟩ := List.mem_iff_getElem?.1 hr
  have hl := h.1
  have hlt := (List.getElem?_eq_some_iff.1 hi).1
  obtain ⟨⟨_, _, h3, _, _⟩, h4, _⟩ := h.2 i r _ hi (List.getElem?_eq_getElem (by omega))
  rw [hb] at h4
  obtain ⟨q1, q2, q3, q4⟩ := h4
  rcases q4 with ⟨hn, _⟩ | ⟨g, o', cur, hg, h5, h6, h7⟩
  · cases hn
  · cases hg
    refine ⟨cur, h5, by omega, fun j hj => ?_⟩
    rw [h3] at hj
    have h8 : ((cur.toList.drop o).take (es[i].2.1.length * 1))[j]? = (u64s' es[i].2.1)[j]? := by rw [h7]
    rw [List.getElem?_take, if_pos (by omega), List.getElem?_drop] at h8
    rw [h8]
    refine ⟨es[i].2.1[j], ?_⟩
    rw [List.getElem?_map, List.getElem?_eq_getElem hj]; rfl
theorem St.toWild {w0 w : World} {F : Nat → Prop} {L : List HP} {rs : List REnt} {es : List Ent} (h : St w0 F w (Own rs es :: L)) : St w0 F w (Wild rs :: L) := h.conv (fun _ hk => hk) (fun hh => OwnV.wild hh)
theorem St.wildCell {w0 w : World} {F : Nat → Prop} {L : List HP} {rs : List REnt} (h : St w0 F w (Wild rs :: L)) {r : REnt} (hr : r ∈ rs) {b o i : Nat} (hb : r.2.1.1 = some ⟨b, o, none⟩) (hi : i < r.2.1.2.1) : ∃ x, w.cell? ⟨b, o + i, none⟩ = some (.int .u64 x) := by
  have hw : WildV rs w := h.all _ (.head _)
  obtain ⟨cs, h1, h2, h3⟩ := hw r hr b o hb
  obtain ⟨x, hx⟩ := h3 i hi
  exact ⟨x, cell_blk h1 hx⟩
section
variable {P : Program} {env : Env} {w0 w : World} {F : Nat → Prop} {L : List HP} {dst : Option Tmp} {ty : TypeId} {pos : String} {af : Array Edge} {gd : Option (Nat × Bool)}
theorem OpR_storeWild {T b o i : Nat} {x y : Operand} {v : Int} {rs : List REnt} {r : REnt} (hs : St w0 F w (Wild rs :: L)) (hx : ev env x = some (.pointer (some ⟨b, o + i, none⟩))) (hy : ev env y = some (.int .u64 v)) [Z : Sz P T 1] (hr : r ∈ rs) (hb : r.2.1.1 = some ⟨b, o, none⟩) (hi : i < r.2.1.2.1) :
    OpR P env ⟨dst, .store T x y, ty, pos, af, gd⟩ w (fun _ w' => St w0 F w' (Wild rs :: L)) := by
  have hw : WildV rs w := hs.all _ (.head _)
  obtain ⟨cs, h1, h2, h3⟩ := hw r hr b o hb
  have hbl : b < w.heap.size := (Array.getElem?_eq_some_iff.1 h1).1
  haveI : Sz P T (Value.int .u64 v).cells.toList.length := Z
  have hst := run_storeVar_blk (P := P) (T := T) (w := w) (b := b) (off := o + i) (e := 41) (v := .int .u64 v) (cs := cs) h1 (by show o + i + 1 ≤ cs.size; omega) (by simp [Value.oneCell', Value.cells])
  have hvc : (Value.int .u64 v).cells.toList = [.int .u64 v] := rfl
  rw [hvc] at hst
  refine .unit (w' := { w with heap := w.heap.setIfInBounds b (.cells (splice cs.toList (o + i) [.int .u64 v]).toArray 41 (0, 0)) }) (fun _ hm => ?_) ?_
  · simp only [execOp, hm.eval hx, hm.eval hy, Instr.storeAt, Instr.sureAddr, Sem.run_bind, Sem.run_pure, Result.andThen_ok, hst]
  · refine hs.turn (.head (Wild rs) (Wild rs) L) (?_ : Frm (ownF rs) w _) ?_ (fun k hk => ?_)
    · refine { (frm_set (b := b) (o' := .cells (splice cs.toList (o + i) [.int .u64 v]).toArray 41 (0, 0)) w) with old := fun k hk hf => ?_ }
      exact (frm_set w).old k hk (fun h => hf ⟨r, hr, by have h : k = b := h; rw [hb, h]; rfl⟩)
    · intro r2 hr2 b2 o2 hb2
      obtain ⟨cs2, g1, g2, g3⟩ := hw r2 hr2 b2 o2 hb2
      by_cases hbb : b2 = b
      · subst hbb
        rw [h1] at g1
        cases g1
        refine ⟨_, by simp [hbl]; rfl, ?_, fun j hj => ?_⟩
        · simp only [List.size_toArray]
          rw [splice_length (by simp; omega)]; simpa using g2
        · obtain ⟨u, hu⟩ := g3 j hj
          have hlt : o2 + j < cs.toList.length := (List.getElem?_eq_some_iff.1 hu).1
          show ∃ x, (splice cs.toList (o + i) [.int .u64 v])[o2 + j]? = some (.int .u64 x)
          rw [splice_one _ _ _ (by simp; omega), List.getElem?_set]
          by_cases c : o + i = o2 + j
          · rw [if_pos c, if_pos (by simp at hlt ⊢; omega)]; exact ⟨v, rfl⟩
          · rw [if_neg c]; exact ⟨u, hu⟩
      · refine ⟨cs2, ?_, g2, g3⟩
        simp only
        rw [Array.getElem?_setIfInBounds_ne (fun h => hbb h.symm)]; exact g1
    · have := hs.foot _ (.head _) k hk
      refine ⟨?_, .inl hk⟩
      simpa using this.1
end
theorem find_all (es : List Ent) (t : List Int) : findM es t = (max (find7M (allF es) t) 0, decide (0 ≤ find7M (allF es) t)) := by
  unfold allF
  by_cases hc : checkB es = true
  · rw [if_pos hc]
    cases hf : (allM es).find? (fun x => decide (x.2.1 = t)) with
    | none =>
      have hv : find7M (allM es) t = -1 := by unfold find7M; rw [hf]
      rw [hv]
      have hp : placeM es t = -1 := by
        rcases placeM_cases es t with h | ⟨q, x, hx, _, h1, h2⟩
        · exact h
        · have hm := (allM_perm es).mem_iff.2 (List.mem_filter.2 ⟨List.mem_of_getElem? hx, decide_eq_true h1⟩)
          have := List.find?_eq_none.1 hf x hm
          exact absurd (decide_eq_true h2) this
      unfold findM
      rw [if_pos hc, hp, if_pos (by decide)]; rfl
    | some x =>
      have hv : find7M (allM es) t = x.2.2 := by unfold find7M; rw [hf]
      rw [hv]
      have hxm := (allM_perm es).mem_iff.1 (List.mem_of_find?_eq_some hf)
      have hxt : x.2.1 = t := by have := List.find?_some hf; simpa using this
      have h0 := ((check_mem hc (List.mem_filter.1 hxm).1).1 (of_decide_eq_true (List.mem_filter.1 hxm).2)).2
      rw [← hxt, find_mem hc hxm, decide_eq_true h0, Int.max_eq_left h0]
  · rw [if_neg hc]
    unfold findM
    rw [if_neg hc]; rfl
theorem sl7 {w0 w : World} {F : Nat → Prop} {L : List HP} {a : Option Addr} {n c : Nat} {rs : List REnt} {es xs : List Ent} {zs : List ZE} (hs : St w0 F w L) (h1 : TabRow a n c (zs.map Prod.fst) ∈ L) (h2 : Own rs es ∈ L) (hz : ∀ p ∈ zs, p ∈ rs.zip es) (hx : zs.map Prod.snd = xs) : Sl dEnt All w a n c xs := by
  have ho : OwnV w rs es := hs.all _ h2
  have h1 : RowV w a n c 39 3 (encL cREnt (zs.map Prod.fst)) := hs.all _ h1
  rw [← hx]
  exact Sl.unraw (D := rawEnt) (rowSl h1 (zip_ok hz ho.ok)) ((zipRel ho.mean hz).weak (fun _ _ => trivial))
end Go.Eng
