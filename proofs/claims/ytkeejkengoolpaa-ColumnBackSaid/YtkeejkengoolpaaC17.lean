/- Column: rows in order: slices.Sorted's family. -/
import Derived.Test.YtkeejkengoolpaaC16
import Derived.Test.YtkeejkengoolpaaE19
import Derived.Ground.SlsfProg
import Derived.Shelf.SlLaysF
namespace Go.Proofs
def Try.sort52_ren : Go.Shelf.Ren := ⟨fun | 6 => 52 | 15 => 57 | 14 => 56 | 28 => 67 | 29 => 68 | 20 => 59 | 21 => 60 | 22 => 61 | 23 => 62 | 24 => 63 | 25 => 64 | 26 => 65 | 27 => 66 | 46 => 69 | 47 => 70 | 48 => 71 | 49 => 72 | 50 => 73 | 57 => 74 | n => n, fun | 22 => 26 | 24 => 31 | 25 => 77 | 3 => 3 | 39 => 87 | 0 => 0 | 53 => 98 | 55 => 41 | 4 => 4 | 46 => 91 | 45 => 90 | 50 => 95 | 5 => 5 | 9 => 9 | 66 => 100 | 70 => 104 | 76 => 106 | 77 => 107 | n => n, fun | n => n⟩
theorem Try.sort52 : Go.Proofs.SlLaysF.n6 Try.prog Try.sort52_ren := ⟨
by kernel_rfl,
⟨Try.f52.name, by decide, Try.func52.trans (congrArg some (by kernel_rfl))⟩,
⟨Try.f56.name, by decide, Try.func56.trans (congrArg some (by kernel_rfl))⟩,
Try.func57.trans (congrArg some (by kernel_rfl)),
⟨Try.f59.name, by decide, Try.func59.trans (congrArg some (by kernel_rfl))⟩,
⟨Try.f60.name, by decide, Try.func60.trans (congrArg some (by kernel_rfl))⟩,
⟨Try.f61.name, by decide, Try.func61.trans (congrArg some (by kernel_rfl))⟩,
⟨Try.f62.name, by decide, Try.func62.trans (congrArg some (by kernel_rfl))⟩,
⟨Try.f63.name, by decide, Try.func63.trans (congrArg some (by kernel_rfl))⟩,
⟨Try.f64.name, by decide, Try.func64.trans (congrArg some (by kernel_rfl))⟩,
⟨Try.f65.name, by decide, Try.func65.trans (congrArg some (by kernel_rfl))⟩,
⟨Try.f66.name, by decide, Try.func66.trans (congrArg some (by kernel_rfl))⟩,
Try.func67.trans (congrArg some (by kernel_rfl)),
Try.func68.trans (congrArg some (by kernel_rfl)),
⟨Try.f69.name, by decide, Try.func69.trans (congrArg some (by kernel_rfl))⟩,
Try.func70.trans (congrArg some (by kernel_rfl)),
Try.func71.trans (congrArg some (by kernel_rfl)),
⟨Try.f72.name, by decide, Try.func72.trans (congrArg some (by kernel_rfl))⟩,
⟨Try.f73.name, by decide, Try.func73.trans (congrArg some (by kernel_rfl))⟩,
⟨Try.f74.name, by decide, Try.func74.trans (congrArg some (by kernel_rfl))⟩,
Try.underlying0,
Try.isAgg0,
Try.sizeOf0,
Try.zeroValue0,
Try.underlying3,
Try.isAgg3,
Try.sizeOf3,
Try.zeroValue3,
Try.underlying4,
Try.isAgg4,
Try.sizeOf4,
Try.zeroValue4,
Try.underlying5,
Try.isAgg5,
Try.sizeOf5,
Try.zeroValue5,
Try.underlying9,
Try.isAgg9,
Try.sizeOf9,
Try.zeroValue9,
Try.underlying26,
Try.isAgg26,
Try.sizeOf26,
Try.zeroValue26,
Try.isAgg31,
Try.sizeOf31,
Try.underlying77,
Try.isAgg77,
Try.sizeOf77,
Try.zeroValue77,
Try.underlying87,
Try.isAgg87,
Try.sizeOf87,
Try.zeroValue87,
Try.underlying90,
Try.isAgg90,
Try.sizeOf90,
Try.zeroValue90,
Try.underlying91,
Try.isAgg91,
Try.sizeOf91,
Try.zeroValue91,
Try.underlying95,
Try.isAgg95,
Try.sizeOf95,
Try.zeroValue95,
Try.underlying98,
Try.isAgg98,
Try.sizeOf98,
Try.zeroValue98,
Try.underlying41,
Try.isAgg41,
Try.sizeOf41,
Try.zeroValue41,
Try.underlying100,
Try.isAgg100,
Try.sizeOf100,
Try.zeroValue100,
Try.underlying104,
Try.isAgg104,
Try.sizeOf104,
Try.zeroValue104,
Try.underlying106,
Try.isAgg106,
Try.sizeOf106,
Try.zeroValue106,
Try.underlying107,
Try.isAgg107,
Try.sizeOf107,
Try.zeroValue107⟩

end Go.Proofs
namespace Go.Eng
open Go.Proofs
abbrev D64 : Ty (List Int) := tSl (tInt .u64)
/-- A value, and what it reads as. -/
abbrev VL (R : Nat → Prop) (w : World) : Type := {p : Value × List Int // D64.rep R w [p.1] p.2}
theorem rep_nil64 (R : Nat → Prop) (w : World) : D64.rep R w [.slice none 0 0] [] :=
  ⟨none, 0, 0, rfl, Nat.le_refl _, by unfold maxLen; omega, fun _ => rfl, ⟨rfl, fun _ => rfl, fun h => by omega, fun _ _ h _ => by (cases h), fun i x hx => by simp at hx⟩⟩
instance (R : Nat → Prop) (w : World) : Inhabited (VL R w) := ⟨⟨(.slice none 0 0, []), rep_nil64 R w⟩⟩
theorem rep_wr {R : Nat → Prop} {w : World} {v : Value} {xs : List Int} (h : D64.rep R w [v] xs) : ∃ a n c, v = .slice a n c ∧ WR w a n c xs := by
  obtain ⟨a, n, c, he, h1, h2, h3, s⟩ := h
  cases he
  exact ⟨a, n, c, rfl, h1, h2, h3, s.all⟩
theorem DatsV.zip {R : Nat → Prop} {w : World} {cells : List Value} {xss : List (List Int)} (h : DatsV R D64 w cells xss) : ∀ p ∈ cells.zip xss, D64.rep R w [p.1] p.2 := by
  intro p hp
  obtain ⟨i, hi⟩ := List.mem_iff_getElem?.1 hp
  rw [List.getElem?_zip_eq_some] at hi
  exact h.2 i _ _ hi.1 hi.2
theorem DatsV.of_perm {R : Nat → Prop} {w : World} {cells : List Value} {xss : List (List Int)} (h : DatsV R D64 w cells xss) {zs : List (Value × List Int)} (hz : zs.Perm (cells.zip xss)) : DatsV R D64 w (zs.map Prod.fst) (zs.map Prod.snd) := by
  refine ⟨by simp, fun i c x hc hx => ?_⟩
  rw [List.getElem?_map] at hc hx
  obtain ⟨p, hp, rfl⟩ := Option.map_eq_some_iff.1 hc
  rw [hp] at hx
  cases hx
  exact h.zip p (hz.mem_iff.1 (List.mem_of_getElem? hp))
/-- What is read is there. -/
theorem DatsV.old {R : Nat → Prop} {w : World} {cells : List Value} {xss : List (List Int)} (h : DatsV R D64 w cells xss) : DatsV (fun k => k < w.heap.size) D64 w cells xss :=
  ⟨h.1, fun i c x hc hx => by
    obtain ⟨a, n, c', he, h1, h2, h3, s⟩ := h.2 i c x hc hx
    exact D64.weak ⟨a, n, c', he, h1, h2, h3, s.foot⟩ (fun k hk => s.below k hk)⟩
theorem Src.below {w : World} {a : Option Addr} {n : Nat} {xs : List Value} (h : Src w a n 1 xs) (hp : 0 < n → PlainA a) : ∀ j, afoot a j ∧ 0 < n → j < w.heap.size := by
  rintro j ⟨hj, hn⟩
  obtain ⟨h1, h2, _, h4⟩ := h
  cases a with
  | none => have := h2 rfl; omega
  | some ad =>
    have hsp := hp hn ad rfl
    obtain ⟨b, o, s⟩ := ad
    cases hsp
    have hb := World.block_lt_of_cell? w _ (h4 b o rfl 0 xs[0] (List.getElem?_eq_getElem (by omega)))
    simp only [afoot, Option.map_some, Option.some.injEq] at hj
    subst hj; exact hb
/-- What a value brings along: nothing. -/
def cellX (cells : List Value) (i : Nat) (vals : List Value) (cx : List HP) : Prop := ∃ u, cells[i]? = some u ∧ vals = [u] ∧ cx = []
theorem sort52_r (w : World) (a : Option Addr) (n c e : Nat) (cells : List Value) (xss : List (List Int)) (R : Nat → Prop) (hr : Held w [Row a n c e 1 cells]) (hd : DatsV R D64 w cells xss) (hsep : ∀ k, R k → ¬ afoot a k) (hn : n ≤ 4000000000) :
    Ret Try.prog 52 #[.slice a n c, .func (.func 47) #[] #[]] w fun _ w' => ∃ zs : List (Value × List Int), zs.Perm (cells.zip xss) ∧ (zs.map Prod.snd).Pairwise (fun x y => 0 ≤ cmpL y x) ∧ Turn w [Row a n c e 1 cells] w' [Row a n c e 1 (zs.map Prod.fst)] := by
  obtain ⟨xs, hxs⟩ : ∃ xs : List (VL R w), xs = (cells.zip xss).pmap (fun p h => ⟨p, h⟩) hd.zip := ⟨_, rfl⟩
  have e1 : xs.map Subtype.val = cells.zip xss := by rw [hxs, List.map_pmap]; simp
  have e2 : xs.map (fun p => p.1.1) = cells := by
    have : xs.map (fun p => p.1.1) = (xs.map Subtype.val).map Prod.fst := by simp
    rw [this, e1, List.map_fst_zip (by rw [hd.1]; exact Nat.le_refl _)]
  have hr' : Held w [Row a n c e 1 (xs.map fun p => p.1.1)] := by rw [e2]; exact hr
  have h := sort1 (P := Try.prog) (ρ := Try.sort52_ren) (enc := fun p : VL R w => p.1.1) Try.sort52 (fun p => by obtain ⟨a, n, c, he, _⟩ := rep_wr p.2; rw [he]; rfl) (fun x y => cmpL x.1.2 y.1.2) (cmpL_swo _) (g := 47) en47 #[] hr' hn (fun W hW x y => by
    have h1 := D64.loc x.2 (fun k hk hlt => hW.old k hlt (hsep k hk))
    have h2 := D64.loc y.2 (fun k hk hlt => hW.old k hlt (hsep k hk))
    obtain ⟨ax, nx, cx, hx, wx⟩ := rep_wr h1
    obtain ⟨ay, ny, cy, hy, wy⟩ := rep_wr h2
    show Ret Try.prog 47 (#[x.1.1, y.1.1] ++ #[]) W _
    rw [hx, hy]
    exact compareL_r W ax ay nx cx ny cy _ _ wx wy)
  refine h.mono fun v w' ⟨ys, hp, hs, ht⟩ => ⟨ys.map Subtype.val, ?_, ?_, ?_⟩
  · rw [← e1]; exact hp.map _
  · rw [List.map_map, List.pairwise_map]; exact hs
  · rw [e2] at ht
    rw [List.map_map]; exact ht
theorem row_foot {a : Option Addr} {n c e sz : Nat} {xs : List Value} {k : Nat} (h : afoot a k) : (Row a n c e sz xs).foot k := h
attribute [local irreducible] J JL JD JX JXat OpR OpG Ret RetV Is Blk Row
set_option maxRecDepth 100000
set_option maxHeartbeats 1000000
set_option linter.unusedSimpArgs false
set_option linter.unusedVariables false
theorem valuesIt_ok (wr : World) (b : Nat) (a : Option Addr) (n c e : Nat) (cells : List Value) (hsrc : Src wr a n 1 cells) (hpl : 0 < n → PlainA a) (hn : n ≤ 4000000000) (hsl : ∀ u ∈ cells, ∃ a n c, u = .slice a n c) (hb : wr.heap[b]? = some (.cells #[.slice a n c] e (0, 0))) :
    IterV Try.prog (.func (.func 53) #[] #[ptr b]) n (cellX cells) wr (fun k => k = b ∨ (afoot a k ∧ 0 < n)) := by
  intro y C Cs w c0 hy hK h0 hheld
  refine RetV.closure (avs := [_]) (cap := [_]) en53 ?_
  refine Ret_of (l := [_, _]) Try.func53 rfl Try.ntmps53 (by simp) ?_
  have hs := hheld.st
  have hl : cells.length = n := by simpa using hsrc.1
  have hbw : w.heap[b]? = some (.cells #[.slice a n c] e (0, 0)) := (hK b (.inl rfl)).1.trans hb
  have hbF : ¬ (Star c0).foot b := (hK b (.inl rfl)).2
  repeat' (first
    | (apply JL_nil)
    | ((first | (apply JL_pure)); (first
      | (apply as_load; exact OpR_load_cell (hs.keep_cell (cell_blk (off := 0) hbw rfl) hbF) rfl is_rfl)
      | (apply as_move; first | exact OpR_move rfl is_rfl)
      | (apply as_assign; first | exact OpR_assign rfl is_rfl)
      | (apply as_load; first | exact OpR_load' hs rfl rfl is_rfl | exact OpR_load_agg' hs rfl is_rfl)
      | (apply as_add; first | exact OpR_addn rfl rfl (by omega) (by first | (simp only [Int.reduceAdd]; exact rfl) | exact rfl) is_rfl | exact OpR_ibin rfl rfl rfl is_rfl)
      | (apply as_binOp; first | exact OpR_ibin rfl rfl rfl is_rfl | exact OpR_beq rfl rfl is_rfl | exact OpR_bne rfl rfl is_rfl | exact OpR_eqNil rfl rfl is_rfl | exact OpR_neNil rfl rfl is_rfl)
      | (apply as_unOp; first | exact OpR_not rfl is_rfl)
      | (apply as_b_len; first | exact OpR_len rfl is_rfl | exact OpR_len_str rfl is_rfl | exact OpR_len_arr rfl is_rfl)
      | (apply as_indexAddr; first | exact OpR_indexAddr rfl rfl (by omega) (by omega) is_rfl | exact OpR_indexAddr_arr' rfl rfl (by omega) (by omega) (by first | (simp only [Int.reduceToNat, Nat.reduceMul, Nat.reduceAdd]; exact rfl) | exact rfl) is_rfl)); first | (exact rfl; exact rfl) | exact rfl)
    | (apply J_seq)
    | (apply J_region)
    | (apply J_block)
    | (apply J_inBlock)
    | (apply aj_exit; refine J_exit rfl ?_)
    | (apply J_skip)
    | (apply aj_cond; first | refine J_dec_t rfl (by first | assumption | omega) ?_ | refine J_dec_f rfl (by first | assumption | omega) ?_ | refine J_cond_t rfl (by first | assumption | rfl | exact decide_eq_true (by first | assumption | omega) | exact decide_eq_false (by first | assumption | omega)) ?_ | refine J_cond_f rfl (by first | assumption | rfl | exact decide_eq_true (by first | assumption | omega) | exact decide_eq_false (by first | assumption | omega)) ?_ | (refine J_cond_dec rfl (fun _ => ?_) (fun _ => ?_)) | (refine J_cond rfl (fun _ => ?_) (fun _ => ?_))))
  refine J_loopK (α := Nat × List HP) [(0, _), (5, _), (6, _)] (fun g => [(7, .int .i64 g.1)]) (fun g w' => St w (Star c0).foot w' g.2 ∧ C g.1 g.2 ∧ g.1 ≤ n) (fun g => n - g.1) (0, c0) ⟨hs, h0, by omega⟩ (by repeat' (first | exact trivial | exact rfl | apply And.intro)) ?_
  rintro ⟨k, ck⟩ w' ⟨hs, hC, hk⟩ ih
  dsimp only at hs hC hk ih ⊢
  by_cases hlt : k < n
  · have hu : cells[k]? = some cells[k] := List.getElem?_eq_getElem (by omega)
    obtain ⟨p1, o1, rfl⟩ : ∃ p1 o1, a = some ⟨p1, o1, none⟩ := by
      cases a with
      | none => have := hsrc.2.1 rfl; omega
      | some ad => obtain ⟨p1, o1, s⟩ := ad; cases hpl (by omega) _ rfl; exact ⟨p1, o1, rfl⟩
    obtain ⟨ua, un, uc, hue⟩ := hsl _ (List.mem_of_getElem? hu)
    rw [hue] at hu
    have hcell := hsrc.2.2.2 p1 o1 rfl k _ hu
    have hKp := hK p1 (.inr ⟨rfl, by omega⟩)
    have hcw : w.cell? ⟨p1, o1 + (k : Int).toNat * 1, none⟩ = some (.slice ua un uc) := by
      rw [Int.toNat_natCast, Nat.mul_one]; exact (World.cell?_of_block hKp.1).trans hcell
    repeat' (first
      | ((apply al_none; have hs2 : St w (Star c0).foot _ ((ck ++ []) ++ []) := (by simpa using hs); refine JL_o (OpR_callV rfl rfl (hy k _ [_] _ ck hlt hC ⟨_, hu, rfl, rfl⟩ hs2.held hs2.frm)) rfl rfl ?_; rintro _ _ ⟨c', ⟨rfl, hC'⟩ | ⟨rfl, hC'⟩, ht⟩ <;> have hs : St w (Star c0).foot _ c' := (hs2.take ht).sub (List.sublist_append_left _ _)))
      | (apply JL_nil)
      | ((first | (apply JL_pure)); (first
      | (apply as_load; exact OpR_load_cell (hs.keep_cell hcw hKp.2) rfl is_rfl)
      | (apply as_move; first | exact OpR_move rfl is_rfl)
      | (apply as_assign; first | exact OpR_assign rfl is_rfl)
      | (apply as_load; first | exact OpR_load' hs rfl rfl is_rfl | exact OpR_load_agg' hs rfl is_rfl)
      | (apply as_add; first | exact OpR_addn rfl rfl (by omega) (by first | (simp only [Int.reduceAdd]; exact rfl) | exact rfl) is_rfl | exact OpR_ibin rfl rfl rfl is_rfl)
      | (apply as_binOp; first | exact OpR_ibin rfl rfl rfl is_rfl | exact OpR_beq rfl rfl is_rfl | exact OpR_bne rfl rfl is_rfl | exact OpR_eqNil rfl rfl is_rfl | exact OpR_neNil rfl rfl is_rfl)
      | (apply as_unOp; first | exact OpR_not rfl is_rfl)
      | (apply as_b_len; first | exact OpR_len rfl is_rfl | exact OpR_len_str rfl is_rfl | exact OpR_len_arr rfl is_rfl)
      | (apply as_indexAddr; first | exact OpR_indexAddr rfl rfl (by omega) (by omega) is_rfl | exact OpR_indexAddr_arr' rfl rfl (by omega) (by omega) (by first | (simp only [Int.reduceToNat, Nat.reduceMul, Nat.reduceAdd]; exact rfl) | exact rfl) is_rfl)); first | (exact rfl; exact rfl) | exact rfl)
      | (apply J_seq)
      | (apply J_region)
      | (apply J_block)
      | (apply J_inBlock)
      | (apply aj_exit; refine J_exit rfl ?_)
      | (apply J_skip)
      | (apply aj_cond; first | refine J_dec_t rfl (by first | assumption | omega) ?_ | refine J_dec_f rfl (by first | assumption | omega) ?_ | refine J_cond_t rfl (by first | assumption | rfl | exact decide_eq_true (by first | assumption | omega) | exact decide_eq_false (by first | assumption | omega)) ?_ | refine J_cond_f rfl (by first | assumption | rfl | exact decide_eq_true (by first | assumption | omega) | exact decide_eq_false (by first | assumption | omega)) ?_ | (refine J_cond_dec rfl (fun _ => ?_) (fun _ => ?_)) | (refine J_cond rfl (fun _ => ?_) (fun _ => ?_))))
    · refine ih (k + 1, c') _ _ ⟨hs, hC', by dsimp only; omega⟩ (by dsimp only; omega) (by repeat' (first | exact trivial | exact rfl | apply And.intro))
    · refine J_leave Try.func53 rfl .nil ⟨c', .inr hC', St.turned (M := []) (by simpa using hs)⟩
  · have hkR : k = n := by omega
    subst hkR
    repeat' (first
      | (apply JL_nil)
      | ((first | (apply JL_pure)); (first
      | (apply as_move; first | exact OpR_move rfl is_rfl)
      | (apply as_assign; first | exact OpR_assign rfl is_rfl)
      | (apply as_load; first | exact OpR_load' hs rfl rfl is_rfl | exact OpR_load_agg' hs rfl is_rfl)
      | (apply as_add; first | exact OpR_addn rfl rfl (by omega) (by first | (simp only [Int.reduceAdd]; exact rfl) | exact rfl) is_rfl | exact OpR_ibin rfl rfl rfl is_rfl)
      | (apply as_binOp; first | exact OpR_ibin rfl rfl rfl is_rfl | exact OpR_beq rfl rfl is_rfl | exact OpR_bne rfl rfl is_rfl | exact OpR_eqNil rfl rfl is_rfl | exact OpR_neNil rfl rfl is_rfl)
      | (apply as_unOp; first | exact OpR_not rfl is_rfl)
      | (apply as_b_len; first | exact OpR_len rfl is_rfl | exact OpR_len_str rfl is_rfl | exact OpR_len_arr rfl is_rfl)
      | (apply as_indexAddr; first | exact OpR_indexAddr rfl rfl (by omega) (by omega) is_rfl | exact OpR_indexAddr_arr' rfl rfl (by omega) (by omega) (by first | (simp only [Int.reduceToNat, Nat.reduceMul, Nat.reduceAdd]; exact rfl) | exact rfl) is_rfl)); first | (exact rfl; exact rfl) | exact rfl)
      | (apply J_seq)
      | (apply J_region)
      | (apply J_block)
      | (apply J_inBlock)
      | (apply aj_exit; refine J_exit rfl ?_)
      | (apply J_skip)
      | (apply aj_cond; first | refine J_dec_t rfl (by first | assumption | omega) ?_ | refine J_dec_f rfl (by first | assumption | omega) ?_ | refine J_cond_t rfl (by first | assumption | rfl | exact decide_eq_true (by first | assumption | omega) | exact decide_eq_false (by first | assumption | omega)) ?_ | refine J_cond_f rfl (by first | assumption | rfl | exact decide_eq_true (by first | assumption | omega) | exact decide_eq_false (by first | assumption | omega)) ?_ | (refine J_cond_dec rfl (fun _ => ?_) (fun _ => ?_)) | (refine J_cond rfl (fun _ => ?_) (fun _ => ?_))))
    refine J_leave_end Try.func53 rfl .nil ⟨ck, .inl hC, St.turned (M := []) (by simpa using hs)⟩
theorem values_it (w : World) (a : Option Addr) (n c : Nat) :
    Ret Try.prog 46 #[.slice a n c] w fun v w' => ∃ b, v = .func (.func 53) #[] #[ptr b] ∧ Fresh w w' [Blk b (.cells #[.slice a n c] 26 (0, 0))] := by
  refine Ret_of (l := [_]) Try.func46 rfl Try.ntmps46 (by simp) ?_
  have hs := St.init w
  repeat' (first
    | (apply JL_nil)
    | ((first | (apply JL_pure)); (first
      | (apply as_assign; first | exact OpR_assign rfl is_rfl)
      | (apply as_makeFunc; first | exact OpR_func rfl is_rfl)); first | (exact rfl; exact rfl) | exact rfl)
    | (apply J_seq)
    | (apply J_region)
    | (apply al_none (t := 1); refine JL_o (by apply as_box; exact OpR_box' hs rfl) rfl rfl ?_; rintro _ _ ⟨b1, rfl, hb1, hs, hE⟩)
    | (apply aj_cond; first | refine J_dec_t rfl (by first | assumption | omega) ?_ | refine J_dec_f rfl (by first | assumption | omega) ?_ | refine J_cond_t rfl (by first | assumption | rfl | exact decide_eq_true (by first | assumption | omega) | exact decide_eq_false (by first | assumption | omega)) ?_ | refine J_cond_f rfl (by first | assumption | rfl | exact decide_eq_true (by first | assumption | omega) | exact decide_eq_false (by first | assumption | omega)) ?_ | (refine J_cond_dec rfl (fun _ => ?_) (fun _ => ?_)) | (refine J_cond rfl (fun _ => ?_) (fun _ => ?_))))
  refine J_leave Try.func46 rfl (.tmp rfl .nil) ⟨b1, rfl, hs.out (List.Sublist.refl _)⟩
theorem appendSeq_r (w : World) (b : Nat) (a : Option Addr) (n c e : Nat) (cells : List Value) (hsrc : Src w a n 1 cells) (hpl : 0 < n → PlainA a) (hn : n ≤ 4000000000) (hsl : ∀ u ∈ cells, ∃ a n c, u = .slice a n c) (hb : w.heap[b]? = some (.cells #[.slice a n c] e (0, 0))) :
    Ret Try.prog 55 #[.slice none 0 0, .func (.func 53) #[] #[ptr b]] w fun v w' => ∃ a' c', v = .slice a' n c' ∧ Fresh w w' [Row a' n c' 31 1 cells] := by
  refine Ret_of (l := [_, _]) Try.func55 rfl Try.ntmps55 (by simp) ?_
  have hs := St.init w
  have hl : cells.length = n := by simpa using hsrc.1
  have hbl := (Array.getElem?_eq_some_iff.1 hb).1
  repeat' (first
    | (apply JL_nil)
    | ((first | (apply JL_pure)); (first
      | (apply as_move; first | exact OpR_move rfl is_rfl)
      | (apply as_assign; first | exact OpR_assign rfl is_rfl)
      | (apply as_load; first | exact OpR_load' hs rfl rfl is_rfl | exact OpR_load_agg' hs rfl is_rfl)); first | (exact rfl; exact rfl) | exact rfl)
    | (apply J_seq)
    | (apply J_region)
    | (apply J_block)
    | (apply J_inBlock)
    | (apply al_none (t := 2); refine JL_o (by apply as_box; exact OpR_box' hs rfl) rfl rfl ?_; rintro _ _ ⟨b2, rfl, hb2, hs, hE⟩)
    | (apply al_none (t := 10); refine JL_o (by apply as_buildSlice; exact OpR_buildSlice hs rfl (by omega) rfl) rfl rfl ?_; rintro _ _ ⟨b10, rfl, hb10, hs, hE⟩)
    | (apply al_unit; refine JL_u (by apply as_store; exact OpR_store' hs rfl rfl rfl) rfl ?_; rintro _ _ ⟨hs, hF⟩)
    | (apply aj_cond; first | refine J_dec_t rfl (by first | assumption | omega) ?_ | refine J_dec_f rfl (by first | assumption | omega) ?_ | refine J_cond_t rfl (by first | assumption | rfl | exact decide_eq_true (by first | assumption | omega) | exact decide_eq_false (by first | assumption | omega)) ?_ | refine J_cond_f rfl (by first | assumption | rfl | exact decide_eq_true (by first | assumption | omega) | exact decide_eq_false (by first | assumption | omega)) ?_ | (refine J_cond_dec rfl (fun _ => ?_) (fun _ => ?_)) | (refine J_cond rfl (fun _ => ?_) (fun _ => ?_))))
  have hs : St w NoF _ [Blk b2 (.cells #[.slice none 0 0] 26 (0, 0)), Row none 0 0 31 1 []] := (hs.nilRow 31 1).sel [1, 0] (by decide)
  have hs : St w NoF _ ([_, _] ++ []) := hs
  refine J_range (ps := [7]) hs rfl ⟨53, #[ptr b], rfl, en53⟩ (valuesIt_ok w b a n c e cells hsrc hpl hn hsl hb)
    (fun k A => ∃ a' c', A = [Blk b2 (.cells #[.slice a' k c'] 26 (0, 0)), Row a' k c' 31 1 (cells.take k)]) (fun _ _ => False) ⟨_, _, rfl⟩ ?_ (by decide) ?_ ?_ ?_ (fun _ _ _ _ h => h.elim)
  · have key : ∀ k, k < w.heap.size → w.heap[k]? = w.heap[k]? := fun _ _ => rfl
    have hold : ∀ k, k < w.heap.size → _ := fun k hk => hs.frm.old k hk id
    rintro k (rfl | hk)
    · exact ⟨hold _ hbl, fun hf => by have := hs.foot0 k hf; omega, Nat.lt_of_lt_of_le hbl hs.frm.size⟩
    · have h1 := hsrc.below hpl k hk
      exact ⟨hold _ h1, fun hf => by have := hs.foot0 k hf; omega, Nat.lt_of_lt_of_le h1 hs.frm.size⟩
  · rintro i vals cx ⟨_, _, rfl, _⟩; rfl
  · rintro l D tm k w1 A1 cx vals hD hDl hk ⟨a', c', rfl⟩ ⟨u, hu, rfl, rfl⟩ hh -
    have hs : St _ _ _ [_, _, _] := hh.st
    have htk : cells.take (k + 1) = cells.take k ++ [u] := by
      rw [List.take_add_one, hu]; rfl
    obtain ⟨ua, un, uc, rfl⟩ := hsl _ (List.mem_of_getElem? hu)
    repeat' (first
      | ((refine J_beginRound hs (fun w2 hs => ?_)))
      | ((apply al_none; refine JL_o (by apply as_b_append; exact OpR_append (xs := cells.take k) hs rfl rfl (src_blk1 hs.blk rfl) plain_blk rfl (by omega) (by unfold maxLen; omega)) rfl rfl ?_; rintro _ _ ⟨a3, c3, rfl, hs, hF, hnil⟩))
      | ((apply al_unit; refine JL_u (by apply as_store; exact OpR_store' hs rfl rfl rfl) rfl ?_; rintro _ _ ⟨hs, hF⟩))
      | (apply JL_nil)
      | ((first | (apply JL_pure)); (first
      | (apply as_move; first | exact OpR_move rfl is_rfl)
      | (apply as_assign; first | exact OpR_assign rfl is_rfl)
      | (apply as_load; first | exact OpR_load' hs rfl rfl is_rfl | exact OpR_load_agg' hs rfl is_rfl)); first | (exact rfl; exact rfl) | exact rfl)
      | (apply J_seq)
      | (apply J_region)
      | (apply J_block)
      | (apply J_inBlock)
      | (apply al_none (t := 2); refine JL_o (by apply as_box; exact OpR_box' hs rfl) rfl rfl ?_; rintro _ _ ⟨b2, rfl, hb2, hs, hE⟩)
      | (apply al_none (t := 10); refine JL_o (by apply as_buildSlice; exact OpR_buildSlice hs rfl (by omega) rfl) rfl rfl ?_; rintro _ _ ⟨b10, rfl, hb10, hs, hE⟩)
      | (apply al_unit; refine JL_u (by apply as_store; exact OpR_store' hs rfl rfl rfl) rfl ?_; rintro _ _ ⟨hs, hF⟩)
      | (apply aj_cond; first | refine J_dec_t rfl (by first | assumption | omega) ?_ | refine J_dec_f rfl (by first | assumption | omega) ?_ | refine J_cond_t rfl (by first | assumption | rfl | exact decide_eq_true (by first | assumption | omega) | exact decide_eq_false (by first | assumption | omega)) ?_ | refine J_cond_f rfl (by first | assumption | rfl | exact decide_eq_true (by first | assumption | omega) | exact decide_eq_false (by first | assumption | omega)) ?_ | (refine J_cond_dec rfl (fun _ => ?_) (fun _ => ?_)) | (refine J_cond rfl (fun _ => ?_) (fun _ => ?_))))
    rw [← htk] at hs
    have hs : St _ _ _ [_, _, _] := hs.sel [1, 2, 3] (by decide)
    refine J_roundEnd hs (fun w3 hs => .inl ⟨rfl, _, ⟨a3, c3, rfl⟩, St.turned (M := []) hs⟩)
  · rintro w2 D A2 ⟨a', c', rfl⟩ hs
    have hs : St _ _ _ [_, _, _] := hs
    have e : cells.take n = cells := List.take_of_length_le (by omega)
    rw [e] at hs
    repeat' (first
      | ((refine J_retL (Lv_coll hs (fun w3 hs => Lv_nil Try.func55 rfl (.tmp rfl .nil) ⟨a', c', rfl, ?_⟩))))
      | (apply JL_nil)
      | ((first | (apply JL_pure)); (first
      | (apply as_move; first | exact OpR_move rfl is_rfl)
      | (apply as_assign; first | exact OpR_assign rfl is_rfl)
      | (apply as_load; first | exact OpR_load' hs rfl rfl is_rfl | exact OpR_load_agg' hs rfl is_rfl)); first | (exact rfl; exact rfl) | exact rfl)
      | (apply J_seq)
      | (apply J_region)
      | (apply J_block)
      | (apply J_inBlock)
      | (apply al_none (t := 2); refine JL_o (by apply as_box; exact OpR_box' hs rfl) rfl rfl ?_; rintro _ _ ⟨b2, rfl, hb2, hs, hE⟩)
      | (apply al_none (t := 10); refine JL_o (by apply as_buildSlice; exact OpR_buildSlice hs rfl (by omega) rfl) rfl rfl ?_; rintro _ _ ⟨b10, rfl, hb10, hs, hE⟩)
      | (apply al_unit; refine JL_u (by apply as_store; exact OpR_store' hs rfl rfl rfl) rfl ?_; rintro _ _ ⟨hs, hF⟩)
      | (apply aj_cond; first | refine J_dec_t rfl (by first | assumption | omega) ?_ | refine J_dec_f rfl (by first | assumption | omega) ?_ | refine J_cond_t rfl (by first | assumption | rfl | exact decide_eq_true (by first | assumption | omega) | exact decide_eq_false (by first | assumption | omega)) ?_ | refine J_cond_f rfl (by first | assumption | rfl | exact decide_eq_true (by first | assumption | omega) | exact decide_eq_false (by first | assumption | omega)) ?_ | (refine J_cond_dec rfl (fun _ => ?_) (fun _ => ?_)) | (refine J_cond rfl (fun _ => ?_) (fun _ => ?_))))
    exact Fresh.ext_l (Ext.refl _) ((hs.to [Row a' n c' 31 1 cells]).out (List.Sublist.refl _))
theorem collect_r (w : World) (b : Nat) (a : Option Addr) (n c e : Nat) (cells : List Value) (hsrc : Src w a n 1 cells) (hpl : 0 < n → PlainA a) (hn : n ≤ 4000000000) (hsl : ∀ u ∈ cells, ∃ a n c, u = .slice a n c) (hb : w.heap[b]? = some (.cells #[.slice a n c] e (0, 0))) :
    Ret Try.prog 51 #[.func (.func 53) #[] #[ptr b]] w fun v w' => ∃ a' c', v = .slice a' n c' ∧ Fresh w w' [Row a' n c' 31 1 cells] := by
  refine Ret_of (l := [_]) Try.func51 rfl Try.ntmps51 (by simp) ?_
  have hs := St.init w
  repeat' (first
    | ((apply al_call 55; refine JL_o (by exact OpR_callF en55 rfl (appendSeq_r _ b a n c e cells hsrc hpl hn hsl hb)) rfl rfl ?_; rintro _ _ ⟨az, cz, rfl, hf⟩; have hs := hs.fresh hf; (try simp only [List.cons_append, List.nil_append] at hs)))
    | ((apply al_callg 55; refine JL_o_on rfl (by first | assumption | rfl | exact decide_eq_true (by first | assumption | omega) | exact decide_eq_false (by first | assumption | omega)) (by exact OpR_callF en55 rfl (appendSeq_r _ b a n c e cells hsrc hpl hn hsl hb)) rfl rfl ?_; rintro _ _ ⟨az, cz, rfl, hf⟩; have hs := hs.fresh hf; (try simp only [List.cons_append, List.nil_append] at hs)))
    | ((apply ax_c; apply JX_cF 55; exact rfl; (intro W X hN hs; exact OpR_callF en55 rfl (appendSeq_r _ b a n c e cells hsrc hpl hn hsl hb)); (rintro _ _ _ _ ⟨az, cz, rfl, hf⟩; first | exact hE | exact Fresh.ext hf); rintro W X _ _ hN hs ⟨az, cz, rfl, hf⟩; have hs := hs.fresh hf; (try simp only [List.cons_append, List.nil_append] at hs); refine JX.at hs ?_))
    | ((apply ax_c; apply JX_cFg 55; exact rfl; exact rfl; exact (by first | assumption | rfl | exact decide_eq_true (by first | assumption | omega) | exact decide_eq_false (by first | assumption | omega)); (intro W X hN hs; exact OpR_callF en55 rfl (appendSeq_r _ b a n c e cells hsrc hpl hn hsl hb)); (rintro _ _ _ _ ⟨az, cz, rfl, hf⟩; first | exact hE | exact Fresh.ext hf); rintro W X _ _ hN hs ⟨az, cz, rfl, hf⟩; have hs := hs.fresh hf; (try simp only [List.cons_append, List.nil_append] at hs); refine JX.at hs ?_))
    | (apply JL_nil)
    | ((first | (apply JL_pure)); (first
      | (apply as_move; first | exact OpR_move rfl is_rfl)
      | (apply as_assign; first | exact OpR_assign rfl is_rfl)); first | (exact rfl; exact rfl) | exact rfl)
    | (apply J_seq)
    | (apply J_region)
    | (apply aj_cond; first | refine J_dec_t rfl (by first | assumption | omega) ?_ | refine J_dec_f rfl (by first | assumption | omega) ?_ | refine J_cond_t rfl (by first | assumption | rfl | exact decide_eq_true (by first | assumption | omega) | exact decide_eq_false (by first | assumption | omega)) ?_ | refine J_cond_f rfl (by first | assumption | rfl | exact decide_eq_true (by first | assumption | omega) | exact decide_eq_false (by first | assumption | omega)) ?_ | (refine J_cond_dec rfl (fun _ => ?_) (fun _ => ?_)) | (refine J_cond rfl (fun _ => ?_) (fun _ => ?_))))
  refine J_leave Try.func51 rfl (.tmp rfl .nil) ⟨_, _, rfl, hs.out (List.Sublist.refl _)⟩
theorem sort52_s {w0 w : World} {L : List HP} (a : Option Addr) (n c e : Nat) (cells : List Value) (xss : List (List Int)) (R : Nat → Prop) (hs : St w0 NoF w (Row a n c e 1 cells :: L)) (hd : DatsV R D64 w0 cells xss) (hn : n ≤ 4000000000) :
    Ret Try.prog 52 #[.slice a n c, .func (.func 47) #[] #[]] w fun _ w' => ∃ zs : List (Value × List Int), zs.Perm (cells.zip xss) ∧ (zs.map Prod.snd).Pairwise (fun x y => 0 ≤ cmpL y x) ∧ Turn w [Row a n c e 1 cells] w' [Row a n c e 1 (zs.map Prod.fst)] :=
  sort52_r w a n c e cells xss (fun k => k < w0.heap.size) (St.held (A := [Row a n c e 1 cells]) (L := L) hs) (hd.old.loc (fun k hk _ => hs.frm.old k hk id)) (fun k hk hf => by have := ((hs.foot _ List.mem_cons_self k (row_foot hf)).2).resolve_left id; omega) hn
theorem sortedFunc_r (w : World) (b : Nat) (a : Option Addr) (n c e : Nat) (cells : List Value) (xss : List (List Int)) (R : Nat → Prop) (hsrc : Src w a n 1 cells) (hpl : 0 < n → PlainA a) (hn : n ≤ 4000000000) (hb : w.heap[b]? = some (.cells #[.slice a n c] e (0, 0))) (hd : DatsV R D64 w cells xss) :
    Ret Try.prog 45 #[.func (.func 53) #[] #[ptr b], .func (.func 47) #[] #[]] w fun v w' => ∃ zs : List (Value × List Int), zs.Perm (cells.zip xss) ∧ (zs.map Prod.snd).Pairwise (fun x y => 0 ≤ cmpL y x) ∧ ∃ a' c', v = .slice a' n c' ∧ Fresh w w' [Row a' n c' 31 1 (zs.map Prod.fst)] := by
  refine Ret_of (l := [_, _]) Try.func45 rfl Try.ntmps45 (by simp) ?_
  have hs := St.init w
  have hsl : ∀ u ∈ cells, ∃ a n c, u = .slice a n c := fun u hu => by
    obtain ⟨i, hi⟩ := List.mem_iff_getElem?.1 hu
    have := hd.1
    have hli := (List.getElem?_eq_some_iff.1 hi).1
    obtain ⟨a, n, c, he, _⟩ := rep_wr (hd.2 i u _ hi (List.getElem?_eq_getElem (by omega)))
    exact ⟨a, n, c, he⟩
  repeat' (first
    | ((apply al_call 51; refine JL_o (by exact OpR_callF en51 rfl (collect_r _ b a n c e cells hsrc hpl hn hsl hb)) rfl rfl ?_; rintro _ _ ⟨az, cz, rfl, hf⟩; have hs := hs.fresh hf; (try simp only [List.cons_append, List.nil_append] at hs)))
    | ((apply al_callg 51; refine JL_o_on rfl (by first | assumption | rfl | exact decide_eq_true (by first | assumption | omega) | exact decide_eq_false (by first | assumption | omega)) (by exact OpR_callF en51 rfl (collect_r _ b a n c e cells hsrc hpl hn hsl hb)) rfl rfl ?_; rintro _ _ ⟨az, cz, rfl, hf⟩; have hs := hs.fresh hf; (try simp only [List.cons_append, List.nil_append] at hs)))
    | ((apply ax_c; apply JX_cF 51; exact rfl; (intro W X hN hs; exact OpR_callF en51 rfl (collect_r _ b a n c e cells hsrc hpl hn hsl hb)); (rintro _ _ _ _ ⟨az, cz, rfl, hf⟩; first | exact hE | exact Fresh.ext hf); rintro W X _ _ hN hs ⟨az, cz, rfl, hf⟩; have hs := hs.fresh hf; (try simp only [List.cons_append, List.nil_append] at hs); refine JX.at hs ?_))
    | ((apply ax_c; apply JX_cFg 51; exact rfl; exact rfl; exact (by first | assumption | rfl | exact decide_eq_true (by first | assumption | omega) | exact decide_eq_false (by first | assumption | omega)); (intro W X hN hs; exact OpR_callF en51 rfl (collect_r _ b a n c e cells hsrc hpl hn hsl hb)); (rintro _ _ _ _ ⟨az, cz, rfl, hf⟩; first | exact hE | exact Fresh.ext hf); rintro W X _ _ hN hs ⟨az, cz, rfl, hf⟩; have hs := hs.fresh hf; (try simp only [List.cons_append, List.nil_append] at hs); refine JX.at hs ?_))
    | ((apply al_call 52; refine JL_o (OpR_callF en52 rfl (sort52_s az n cz 31 cells xss R hs hd hn)) rfl rfl ?_; rintro _ _ ⟨zs, hz1, hz2, ht⟩; have hs : St _ _ _ [_] := St.take (A := [_]) (A' := [_]) (L := []) hs ht; clear ht))
    | (apply JL_nil)
    | ((first | (apply JL_pure)); (first
      | (apply as_move; first | exact OpR_move rfl is_rfl)
      | (apply as_assign; first | exact OpR_assign rfl is_rfl)); first | (exact rfl; exact rfl) | exact rfl)
    | (apply J_seq)
    | (apply J_region)
    | (apply aj_cond; first | refine J_dec_t rfl (by first | assumption | omega) ?_ | refine J_dec_f rfl (by first | assumption | omega) ?_ | refine J_cond_t rfl (by first | assumption | rfl | exact decide_eq_true (by first | assumption | omega) | exact decide_eq_false (by first | assumption | omega)) ?_ | refine J_cond_f rfl (by first | assumption | rfl | exact decide_eq_true (by first | assumption | omega) | exact decide_eq_false (by first | assumption | omega)) ?_ | (refine J_cond_dec rfl (fun _ => ?_) (fun _ => ?_)) | (refine J_cond rfl (fun _ => ?_) (fun _ => ?_))))
  refine J_leave Try.func45 rfl (.tmp rfl .nil) ⟨zs, hz1, hz2, _, _, rfl, hs.out (List.Sublist.refl _)⟩
/-- The order of rows. -/
theorem sorted_r (w : World) (a : Option Addr) (n c : Nat) (cells : List Value) (xss : List (List Int)) (R : Nat → Prop) (hsrc : Src w a n 1 cells) (hpl : 0 < n → PlainA a) (hn : n ≤ 4000000000) (hd : DatsV R D64 w cells xss) :
    Ret Try.prog 32 #[.slice a n c] w fun v w' => ∃ zs : List (Value × List Int), zs.Perm (cells.zip xss) ∧ (zs.map Prod.snd).Pairwise (fun x y => 0 ≤ cmpL y x) ∧ ∃ a' c', v = .slice a' n c' ∧ Fresh w w' [Row a' n c' 31 1 (zs.map Prod.fst)] := by
  refine Ret_of (l := [_]) Try.func32 rfl Try.ntmps32 (by simp) ?_
  have hs := St.init w
  repeat' (first
    | ((apply al_call 46; refine JL_o (by exact OpR_callF en46 rfl (values_it _ a n c)) rfl rfl ?_; rintro _ _ ⟨bi, rfl, hf⟩; have hs := hs.fresh hf; (try simp only [List.cons_append, List.nil_append] at hs)))
    | ((apply al_callg 46; refine JL_o_on rfl (by first | assumption | rfl | exact decide_eq_true (by first | assumption | omega) | exact decide_eq_false (by first | assumption | omega)) (by exact OpR_callF en46 rfl (values_it _ a n c)) rfl rfl ?_; rintro _ _ ⟨bi, rfl, hf⟩; have hs := hs.fresh hf; (try simp only [List.cons_append, List.nil_append] at hs)))
    | ((apply ax_c; apply JX_cF 46; exact rfl; (intro W X hN hs; exact OpR_callF en46 rfl (values_it _ a n c)); (rintro _ _ _ _ ⟨bi, rfl, hf⟩; first | exact hE | exact Fresh.ext hf); rintro W X _ _ hN hs ⟨bi, rfl, hf⟩; have hs := hs.fresh hf; (try simp only [List.cons_append, List.nil_append] at hs); refine JX.at hs ?_))
    | ((apply ax_c; apply JX_cFg 46; exact rfl; exact rfl; exact (by first | assumption | rfl | exact decide_eq_true (by first | assumption | omega) | exact decide_eq_false (by first | assumption | omega)); (intro W X hN hs; exact OpR_callF en46 rfl (values_it _ a n c)); (rintro _ _ _ _ ⟨bi, rfl, hf⟩; first | exact hE | exact Fresh.ext hf); rintro W X _ _ hN hs ⟨bi, rfl, hf⟩; have hs := hs.fresh hf; (try simp only [List.cons_append, List.nil_append] at hs); refine JX.at hs ?_))
    | ((apply al_call 45; refine JL_o (by exact OpR_callF en45 rfl (sortedFunc_r _ bi a n c 26 cells xss R (hsrc.st hs) hpl hn hs.blk (hd.loc (fun k _ hlt => hs.frm.old k hlt id)))) rfl rfl ?_; rintro _ _ ⟨zs, hz1, hz2, az, cz, rfl, hf⟩; have hs := hs.fresh hf; (try simp only [List.cons_append, List.nil_append] at hs)))
    | ((apply al_callg 45; refine JL_o_on rfl (by first | assumption | rfl | exact decide_eq_true (by first | assumption | omega) | exact decide_eq_false (by first | assumption | omega)) (by exact OpR_callF en45 rfl (sortedFunc_r _ bi a n c 26 cells xss R (hsrc.st hs) hpl hn hs.blk (hd.loc (fun k _ hlt => hs.frm.old k hlt id)))) rfl rfl ?_; rintro _ _ ⟨zs, hz1, hz2, az, cz, rfl, hf⟩; have hs := hs.fresh hf; (try simp only [List.cons_append, List.nil_append] at hs)))
    | ((apply ax_c; apply JX_cF 45; exact rfl; (intro W X hN hs; exact OpR_callF en45 rfl (sortedFunc_r _ bi a n c 26 cells xss R (hsrc.st hs) hpl hn hs.blk (hd.loc (fun k _ hlt => hs.frm.old k hlt id)))); (rintro _ _ _ _ ⟨zs, hz1, hz2, az, cz, rfl, hf⟩; first | exact hE | exact Fresh.ext hf); rintro W X _ _ hN hs ⟨zs, hz1, hz2, az, cz, rfl, hf⟩; have hs := hs.fresh hf; (try simp only [List.cons_append, List.nil_append] at hs); refine JX.at hs ?_))
    | ((apply ax_c; apply JX_cFg 45; exact rfl; exact rfl; exact (by first | assumption | rfl | exact decide_eq_true (by first | assumption | omega) | exact decide_eq_false (by first | assumption | omega)); (intro W X hN hs; exact OpR_callF en45 rfl (sortedFunc_r _ bi a n c 26 cells xss R (hsrc.st hs) hpl hn hs.blk (hd.loc (fun k _ hlt => hs.frm.old k hlt id)))); (rintro _ _ _ _ ⟨zs, hz1, hz2, az, cz, rfl, hf⟩; first | exact hE | exact Fresh.ext hf); rintro W X _ _ hN hs ⟨zs, hz1, hz2, az, cz, rfl, hf⟩; have hs := hs.fresh hf; (try simp only [List.cons_append, List.nil_append] at hs); refine JX.at hs ?_))
    | (apply JL_nil)
    | ((first | (apply JL_pure)); (first
      | (apply as_move; first | exact OpR_move rfl is_rfl)
      | (apply as_assign; first | exact OpR_assign rfl is_rfl)); first | (exact rfl; exact rfl) | exact rfl)
    | (apply J_seq)
    | (apply J_region)
    | (apply aj_cond; first | refine J_dec_t rfl (by first | assumption | omega) ?_ | refine J_dec_f rfl (by first | assumption | omega) ?_ | refine J_cond_t rfl (by first | assumption | rfl | exact decide_eq_true (by first | assumption | omega) | exact decide_eq_false (by first | assumption | omega)) ?_ | refine J_cond_f rfl (by first | assumption | rfl | exact decide_eq_true (by first | assumption | omega) | exact decide_eq_false (by first | assumption | omega)) ?_ | (refine J_cond_dec rfl (fun _ => ?_) (fun _ => ?_)) | (refine J_cond rfl (fun _ => ?_) (fun _ => ?_))))
  refine J_leave Try.func32 rfl (.tmp rfl .nil) ⟨zs, hz1, hz2, _, _, rfl, hs.out (.cons_cons _ (List.nil_sublist _))⟩
end Go.Eng
