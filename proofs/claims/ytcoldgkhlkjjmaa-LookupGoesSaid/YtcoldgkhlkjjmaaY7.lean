/- The texts L37, L39, L40, L41, L42, L43, L44, joined. -/
import Derived.Test.YtcoldgkhlkjjmaaY6
import Derived.Shelf.SlicesE.Reverse
import Derived.Ground.SlgnProg
/- Lookups: slices of types. -/
namespace Go.Eng
open Go.Proofs
set_option linter.unusedSimpArgs false
set_option linter.unusedVariables false
abbrev cRS (x : RS) : List Value := [.slice x.1 x.2.1 x.2.2]
abbrev IdsRow (a : Option Addr) (n c : Nat) (rs : List RS) : HP := Row a n c 34 1 (encL cRS rs)
attribute [local irreducible] Hold J JL JD JX JXat OpR OpG Ret RetV Is Blk Row MapC
set_option maxRecDepth 100000
set_option maxHeartbeats 1000000
theorem cloneS_r (w : World) (a : Option Addr) (n c : Nat) (rs : List RS) (h : Sl tS All w a n c rs) (hn : n ≤ 1048576) :
    Ret Try.prog 30 #[.slice a n c] w fun v w' => ∃ a' c', v = .slice a' n c' ∧ Fresh w w' [IdsRow a' n c' rs] := by
  refine Ret_of (l := [_]) Try.func30 rfl Try.ntmps30 (by simp) ?_
  have hs := St.init w
  obtain ⟨hsrc, hpl, _⟩ := h.srcF
  have hl := h.len
  cases a with
  | none =>
    have hn0 := hsrc.2.1 rfl
    subst hn0
    have : rs = [] := List.eq_nil_of_length_eq_zero (by omega)
    subst this
    repeat' (first
      | (apply JL_nil)
      | ((apply JL_pure); (first
      | (apply as_move; exact OpR_move rfl is_rfl)
      | (apply as_assign; exact OpR_assign rfl is_rfl)
      | (apply as_binOp; exact OpR_eqNil rfl rfl is_rfl)); first | (exact rfl; exact rfl) | exact rfl)
      | (apply J_seq)
      | (apply J_region)
      | (apply aj_cond; refine J_cond_t rfl gb ?_))
    have hs := hs.nilRow 34 1
    refine J_leave Try.func30 rfl (.tmp rfl .nil) ⟨_, _, rfl, hs.out (List.Sublist.refl _)⟩
  | some ad =>
    repeat' (first
      | ((apply al_none; refine JL_o (by apply as_buildSlice; exact OpR_buildSlice hs rfl (by omega) rfl) rfl rfl ?_; rintro _ _ ⟨b, rfl, hb, hs, hE⟩; have hs := hs.toRow 0 0 0 1 (xs := []) (Nat.le_refl _) (by unfold maxLen; omega) (by simp) rfl))
      | ((apply al_none; refine JL_o (by apply as_b_append; exact OpR_append hs rfl rfl (Src.st hsrc hs) hpl rfl (by omega) (by unfold maxLen; omega)) rfl rfl ?_; rintro _ _ ⟨a2, c2, rfl, hs, hF, hnil⟩; rw [Nat.zero_add] at hs ⊢; rw [List.nil_append] at hs))
      | (apply JL_nil)
      | ((apply JL_pure); (first
      | (apply as_move; exact OpR_move rfl is_rfl)
      | (apply as_assign; exact OpR_assign rfl is_rfl)
      | (apply as_binOp; exact OpR_eqNil rfl rfl is_rfl)); first | (exact rfl; exact rfl) | exact rfl)
      | (apply J_seq)
      | (apply J_region)
      | (apply J_skip)
      | (apply aj_cond; refine J_cond_f rfl gb ?_))
    refine J_leave Try.func30 rfl (.tmp rfl .nil) ⟨_, _, rfl, hs.out (.cons_cons _ (List.nil_sublist _))⟩
end Go.Eng
/- Lookups: the lay of slices.Reverse (saylay.py SlLaysE.n35 Slgn 35 32 revIds Derived.Ground.SlgnProg Derived.Shelf.SlLaysE). -/
namespace Go.Proofs
def Try.revIds_ren : Go.Shelf.Ren := ⟨fun | 35 => 32 | n => n, fun | 22 => 25 | 23 => 34 | 3 => 3 | 4 => 4 | 0 => 0 | n => n, fun | n => n⟩
theorem Try.revIds : Go.Proofs.SlLaysE.n35 Try.prog Try.revIds_ren := ⟨
by kernel_rfl,
⟨Try.f32.name, by decide, Try.func32.trans (congrArg some (by kernel_rfl))⟩,
Try.underlying0,
Try.isAgg0,
Try.sizeOf0,
Try.zeroValue0,
Try.underlying3,
Try.isAgg3,
Try.sizeOf3,
Try.zeroValue3,
Try.underlying4,
Try.isAgg4,
Try.sizeOf4,
Try.zeroValue4,
Try.underlying25,
Try.isAgg25,
Try.sizeOf25,
Try.zeroValue25,
Try.isAgg34,
Try.sizeOf34⟩


end Go.Proofs
namespace Go.Eng
open Go.RowKit Go.Sort Go.Proofs
set_option linter.unusedVariables false
abbrev enS (x : RS) : Value := .slice x.1 x.2.1 x.2.2
theorem encL_ids (rs : List RS) : encL cRS rs = rs.map enS := by
  unfold encL; induction rs with
  | nil => rfl
  | cons x xs ih => rw [List.flatMap_cons, ih]; rfl
end Go.Eng
/- Lookups: a slice of types, reversed, by the shelf's contract. -/
namespace Go.Eng
open Go.RowKit Go.Sort Go.Proofs
set_option linter.unusedVariables false
set_option linter.unusedSimpArgs false
theorem reverse_v (w : World) (a : Option Addr) (n c : Nat) (rs : List RS) (hrow : Held w [IdsRow a n c rs]) (hl : rs.length = n) (hp : 0 < n) (hn : n ≤ 1048576) :
    Ret Try.prog 32 #[.slice a n c] w fun _ w' => Turn w [IdsRow a n c rs] w' [IdsRow a n c rs.reverse] := by
  have hr : RowV w a n c 34 1 (rs.map enS) := by rw [← encL_ids]; exact hrow.1.1 _ List.mem_cons_self
  obtain ⟨q1, q2, q3, q4⟩ := id hr
  rcases q4 with ⟨rfl, hc⟩ | ⟨g0, o, cur, rfl, hg, hsz, ht⟩
  · omega
  simp only [Nat.mul_one] at hsz ht
  have hg0 : g0 < w.heap.size := (Array.getElem?_eq_some_iff.1 hg).1
  have hH : Holds enS w g0 o rs.toArray := by
    intro j hj
    have hj' : j < rs.length := by simpa using hj
    refine ⟨?_, ?_⟩
    · rw [getElem!_pos _ _ (by simpa using hj')]
      exact hr.cells rfl (by rw [List.getElem?_map, List.getElem?_eq_getElem hj']; simp)
    · simp [World.frozen?, hg]
  have hcon := AnyE.slices_Reverse Try.revIds enS (fun x => rfl) g0 o c rs w hH (by omega)
  rw [hl] at hcon
  refine Ret.of_calls (hcon.mono fun e' w' ⟨h1, m, hw⟩ => ⟨_, h1, ?_⟩)
  have hb : w'.heap[g0]? = some (.cells (putCells enS o rs.reverse.toArray cur) 34 (0, 0)) := by
    rw [hw]
    simp only [putRow, mapBlock, Go.Sort.ahead]
    rw [Array.getElem?_modify, if_pos rfl, hg]
    rfl
  have hrow' : RowV w' (some ⟨g0, o, none⟩) n c 34 1 (rs.reverse.map enS) := by
    refine ⟨by simp [hl], q2, q3, .inr ⟨g0, o, _, rfl, hb, by simp [putCells]; omega, ?_⟩⟩
    apply List.ext_getElem?
    intro j
    rw [Nat.mul_one, List.getElem?_take]
    by_cases hj : j < n
    · have hsz2 : o + j < cur.size := by omega
      rw [if_pos hj, List.getElem?_drop, List.getElem?_map]
      simp only [putCells, Array.getElem?_toList, Array.getElem?_mapIdx]
      rw [Array.getElem?_eq_getElem hsz2]
      simp only [Option.map_some]
      rw [if_pos (by simp [hl]; omega), Nat.add_sub_cancel_left, getElem!_pos _ _ (by simp [hl]; omega), List.getElem?_eq_getElem (by simp [hl]; omega)]
      simp
    · rw [if_neg hj, List.getElem?_eq_none (by simp [hl]; omega)]
  have hold : ∀ k, k < w.heap.size → k ≠ g0 → w'.heap[k]? = w.heap[k]? := fun k hk hne => by
    rw [hw]
    simp only [putRow, mapBlock, Go.Sort.ahead]
    rw [Array.getElem?_modify, if_neg (fun e => hne e.symm)]
  have hfs : w.heap.size ≤ w'.heap.size := by rw [hw]; simp [putRow, mapBlock, Go.Sort.ahead]
  refine ⟨⟨by rw [hw]; rfl, by rw [hw]; rfl, by rw [hw]; rfl, hfs, fun k hk hne => hold k hk (fun e' => hne ⟨_, List.mem_cons_self, by subst e'; rfl⟩), by rw [hw]; simp [putRow, mapBlock, Go.Sort.ahead]⟩, ⟨fun c' hc' => ?_, List.pairwise_singleton _ _⟩, fun k ⟨c', hc', hk⟩ => ?_⟩
  · simp only [List.mem_singleton] at hc'; subst hc'
    show RowV w' _ _ _ _ 1 (encL cRS rs.reverse)
    rw [encL_ids]; exact hrow'
  · simp only [List.mem_singleton] at hc'; subst hc'
    have hk' : g0 = k := by simpa [Row, afoot] using hk
    subst hk'
    exact ⟨Nat.lt_of_lt_of_le hg0 hfs, .inl ⟨_, List.mem_cons_self, rfl⟩⟩
end Go.Eng
/- Lookups: a slice of types, reversed. -/
namespace Go.Eng
open Go.Proofs
set_option linter.unusedSimpArgs false
set_option linter.unusedVariables false
attribute [local irreducible] Hold J JL JD JX JXat OpR OpG Ret RetV Is Blk Row MapC
set_option maxRecDepth 100000
set_option maxHeartbeats 1000000
theorem reverse_r (w : World) (a : Option Addr) (n c : Nat) (rs : List RS) (hh : Held w [IdsRow a n c rs]) (hl : rs.length = n) (hn : n ≤ 1048576) :
    Ret Try.prog 32 #[.slice a n c] w fun v w' => Turn w [IdsRow a n c rs] w' [IdsRow a n c rs.reverse] := by
  rcases Nat.eq_zero_or_pos n with h0 | h0
  · subst h0
    have : rs = [] := List.eq_nil_of_length_eq_zero hl
    subst this
    refine Ret_of (l := [_]) Try.func32 rfl Try.ntmps32 (by simp) ?_
    have hs := hh.st
    repeat' (first
      | (apply JL_nil)
      | ((apply JL_pure); (first
      | (apply as_move; exact OpR_move rfl is_rfl)
      | (apply as_assign; exact OpR_assign rfl is_rfl)
      | (apply as_sub; exact OpR_sub rfl rfl (by omega) is_rfl)
      | (apply as_b_len; exact OpR_len rfl is_rfl)); first | (exact rfl; exact rfl) | exact rfl)
      | (apply J_seq)
      | (apply J_region)
      | (apply J_block))
    refine J_loopK (α := Nat) [(0, _)] (fun _ => [(2, .int .i64 0), (3, .int .i64 (-1))]) (fun _ w' => St w (Star [IdsRow a 0 c []]).foot w' [IdsRow a 0 c []]) (fun g => g) 0 hs (by repeat' (first | exact trivial | exact rfl | apply And.intro)) ?_
    rintro g w2 hs ih
    have hs : St w (Star [IdsRow a 0 c []]).foot w2 [IdsRow a 0 c [].reverse] := hs
    repeat' (first
      | (apply JL_nil)
      | ((apply JL_pure); (first
      | (apply as_move; exact OpR_move rfl is_rfl)
      | (apply as_binOp; exact OpR_ibin rfl rfl rfl is_rfl)); first | (exact rfl; exact rfl) | exact rfl)
      | (apply J_seq)
      | (apply J_region)
      | (apply aj_exit; refine J_exit rfl ?_)
      | (apply aj_cond; refine J_dec_f rfl ob ?_))
    refine J_leave_end Try.func32 rfl .nil (St.turned (M := []) hs)
  · exact reverse_v w a n c rs hh hl h0 hn
end Go.Eng
/- Lookups: LookupOrder's put. -/
namespace Go.Eng
open Go.Proofs
set_option linter.unusedSimpArgs false
set_option linter.unusedVariables false
attribute [local irreducible] Hold J JL JD JX JXat OpR OpG Ret RetV Is Blk Row MapC
set_option maxRecDepth 100000
set_option maxHeartbeats 1000000
theorem order1_r (w : World) (a : Option Addr) (n c : Nat) (es : List Ent) (a2 : Option Addr) (n2 c2 : Nat) (t : List Int) (h : Sl dEnt All w a n c es) (hn : n ≤ 1048576) (h2 : Sl (tInt .u64) All w a2 n2 c2 t) (hv : inK .i64 (n2 : Int)) :
    Ret Try.prog 31 #[.agg #[.slice a n c], .slice a2 n2 c2] w fun u w' => (putE es t n2 ≠ 0 ∧ u = .agg #[.slice a n c] ∧ Ext w w') ∨
      (putE es t n2 = 0 ∧ ∃ (es' : List Ent) (rs' : List REnt) (a' : Option Addr), (checkB es' = true ∧ (es'.filter stands).Perm (allM es ++ [(1, t, (n2 : Int))]) ∧ es'.length ≤ 1048576) ∧ u = .agg #[.slice a' es'.length es'.length] ∧ Fresh w w' [TabRow a' es'.length es'.length rs', Own rs' es']) := by
  refine Ret_of (l := [_, _]) Try.func31 rfl Try.ntmps31 (by simp) ?_
  have hs := St.init w
  by_cases hp : putE es t n2 = 0
  · repeat' (first
      | ((apply al_call 28; refine JL_o (by exact OpR_callF en28 rfl (put_ok _ a n c es a2 n2 c2 t n2 (h.st hs) hn (h2.st hs) hv hp)) rfl rfl ?_; rintro _ _ ⟨es3, rs3, a3, hP, rfl, hf⟩; have hs := hs.fresh hf; (try simp only [List.cons_append, List.nil_append] at hs)))
      | (apply JL_nil)
      | ((apply JL_pure); (first
      | (apply as_move; exact OpR_move rfl is_rfl)
      | (apply as_assign; exact OpR_assign rfl is_rfl)
      | (apply as_load; exact OpR_load_agg' hs rfl is_rfl)
      | (apply as_binOp; exact OpR_ibin rfl rfl rfl is_rfl)
      | (apply as_b_len; exact OpR_len rfl is_rfl)
      | (apply as_extract; exact OpR_extract rfl rfl is_rfl)); first | (exact rfl; exact rfl) | exact rfl)
      | (apply J_seq)
      | (apply J_region)
      | (apply J_skip)
      | (apply al_none (t := 2); refine JL_o (by apply as_box; exact OpR_box' hs rfl) rfl rfl ?_; rintro _ _ ⟨b2, rfl, hb2, hs, hE⟩)
      | (apply al_none (t := 4); refine JL_o (by apply as_alloc; exact OpR_alloc' hs) rfl rfl ?_; rintro _ _ ⟨b4, rfl, hb4, hs, hE⟩)
      | (apply al_none (t := 5); refine JL_o (by apply as_alloc; exact OpR_alloc' hs) rfl rfl ?_; rintro _ _ ⟨b5, rfl, hb5, hs, hE⟩)
      | (apply al_unit; refine JL_u (by apply as_store; exact OpR_store' hs rfl rfl rfl) rfl ?_; rintro _ _ ⟨hs, hF⟩)
      | (apply aj_cond; refine J_dec_f rfl ob ?_))
    have hs : St w NoF _ [_, _, _, _, _] := hs.sel [1, 2, 0, 3, 4] (by decide)
    refine J_leave Try.func31 rfl (.agg' hs rfl rfl .nil) (.inr ⟨hp, es3, rs3, a3, hP, rfl, hs.out (.cons_cons _ (.cons_cons _ (List.nil_sublist _)))⟩)
  · repeat' (first
      | ((apply al_call 28; refine JL_o (by exact OpR_callF en28 rfl (put_bad _ a n c es a2 n2 c2 t n2 (h.st hs) hn (h2.st hs) hv hp)) rfl rfl ?_; rintro _ _ ⟨rfl, hE⟩; have hs := hs.ext hE; (try simp only [List.cons_append, List.nil_append] at hs)))
      | (apply JL_nil)
      | ((apply JL_pure); (first
      | (apply as_move; exact OpR_move rfl is_rfl)
      | (apply as_assign; exact OpR_assign rfl is_rfl)
      | (apply as_load; exact OpR_load_agg' hs rfl is_rfl)
      | (apply as_binOp; exact OpR_ibin rfl rfl rfl is_rfl)
      | (apply as_b_len; exact OpR_len rfl is_rfl)
      | (apply as_extract; exact OpR_extract rfl rfl is_rfl)); first | (exact rfl; exact rfl) | exact rfl)
      | (apply J_seq)
      | (apply J_region)
      | (apply al_none (t := 2); refine JL_o (by apply as_box; exact OpR_box' hs rfl) rfl rfl ?_; rintro _ _ ⟨b2, rfl, hb2, hs, hE⟩)
      | (apply al_none (t := 4); refine JL_o (by apply as_alloc; exact OpR_alloc' hs) rfl rfl ?_; rintro _ _ ⟨b4, rfl, hb4, hs, hE⟩)
      | (apply al_none (t := 5); refine JL_o (by apply as_alloc; exact OpR_alloc' hs) rfl rfl ?_; rintro _ _ ⟨b5, rfl, hb5, hs, hE⟩)
      | (apply al_unit; refine JL_u (by apply as_store; exact OpR_store' hs rfl rfl rfl) rfl ?_; rintro _ _ ⟨hs, hF⟩)
      | (apply aj_cond; refine J_dec_t rfl ob ?_))
    refine J_leave Try.func31 rfl (.agg' hs rfl rfl .nil) (.inl ⟨hp, rfl, hs.frm.ext⟩)
end Go.Eng
/- Lookups, plain: what rows of types come to, put one by one. -/
namespace Go.Eng
open Go.Proofs
set_option linter.unusedSimpArgs false
set_option linter.unusedVariables false
structure Puts (es : List Ent) (ts : List (List Int)) : Prop where
  chk : checkB es = true
  len : es.length ≤ 1048576
  cnt : (allM es).length ≤ ts.length
  mem : ∀ y, y ∈ es.filter stands ↔ (y = (1, y.2.1, (y.2.1.length : Int)) ∧ y.2.1 ∈ ts ∧ typeB y.2.1 = true)
theorem Puts.new : Puts (newE 8) [] where
  chk := check_new
  len := by decide
  cnt := by rw [all_new]; decide
  mem := fun y => by
    constructor
    · intro h
      have := (allM_perm (newE 8)).mem_iff.2 h
      rw [all_new] at this
      cases this
    · rintro ⟨_, h, _⟩
      cases h
theorem Puts.keep {es : List Ent} {ts : List (List Int)} {t : List Int} (h : Puts es ts) (hl : ts.length < 4000) (hp : putE es t t.length ≠ 0) : Puts es (ts ++ [t]) where
  chk := h.chk
  len := h.len
  cnt := by rw [List.length_append]; exact Nat.le_trans h.cnt (Nat.le_add_right _ _)
  mem := fun y => by
    rw [h.mem y]
    constructor
    · rintro ⟨h1, h2, h3⟩; exact ⟨h1, List.mem_append_left _ h2, h3⟩
    · rintro ⟨h1, h2, h3⟩
      refine ⟨h1, ?_, h3⟩
      rcases List.mem_append.1 h2 with h2 | h2
      · exact h2
      · have h2 : y.2.1 = t := by simpa using h2
        refine Classical.byContradiction fun hn => hp (putE_zero h.chk (by rw [← h2]; exact h3) (by omega) (fun z hz he => ?_) (by have := h.cnt; omega))
        have := ((h.mem z).1 hz).2.1
        rw [he, ← h2] at this
        exact hn this
theorem Puts.put {es es' : List Ent} {ts : List (List Int)} {t : List Int} (h : Puts es ts) (hp : putE es t t.length = 0) (hc : checkB es' = true) (hm : (es'.filter stands).Perm (allM es ++ [(1, t, (t.length : Int))])) (hl : es'.length ≤ 1048576) : Puts es' (ts ++ [t]) where
  chk := hc
  len := hl
  cnt := by
    have h1 := (allM_perm es').length_eq
    have h2 := hm.length_eq
    have h3 := h.cnt
    rw [List.length_append] at h2 ⊢
    simp only [List.length_cons, List.length_nil] at h2 ⊢
    omega
  mem := fun y => by
    have ht : typeB t = true := by
      refine Classical.byContradiction fun hn => ?_
      unfold putE at hp
      rw [if_pos h.chk, if_neg hn] at hp
      exact absurd hp (by decide)
    rw [hm.mem_iff, List.mem_append, (allM_perm es).mem_iff, h.mem y]
    constructor
    · rintro (⟨h1, h2, h3⟩ | h1)
      · exact ⟨h1, List.mem_append_left _ h2, h3⟩
      · have h1 : y = (1, t, (t.length : Int)) := by simpa using h1
        subst h1
        exact ⟨rfl, List.mem_append_right _ (List.mem_singleton.2 rfl), ht⟩
    · rintro ⟨h1, h2, h3⟩
      rcases List.mem_append.1 h2 with h2 | h2
      · exact .inl ⟨h1, h2, h3⟩
      · have h2 : y.2.1 = t := by simpa using h2
        rw [h2] at h1
        exact .inr (by rw [h1]; exact List.mem_singleton.2 rfl)
theorem nodup_of_distinct {l : List Ent} (h : distinctE l) : l.Nodup := List.Pairwise.imp (S := (· ≠ ·)) (fun {a b} h1 h2 => h1 (by rw [h2])) h
theorem perm_of_mem : ∀ {l1 l2 : List Ent}, l1.Nodup → l2.Nodup → (∀ x, x ∈ l1 ↔ x ∈ l2) → l1.Perm l2
  | [], l2, _, _, h => by
    cases l2 with
    | nil => exact .nil
    | cons y l2 => exact absurd ((h y).2 (List.mem_cons_self)) (by simp)
  | x :: l1, l2, h1, h2, h => by
    have hx : x ∈ l2 := (h x).1 List.mem_cons_self
    obtain ⟨a, b, rfl⟩ := List.append_of_mem hx
    rw [List.nodup_cons] at h1
    have h3 : (x :: (a ++ b)).Nodup := (List.perm_middle (a := x) (l₁ := a) (l₂ := b)).nodup_iff.1 h2
    rw [List.nodup_cons] at h3
    refine ((perm_of_mem h1.2 h3.2 fun y => ?_).cons x).trans List.perm_middle.symm
    have := h y
    constructor
    · intro hy
      have h4 := this.1 (List.mem_cons_of_mem _ hy)
      rcases List.mem_append.1 h4 with h4 | h4
      · exact List.mem_append_left _ h4
      · rcases List.mem_cons.1 h4 with h4 | h4
        · subst h4; exact absurd hy h1.1
        · exact List.mem_append_right _ h4
    · intro hy
      have hyx : y ≠ x := fun e => h3.1 (e ▸ hy)
      have h4 : y ∈ x :: l1 := this.2 (by
        rcases List.mem_append.1 hy with h4 | h4
        · exact List.mem_append_left _ h4
        · exact List.mem_append_right _ (List.mem_cons_of_mem _ h4))
      rcases List.mem_cons.1 h4 with h4 | h4
      · exact absurd h4 hyx
      · exact h4
theorem Puts.same {es es' : List Ent} {ts ts' : List (List Int)} (h : Puts es ts) (h' : Puts es' ts') (hm : ∀ t, t ∈ ts ↔ t ∈ ts') : allF es = allF es' := by
  rw [allF_true h.chk, allF_true h'.chk]
  refine (allM_uniq (check_distinct h'.chk) ((allM_perm es).trans (perm_of_mem (nodup_of_distinct (check_distinct h.chk)) (nodup_of_distinct (check_distinct h'.chk)) fun y => ?_)) (allM_sorted es))
  rw [h.mem y, h'.mem y, hm]
theorem Puts.find {es : List Ent} {ts : List (List Int)} {t : List Int} (h : Puts es ts) (ht : t ∈ ts) : findM es t = if typeB t then ((t.length : Int), true) else (0, false) := by
  by_cases hb : typeB t = true
  · rw [if_pos hb]
    exact find_mem h.chk (x := (1, t, (t.length : Int))) ((h.mem _).2 ⟨rfl, ht, hb⟩)
  · rw [if_neg hb]
    exact find_none fun y hy he => hb (he ▸ ((h.mem y).1 hy).2.2)
end Go.Eng
/- Lookups, plain: what a step comes to. -/
namespace Go.Eng
open Go.Proofs
set_option linter.unusedSimpArgs false
set_option linter.unusedVariables false
theorem find7_place {E : List Ent} (hc : checkB E = true) (t : List Int) : 0 ≤ find7M (allM E) t ↔ 0 ≤ placeM E t := by
  have h := find_all E t
  rw [allF_true hc] at h
  unfold findM at h
  rw [if_pos hc] at h
  have h2 := congrArg Prod.snd h
  by_cases hp : placeM E t < 0
  · rw [if_pos hp] at h2
    simp only at h2
    have h3 := of_decide_eq_false h2.symm
    constructor <;> intro h4 <;> omega
  · rw [if_neg hp] at h2
    simp only at h2
    have h3 := of_decide_eq_true h2.symm
    constructor <;> intro h4 <;> omega
/-- The code of a step. -/
def noM (E : List Ent) (d : Bool) (t : List Int) (v : Int) : Int := if checkB E then (if d then (if find7M (allM E) t < 0 then 4 else 0) else if typeB t then (if v < 0 then 2 else if 0 ≤ find7M (allM E) t then 5 else if (allM E).length = 4000 then 6 else 0) else 130) else 170
def wantM (E : List Ent) (d : Bool) (t : List Int) (v : Int) : List Ent := if d then withoutM (allM E) t else withM (allM E) (1, t, v)
theorem no_put (E : List Ent) (t : List Int) (v : Int) : putE E t v = noM E false t v := by
  unfold putE noM
  by_cases hc : checkB E = true
  · rw [if_pos hc, if_pos hc]
    simp only [find7_place hc, Bool.false_eq_true, if_false]
  · rw [if_neg hc, if_neg hc]
theorem no_drop (E : List Ent) (t : List Int) (v : Int) : dropE E t = noM E true t v := by
  unfold dropE noM
  by_cases hc : checkB E = true
  · rw [if_pos hc, if_pos hc]
    have := find7_place hc t
    simp only [if_true]
    by_cases hp : placeM E t < 0
    · rw [if_pos hp, if_pos (by omega)]
    · rw [if_neg hp, if_neg (by omega)]
  · rw [if_neg hc, if_neg hc]
theorem no_chk {E : List Ent} {d : Bool} {t : List Int} {v : Int} (h : noM E d t v = 0) : checkB E = true := by
  unfold noM at h
  by_cases hc : checkB E = true
  · exact hc
  · rw [if_neg hc] at h; exact absurd h (by decide)
theorem want_put {E es3 : List Ent} {t : List Int} {v : Int} (h : noM E false t v = 0) (hc3 : checkB es3 = true) (hp : (es3.filter stands).Perm (allM E ++ [(1, t, v)])) : allM es3 = wantM E false t v := by
  have hc := no_chk h
  rw [← no_put] at h
  exact (all_put (e := (1, t, v)) hc hc3 rfl hp (place_none hc (putE_zero_iff h).2)).1
theorem want_drop {E : List Ent} {t : List Int} {v : Int} {p : Nat} {x : Ent} (h : noM E true t v = 0) (hx : E[p]? = some x) (hx1 : x.1 = 1) (hxt : x.2.1 = t) : checkB (E.set p gone) = true ∧ allM (E.set p gone) = wantM E true t v := by
  have hc := no_chk h
  refine ⟨check_drop hc hx hx1, ?_⟩
  rw [all_drop hc hx hx1, hxt]
  rfl
end Go.Eng
