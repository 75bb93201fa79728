/- The texts K23, K25, K26, K28, joined. -/
import Derived.Test.YtcoldgkhlkjjmaaGreatX4
/- Referrers: ReferTurn. -/
namespace Go.Eng
open Go.Proofs
set_option linter.unusedSimpArgs false
set_option linter.unusedVariables false
theorem right_of {A : List HH} (hs : sortedH A) (hm : ∀ x ∈ A, mayH x = true) (hl : A.length ≤ 20000) : rightH (ofH A) = true := by
  unfold rightH
  rw [allH_of hs, List.all_eq_true.2 hm, decide_eq_true hl]
  simp
theorem right_may {l : List RH} (h : rightH l = true) : (∀ x ∈ allH l, mayH x = true) ∧ (allH l).length ≤ 20000 := by
  unfold rightH at h
  rw [Bool.and_eq_true, Bool.and_eq_true] at h
  exact ⟨List.all_eq_true.1 h.1.1, of_decide_eq_true h.2⟩
theorem without_with {A : List HH} {h : HH} (hA : sortedH A) (hn : h ∉ A) : withoutH (withH A h) h = A :=
  sortedH_uniq (withoutH_sorted (withH_sorted hA h) h) hA fun x => by
    rw [withoutH_mem, withH_mem]
    constructor
    · rintro ⟨e | e, h2⟩
      · exact absurd e h2
      · exact e
    · intro e
      exact ⟨.inr e, fun e2 => hn (e2 ▸ e)⟩
/-- What was put: the referrers behind it, and behind its drop. -/
theorem put_facts {E : List RH} {h : HH} (hp : putC E h = 0) : rightH (ofH (withH (allH E) h)) = true ∧ allH (ofH (withH (allH E) h)) = withH (allH E) h ∧ dropC (ofH (withH (allH E) h)) h = 0 ∧ ofH (withoutH (allH (ofH (withH (allH E) h))) h) = E := by
  obtain ⟨hr, hm, hnot, h20⟩ := putC_zero hp
  obtain ⟨hall, hlen⟩ := right_may hr
  have hso := allH_sorted E
  have hsw := withH_sorted hso h
  have hR : rightH (ofH (withH (allH E) h)) = true := right_of hsw (fun x hx => by
    rcases withH_mem.1 hx with e | e
    · rw [e]; exact hm
    · exact hall x e) (by have := withH_len' (allH E) h; omega)
  have hA := allH_of hsw
  refine ⟨hR, hA, ?_, ?_⟩
  · unfold dropC
    rw [if_pos hR, if_pos hm, hA, if_pos (withH_mem.2 (.inl rfl))]
  · rw [hA, without_with hso hnot]
    exact (of_ok (right_ok.1 hr)).symm
theorem hold_mem {A : List HH} {h : HH} {n : Int} (hm : h ∈ A) (hn : mentB h.2 n = true) : h.1 ∈ holdM A n := by
  unfold holdM
  rw [(foldP_law _ [] List.Pairwise.nil).2]
  exact .inr (List.mem_map_of_mem (underH_mem.2 ⟨hm, hn⟩))
theorem tot_le {l : List RH} (h : OkR l) : tot l ≤ 2 * (allH l).length ∧ l.length ≤ 2 * (allH l).length := by
  obtain ⟨A, hA⟩ : ∃ A, A = allH l := ⟨_, rfl⟩
  have hof := of_ok h
  rw [← hA] at hof ⊢
  have hl : l.length = (idxH A).length := by conv => lhs; rw [hof]
                                             unfold ofH; rw [List.length_map]
  refine ⟨?_, by rw [hl]; exact idxH_len A⟩
  have hri := idxH_rising A
  rw [hof]
  unfold tot ofH
  have key : ∀ (B : List HH) (is_ : List Int), risingI is_ → ((is_.map fun n => (n, underH B n)).flatMap (·.2)).length ≤ 2 * B.length := by
    intro B is_ hri
    have h1 : ((is_.map fun n => (n, underH B n)).flatMap (·.2)).length = (is_.map fun n => (underH B n).length).sum := by
      rw [List.length_flatMap, List.map_map]; rfl
    rw [h1]
    clear h1
    induction B with
    | nil =>
      show (is_.map fun n => 0).sum ≤ 0
      clear hri
      induction is_ with
      | nil => exact Nat.le_refl _
      | cons n is_ ih => rw [List.map_cons, List.sum_cons]; omega
    | cons x B ih =>
      have h2 : ∀ js : List Int, (js.map fun n => (underH (x :: B) n).length).sum = (js.filter fun m => mentB x.2 m).length + (js.map fun n => (underH B n).length).sum := by
        intro js
        induction js with
        | nil => rfl
        | cons n js ih2 =>
          rw [List.map_cons, List.sum_cons, List.map_cons, List.sum_cons, List.filter_cons, ih2]
          unfold underH
          rw [List.filter_cons]
          by_cases e : mentB x.2 n = true
          · rw [if_pos e, if_pos e, List.length_cons, List.length_cons]; omega
          · rw [if_neg e, if_neg e]; omega
      have h3 : (is_.filter fun m => mentB x.2 m).length ≤ 2 := by
        have hnd : ∀ js : List Int, risingI js → (js.filter fun m => mentB x.2 m).length ≤ 2 := fun js hj => by
          have hs : (js.filter fun m => mentB x.2 m).Nodup := (List.Pairwise.imp (S := (· ≠ ·)) (fun {a b} h => by omega) hj).sublist List.filter_sublist
          have hsub : ∀ m ∈ js.filter (fun m => mentB x.2 m), m ∈ [(partsM x.2).1, (partsM x.2).2] := fun m hm => by
            rcases ment_iff.1 (List.mem_filter.1 hm).2 with e | e
            · rw [← e]; simp
            · rw [← e]; simp
          match hz : js.filter (fun m => mentB x.2 m), hs, hsub with
          | [], _, _ => simp
          | [_], _, _ => simp
          | [_, _], _, _ => simp
          | a :: b :: d :: zs, hs, hsub =>
            exfalso
            have ha := hsub a (by simp)
            have hb := hsub b (by simp)
            have hd := hsub d (by simp)
            simp only [List.mem_cons, List.not_mem_nil, or_false] at ha hb hd
            rw [List.nodup_cons, List.nodup_cons] at hs
            have n1 : a ≠ b := fun e => hs.1 (by simp [e])
            have n2 : a ≠ d := fun e => hs.1 (by simp [e])
            have n3 : b ≠ d := fun e => hs.2.1 (by simp [e])
            omega
        exact hnd is_ hri
      rw [h2, List.length_cons]
      omega
  exact key A (idxH A) hri
attribute [local irreducible] Hold J JL JD JX JXat OpR OpG Ret RetV Is Blk Row MapC
set_option maxRecDepth 100000
set_option maxHeartbeats 1000000
end Go.Eng
/- Referrers: the pairs of a type that another one has not. -/
namespace Go.Eng
open Go.Proofs
set_option linter.unusedSimpArgs false
set_option linter.unusedVariables false
theorem row_blk {w W : World} {F : Nat → Prop} {L : List HP} {a : Option Addr} {n c e sz b : Nat} {xs : List Value} {o : Obj} (hs : St w F W (Row a n c e sz xs :: Blk b o :: L)) : ¬ afoot a b := fun h => List.rel_of_pairwise_cons hs.sep (List.Mem.head _) b h rfl
def pairsM (a b : List Int) : List Int := a.filter fun x => !(decide (kindM x ≠ 3) || decide (x ∈ b))
theorem pairs_mem {a b : List Int} {x : Int} : x ∈ pairsM a b ↔ x ∈ a ∧ kindM x = 3 ∧ x ∉ b := by
  unfold pairsM
  rw [List.mem_filter]
  simp
theorem pairs_len (a b : List Int) : (pairsM a b).length ≤ a.length := List.length_filter_le _ _
attribute [local irreducible] Hold J JL JD JX JXat OpR OpG Ret RetV Is Blk Row MapC
set_option maxRecDepth 100000
set_option maxHeartbeats 1000000
theorem cloneI_r (w : World) (a : Option Addr) (n c : Nat) (xs : List Int) (h : Sl dId All w a n c xs) (hn : n ≤ 4000000000) :
    Ret Tryz.prog 24 #[.slice a n c] w fun v w' => ∃ a' c', v = .slice a' n c' ∧ Fresh w w' [Row a' n c' 29 1 (encL cId xs)] := by
  obtain ⟨h1, h2, _⟩ := h.srcF
  exact cloneId_r w a n c _ h1 h2 hn
theorem indexId_r (w : World) (a : Option Addr) (n c : Nat) (xs : List Int) (x : Int) (h : Sl dId All w a n c xs) :
    Ret Tryz.prog 217 #[.slice a n c, .int .u64 x] w fun v w' => ∃ i : Int, (0 ≤ i ↔ x ∈ xs) ∧ v = .int .i64 i ∧ Ext w w' := by
  refine Ret_of (l := [_, _]) Tryz.func217 rfl Tryz.ntmps217 (by simp) ?_
  have hs := St.init w
  have hl := h.len
  have hmx : n ≤ 9223372036854775807 := by have h3 := h.le; have h4 := h.cap; unfold maxLen at h4; omega
  repeat' (first
    | (apply JL_nil)
    | ((apply JL_pure); (first
      | (apply as_move; exact OpR_move rfl is_rfl)
      | (apply as_assign; exact OpR_assign rfl is_rfl)
      | (apply as_b_len; exact OpR_len rfl is_rfl)); first | (exact rfl; exact rfl) | exact rfl)
    | (apply J_seq)
    | (apply J_region)
    | (apply J_block))
  refine J_loopK (α := Nat) [(0, _), (1, _), (7, _)] (fun k => [(8, .int .i64 k)]) (fun k w' => St w NoF w' [] ∧ k ≤ n ∧ x ∉ xs.take k) (fun k => n - k) 0 ⟨hs, Nat.zero_le _, (by simp)⟩ (by repeat' (first | exact trivial | exact rfl | apply And.intro)) ?_
  rintro k w2 ⟨hs1, hk, hno⟩ ih
  have hs : St w NoF w2 [] := hs1
  by_cases hlt : k < n
  · obtain ⟨p, o, rfl⟩ := h.sl.addr (by omega)
    have hs : St w NoF w2 [] := hs1
    have hx : xs[k]? = some (xs[k]'(by omega)) := List.getElem?_eq_getElem (by omega)
    obtain ⟨y, hyd⟩ : ∃ y, y = xs[k]'(by omega) := ⟨_, rfl⟩
    rw [← hyd] at hx
    by_cases hc : x = y
    · repeat' (first
        | (apply JL_nil)
        | ((apply JL_pure); (first
      | (apply as_load; exact OpR_load_el1 (i := k) (j := 0) (h.st hs) hx rfl rfl rfl is_rfl)
      | (apply as_move; exact OpR_move rfl is_rfl)
      | (apply as_assign; exact OpR_assign rfl is_rfl)
      | (apply as_binOp; exact OpR_ibin rfl rfl rfl is_rfl)
      | (apply as_indexAddr; exact OpR_indexAddr rfl rfl (by omega) (by omega) is_rfl)); first | (exact rfl; exact rfl) | exact rfl)
        | (apply J_seq)
        | (apply J_region)
        | (apply J_block)
        | (apply J_skip)
        | (apply aj_cond; refine J_dec_t rfl ob ?_))
      refine J_leave Tryz.func217 rfl (.tmp rfl .nil) ⟨k, ⟨fun _ => hc ▸ List.mem_of_getElem? hx, fun _ => by omega⟩, rfl, hs.frm.ext⟩
    · repeat' (first
        | (apply JL_nil)
        | ((apply JL_pure); (first
      | (apply as_load; exact OpR_load_el1 (i := k) (j := 0) (h.st hs) hx rfl rfl rfl is_rfl)
      | (apply as_move; exact OpR_move rfl is_rfl)
      | (apply as_assign; exact OpR_assign rfl is_rfl)
      | (apply as_add; exact OpR_addn rfl rfl (by omega) (by first | (simp only [Int.reduceAdd]; exact rfl) | exact rfl) is_rfl)
      | (apply as_binOp; exact OpR_ibin rfl rfl rfl is_rfl)
      | (apply as_indexAddr; exact OpR_indexAddr rfl rfl (by omega) (by omega) is_rfl)); first | (exact rfl; exact rfl) | exact rfl)
        | (apply J_seq)
        | (apply J_region)
        | (apply J_block)
        | (apply J_inBlock)
        | (apply J_skip)
        | (apply aj_cond; first | refine J_dec_t rfl ob ?_ | refine J_dec_f rfl ob ?_))
      refine ih (k + 1) _ _ ⟨hs, hlt, fun hm => ?_⟩ (by omega) (by repeat' (first | exact trivial | exact rfl | apply And.intro))
      rw [List.take_add_one, hx] at hm
      rcases List.mem_append.1 hm with e | e
      · exact hno e
      · exact hc (by simpa using e)
  · rw [List.take_of_length_le (by omega)] at hno
    repeat' (first
      | (apply JL_nil)
      | ((apply JL_pure); (first
      | (apply as_assign; exact OpR_assign rfl is_rfl)
      | (apply as_binOp; exact OpR_ibin rfl rfl rfl is_rfl)); first | (exact rfl; exact rfl) | exact rfl)
      | (apply J_seq)
      | (apply J_region)
      | (apply aj_exit; refine J_exit rfl ?_)
      | (apply aj_cond; refine J_dec_f rfl ob ?_))
    refine J_leave Tryz.func217 rfl (.tmp rfl .nil) ⟨-1, ⟨fun e => absurd e (by decide), fun e => absurd e hno⟩, rfl, hs.frm.ext⟩
theorem contId_r (w : World) (a : Option Addr) (n c : Nat) (xs : List Int) (x : Int) (h : Sl dId All w a n c xs) :
    Ret Tryz.prog 164 #[.slice a n c, .int .u64 x] w fun v w' => v = .bool (decide (x ∈ xs)) ∧ Ext w w' := by
  refine Ret_of (l := [_, _]) Tryz.func164 rfl Tryz.ntmps164 (by simp) ?_
  have hs := St.init w
  repeat' (first
    | ((apply al_call 217; refine JL_o (by exact OpR_callF en217 rfl (indexId_r _ a n c xs x (h.st hs))) rfl rfl ?_; rintro _ _ ⟨i, hi, rfl, hE⟩; have hs := hs.ext hE; (try simp only [List.cons_append, List.nil_append] at hs)))
    | (apply JL_nil)
    | ((apply JL_pure); (first
      | (apply as_move; exact OpR_move rfl is_rfl)
      | (apply as_assign; exact OpR_assign rfl is_rfl)
      | (apply as_binOp; exact OpR_ibin rfl rfl rfl is_rfl)); first | (exact rfl; exact rfl) | exact rfl)
    | (apply J_seq)
    | (apply J_region))
  refine J_leave Tryz.func164 rfl (.tmp rfl .nil) ⟨congrArg Value.bool (by rw [decide_eq_decide]; exact hi), hs.frm.ext⟩
theorem rpairs1_r (w : World) (x : Int) (b1 : Nat) (a : Option Addr) (n c : Nat) (ys : List Int) (hx : okId x) (hb1 : w.heap[b1]? = some (.cells #[.slice a n c] 43 (0, 0))) (h : Sl dId All w a n c ys) : Ret Tryz.prog 163 #[.int .u64 x, ptr b1] w fun v w' => v = .bool (decide (kindM x ≠ 3) || decide (x ∈ ys)) ∧ Ext w w' := by
  refine Ret_of (l := [_, _]) Tryz.func163 rfl Tryz.ntmps163 (by simp) ?_
  have hs := St.init w
  have hb1l := (Array.getElem?_eq_some_iff.1 hb1).1
  by_cases hk : kindM x = 3
  · have hk2 : ¬ (kindM x ≠ 3) := fun e => e hk
    repeat' (first
      | ((apply al_call 152; refine JL_o (by exact OpR_callF en152 rfl (kind_r _ x hx)) rfl rfl ?_; rintro _ _ ⟨rfl, hE⟩; have hs := hs.ext hE; (try simp only [List.cons_append, List.nil_append] at hs)))
      | ((apply al_callg 164; refine JL_o_on rfl gb (by exact OpR_callF en164 rfl (contId_r _ a n c ys x (h.st hs))) rfl rfl ?_; rintro _ _ ⟨rfl, hE⟩; have hs := hs.ext hE; (try simp only [List.cons_append, List.nil_append] at hs)))
      | (apply JL_nil)
      | ((first | (apply JL_pure) | (apply JL_pure_on; exact rfl; exact gb)); (first
      | (apply as_load; exact OpR_load_cell (v := .slice a n c) (cell_blk ((hs.frm.old b1 hb1l id).trans hb1) rfl) rfl is_rfl)
      | (apply as_move; exact OpR_move rfl is_rfl)
      | (apply as_assign; exact OpR_assign rfl is_rfl)
      | (apply as_binOp; exact OpR_ibin rfl rfl rfl is_rfl)
      | (apply as_pick; exact OpR_pick_f rfl gb rfl is_rfl)); first | (exact rfl; exact rfl) | exact rfl)
      | (apply J_seq)
      | (apply J_region))
    refine J_leave Tryz.func163 rfl (.tmp rfl .nil) ⟨?_, hs.frm.ext⟩
    rw [decide_eq_false (p := kindM x ≠ 3) (by simp [hk])]; rfl
  · repeat' (first
      | ((apply al_call 152; refine JL_o (by exact OpR_callF en152 rfl (kind_r _ x hx)) rfl rfl ?_; rintro _ _ ⟨rfl, hE⟩; have hs := hs.ext hE; (try simp only [List.cons_append, List.nil_append] at hs)))
      | (apply JL_nil)
      | ((apply JL_pure); (first
      | (apply as_move; exact OpR_move rfl is_rfl)
      | (apply as_assign; exact OpR_assign rfl is_rfl)
      | (apply as_binOp; exact OpR_ibin rfl rfl rfl is_rfl)
      | (apply as_pick; exact OpR_pick_t rfl gb rfl is_rfl)); first | (exact rfl; exact rfl) | exact rfl)
      | (apply J_seq)
      | (apply J_region)
      | (apply al_guard; (refine JL_no rfl gb rfl ?_)))
    refine J_leave Tryz.func163 rfl (.tmp rfl .nil) ⟨?_, hs.frm.ext⟩
    rw [decide_eq_true (p := kindM x ≠ 3) hk]; rfl
theorem rpairs_r (w : World) (a1 a2 : Option Addr) (n1 c1 n2 c2 : Nat) (xs ys : List Int) (h1 : Sl dId All w a1 n1 c1 xs) (h2 : Sl dId All w a2 n2 c2 ys) (hn : n1 ≤ 1000000) :
    Ret Tryz.prog 87 #[.slice a1 n1 c1, .slice a2 n2 c2] w fun v w' => ∃ a' c', v = .slice a' (pairsM xs ys).length c' ∧ Fresh w w' [Row a' (pairsM xs ys).length c' 29 1 (encL cId (pairsM xs ys))] := by
  refine Ret_of (l := [_, _]) Tryz.func87 rfl Tryz.ntmps87 (by simp) ?_
  have hs := St.init w
  have hok : ∀ x ∈ xs, okId x := fun x hx => by
    obtain ⟨i, hi⟩ := List.mem_iff_getElem?.1 hx
    exact (h1.elF hi).1
  repeat' (first
    | ((apply al_call 24; refine JL_o (by exact OpR_callF en24 rfl (cloneI_r _ a1 n1 c1 xs (h1.st hs) (by omega))) rfl rfl ?_; rintro _ _ ⟨a3, c3, rfl, hf⟩; have hs := hs.fresh hf; (try simp only [List.cons_append, List.nil_append] at hs)))
    | ((apply al_none (t := 8); refine JL_o (OpR_callF en162 rfl (delFId_r _ a3 n1 c3 xs (St.held (A := [_]) hs) hok (by omega) 163 #[ptr b3] en163 (fun x => decide (kindM x ≠ 3) || decide (x ∈ ys)) (fun W hW x hx => rpairs1_r W x b3 a2 n2 c2 ys (hok x hx) ((hW b3 (hs.lt (b := b3)) (row_blk hs)).trans (hs.blk (b := b3))) (h2.loc (fun k _ hk => (hW k (Nat.lt_of_lt_of_le hk hs.frm.size) (row_ge hs k hk)).trans (hs.frm.old k hk id)))))) rfl rfl ?_; rintro _ _ ⟨rfl, ht⟩; have hs := St.take (A := [_]) (A' := [_]) hs ht; simp only [List.cons_append, List.nil_append] at hs))
    | (apply JL_nil)
    | ((apply JL_pure); (first
      | (apply as_move; exact OpR_move rfl is_rfl)
      | (apply as_assign; exact OpR_assign rfl is_rfl)
      | (apply as_makeFunc; exact OpR_func rfl is_rfl)); first | (exact rfl; exact rfl) | exact rfl)
    | (apply J_seq)
    | (apply J_region)
    | (apply al_none (t := 3); refine JL_o (by apply as_box; exact OpR_box' hs rfl) rfl rfl ?_; rintro _ _ ⟨b3, rfl, hb3, hs, hE⟩))
  refine J_leave Tryz.func87 rfl (.tmp rfl .nil) ⟨a3, c3, rfl, hs.out (.cons_cons _ (List.nil_sublist _))⟩
end Go.Eng
/- Referrers: Retype. -/
namespace Go.Eng
open Go.Proofs
set_option linter.unusedSimpArgs false
set_option linter.unusedVariables false
/-- One thing more, or less, of referrers; behind an error nothing. -/
def stepM (op : Bool) (s : List RH × Int) (h : HH) : List RH × Int :=
  if s.2 = 0 then (if op then (if putC s.1 h = 0 then (ofH (withH (allH s.1) h), 0) else ([], putC s.1 h)) else (if dropC s.1 h = 0 then (ofH (withoutH (allH s.1) h), 0) else ([], dropC s.1 h))) else s
def runM (op : Bool) (x : Int) (s : List RH × Int) (xs : List Int) : List RH × Int := xs.foldl (fun s id => stepM op s (x, id)) s
def retM (l : List RH) (x : Int) (was is_ : List Int) : List RH × Int :=
  if rightH l then (if (typeB was && typeB is_) = true then (if 1 ≤ x ∧ x ≤ 1048578 then runM true x (runM false x (l, 0) (pairsM was is_)) (pairsM is_ was) else ([], 2)) else ([], 130)) else ([], 250)
theorem stepM_bad {op : Bool} {s : List RH × Int} (h : HH) (e : s.2 ≠ 0) : stepM op s h = s := by unfold stepM; rw [if_neg e]
theorem runM_bad {op : Bool} {x : Int} : ∀ {xs : List Int} {s : List RH × Int}, s.2 ≠ 0 → runM op x s xs = s
  | [], _, _ => rfl
  | id :: xs, s, e => by
    show runM op x (stepM op s (x, id)) xs = s
    rw [stepM_bad _ e]; exact runM_bad e
theorem runM_app {op : Bool} {x : Int} {s : List RH × Int} (xs ys : List Int) : runM op x s (xs ++ ys) = runM op x (runM op x s xs) ys := by unfold runM; rw [List.foldl_append]
theorem runM_succ {op : Bool} {x : Int} {s : List RH × Int} {xs : List Int} {k : Nat} {id : Int} (h : xs[k]? = some id) : runM op x s (xs.take (k + 1)) = stepM op (runM op x s (xs.take k)) (x, id) := by
  rw [List.take_add_one, h]
  show runM op x s (xs.take k ++ [id]) = _
  rw [runM_app]; rfl
theorem runM_stop {op : Bool} {x : Int} {s : List RH × Int} {xs : List Int} (k : Nat) (e : (runM op x s (xs.take k)).2 ≠ 0) : runM op x s xs = runM op x s (xs.take k) := by
  conv => lhs; rw [← List.take_append_drop k xs]
  rw [runM_app, runM_bad e]
theorem stepM_none {op : Bool} {s : List RH × Int} {h : HH} (hs : s.2 ≠ 0 → s.1 = []) : (stepM op s h).2 ≠ 0 → (stepM op s h).1 = [] := by
  intro e
  by_cases h0 : s.2 = 0
  · unfold stepM at e ⊢
    rw [if_pos h0] at e ⊢
    cases op with
    | true =>
      rw [if_pos rfl] at e ⊢
      by_cases hp : putC s.1 h = 0
      · rw [if_pos hp] at e; exact absurd rfl e
      · rw [if_neg hp]
    | false =>
      rw [if_neg (by decide)] at e ⊢
      by_cases hp : dropC s.1 h = 0
      · rw [if_pos hp] at e; exact absurd rfl e
      · rw [if_neg hp]
  · rw [stepM_bad _ h0]; exact hs h0
theorem runM_none {op : Bool} {x : Int} : ∀ {xs : List Int} {s : List RH × Int}, (s.2 ≠ 0 → s.1 = []) → (runM op x s xs).2 ≠ 0 → (runM op x s xs).1 = []
  | [], _, hs => hs
  | id :: xs, s, hs => runM_none (xs := xs) (s := stepM op s (x, id)) (stepM_none hs)
theorem retM_none {l : List RH} {x : Int} {was is_ : List Int} (e : (retM l x was is_).2 ≠ 0) : (retM l x was is_).1 = [] := by
  unfold retM at e ⊢
  by_cases h1 : rightH l = true
  · rw [if_pos h1] at e ⊢
    by_cases h2 : (typeB was && typeB is_) = true
    · rw [if_pos h2] at e ⊢
      by_cases h3 : 1 ≤ x ∧ x ≤ 1048578
      · rw [if_pos h3] at e ⊢
        exact runM_none (runM_none (fun h => absurd rfl h)) e
      · rw [if_neg h3]
    · rw [if_neg h2]
  · rw [if_neg h1]
/-- A step that is done: what it comes from, and to. -/
theorem stepP {L : List RH} {h : HH} (e : (stepM true (L, 0) h).2 = 0) : putC L h = 0 ∧ stepM true (L, 0) h = (ofH (withH (allH L) h), 0) := by
  unfold stepM at e ⊢
  rw [if_pos rfl, if_pos rfl] at e ⊢
  by_cases hp : putC L h = 0
  · exact ⟨hp, if_pos hp⟩
  · rw [if_neg hp] at e; exact absurd e hp
theorem stepD {L : List RH} {h : HH} (e : (stepM false (L, 0) h).2 = 0) : dropC L h = 0 ∧ stepM false (L, 0) h = (ofH (withoutH (allH L) h), 0) := by
  unfold stepM at e ⊢
  rw [if_pos rfl, if_neg (by decide)] at e ⊢
  by_cases hp : dropC L h = 0
  · exact ⟨hp, if_pos hp⟩
  · rw [if_neg hp] at e; exact absurd e hp
theorem stepP_of {L : List RH} {h : HH} (hp : putC L h = 0) : stepM true (L, 0) h = (ofH (withH (allH L) h), 0) := by unfold stepM; rw [if_pos rfl, if_pos rfl]; exact if_pos hp
theorem stepD_of {L : List RH} {h : HH} (hp : dropC L h = 0) : stepM false (L, 0) h = (ofH (withoutH (allH L) h), 0) := by unfold stepM; rw [if_pos rfl, if_neg (by decide)]; exact if_pos hp
theorem put_right {L : List RH} {h : HH} (hp : putC L h = 0) : rightH (ofH (withH (allH L) h)) = true ∧ allH (ofH (withH (allH L) h)) = withH (allH L) h := ⟨(put_facts hp).1, (put_facts hp).2.1⟩
theorem drop_right {L : List RH} {h : HH} (hp : dropC L h = 0) : rightH (ofH (withoutH (allH L) h)) = true ∧ allH (ofH (withoutH (allH L) h)) = withoutH (allH L) h := by
  obtain ⟨hr, hm, hin⟩ := dropC_zero hp
  obtain ⟨hall, hlen⟩ := right_may hr
  have hsw := withoutH_sorted (allH_sorted L) h
  refine ⟨right_of hsw (fun x hx => hall x (withoutH_mem.1 hx).1) (Nat.le_trans (List.length_filter_le _ _) hlen), allH_of hsw⟩
theorem step_right {op : Bool} {L : List RH} {h : HH} (e : (stepM op (L, 0) h).2 = 0) : rightH (stepM op (L, 0) h).1 = true := by
  cases op with
  | true => obtain ⟨hp, hq⟩ := stepP e; rw [hq]; exact (put_right hp).1
  | false => obtain ⟨hp, hq⟩ := stepD e; rw [hq]; exact (drop_right hp).1
theorem without_len {A : List HH} {h : HH} (hm : h ∈ A) : (withoutH A h).length + 1 ≤ A.length := by
  have : (withoutH A h).length < A.length := by
    unfold withoutH
    exact List.length_filter_lt_length_iff_exists.2 ⟨h, hm, by simp⟩
  omega
/-- Drops that were done: they were there, each once. -/
theorem drops_inv {x : Int} : ∀ {xs : List Int} {L : List RH}, rightH L = true → (runM false x (L, 0) xs).2 = 0 →
    ∃ L', runM false x (L, 0) xs = (L', 0) ∧ rightH L' = true ∧ xs.Nodup ∧ (∀ i ∈ xs, mayH (x, i) = true ∧ (x, i) ∈ allH L) ∧ (allH L').length + xs.length ≤ (allH L).length ∧ ∀ z, z ∈ allH L' ↔ z ∈ allH L ∧ ∀ i ∈ xs, z ≠ (x, i)
  | [], L, hr, _ => ⟨L, rfl, hr, List.nodup_nil, (fun i hi => by cases hi), (by simp), fun z => ⟨fun h => ⟨h, fun i hi => by cases hi⟩, fun h => h.1⟩⟩
  | i :: xs, L, hr, e => by
    have e : (runM false x (stepM false (L, 0) (x, i)) xs).2 = 0 := e
    by_cases h0 : (stepM false (L, 0) (x, i)).2 = 0
    · obtain ⟨hp, hq⟩ := stepD h0
      obtain ⟨hr1, hA1⟩ := drop_right hp
      obtain ⟨_, hm, hin⟩ := dropC_zero hp
      rw [hq] at e
      obtain ⟨L', h1, h2, h3, h4, h5, h6⟩ := drops_inv hr1 e
      rw [hA1] at h4 h5 h6
      have hl := without_len hin
      refine ⟨L', by show runM false x (stepM false (L, 0) (x, i)) xs = _; rw [hq]; exact h1, h2, List.nodup_cons.2 ⟨fun hi => (withoutH_mem.1 (h4 i hi).2).2 rfl, h3⟩, fun j hj => ?_, by rw [List.length_cons]; omega, fun z => ?_⟩
      · rcases List.mem_cons.1 hj with rfl | hj
        · exact ⟨hm, hin⟩
        · exact ⟨(h4 j hj).1, (withoutH_mem.1 (h4 j hj).2).1⟩
      · rw [h6, withoutH_mem]
        constructor
        · rintro ⟨⟨ha, hb⟩, hc⟩
          refine ⟨ha, fun j hj => ?_⟩
          rcases List.mem_cons.1 hj with rfl | hj
          · exact hb
          · exact hc j hj
        · rintro ⟨ha, hb⟩
          exact ⟨⟨ha, hb i List.mem_cons_self⟩, fun j hj => hb j (List.mem_cons_of_mem _ hj)⟩
    · rw [runM_bad h0] at e
      exact absurd e h0
theorem puts_inv {x : Int} : ∀ {xs : List Int} {L : List RH}, rightH L = true → (runM true x (L, 0) xs).2 = 0 →
    ∃ L', runM true x (L, 0) xs = (L', 0) ∧ rightH L' = true ∧ xs.Nodup ∧ (∀ i ∈ xs, mayH (x, i) = true ∧ (x, i) ∉ allH L) ∧ ∀ z, z ∈ allH L' ↔ z ∈ allH L ∨ ∃ i ∈ xs, z = (x, i)
  | [], L, hr, _ => ⟨L, rfl, hr, List.nodup_nil, (fun i hi => by cases hi), fun z => ⟨.inl, fun h => h.resolve_right (by rintro ⟨i, hi, _⟩; cases hi)⟩⟩
  | i :: xs, L, hr, e => by
    have e : (runM true x (stepM true (L, 0) (x, i)) xs).2 = 0 := e
    by_cases h0 : (stepM true (L, 0) (x, i)).2 = 0
    · obtain ⟨hp, hq⟩ := stepP h0
      obtain ⟨hr1, hA1⟩ := put_right hp
      obtain ⟨_, hm, hnot, _⟩ := putC_zero hp
      rw [hq] at e
      obtain ⟨L', h1, h2, h3, h4, h6⟩ := puts_inv hr1 e
      rw [hA1] at h4 h6
      refine ⟨L', by show runM true x (stepM true (L, 0) (x, i)) xs = _; rw [hq]; exact h1, h2, List.nodup_cons.2 ⟨fun hi => (h4 i hi).2 (withH_mem.2 (.inl rfl)), h3⟩, fun j hj => ?_, fun z => ?_⟩
      · rcases List.mem_cons.1 hj with rfl | hj
        · exact ⟨hm, hnot⟩
        · exact ⟨(h4 j hj).1, fun h => (h4 j hj).2 (withH_mem.2 (.inr h))⟩
      · rw [h6, withH_mem]
        constructor
        · rintro ((rfl | ha) | ⟨j, hj, rfl⟩)
          · exact .inr ⟨i, List.mem_cons_self, rfl⟩
          · exact .inl ha
          · exact .inr ⟨j, List.mem_cons_of_mem _ hj, rfl⟩
        · rintro (ha | ⟨j, hj, rfl⟩)
          · exact .inl (.inr ha)
          · rcases List.mem_cons.1 hj with rfl | hj
            · exact .inl (.inl rfl)
            · exact .inr ⟨j, hj, rfl⟩
    · rw [runM_bad h0] at e
      exact absurd e h0
theorem drops_do {x : Int} : ∀ {xs : List Int} {L : List RH}, rightH L = true → xs.Nodup → (∀ i ∈ xs, mayH (x, i) = true ∧ (x, i) ∈ allH L) → (runM false x (L, 0) xs).2 = 0
  | [], _, _, _, _ => rfl
  | i :: xs, L, hr, hn, h => by
    obtain ⟨hm, hin⟩ := h i List.mem_cons_self
    have hp : dropC L (x, i) = 0 := by unfold dropC; rw [if_pos hr, if_pos hm, if_pos hin]
    obtain ⟨hr1, hA1⟩ := drop_right hp
    rw [List.nodup_cons] at hn
    show (runM false x (stepM false (L, 0) (x, i)) xs).2 = 0
    rw [stepD_of hp]
    refine drops_do hr1 hn.2 fun j hj => ⟨(h j (List.mem_cons_of_mem _ hj)).1, ?_⟩
    rw [hA1]
    exact withoutH_mem.2 ⟨(h j (List.mem_cons_of_mem _ hj)).2, fun e => hn.1 (by have e2 : j = i := congrArg Prod.snd e; exact e2 ▸ hj)⟩
theorem puts_do {x : Int} : ∀ {xs : List Int} {L : List RH}, rightH L = true → xs.Nodup → (∀ i ∈ xs, mayH (x, i) = true ∧ (x, i) ∉ allH L) → (allH L).length + xs.length ≤ 20000 → (runM true x (L, 0) xs).2 = 0
  | [], _, _, _, _, _ => rfl
  | i :: xs, L, hr, hn, h, hl => by
    rw [List.length_cons] at hl
    obtain ⟨hm, hin⟩ := h i List.mem_cons_self
    have hp : putC L (x, i) = 0 := by unfold putC; rw [if_pos hr, if_pos hm, if_neg hin, if_neg (by omega)]
    obtain ⟨hr1, hA1⟩ := put_right hp
    rw [List.nodup_cons] at hn
    show (runM true x (stepM true (L, 0) (x, i)) xs).2 = 0
    rw [stepP_of hp]
    refine puts_do hr1 hn.2 (fun j hj => ⟨(h j (List.mem_cons_of_mem _ hj)).1, ?_⟩) (by rw [hA1]; have := withH_len' (allH L) (x, i); omega)
    rw [hA1]
    intro e
    rcases withH_mem.1 e with e | e
    · exact hn.1 (by have e2 : j = i := congrArg Prod.snd e; exact e2 ▸ hj)
    · exact (h j (List.mem_cons_of_mem _ hj)).2 e
theorem right_eq {L L' : List RH} (h : rightH L = true) (h' : rightH L' = true) (hz : ∀ z, z ∈ allH L ↔ z ∈ allH L') : L = L' := by
  rw [of_ok (right_ok.1 h), of_ok (right_ok.1 h'), sortedH_uniq (allH_sorted L) (allH_sorted L') hz]
/-- Retyped there, and back. -/
theorem retype_back {L : List RH} {x : Int} {was is_ : List Int} (e : (retM L x was is_).2 = 0) : rightH (retM L x was is_).1 = true ∧ retM (retM L x was is_).1 x is_ was = (L, 0) := by
  by_cases h1 : rightH L = true
  · by_cases h2 : (typeB was && typeB is_) = true
    · by_cases h3 : 1 ≤ x ∧ x ≤ 1048578
      · have hre : retM L x was is_ = runM true x (runM false x (L, 0) (pairsM was is_)) (pairsM is_ was) := by unfold retM; rw [if_pos h1, if_pos h2, if_pos h3]
        rw [hre] at e ⊢
        have ed : (runM false x (L, 0) (pairsM was is_)).2 = 0 := Decidable.by_contra fun h => by rw [runM_bad h] at e; exact h e
        obtain ⟨L1, hd, hr1, hDn, hDm, hDl, hDz⟩ := drops_inv h1 ed
        rw [hd] at e ⊢
        obtain ⟨L2, hp, hr2, hPn, hPm, hPz⟩ := puts_inv hr1 e
        rw [hp]
        refine ⟨hr2, ?_⟩
        show retM L2 x is_ was = _
        unfold retM
        rw [if_pos hr2, if_pos (by rw [Bool.and_comm]; exact h2), if_pos h3]
        have e1 := drops_do hr2 hPn (fun i hi => ⟨(hPm i hi).1, (hPz _).2 (.inr ⟨i, hi, rfl⟩)⟩)
        obtain ⟨L3, hq, hr3, _, _, _, hQz⟩ := drops_inv hr2 e1
        have h31 : L3 = L1 := right_eq hr3 hr1 fun z => by
          rw [hQz, hPz]
          constructor
          · rintro ⟨ha | ⟨i, hi, rfl⟩, hb⟩
            · exact ha
            · exact absurd rfl (hb i hi)
          · intro ha
            exact ⟨.inl ha, fun i hi e => (hPm i hi).2 (e ▸ ha)⟩
        rw [hq, h31]
        have hmx := (right_may h1).2
        have e2 := puts_do hr1 hDn (fun i hi => ⟨(hDm i hi).1, fun h => ((hDz _).1 h).2 i hi rfl⟩) (by omega)
        obtain ⟨L4, hv, hr4, _, _, hVz⟩ := puts_inv hr1 e2
        rw [hv, right_eq hr4 h1 fun z => ?_]
        rw [hVz, hDz]
        constructor
        · rintro (ha | ⟨i, hi, rfl⟩)
          · exact ha.1
          · exact (hDm i hi).2
        · intro ha
          by_cases hc : ∃ i ∈ pairsM was is_, z = (x, i)
          · exact .inr hc
          · exact .inl ⟨ha, fun i hi e => hc ⟨i, hi, e⟩⟩
      · unfold retM at e; rw [if_pos h1, if_pos h2, if_neg h3] at e; exact absurd e (by decide)
    · unfold retM at e; rw [if_pos h1, if_neg h2] at e; exact absurd e (by decide)
  · unfold retM at e; rw [if_neg h1] at e; exact absurd e (by decide)
/-- Rows of ids, one behind the other. -/
theorem cell_id {xs : List Int} {k : Nat} {x : Int} (h : xs[k]? = some x) : (encL cId xs)[k * 1]? = some (.int .u64 x) := by
  have := encL_get (d := dId) xs k 0 x h (by decide)
  rwa [Nat.add_zero] at this
attribute [local irreducible] Hold J JL JD JX JXat OpR OpG Ret RetV Is Blk Row MapC
set_option maxRecDepth 100000
set_option maxHeartbeats 1000000
theorem bad_step {w w' : World} {c : Int} (hE : Ext w w') : Fresh w w' [TabQ none ([] : List QR).length 0 (([] : List QR).map rawQ), OwnQ []] := ((((St.init w).ext hE).nilQ).nilRow 116 2).out (List.Sublist.refl _)
theorem rput_u (w : World) (a : Option Addr) (n c : Nat) (l : List RH) (h : HH) (hl : Sl dRef All w a n c l) (ho : okH h) (hn : n ≤ 100000) (hb : tot l ≤ 100000) :
    Ret Tryz.prog 15 #[.slice a n c, .agg (cH h).toArray] w fun u w' => ∃ (qs : List QR) (a' : Option Addr) (c' : Nat), (qs.map meanQ = (stepM true (l, 0) h).1 ∧ ∀ q ∈ qs, okQ q) ∧ u = .tuple #[.slice a' qs.length c', .int .i64 (stepM true (l, 0) h).2] ∧ Fresh w w' [TabQ a' qs.length c' (qs.map rawQ), OwnQ qs] := by
  by_cases hp : putC l h = 0
  · rw [stepP_of hp]
    exact rput_ok w a n c l h hl ho hn hb hp
  · refine (rput_bad w a n c l h hl ho hn hb hp).mono ?_
    rintro _ w' ⟨rfl, hE⟩
    have he : stepM true (l, 0) h = ([], putC l h) := by unfold stepM; rw [if_pos rfl, if_pos rfl]; exact if_neg hp
    rw [he]
    exact ⟨[], none, 0, ⟨rfl, fun q hq => by cases hq⟩, rfl, bad_step (c := 0) hE⟩
theorem rdrop_u (w : World) (a : Option Addr) (n c : Nat) (l : List RH) (h : HH) (hl : Sl dRef All w a n c l) (ho : okH h) (hn : n ≤ 100000) (hb : tot l ≤ 100000) :
    Ret Tryz.prog 16 #[.slice a n c, .agg (cH h).toArray] w fun u w' => ∃ (qs : List QR) (a' : Option Addr) (c' : Nat), (qs.map meanQ = (stepM false (l, 0) h).1 ∧ ∀ q ∈ qs, okQ q) ∧ u = .tuple #[.slice a' qs.length c', .int .i64 (stepM false (l, 0) h).2] ∧ Fresh w w' [TabQ a' qs.length c' (qs.map rawQ), OwnQ qs] := by
  by_cases hp : dropC l h = 0
  · rw [stepD_of hp]
    exact rdrop_ok w a n c l h hl ho hn hb hp
  · refine (rdrop_bad w a n c l h hl ho hn hb hp).mono ?_
    rintro _ w' ⟨rfl, hE⟩
    have he : stepM false (l, 0) h = ([], dropC l h) := by unfold stepM; rw [if_pos rfl, if_neg (by decide)]; exact if_neg hp
    rw [he]
    exact ⟨[], none, 0, ⟨rfl, fun q hq => by cases hq⟩, rfl, bad_step (c := 0) hE⟩
abbrev RowU (a : Option Addr) (n c : Nat) (xs : List Int) : HP := Row a n c 29 1 (encL cId xs)
theorem rretype_r (w : World) (a a1 a2 : Option Addr) (n c n1 c1 n2 c2 : Nat) (l : List RH) (x : Int) (was is_ : List Int) (hl : Sl dRef All w a n c l) (h1 : Sl dId All w a1 n1 c1 was) (h2 : Sl dId All w a2 n2 c2 is_) (hx : inK .i64 x) (hn : n ≤ 100000) (hb : tot l ≤ 100000) (hn1 : n1 ≤ 1000) (hn2 : n2 ≤ 1000) :
    Ret Tryz.prog 25 #[.slice a n c, .int .i64 x, .slice a1 n1 c1, .slice a2 n2 c2] w fun u w' => ∃ (qs : List QR) (a' : Option Addr) (c' : Nat), (qs.map meanQ = (retM l x was is_).1 ∧ ∀ q ∈ qs, okQ q) ∧ u = .tuple #[.slice a' qs.length c', .int .i64 (retM l x was is_).2] ∧ Fresh w w' [TabQ a' qs.length c' (qs.map rawQ), OwnQ qs] := by
  refine Ret_of (l := [_, _, _, _]) Tryz.func25 rfl Tryz.ntmps25 (by simp) ?_
  have hs := St.init w
  have hl1 := h1.len
  have hl2 := h2.len
  have hw1 : ∀ i ∈ was, okId i := fun i hi => by
    obtain ⟨k, hk⟩ := List.mem_iff_getElem?.1 hi
    exact (h1.elF hk).1
  have hw2 : ∀ i ∈ is_, okId i := fun i hi => by
    obtain ⟨k, hk⟩ := List.mem_iff_getElem?.1 hi
    exact (h2.elF hk).1
  by_cases hr : rightH l = true
  rotate_left
  · have hr : rightH l = false := by simpa using hr
    have e : retM l x was is_ = ([], 250) := by unfold retM; rw [if_neg (by rw [hr]; decide)]
    rw [e]
    repeat' (first
      | ((apply al_call 71; refine JL_o (by exact OpR_callF en71 rfl (rcheck_r _ a n c l (hl.st hs) (by omega) (by omega))) rfl rfl ?_; rintro _ _ ⟨rfl, hE⟩; rw [err_bad hr]; have hs := hs.ext hE; (try simp only [List.cons_append, List.nil_append] at hs)))
      | (apply JL_nil)
      | ((apply JL_pure); (first
      | (apply as_move; exact OpR_move rfl is_rfl)
      | (apply as_assign; exact OpR_assign rfl is_rfl)
      | (apply as_binOp; exact OpR_ibin rfl rfl rfl is_rfl)); first | (exact rfl; exact rfl) | exact rfl)
      | (apply J_seq)
      | (apply J_region)
      | (apply J_block)
      | (apply J_scope)
      | (apply aj_cond; refine J_dec_t rfl ob ?_))
    refine J_leave Tryz.func25 rfl (.tmp rfl (.tmp rfl .nil)) ⟨[], none, 0, ⟨rfl, fun q hq => by cases hq⟩, rfl, bad_step (c := 0) hs.frm.ext⟩
  by_cases ht : (typeB was && typeB is_) = true
  rotate_left
  · have e : retM l x was is_ = ([], 130) := by unfold retM; rw [if_pos hr, if_neg ht]
    rw [e]
    cases t1 : typeB was with
    | false =>
      repeat' (first
        | ((apply al_call 71; refine JL_o (by exact OpR_callF en71 rfl (rcheck_r _ a n c l (hl.st hs) (by omega) (by omega))) rfl rfl ?_; rintro _ _ ⟨rfl, hE⟩; rw [err_ok hr]; have hs := hs.ext hE; (try simp only [List.cons_append, List.nil_append] at hs)))
        | ((apply al_call 59; refine JL_o (by exact OpR_callF en59 rfl (tcheck_r _ a1 n1 c1 was (h1.st hs))) rfl rfl ?_; rintro _ _ ⟨rfl, hE⟩; rw [t1]; have hs := hs.ext hE; (try simp only [List.cons_append, List.nil_append] at hs)))
        | (apply JL_nil)
        | ((apply JL_pure); (first
      | (apply as_move; exact OpR_move rfl is_rfl)
      | (apply as_assign; exact OpR_assign rfl is_rfl)
      | (apply as_binOp; exact OpR_ibin rfl rfl rfl is_rfl)
      | (apply as_pick; exact OpR_pick_t rfl gb rfl is_rfl)); first | (exact rfl; exact rfl) | exact rfl)
        | (apply J_seq)
        | (apply J_region)
        | (apply J_block)
        | (apply J_scope)
        | (apply al_guard; (refine JL_no rfl gb rfl ?_))
        | (apply aj_cond; first | refine J_dec_f rfl ob ?_ | refine J_cond_t rfl gb ?_))
      refine J_leave Tryz.func25 rfl (.tmp rfl (.tmp rfl .nil)) ⟨[], none, 0, ⟨rfl, fun q hq => by cases hq⟩, rfl, bad_step (c := 0) hs.frm.ext⟩
    | true =>
      have t2 : typeB is_ = false := by rw [t1] at ht; simpa using ht
      repeat' (first
        | ((apply al_call 71; refine JL_o (by exact OpR_callF en71 rfl (rcheck_r _ a n c l (hl.st hs) (by omega) (by omega))) rfl rfl ?_; rintro _ _ ⟨rfl, hE⟩; rw [err_ok hr]; have hs := hs.ext hE; (try simp only [List.cons_append, List.nil_append] at hs)))
        | ((apply al_call 59; refine JL_o (by exact OpR_callF en59 rfl (tcheck_r _ a1 n1 c1 was (h1.st hs))) rfl rfl ?_; rintro _ _ ⟨rfl, hE⟩; rw [t1]; have hs := hs.ext hE; (try simp only [List.cons_append, List.nil_append] at hs)))
        | ((apply al_callg 59; refine JL_o_on rfl gb (by exact OpR_callF en59 rfl (tcheck_r _ a2 n2 c2 is_ (h2.st hs))) rfl rfl ?_; rintro _ _ ⟨rfl, hE⟩; rw [t2]; have hs := hs.ext hE; (try simp only [List.cons_append, List.nil_append] at hs)))
        | (apply JL_nil)
        | ((first | (apply JL_pure) | (apply JL_pure_on; exact rfl; exact gb)); (first
      | (apply as_move; exact OpR_move rfl is_rfl)
      | (apply as_assign; exact OpR_assign rfl is_rfl)
      | (apply as_binOp; exact OpR_ibin rfl rfl rfl is_rfl)
      | (apply as_pick; exact OpR_pick_f rfl gb rfl is_rfl)); first | (exact rfl; exact rfl) | exact rfl)
        | (apply J_seq)
        | (apply J_region)
        | (apply J_block)
        | (apply J_scope)
        | (apply aj_cond; first | refine J_dec_f rfl ob ?_ | refine J_cond_t rfl gb ?_))
      refine J_leave Tryz.func25 rfl (.tmp rfl (.tmp rfl .nil)) ⟨[], none, 0, ⟨rfl, fun q hq => by cases hq⟩, rfl, bad_step (c := 0) hs.frm.ext⟩
  have t1 : typeB was = true := (Bool.and_eq_true_iff.1 ht).1
  have t2 : typeB is_ = true := (Bool.and_eq_true_iff.1 ht).2
  by_cases hxr : 1 ≤ x ∧ x ≤ 1048578
  rotate_left
  · have e : retM l x was is_ = ([], 2) := by unfold retM; rw [if_pos hr, if_pos ht, if_neg hxr]
    rw [e]
    have hx2 : x < 1 ∨ (¬ x < 1 ∧ 1048578 < x) := by omega
    rcases hx2 with hx2 | ⟨hx2, hx3⟩
    all_goals
      repeat' (first
        | ((apply al_call 71; refine JL_o (by exact OpR_callF en71 rfl (rcheck_r _ a n c l (hl.st hs) (by omega) (by omega))) rfl rfl ?_; rintro _ _ ⟨rfl, hE⟩; rw [err_ok hr]; have hs := hs.ext hE; (try simp only [List.cons_append, List.nil_append] at hs)))
        | ((apply al_call 59; refine JL_o (by exact OpR_callF en59 rfl (tcheck_r _ a1 n1 c1 was (h1.st hs))) rfl rfl ?_; rintro _ _ ⟨rfl, hE⟩; rw [t1]; have hs := hs.ext hE; (try simp only [List.cons_append, List.nil_append] at hs)))
        | ((apply al_callg 59; refine JL_o_on rfl gb (by exact OpR_callF en59 rfl (tcheck_r _ a2 n2 c2 is_ (h2.st hs))) rfl rfl ?_; rintro _ _ ⟨rfl, hE⟩; rw [t2]; have hs := hs.ext hE; (try simp only [List.cons_append, List.nil_append] at hs)))
        | (apply JL_nil)
        | ((first | (apply JL_pure) | (apply JL_pure_on; exact rfl; exact gb)); (first
      | (apply as_move; exact OpR_move rfl is_rfl)
      | (apply as_assign; exact OpR_assign rfl is_rfl)
      | (apply as_binOp; exact OpR_ibin rfl rfl rfl is_rfl)
      | (apply as_pick; first | exact OpR_pick_t rfl gb rfl is_rfl | exact OpR_pick_f rfl gb rfl is_rfl)); first | (exact rfl; exact rfl) | exact rfl)
        | (apply J_seq)
        | (apply J_region)
        | (apply J_block)
        | (apply J_scope)
        | (apply al_guard; (refine JL_no rfl gb rfl ?_))
        | (apply aj_cond; first | refine J_dec_t rfl ob ?_ | refine J_dec_f rfl ob ?_ | refine J_cond_t rfl gb ?_ | refine J_cond_f rfl gb ?_))
      refine J_leave Tryz.func25 rfl (.tmp rfl (.tmp rfl .nil)) ⟨[], none, 0, ⟨rfl, fun q hq => by cases hq⟩, rfl, bad_step (c := 0) hs.frm.ext⟩
  obtain ⟨hx1, hx3⟩ := hxr
  obtain ⟨D, hD⟩ : ∃ D, D = pairsM was is_ := ⟨_, rfl⟩
  obtain ⟨P, hP⟩ : ∃ P, P = pairsM is_ was := ⟨_, rfl⟩
  have hDo : ∀ i ∈ D, okId i := fun i hi => hw1 i (pairs_mem.1 (hD ▸ hi)).1
  have hPo : ∀ i ∈ P, okId i := fun i hi => hw2 i (pairs_mem.1 (hP ▸ hi)).1
  have hDl : D.length ≤ 1000 := by rw [hD]; exact Nat.le_trans (pairs_len _ _) (by omega)
  have hPl : P.length ≤ 1000 := by rw [hP]; exact Nat.le_trans (pairs_len _ _) (by omega)
  have e : retM l x was is_ = runM true x (runM false x (l, 0) D) P := by unfold retM; rw [if_pos hr, if_pos ht, if_pos ⟨hx1, hx3⟩, hD, hP]
  rw [e]
  clear e
  obtain ⟨S1, hS1⟩ : ∃ s, s = runM false x (l, 0) D := ⟨_, rfl⟩
  obtain ⟨S2, hS2⟩ : ∃ s, s = runM true x S1 P := ⟨_, rfl⟩
  rw [← hS1, ← hS2]
  have hsz : ∀ {m : List RH}, rightH m = true → m.length ≤ 40000 ∧ tot m ≤ 40000 := fun {m} hm => by
    obtain ⟨i1, i2⟩ := tot_le (right_ok.1 hm)
    have := (right_may hm).2
    omega
  repeat' (first
    | ((apply al_call 71; refine JL_o (by exact OpR_callF en71 rfl (rcheck_r _ a n c l (hl.st hs) (by omega) (by omega))) rfl rfl ?_; rintro _ _ ⟨rfl, hE⟩; rw [err_ok hr]; have hs := hs.ext hE; (try simp only [List.cons_append, List.nil_append] at hs)))
    | ((apply al_call 59; refine JL_o (by exact OpR_callF en59 rfl (tcheck_r _ a1 n1 c1 was (h1.st hs))) rfl rfl ?_; rintro _ _ ⟨rfl, hE⟩; rw [t1]; have hs := hs.ext hE; (try simp only [List.cons_append, List.nil_append] at hs)))
    | ((apply al_callg 59; refine JL_o_on rfl gb (by exact OpR_callF en59 rfl (tcheck_r _ a2 n2 c2 is_ (h2.st hs))) rfl rfl ?_; rintro _ _ ⟨rfl, hE⟩; rw [t2]; have hs := hs.ext hE; (try simp only [List.cons_append, List.nil_append] at hs)))
    | ((apply al_call 86; refine JL_o (by exact OpR_callF en86 rfl (rown_r _ a n c l (hl.st hs) (by omega) (by omega))) rfl rfl ?_; rintro _ _ ⟨qs0, a10, ⟨hqm0, hqo0⟩, rfl, hf⟩; have hs := hs.fresh hf; (try simp only [List.cons_append, List.nil_append] at hs)))
    | ((apply al_call 87; refine JL_o (by exact OpR_callF en87 rfl (rpairs_r _ a1 a2 n1 c1 n2 c2 was is_ (h1.st hs) (h2.st hs) (by omega))) rfl rfl ?_; rintro _ _ ⟨aD, cD, rfl, hf⟩; rw [← hD] at hf ⊢; have hs := hs.fresh hf; (try simp only [List.cons_append, List.nil_append] at hs)))
    | ((apply al_call 87; refine JL_o (by exact OpR_callF en87 rfl (rpairs_r _ a2 a1 n2 c2 n1 c1 is_ was (h2.st hs) (h1.st hs) (by omega))) rfl rfl ?_; rintro _ _ ⟨aP, cP, rfl, hf⟩; rw [← hP] at hf ⊢; have hs := hs.fresh hf; (try simp only [List.cons_append, List.nil_append] at hs)))
    | (apply JL_nil)
    | ((first | (apply JL_pure) | (apply JL_pure_on; exact rfl; exact gb)); (first
      | (apply as_move; exact OpR_move rfl is_rfl)
      | (apply as_assign; exact OpR_assign rfl is_rfl)
      | (apply as_binOp; exact OpR_ibin rfl rfl rfl is_rfl)
      | (apply as_pick; exact OpR_pick_f rfl gb rfl is_rfl)
      | (apply as_build; exact OpR_build_arr rfl (by (simp only [bld, placesOf, splice, Value.cells, List.take_succ_cons, List.take_zero, List.drop_succ_cons, List.drop_zero, List.cons_append, List.nil_append, List.length_cons, List.length_nil, List.getElem?_cons_zero, List.getElem?_cons_succ, Option.map_some, List.append_nil, Nat.reduceAdd, Nat.reduceMul, Nat.zero_add, Nat.reduceLeDiff, and_self, if_true, List.toList_toArray, Nat.le_refl, Nat.zero_mul, Nat.one_mul]; first | done | rfl)) is_rfl)); first | (exact rfl; exact rfl) | exact rfl)
    | (apply J_seq)
    | (apply J_region)
    | (apply J_block)
    | (apply J_inBlock)
    | (apply J_skip)
    | (apply J_label)
    | (apply J_scope)
    | (apply aj_cond; first | refine J_dec_f rfl ob ?_ | refine J_cond_f rfl gb ?_))
  have hq0l : n = qs0.length := by have := congrArg List.length hqm0; rw [List.length_map] at this; rw [this]; exact hl.len.symm
  rw [hq0l] at hs
  refine J_loopK (α := Nat × List QR × Option Addr × Nat) [(1, _), (45, _)] (fun g => [(10, .slice g.2.2.1 g.2.1.length g.2.2.2), (11, .int .i64 0), (46, .int .i64 g.1)]) (fun g w' => St w NoF w' [TabQ g.2.2.1 g.2.1.length g.2.2.2 (g.2.1.map rawQ), OwnQ g.2.1, RowU aD D.length cD D, RowU aP P.length cP P] ∧ (g.1 = 0 → (g.2.1.map meanQ, 0) = (l, (0 : Int))) ∧ (g.1 = 1 → S1 = (g.2.1.map meanQ, 0)) ∧ (g.1 = 2 → S2 = (g.2.1.map meanQ, 0)) ∧ (∀ q ∈ g.2.1, okQ q) ∧ rightH (g.2.1.map meanQ) = true ∧ g.1 ≤ 2) (fun g => 2 - g.1) (0, qs0, a10, qs0.length) ⟨hs.sel [2, 3, 1, 0] (by decide), fun _ => by rw [hqm0], (fun e => by cases e), (fun e => by cases e), hqo0, by rw [hqm0]; exact hr, Nat.zero_le _⟩ (by rw [hq0l]; repeat' (first | exact trivial | exact rfl | apply And.intro)) ?_
  rintro ⟨i, qs, a', c'⟩ w2 ⟨hs1, hi0, hi1, hi2, hqo, hri, hile⟩ ih
  dsimp only at hs1 hi0 hi1 hi2 hqo hri hile ih ⊢
  have hs : St w NoF w2 [_, _, _, _] := hs1
  have hcase : i = 0 ∨ i = 1 ∨ i = 2 := by omega
  rcases hcase with rfl | rfl | rfl
  · have hi0 := hi0 rfl
    repeat' (first
      | (apply JL_nil)
      | ((apply JL_pure); (first
      | (apply as_move; exact OpR_move rfl is_rfl)
      | (apply as_assign; exact OpR_assign rfl is_rfl)
      | (apply as_binOp; exact OpR_ibin rfl rfl rfl is_rfl)
      | (apply as_b_len; exact OpR_len rfl is_rfl)
      | (apply as_index; exact OpR_index rfl rfl (by omega) (by omega) rfl is_rfl)
      | (apply as_build; exact OpR_build_arr rfl (by (simp only [bld, placesOf, splice, Value.cells, List.take_succ_cons, List.take_zero, List.drop_succ_cons, List.drop_zero, List.cons_append, List.nil_append, List.length_cons, List.length_nil, List.getElem?_cons_zero, List.getElem?_cons_succ, Option.map_some, List.append_nil, Nat.reduceAdd, Nat.reduceMul, Nat.zero_add, Nat.reduceLeDiff, and_self, if_true, List.toList_toArray, Nat.le_refl, Nat.zero_mul, Nat.one_mul]; first | done | rfl)) is_rfl)); first | (exact rfl; exact rfl) | exact rfl)
      | (apply J_seq)
      | (apply J_region)
      | (apply J_block)
      | (apply J_skip)
      | (apply aj_cond; refine J_dec_t rfl ob ?_))
    refine J_loopK (α := Nat × List QR × Option Addr × Nat) [(1, _), (14, _), (45, _), (46, _), (53, _), (54, _)] (fun g => [(10, .slice g.2.2.1 g.2.1.length g.2.2.2), (11, .int .i64 0), (55, .int .i64 g.1)]) (fun g w' => St w NoF w' [TabQ g.2.2.1 g.2.1.length g.2.2.2 (g.2.1.map rawQ), OwnQ g.2.1, RowU aD D.length cD D, RowU aP P.length cP P] ∧ runM false x (l, 0) (D.take g.1) = (g.2.1.map meanQ, 0) ∧ (∀ q ∈ g.2.1, okQ q) ∧ rightH (g.2.1.map meanQ) = true ∧ g.1 ≤ D.length) (fun g => D.length - g.1) (0, qs, a', c') ⟨hs, by rw [hi0]; rfl, hqo, hri, Nat.zero_le _⟩ (by repeat' (first | exact trivial | exact rfl | apply And.intro)) ?_
    rintro ⟨k, ps, a3, c3⟩ w3 ⟨hs1, hrun, hpo, hrp, hk⟩ ih2
    dsimp only at hs1 hrun hpo hrp hk ih2 ⊢
    have hs : St w NoF w3 [_, _, _, _] := hs1
    by_cases hlt : k < D.length
    · obtain ⟨b, o, rfl⟩ := (hs.row aD D.length cD).some (by omega)
      have hs : St w NoF w3 [TabQ a3 ps.length c3 (ps.map rawQ), OwnQ ps, RowU (some ⟨b, o, none⟩) D.length cD D, RowU aP P.length cP P] := hs1
      have hv : D[k]? = some (D[k]'hlt) := List.getElem?_eq_getElem hlt
      obtain ⟨y, hy⟩ : ∃ y, y = D[k]'hlt := ⟨_, rfl⟩
      rw [← hy] at hv
      have hyo : okH (x, y) := ⟨hx, hDo y (List.mem_of_getElem? hv)⟩
      obtain ⟨hz1, hz2⟩ := hsz hrp
      rw [List.length_map] at hz1
      have hsu : runM false x (l, 0) (D.take (k + 1)) = stepM false (ps.map meanQ, 0) (x, y) := by rw [runM_succ hv, hrun]
      obtain ⟨z, hz⟩ : ∃ z, z = stepM false (ps.map meanQ, 0) (x, y) := ⟨_, rfl⟩
      by_cases h0 : z.2 = 0
      · repeat' (first
          | ((apply al_none (t := 65); refine JL_o (OpR_callV rfl rfl (Ret.value (cap := #[]) en16 (rdrop_u _ a3 ps.length c3 (ps.map meanQ) (x, y) (slQ hs (by repeat (first | exact List.Mem.head _ | apply List.Mem.tail)) (by repeat (first | exact List.Mem.head _ | apply List.Mem.tail)) hpo) hyo (by omega) (by omega)))) rfl rfl ?_; rintro _ _ ⟨q4, a4, c4, ⟨hm4, ho4⟩, rfl, hf⟩; rw [← hz] at hm4 ⊢; rw [h0]; have hs := hs.fresh hf; (try simp only [List.cons_append, List.nil_append] at hs)))
          | (apply JL_nil)
          | ((apply JL_pure); (first
      | (apply as_load; first | exact OpR_load1N (off := k * 1) (n := D.length) (c := cD) hs rfl (cell_id hv) is_rfl | exact OpR_load' hs rfl rfl is_rfl | exact OpR_load_agg' hs rfl is_rfl)
      | (apply as_move; exact OpR_move rfl is_rfl)
      | (apply as_assign; exact OpR_assign rfl is_rfl)
      | (apply as_add; exact OpR_addn rfl rfl (by omega) (by first | (simp only [Int.reduceAdd]; exact rfl) | exact rfl) is_rfl)
      | (apply as_binOp; exact OpR_ibin rfl rfl rfl is_rfl)
      | (apply as_extract; exact OpR_extract rfl rfl is_rfl)
      | (apply as_indexAddr; exact OpR_indexAddr rfl rfl (by omega) (by omega) is_rfl)
      | (apply as_build; exact OpR_build rfl (by (simp only [bld, placesOf, splice, Value.cells, List.take_succ_cons, List.take_zero, List.drop_succ_cons, List.drop_zero, List.cons_append, List.nil_append, List.length_cons, List.length_nil, List.getElem?_cons_zero, List.getElem?_cons_succ, Option.map_some, List.append_nil, Nat.reduceAdd, Nat.reduceMul, Nat.zero_add, Nat.reduceLeDiff, and_self, if_true, List.toList_toArray, Nat.le_refl, Nat.zero_mul, Nat.one_mul]; first | done | rfl)) is_rfl)); first | (exact rfl; exact rfl) | exact rfl)
          | (apply J_seq)
          | (apply J_region)
          | (apply J_block)
          | (apply J_inBlock)
          | (apply J_skip)
          | (apply aj_cond; first | refine J_dec_t rfl ob ?_ | refine J_dec_f rfl ob ?_))
        refine ih2 (k + 1, q4, a4, c4) _ _ ⟨hs.sel [0, 1, 4, 5] (by decide), ?_, ho4, ?_, hlt⟩ (by show D.length - (k + 1) < D.length - k; omega) (by repeat' (first | exact trivial | exact rfl | apply And.intro))
        · show _ = (q4.map meanQ, 0)
          rw [hsu, ← hz, hm4, ← h0]
        · show rightH (q4.map meanQ) = true
          rw [hm4, hz]
          exact step_right (by rw [← hz]; exact h0)
      · repeat' (first
          | ((apply al_none (t := 65); refine JL_o (OpR_callV rfl rfl (Ret.value (cap := #[]) en16 (rdrop_u _ a3 ps.length c3 (ps.map meanQ) (x, y) (slQ hs (by repeat (first | exact List.Mem.head _ | apply List.Mem.tail)) (by repeat (first | exact List.Mem.head _ | apply List.Mem.tail)) hpo) hyo (by omega) (by omega)))) rfl rfl ?_; rintro _ _ ⟨q4, a4, c4, ⟨hm4, ho4⟩, rfl, hf⟩; rw [← hz] at hm4 ⊢; have hs := hs.fresh hf; (try simp only [List.cons_append, List.nil_append] at hs)))
          | (apply JL_nil)
          | ((apply JL_pure); (first
      | (apply as_load; first | exact OpR_load1N (off := k * 1) (n := D.length) (c := cD) hs rfl (cell_id hv) is_rfl | exact OpR_load' hs rfl rfl is_rfl | exact OpR_load_agg' hs rfl is_rfl)
      | (apply as_move; exact OpR_move rfl is_rfl)
      | (apply as_assign; exact OpR_assign rfl is_rfl)
      | (apply as_binOp; exact OpR_ibin rfl rfl rfl is_rfl)
      | (apply as_extract; exact OpR_extract rfl rfl is_rfl)
      | (apply as_indexAddr; exact OpR_indexAddr rfl rfl (by omega) (by omega) is_rfl)
      | (apply as_build; exact OpR_build rfl (by (simp only [bld, placesOf, splice, Value.cells, List.take_succ_cons, List.take_zero, List.drop_succ_cons, List.drop_zero, List.cons_append, List.nil_append, List.length_cons, List.length_nil, List.getElem?_cons_zero, List.getElem?_cons_succ, Option.map_some, List.append_nil, Nat.reduceAdd, Nat.reduceMul, Nat.zero_add, Nat.reduceLeDiff, and_self, if_true, List.toList_toArray, Nat.le_refl, Nat.zero_mul, Nat.one_mul]; first | done | rfl)) is_rfl)); first | (exact rfl; exact rfl) | exact rfl)
          | (apply J_seq)
          | (apply J_region)
          | (apply J_block)
          | (apply aj_exit; refine J_exit rfl ?_)
          | (apply J_skip)
          | (apply aj_cond; refine J_dec_t rfl ob ?_))
        have hstop := runM_stop (op := false) (x := x) (s := (l, 0)) (xs := D) (k + 1) (by rw [hsu, ← hz]; exact h0)
        rw [hsu, ← hz] at hstop
        have hfin : S2 = z := by rw [hS2, hS1, hstop, runM_bad h0]
        rw [hfin]
        refine J_leave Tryz.func25 rfl (.tmp rfl (.tmp rfl .nil)) ⟨q4, a4, c4, ⟨hm4, ho4⟩, rfl, hs.out (.cons_cons _ (.cons_cons _ (List.nil_sublist _)))⟩
    · rw [List.take_of_length_le (by omega)] at hrun
      repeat' (first
        | (apply JL_nil)
        | ((apply JL_pure); (first
      | (apply as_move; exact OpR_move rfl is_rfl)
      | (apply as_add; exact OpR_addn rfl rfl (by omega) (by first | (simp only [Int.reduceAdd]; exact rfl) | exact rfl) is_rfl)
      | (apply as_binOp; exact OpR_ibin rfl rfl rfl is_rfl)); first | (exact rfl; exact rfl) | exact rfl)
        | (apply J_seq)
        | (apply J_region)
        | (apply J_inBlock)
        | (apply aj_exit; refine J_exit rfl ?_)
        | (apply aj_cond; refine J_dec_f rfl ob ?_))
      refine ih (1, ps, a3, c3) _ _ ⟨hs, (fun e => by cases e), fun _ => hS1.trans hrun, (fun e => by cases e), hpo, hrp, by show 1 ≤ 2; decide⟩ (by show 2 - 1 < 2 - 0; decide) (by repeat' (first | exact trivial | exact rfl | apply And.intro))
  · have hi0 := hi1 rfl
    repeat' (first
      | (apply JL_nil)
      | ((apply JL_pure); (first
      | (apply as_move; exact OpR_move rfl is_rfl)
      | (apply as_assign; exact OpR_assign rfl is_rfl)
      | (apply as_binOp; exact OpR_ibin rfl rfl rfl is_rfl)
      | (apply as_b_len; exact OpR_len rfl is_rfl)
      | (apply as_index; exact OpR_index rfl rfl (by omega) (by omega) rfl is_rfl)
      | (apply as_build; exact OpR_build_arr rfl (by (simp only [bld, placesOf, splice, Value.cells, List.take_succ_cons, List.take_zero, List.drop_succ_cons, List.drop_zero, List.cons_append, List.nil_append, List.length_cons, List.length_nil, List.getElem?_cons_zero, List.getElem?_cons_succ, Option.map_some, List.append_nil, Nat.reduceAdd, Nat.reduceMul, Nat.zero_add, Nat.reduceLeDiff, and_self, if_true, List.toList_toArray, Nat.le_refl, Nat.zero_mul, Nat.one_mul]; first | done | rfl)) is_rfl)); first | (exact rfl; exact rfl) | exact rfl)
      | (apply J_seq)
      | (apply J_region)
      | (apply J_block)
      | (apply J_skip)
      | (apply aj_cond; refine J_dec_t rfl ob ?_))
    refine J_loopK (α := Nat × List QR × Option Addr × Nat) [(1, _), (14, _), (45, _), (46, _), (53, _), (54, _)] (fun g => [(10, .slice g.2.2.1 g.2.1.length g.2.2.2), (11, .int .i64 0), (55, .int .i64 g.1)]) (fun g w' => St w NoF w' [TabQ g.2.2.1 g.2.1.length g.2.2.2 (g.2.1.map rawQ), OwnQ g.2.1, RowU aD D.length cD D, RowU aP P.length cP P] ∧ runM true x S1 (P.take g.1) = (g.2.1.map meanQ, 0) ∧ (∀ q ∈ g.2.1, okQ q) ∧ rightH (g.2.1.map meanQ) = true ∧ g.1 ≤ P.length) (fun g => P.length - g.1) (0, qs, a', c') ⟨hs, by rw [← hi0]; rfl, hqo, hri, Nat.zero_le _⟩ (by repeat' (first | exact trivial | exact rfl | apply And.intro)) ?_
    rintro ⟨k, ps, a3, c3⟩ w3 ⟨hs1, hrun, hpo, hrp, hk⟩ ih2
    dsimp only at hs1 hrun hpo hrp hk ih2 ⊢
    have hs : St w NoF w3 [_, _, _, _] := hs1
    by_cases hlt : k < P.length
    · obtain ⟨b, o, rfl⟩ := (hs.row aP P.length cP).some (by omega)
      have hs : St w NoF w3 [TabQ a3 ps.length c3 (ps.map rawQ), OwnQ ps, RowU aD D.length cD D, RowU (some ⟨b, o, none⟩) P.length cP P] := hs1
      have hv : P[k]? = some (P[k]'hlt) := List.getElem?_eq_getElem hlt
      obtain ⟨y, hy⟩ : ∃ y, y = P[k]'hlt := ⟨_, rfl⟩
      rw [← hy] at hv
      have hyo : okH (x, y) := ⟨hx, hPo y (List.mem_of_getElem? hv)⟩
      obtain ⟨hz1, hz2⟩ := hsz hrp
      rw [List.length_map] at hz1
      have hsu : runM true x S1 (P.take (k + 1)) = stepM true (ps.map meanQ, 0) (x, y) := by rw [runM_succ hv, hrun]
      obtain ⟨z, hz⟩ : ∃ z, z = stepM true (ps.map meanQ, 0) (x, y) := ⟨_, rfl⟩
      by_cases h0 : z.2 = 0
      · repeat' (first
          | ((apply al_none (t := 65); refine JL_o (OpR_callV rfl rfl (Ret.value (cap := #[]) en15 (rput_u _ a3 ps.length c3 (ps.map meanQ) (x, y) (slQ hs (by repeat (first | exact List.Mem.head _ | apply List.Mem.tail)) (by repeat (first | exact List.Mem.head _ | apply List.Mem.tail)) hpo) hyo (by omega) (by omega)))) rfl rfl ?_; rintro _ _ ⟨q4, a4, c4, ⟨hm4, ho4⟩, rfl, hf⟩; rw [← hz] at hm4 ⊢; rw [h0]; have hs := hs.fresh hf; (try simp only [List.cons_append, List.nil_append] at hs)))
          | (apply JL_nil)
          | ((apply JL_pure); (first
      | (apply as_load; first | exact OpR_load1N (off := k * 1) (n := P.length) (c := cP) hs rfl (cell_id hv) is_rfl | exact OpR_load' hs rfl rfl is_rfl | exact OpR_load_agg' hs rfl is_rfl)
      | (apply as_move; exact OpR_move rfl is_rfl)
      | (apply as_assign; exact OpR_assign rfl is_rfl)
      | (apply as_add; exact OpR_addn rfl rfl (by omega) (by first | (simp only [Int.reduceAdd]; exact rfl) | exact rfl) is_rfl)
      | (apply as_binOp; exact OpR_ibin rfl rfl rfl is_rfl)
      | (apply as_extract; exact OpR_extract rfl rfl is_rfl)
      | (apply as_indexAddr; exact OpR_indexAddr rfl rfl (by omega) (by omega) is_rfl)
      | (apply as_build; exact OpR_build rfl (by (simp only [bld, placesOf, splice, Value.cells, List.take_succ_cons, List.take_zero, List.drop_succ_cons, List.drop_zero, List.cons_append, List.nil_append, List.length_cons, List.length_nil, List.getElem?_cons_zero, List.getElem?_cons_succ, Option.map_some, List.append_nil, Nat.reduceAdd, Nat.reduceMul, Nat.zero_add, Nat.reduceLeDiff, and_self, if_true, List.toList_toArray, Nat.le_refl, Nat.zero_mul, Nat.one_mul]; first | done | rfl)) is_rfl)); first | (exact rfl; exact rfl) | exact rfl)
          | (apply J_seq)
          | (apply J_region)
          | (apply J_block)
          | (apply J_inBlock)
          | (apply J_skip)
          | (apply aj_cond; first | refine J_dec_t rfl ob ?_ | refine J_dec_f rfl ob ?_))
        refine ih2 (k + 1, q4, a4, c4) _ _ ⟨hs.sel [0, 1, 4, 5] (by decide), ?_, ho4, ?_, hlt⟩ (by show P.length - (k + 1) < P.length - k; omega) (by repeat' (first | exact trivial | exact rfl | apply And.intro))
        · show _ = (q4.map meanQ, 0)
          rw [hsu, ← hz, hm4, ← h0]
        · show rightH (q4.map meanQ) = true
          rw [hm4, hz]
          exact step_right (by rw [← hz]; exact h0)
      · repeat' (first
          | ((apply al_none (t := 65); refine JL_o (OpR_callV rfl rfl (Ret.value (cap := #[]) en15 (rput_u _ a3 ps.length c3 (ps.map meanQ) (x, y) (slQ hs (by repeat (first | exact List.Mem.head _ | apply List.Mem.tail)) (by repeat (first | exact List.Mem.head _ | apply List.Mem.tail)) hpo) hyo (by omega) (by omega)))) rfl rfl ?_; rintro _ _ ⟨q4, a4, c4, ⟨hm4, ho4⟩, rfl, hf⟩; rw [← hz] at hm4 ⊢; have hs := hs.fresh hf; (try simp only [List.cons_append, List.nil_append] at hs)))
          | (apply JL_nil)
          | ((apply JL_pure); (first
      | (apply as_load; first | exact OpR_load1N (off := k * 1) (n := P.length) (c := cP) hs rfl (cell_id hv) is_rfl | exact OpR_load' hs rfl rfl is_rfl | exact OpR_load_agg' hs rfl is_rfl)
      | (apply as_move; exact OpR_move rfl is_rfl)
      | (apply as_assign; exact OpR_assign rfl is_rfl)
      | (apply as_binOp; exact OpR_ibin rfl rfl rfl is_rfl)
      | (apply as_extract; exact OpR_extract rfl rfl is_rfl)
      | (apply as_indexAddr; exact OpR_indexAddr rfl rfl (by omega) (by omega) is_rfl)
      | (apply as_build; exact OpR_build rfl (by (simp only [bld, placesOf, splice, Value.cells, List.take_succ_cons, List.take_zero, List.drop_succ_cons, List.drop_zero, List.cons_append, List.nil_append, List.length_cons, List.length_nil, List.getElem?_cons_zero, List.getElem?_cons_succ, Option.map_some, List.append_nil, Nat.reduceAdd, Nat.reduceMul, Nat.zero_add, Nat.reduceLeDiff, and_self, if_true, List.toList_toArray, Nat.le_refl, Nat.zero_mul, Nat.one_mul]; first | done | rfl)) is_rfl)); first | (exact rfl; exact rfl) | exact rfl)
          | (apply J_seq)
          | (apply J_region)
          | (apply J_block)
          | (apply aj_exit; refine J_exit rfl ?_)
          | (apply J_skip)
          | (apply aj_cond; refine J_dec_t rfl ob ?_))
        have hstop := runM_stop (op := true) (x := x) (s := S1) (xs := P) (k + 1) (by rw [hsu, ← hz]; exact h0)
        rw [hsu, ← hz] at hstop
        have hfin : S2 = z := by rw [hS2, hstop]
        rw [hfin]
        refine J_leave Tryz.func25 rfl (.tmp rfl (.tmp rfl .nil)) ⟨q4, a4, c4, ⟨hm4, ho4⟩, rfl, hs.out (.cons_cons _ (.cons_cons _ (List.nil_sublist _)))⟩
    · rw [List.take_of_length_le (by omega)] at hrun
      repeat' (first
        | (apply JL_nil)
        | ((apply JL_pure); (first
      | (apply as_move; exact OpR_move rfl is_rfl)
      | (apply as_add; exact OpR_addn rfl rfl (by omega) (by first | (simp only [Int.reduceAdd]; exact rfl) | exact rfl) is_rfl)
      | (apply as_binOp; exact OpR_ibin rfl rfl rfl is_rfl)); first | (exact rfl; exact rfl) | exact rfl)
        | (apply J_seq)
        | (apply J_region)
        | (apply J_inBlock)
        | (apply aj_exit; refine J_exit rfl ?_)
        | (apply aj_cond; refine J_dec_f rfl ob ?_))
      refine ih (2, ps, a3, c3) _ _ ⟨hs, (fun e => by cases e), (fun e => by cases e), fun _ => hS2.trans hrun, hpo, hrp, by show 2 ≤ 2; decide⟩ (by show 2 - 2 < 2 - 1; decide) (by repeat' (first | exact trivial | exact rfl | apply And.intro))
  · have hf := hi2 rfl
    repeat' (first
      | (apply JL_nil)
      | ((apply JL_pure); (first
      | (apply as_move; exact OpR_move rfl is_rfl)
      | (apply as_assign; exact OpR_assign rfl is_rfl)
      | (apply as_binOp; exact OpR_ibin rfl rfl rfl is_rfl)); first | (exact rfl; exact rfl) | exact rfl)
      | (apply J_seq)
      | (apply J_region)
      | (apply aj_exit; refine J_exit rfl ?_)
      | (apply aj_cond; refine J_dec_f rfl ob ?_))
    rw [hf]
    refine J_leave Tryz.func25 rfl (.tmp rfl (.tmp rfl .nil)) ⟨qs, a', c', ⟨rfl, hqo⟩, rfl, hs.out (.cons_cons _ (.cons_cons _ (List.nil_sublist _)))⟩
end Go.Eng
/- Referrers: the reference's Has and Without; the law's clone and spoil. -/
namespace Go.Eng
open Go.Proofs
set_option linter.unusedSimpArgs false
set_option linter.unusedVariables false
theorem encH_set0 (xs : List HH) (k : Nat) (x : HH) (v : Int) (hx : xs[k]? = some x) : splice (encL cH xs) (k * 2) [.int .i64 v] = encL cH (xs.set k (v, x.2)) := by
  have hk := (List.getElem?_eq_some_iff.1 hx).1
  have h1 : encL cH (xs.set k (v, x.2)) = splice (encL cH xs) (k * 2) (cH (v, x.2)) := encL_set (d := dHeld) xs k _ hk
  rw [h1]
  have hg : ∀ j, j < 2 → (encL cH xs)[k * 2 + j]? = (cH x)[j]? := fun j hj => encL_get (d := dHeld) xs k j x hx hj
  have hle : (encL cH xs).length = xs.length * 2 := encL_len (d := dHeld) xs
  apply List.ext_getElem?
  intro i
  unfold splice
  have e2 : ((encL cH xs).take (k * 2)).length = k * 2 := by rw [List.length_take]; omega
  simp only [List.length_cons, List.length_nil]
  by_cases c1 : i < k * 2
  · rw [List.append_assoc, List.append_assoc, List.getElem?_append_left (by omega), List.getElem?_append_left (by omega)]
  · obtain ⟨j, rfl⟩ : ∃ j, i = k * 2 + j := ⟨i - k * 2, by omega⟩
    rw [List.append_assoc, List.append_assoc, List.getElem?_append_right (l₁ := (encL cH xs).take (k * 2)) (by omega), List.getElem?_append_right (l₁ := (encL cH xs).take (k * 2)) (by omega), e2, Nat.add_sub_cancel_left]
    cases j with
    | zero => rfl
    | succ j =>
      cases j with
      | zero =>
        show ((encL cH xs).drop (k * 2 + (0 + 1)))[0]? = some (Value.int .u64 x.2)
        rw [List.getElem?_drop]
        exact hg 1 (by decide)
      | succ j =>
        show ((encL cH xs).drop (k * 2 + (0 + 1)))[j + 1]? = ((encL cH xs).drop (k * 2 + (0 + 1 + 1)))[j]?
        rw [List.getElem?_drop, List.getElem?_drop]
        congr 1
        omega
theorem withoutH_succ {l : List HH} {k : Nat} {y : HH} (x : HH) (hy : l[k]? = some y) : withoutH (l.take (k + 1)) x = withoutH (l.take k) x ++ if y = x then [] else [y] := by
  unfold withoutH
  rw [List.take_add_one, hy, List.filter_append]
  by_cases e : y = x
  · rw [if_pos e]; simp [e]
  · rw [if_neg e]; simp [e]
theorem withoutH_len (l : List HH) (x : HH) : (withoutH l x).length ≤ l.length := List.length_filter_le _ _
attribute [local irreducible] Hold J JL JD JX JXat OpR OpG Ret RetV Is Blk Row MapC
set_option maxRecDepth 100000
set_option maxHeartbeats 1000000
theorem has15_r (w : World) (a : Option Addr) (n c : Nat) (l : List HH) (x : HH) (h : Sl dHeld All w a n c l) :
    Ret Tryz.prog 17 #[.slice a n c, .agg (cH x).toArray] w fun v w' => v = .bool (decide (x ∈ l)) ∧ Ext w w' := by
  refine Ret_of (l := [_, _]) Tryz.func17 rfl Tryz.ntmps17 (by simp) ?_
  have hs := St.init w
  have hl := h.len
  have hmx : n ≤ 9223372036854775807 := by have h3 := h.le; have h4 := h.cap; unfold maxLen at h4; omega
  repeat' (first
    | (apply JL_nil)
    | ((apply JL_pure); (first
      | (apply as_move; exact OpR_move rfl is_rfl)
      | (apply as_assign; exact OpR_assign rfl is_rfl)
      | (apply as_b_len; exact OpR_len rfl is_rfl)); first | (exact rfl; exact rfl) | exact rfl)
    | (apply J_seq)
    | (apply J_region)
    | (apply J_block)
    | (apply al_none (t := 3); refine JL_o (by apply as_box; exact OpR_box' hs rfl) rfl rfl ?_; rintro _ _ ⟨b3, rfl, hb3, hs, hE⟩))
  refine J_loopK (α := Nat) [(3, _), (7, _), (8, _)] (fun k => [(9, .int .i64 k)]) (fun k w' => St w NoF w' [Blk b3 (.cells #[.int .i64 x.1, .int .u64 x.2] 31 (0, 0))] ∧ k ≤ n ∧ x ∉ l.take k) (fun k => n - k) 0 ⟨hs, Nat.zero_le _, (by simp)⟩ (by repeat' (first | exact trivial | exact rfl | apply And.intro)) ?_
  rintro k w2 ⟨hs1, hk, hno⟩ ih
  have hs : St w NoF w2 [_] := hs1
  by_cases hlt : k < n
  · obtain ⟨p, o, rfl⟩ := h.sl.addr (by omega)
    have hs : St w NoF w2 [_] := hs1
    have hx : l[k]? = some (l[k]'(by omega)) := List.getElem?_eq_getElem (by omega)
    obtain ⟨y, hyd⟩ : ∃ y, y = l[k]'(by omega) := ⟨_, rfl⟩
    rw [← hyd] at hx
    by_cases hc : y.1 = x.1 ∧ y.2 = x.2
    · repeat' (first
        | (apply JL_nil)
        | ((apply JL_pure); (first
      | (apply as_load; first | exact OpR_load_agg' hs rfl is_rfl | exact OpR_load_el (h.st hs) hx rfl rfl is_rfl)
      | (apply as_assign; exact OpR_assign rfl is_rfl)
      | (apply as_binOp; first | exact OpR_eqT rfl rfl is_rfl | exact OpR_ibin rfl rfl rfl is_rfl)
      | (apply as_indexAddr; exact OpR_indexAddr rfl rfl (by omega) (by omega) is_rfl)); first | (exact rfl; exact rfl) | exact rfl)
        | (apply J_seq)
        | (apply J_region)
        | (apply J_block)
        | (apply J_skip)
        | (apply al_none (t := 6); refine JL_o (by apply as_alloc; exact OpR_alloc' hs) rfl rfl ?_; rintro _ _ ⟨b6, rfl, hb6, hs, hE⟩)
        | (apply al_unit; refine JL_u (by apply as_store; exact OpR_store' hs rfl rfl rfl) rfl ?_; rintro _ _ ⟨hs, hF⟩)
        | (apply aj_cond; refine J_dec_t rfl ob ?_))
      refine J_leave Tryz.func17 rfl (.tmp rfl .nil) ⟨congrArg Value.bool (decide_eq_true (hh_eq.1 hc ▸ List.mem_of_getElem? hx)).symm, hs.frm.ext⟩
    · repeat' (first
        | (apply JL_nil)
        | ((apply JL_pure); (first
      | (apply as_load; first | exact OpR_load_agg' hs rfl is_rfl | exact OpR_load_el (h.st hs) hx rfl rfl is_rfl)
      | (apply as_move; exact OpR_move rfl is_rfl)
      | (apply as_add; exact OpR_addn rfl rfl (by omega) (by first | (simp only [Int.reduceAdd]; exact rfl) | exact rfl) is_rfl)
      | (apply as_binOp; first | exact OpR_eqT rfl rfl is_rfl | exact OpR_ibin rfl rfl rfl is_rfl)
      | (apply as_indexAddr; exact OpR_indexAddr rfl rfl (by omega) (by omega) is_rfl)); first | (exact rfl; exact rfl) | exact rfl)
        | (apply J_seq)
        | (apply J_region)
        | (apply J_block)
        | (apply J_inBlock)
        | (apply J_skip)
        | (apply al_none (t := 6); refine JL_o (by apply as_alloc; exact OpR_alloc' hs) rfl rfl ?_; rintro _ _ ⟨b6, rfl, hb6, hs, hE⟩)
        | (apply al_unit; refine JL_u (by apply as_store; exact OpR_store' hs rfl rfl rfl) rfl ?_; rintro _ _ ⟨hs, hF⟩)
        | (apply aj_cond; first | refine J_dec_t rfl ob ?_ | refine J_dec_f rfl ob ?_))
      refine ih (k + 1) _ _ ⟨hs.sel [1] (by decide), hlt, fun hm => ?_⟩ (by omega) (by repeat' (first | exact trivial | exact rfl | apply And.intro))
      rw [List.take_add_one, hx] at hm
      rcases List.mem_append.1 hm with e | e
      · exact hno e
      · have e2 : x = y := by simpa using e
        exact hc (hh_eq.2 e2.symm)
  · rw [List.take_of_length_le (by omega)] at hno
    repeat' (first
      | (apply JL_nil)
      | ((apply JL_pure); (first
      | (apply as_assign; exact OpR_assign rfl is_rfl)
      | (apply as_binOp; exact OpR_ibin rfl rfl rfl is_rfl)); first | (exact rfl; exact rfl) | exact rfl)
      | (apply J_seq)
      | (apply J_region)
      | (apply aj_exit; refine J_exit rfl ?_)
      | (apply aj_cond; refine J_dec_f rfl ob ?_))
    refine J_leave Tryz.func17 rfl (.tmp rfl .nil) ⟨congrArg Value.bool (decide_eq_false hno).symm, hs.frm.ext⟩
theorem without15_r (w : World) (a : Option Addr) (n c : Nat) (l : List HH) (x : HH) (h : Sl dHeld All w a n c l) (hn : n ≤ 4000000) :
    Ret Tryz.prog 20 #[.slice a n c, .agg (cH x).toArray] w fun v w' => ∃ a' c', v = .slice a' (withoutH l x).length c' ∧ Fresh w w' [RowH a' (withoutH l x).length c' (withoutH l x)] := by
  refine Ret_of (l := [_, _]) Tryz.func20 rfl Tryz.ntmps20 (by simp) ?_
  have hs := St.init w
  have hl := h.len
  repeat' (first
    | (apply JL_nil)
    | ((apply JL_pure); (first
      | (apply as_move; exact OpR_move rfl is_rfl)
      | (apply as_assign; exact OpR_assign rfl is_rfl)
      | (apply as_b_len; exact OpR_len rfl is_rfl)); first | (exact rfl; exact rfl) | exact rfl)
    | (apply J_seq)
    | (apply J_region)
    | (apply J_block)
    | (apply al_none (t := 3); refine JL_o (by apply as_box; exact OpR_box' hs rfl) rfl rfl ?_; rintro _ _ ⟨b3, rfl, hb3, hs, hE⟩))
  have hs := hs.nilRow 31 2
  refine J_loopK (α := Nat × List HH × Option Addr × Nat) [(3, _), (8, _), (9, _)] (fun g => [(5, .slice g.2.2.1 g.2.1.length g.2.2.2), (10, .int .i64 g.1)]) (fun g w' => St w NoF w' [RowH g.2.2.1 g.2.1.length g.2.2.2 g.2.1, Blk b3 (.cells #[.int .i64 x.1, .int .u64 x.2] 31 (0, 0))] ∧ g.1 ≤ n ∧ g.2.1 = withoutH (l.take g.1) x) (fun g => n - g.1) (0, [], none, 0) ⟨hs, Nat.zero_le _, rfl⟩ (by repeat' (first | exact trivial | exact rfl | apply And.intro)) ?_
  rintro ⟨k, zs, a', c'⟩ w2 ⟨hs1, hk, hzs⟩ ih
  dsimp only at hs1 hk hzs ih ⊢
  have hzl : zs.length ≤ k := by rw [hzs]; have := withoutH_len (l.take k) x; rw [List.length_take] at this; omega
  by_cases hlt : k < n
  · obtain ⟨p, o, rfl⟩ := h.sl.addr (by omega)
    have hs : St w NoF w2 [_, _] := hs1
    have hx : l[k]? = some (l[k]'(by omega)) := List.getElem?_eq_getElem (by omega)
    obtain ⟨y, hyd⟩ : ∃ y, y = l[k]'(by omega) := ⟨_, rfl⟩
    rw [← hyd] at hx
    have hfs := withoutH_succ x hx
    by_cases hc : y.1 = x.1 ∧ y.2 = x.2
    · rw [if_pos (hh_eq.1 hc), List.append_nil] at hfs
      repeat' (first
        | (apply JL_nil)
        | ((apply JL_pure); (first
      | (apply as_load; first | exact OpR_load_agg' hs rfl is_rfl | exact OpR_load_el (h.st hs) hx rfl rfl is_rfl)
      | (apply as_move; exact OpR_move rfl is_rfl)
      | (apply as_add; exact OpR_addn rfl rfl (by omega) (by first | (simp only [Int.reduceAdd]; exact rfl) | exact rfl) is_rfl)
      | (apply as_binOp; first | exact OpR_neT rfl rfl is_rfl | exact OpR_ibin rfl rfl rfl is_rfl)
      | (apply as_indexAddr; exact OpR_indexAddr rfl rfl (by omega) (by omega) is_rfl)); first | (exact rfl; exact rfl) | exact rfl)
        | (apply J_seq)
        | (apply J_region)
        | (apply J_block)
        | (apply J_inBlock)
        | (apply J_skip)
        | (apply al_none (t := 7); refine JL_o (by apply as_alloc; exact OpR_alloc' hs) rfl rfl ?_; rintro _ _ ⟨b7, rfl, hb7, hs, hE⟩)
        | (apply al_unit; refine JL_u (by apply as_store; exact OpR_store' hs rfl rfl rfl) rfl ?_; rintro _ _ ⟨hs, hF⟩)
        | (apply aj_cond; first | refine J_dec_t rfl ob ?_ | refine J_dec_f rfl ob ?_))
      refine ih (k + 1, zs, a', c') _ _ ⟨hs.sel [1, 2] (by decide), hlt, by show zs = _; rw [hfs, hzs]⟩ (by show n - (k + 1) < n - k; omega) (by repeat' (first | exact trivial | exact rfl | apply And.intro))
    · rw [if_neg (fun e => hc (hh_eq.2 e))] at hfs
      repeat' (first
        | ((apply al_none (t := 20); refine JL_o (by apply as_b_append; exact OpR_append (xs := encL cH zs) (news := cH y) hs rfl rfl (src_blk2 (hs.blk (b := b19))) plain_blk rfl (by omega) (by unfold maxLen; omega)) rfl rfl ?_; rintro _ _ ⟨a4, c4, rfl, hs, hF, hnil⟩; rw [show encL cH zs ++ cH y = encL cH (zs ++ [y]) from encH_snoc zs y] at hs))
        | (apply JL_nil)
        | ((apply JL_pure); (first
      | (apply as_load; first | exact OpR_load_agg' hs rfl is_rfl | exact OpR_load_el (h.st hs) hx rfl rfl is_rfl)
      | (apply as_move; exact OpR_move rfl is_rfl)
      | (apply as_assign; exact OpR_assign rfl is_rfl)
      | (apply as_add; exact OpR_addn rfl rfl (by omega) (by first | (simp only [Int.reduceAdd]; exact rfl) | exact rfl) is_rfl)
      | (apply as_binOp; first | exact OpR_neT rfl rfl is_rfl | exact OpR_ibin rfl rfl rfl is_rfl)
      | (apply as_indexAddr; exact OpR_indexAddr rfl rfl (by omega) (by omega) is_rfl)); first | (exact rfl; exact rfl) | exact rfl)
        | (apply J_seq)
        | (apply J_region)
        | (apply J_block)
        | (apply J_inBlock)
        | (apply J_skip)
        | (apply al_none (t := 7); refine JL_o (by apply as_alloc; exact OpR_alloc' hs) rfl rfl ?_; rintro _ _ ⟨b7, rfl, hb7, hs, hE⟩)
        | (apply al_none (t := 19); refine JL_o (by apply as_buildSlice; exact OpR_buildSlice hs rfl (by omega) rfl) rfl rfl ?_; rintro _ _ ⟨b19, rfl, hb19, hs, hE⟩)
        | (apply al_unit; refine JL_u (by apply as_store; exact OpR_store' hs rfl rfl rfl) rfl ?_; rintro _ _ ⟨hs, hF⟩)
        | (apply aj_cond; refine J_dec_t rfl ob ?_))
      refine ih (k + 1, zs ++ [y], a4, c4) _ _ ⟨by rw [List.length_append]; exact hs.sel [2, 3] (by decide), hlt, by show zs ++ [y] = _; rw [hfs, hzs]⟩ (by show n - (k + 1) < n - k; omega) (by rw [List.length_append]; repeat' (first | exact trivial | exact rfl | apply And.intro))
  · have hs : St w NoF w2 [_, _] := hs1
    rw [List.take_of_length_le (by omega)] at hzs
    repeat' (first
      | (apply JL_nil)
      | ((apply JL_pure); (first
      | (apply as_move; exact OpR_move rfl is_rfl)
      | (apply as_assign; exact OpR_assign rfl is_rfl)
      | (apply as_binOp; exact OpR_ibin rfl rfl rfl is_rfl)); first | (exact rfl; exact rfl) | exact rfl)
      | (apply J_seq)
      | (apply J_region)
      | (apply aj_exit; refine J_exit rfl ?_)
      | (apply aj_cond; refine J_dec_f rfl ob ?_))
    rw [← hzs]
    refine J_leave Tryz.func20 rfl (.tmp rfl .nil) ⟨_, _, rfl, hs.out (.cons_cons _ (List.nil_sublist _))⟩
theorem cloneR_r (w : World) (a : Option Addr) (n c : Nat) (rs : List RRef) (h : Sl dRRef All w a n c rs) (hn : n ≤ 4000000) :
    Ret Tryz.prog 70 #[.slice a n c] w fun v w' => ∃ a' c', v = .slice a' n c' ∧ Fresh w w' [TabQ a' n c' rs] := by
  refine Ret_of (l := [_]) Tryz.func70 rfl Tryz.ntmps70 (by simp) ?_
  have hs := St.init w
  obtain ⟨hsrc, hpl, _⟩ := h.srcF
  have hl := h.len
  cases a with
  | none =>
    have hn0 := hsrc.2.1 rfl
    subst hn0
    have : rs = [] := List.eq_nil_of_length_eq_zero (by omega)
    subst this
    repeat' (first
      | (apply JL_nil)
      | ((apply JL_pure); (first
      | (apply as_move; exact OpR_move rfl is_rfl)
      | (apply as_assign; exact OpR_assign rfl is_rfl)
      | (apply as_binOp; exact OpR_eqNil rfl rfl is_rfl)); first | (exact rfl; exact rfl) | exact rfl)
      | (apply J_seq)
      | (apply J_region)
      | (apply aj_cond; refine J_cond_t rfl gb ?_))
    have hs := hs.nilRow 116 2
    refine J_leave Tryz.func70 rfl (.tmp rfl .nil) ⟨_, _, rfl, hs.out (List.Sublist.refl _)⟩
  | some ad =>
    repeat' (first
      | ((apply al_none; refine JL_o (by apply as_buildSlice; exact OpR_buildSlice hs rfl (by omega) rfl) rfl rfl ?_; rintro _ _ ⟨b, rfl, hb, hs, hE⟩; have hs := hs.toRow 0 0 0 2 (xs := []) (Nat.le_refl _) (by unfold maxLen; omega) (by simp) rfl))
      | ((apply al_none; refine JL_o (by apply as_b_append; exact OpR_append hs rfl rfl (Src.st hsrc hs) hpl rfl (by omega) (by unfold maxLen; omega)) rfl rfl ?_; rintro _ _ ⟨a2, c2, rfl, hs, hF, hnil⟩; rw [Nat.zero_add] at hs ⊢; rw [List.nil_append] at hs))
      | (apply JL_nil)
      | ((apply JL_pure); (first
      | (apply as_move; exact OpR_move rfl is_rfl)
      | (apply as_assign; exact OpR_assign rfl is_rfl)
      | (apply as_binOp; exact OpR_eqNil rfl rfl is_rfl)); first | (exact rfl; exact rfl) | exact rfl)
      | (apply J_seq)
      | (apply J_region)
      | (apply J_skip)
      | (apply aj_cond; refine J_cond_f rfl gb ?_))
    refine J_leave Tryz.func70 rfl (.tmp rfl .nil) ⟨_, _, rfl, hs.out (.cons_cons _ (List.nil_sublist _))⟩
theorem rlclone_r (w : World) (a : Option Addr) (n c : Nat) (l : List RH) (h : Sl dRef All w a n c l) (hn : n ≤ 1000000) (hb : tot l ≤ 1000000) :
    Ret Tryz.prog 13 #[.slice a n c] w fun v w' => ∃ (qs : List QR) (a' : Option Addr) (c' : Nat), (qs.map meanQ = l ∧ ∀ q ∈ qs, okQ q) ∧ v = .slice a' qs.length c' ∧ Fresh w w' [TabQ a' qs.length c' (qs.map rawQ), OwnQ qs] := by
  refine Ret_of (l := [_]) Tryz.func13 rfl Tryz.ntmps13 (by simp) ?_
  have hs := St.init w
  obtain ⟨rs, hr, hm⟩ := Sl.raw (D := rawRef) h
  have hl := hr.len
  have hle := h.len
  have hlo := sl_okR h
  repeat' (first
    | ((apply al_call 70; refine JL_o (by exact OpR_callF en70 rfl (cloneR_r _ a n c rs (hr.st hs) (by omega))) rfl rfl ?_; rintro _ _ ⟨a7, c7, rfl, hf⟩; have hs := hs.fresh hf; (try simp only [List.cons_append, List.nil_append] at hs)))
    | (apply JL_nil)
    | ((apply JL_pure); (first
      | (apply as_move; exact OpR_move rfl is_rfl)
      | (apply as_assign; exact OpR_assign rfl is_rfl)
      | (apply as_b_len; exact OpR_len rfl is_rfl)); first | (exact rfl; exact rfl) | exact rfl)
    | (apply J_seq)
    | (apply J_region)
    | (apply J_block))
  have hs := hs.nilQ
  refine J_loopK (α := Nat × List QR) [(3, _), (8, _), (9, _)] (fun g => [(10, .int .i64 g.1)]) (fun g w' => St w NoF w' [TabQ a7 n c7 (g.2.map rawQ ++ rs.drop g.1), OwnQ g.2] ∧ (g.2.length = g.1 ∧ g.1 ≤ n) ∧ g.2.map meanQ = l.take g.1 ∧ ∀ q ∈ g.2, okQ q) (fun g => n - g.1) (0, []) ⟨hs.sel [1, 0] (by decide), ⟨rfl, Nat.zero_le _⟩, rfl, (fun q hq => by cases hq)⟩ (by repeat' (first | exact trivial | exact rfl | apply And.intro)) ?_
  rintro ⟨k, qs⟩ w2 ⟨hs1, ⟨hql, hk⟩, hqm, hqo⟩ ih
  dsimp only at hs1 hql hk hqm hqo ih ⊢
  have hrl : (qs.map rawQ).length = k := by rw [List.length_map, hql]
  by_cases hlt : k < n
  · obtain ⟨b8, o8, rfl⟩ := (hs1.row a7 n c7).some (by omega)
    have hs : St w NoF w2 [_, _] := hs1
    have hx : l[k]? = some (l[k]'(by omega)) := List.getElem?_eq_getElem (by omega)
    obtain ⟨x, hxd⟩ : ∃ x, x = l[k]'(by omega) := ⟨_, rfl⟩
    rw [← hxd] at hx
    have hxm := List.mem_of_getElem? hx
    obtain ⟨r, hrx, e1, e2⟩ := hm.get hx
    have e1 : r.1 = x.1 := e1
    have mx : Sl dHeld All w r.2.1 r.2.2.1 r.2.2.2 x.2 := e2
    have mlen := mx.len
    have htr := tot_row hxm
    have hcur : (qs.map rawQ ++ rs.drop k)[k]? = some r := by rw [List.getElem?_append_right (by omega), hrl, Nat.sub_self, List.getElem?_drop, Nat.add_zero]; exact hrx
    have hld : ∀ (q : Nat) (u : Value), (cRef r)[q]? = some u → (encL cRef (qs.map rawQ ++ rs.drop k))[k * 2 + q]? = some u := fun q u hq => by
      have hq3 : q < 2 := (List.getElem?_eq_some_iff.1 hq).1
      rw [show (encL cRef (qs.map rawQ ++ rs.drop k))[k * 2 + q]? = (cRef r)[q]? from encL_get (d := dRRef) (qs.map rawQ ++ rs.drop k) k q r hcur hq3]; exact hq
    repeat' (first
      | ((apply al_call 69; refine JL_o (by exact OpR_callF en69 rfl (cloneH_r _ r.2.1 r.2.2.1 r.2.2.2 x.2 (mx.st hs) (by omega))) rfl rfl ?_; rintro _ _ ⟨a3, c3, rfl, hf⟩; have hs := hs.fresh hf; (try simp only [List.cons_append, List.nil_append] at hs)))
      | ((apply al_unit; have hset := (encR_set1 (qs.map rawQ ++ rs.drop k) k r (a3, r.2.2.1, c3) hcur).trans (congrArg (encL cRef) (set_midR (qs.map rawQ) rs k (r.1, (a3, r.2.2.1, c3)) hrl (by omega))); refine JL_u (by apply as_store; exact OpR_storeN (b := b8) (o := o8) (off := k * 2 + 1) (n := n) (c := c7) (vs := [.slice a3 r.2.2.1 c3]) hs rfl rfl rfl rfl (by simp [Value.oneCell']) (by show k * 2 + 1 + 1 ≤ n * 2; omega)) rfl ?_; rintro _ _ ⟨hs, hF⟩; rw [hset] at hs))
      | (apply JL_nil)
      | ((apply JL_pure); (first
      | (apply as_load; first | exact OpR_load' hs rfl rfl is_rfl | exact OpR_load_agg' hs rfl is_rfl | exact OpR_loadN (b := b8) (o := o8) (off := k * 2) (n := n) (c := c7) hs rfl rfl hld is_rfl)
      | (apply as_move; exact OpR_move rfl is_rfl)
      | (apply as_assign; exact OpR_assign rfl is_rfl)
      | (apply as_fieldAddr; first | exact OpR_fieldAddr0 rfl rfl is_rfl | exact OpR_fieldAddr rfl rfl is_rfl)
      | (apply as_add; exact OpR_addn rfl rfl (by omega) (by first | (simp only [Int.reduceAdd]; exact rfl) | exact rfl) is_rfl)
      | (apply as_binOp; exact OpR_ibin rfl rfl rfl is_rfl)
      | (apply as_indexAddr; exact OpR_indexAddr rfl rfl (by omega) (by omega) is_rfl)); first | (exact rfl; exact rfl) | exact rfl)
      | (apply J_seq)
      | (apply J_region)
      | (apply J_block)
      | (apply J_inBlock)
      | (apply J_skip)
      | (apply al_none (t := 5); refine JL_o (by apply as_alloc; exact OpR_alloc' hs) rfl rfl ?_; rintro _ _ ⟨b5, rfl, hb5, hs, hE⟩)
      | (apply al_unit; refine JL_u (by apply as_store; exact OpR_store' hs rfl rfl rfl) rfl ?_; rintro _ _ ⟨hs, hF⟩)
      | (apply aj_cond; refine J_dec_t rfl ob ?_))
    have hs : St w NoF _ (rowQ (r.1, (a3, r.2.2.1, c3), x.2) :: OwnQ qs :: [TabQ (some ⟨b8, o8, none⟩) n c7 (qs.map rawQ ++ [(r.1, (a3, r.2.2.1, c3))] ++ rs.drop (k + 1))]) := hs.sel [0, 3, 2] (by decide)
    have hs := hs.pushQ
    refine ih (k + 1, qs ++ [(r.1, (a3, r.2.2.1, c3), x.2)]) _ _ ⟨by rw [List.map_append]; exact hs.sel [1, 0] (by decide), ⟨by show (qs ++ [_]).length = _; rw [List.length_append, hql]; rfl, hlt⟩, ?_, ?_⟩ (by show n - (k + 1) < n - k; omega) (by repeat' (first | exact trivial | exact rfl | apply And.intro))
    · show (qs ++ [_]).map meanQ = _
      rw [List.map_append, hqm, List.take_add_one, hx]
      show _ ++ [(r.1, x.2)] = _ ++ [x]
      rw [e1]
    · intro q hq
      rcases List.mem_append.1 hq with e | e
      · exact hqo q e
      · rw [List.mem_singleton.1 e]
        exact ⟨by show inK .i64 r.1; rw [e1]; exact (hlo x hxm).1, mlen.symm, (hlo x hxm).2⟩
  · have hs : St w NoF w2 [_, _] := hs1
    have hkn : qs.length = n := by omega
    rw [List.drop_of_length_le (by omega), List.append_nil, ← hkn] at hs
    rw [List.take_of_length_le (by omega)] at hqm
    repeat' (first
      | (apply JL_nil)
      | ((apply JL_pure); (first
      | (apply as_move; exact OpR_move rfl is_rfl)
      | (apply as_assign; exact OpR_assign rfl is_rfl)
      | (apply as_binOp; exact OpR_ibin rfl rfl rfl is_rfl)); first | (exact rfl; exact rfl) | exact rfl)
      | (apply J_seq)
      | (apply J_region)
      | (apply aj_exit; refine J_exit rfl ?_)
      | (apply aj_cond; refine J_dec_f rfl ob ?_))
    rw [← hkn]
    refine J_leave Tryz.func13 rfl (.tmp rfl .nil) ⟨qs, _, _, ⟨hqm, hqo⟩, rfl, hs.out (List.Sublist.refl _)⟩
/-- spoil: what is held is written over. -/
theorem rlspoil_r (w : World) (a : Option Addr) (c : Nat) (qs : List QR) (hh : Held w [TabQ a qs.length c (qs.map rawQ), OwnQ qs]) (hok : ∀ q ∈ qs, okQ q) (hn : qs.length ≤ 1000000) (hb : ∀ q ∈ qs, q.2.2.length ≤ 1000000) :
    Ret Tryz.prog 23 #[.slice a qs.length c] w fun v w' => Turn w [TabQ a qs.length c (qs.map rawQ), OwnQ qs] w' [] := by
  refine Ret_of (l := [_]) Tryz.func23 rfl Tryz.ntmps23 (by simp) ?_
  have hs := hh.st
  repeat' (first
    | (apply JL_nil)
    | ((apply JL_pure); (first
      | (apply as_move; exact OpR_move rfl is_rfl)
      | (apply as_b_len; exact OpR_len rfl is_rfl)); first | (exact rfl; exact rfl) | exact rfl)
    | (apply J_seq)
    | (apply J_region)
    | (apply J_block))
  refine J_loopK (α := Nat × List QR) [(5, _), (6, _)] (fun g => [(7, .int .i64 g.1)]) (fun g w' => St w (Star [TabQ a qs.length c (qs.map rawQ), OwnQ qs]).foot w' [TabQ a qs.length c (qs.map rawQ), OwnQ g.2] ∧ g.1 ≤ qs.length ∧ g.2.map rawQ = qs.map rawQ ∧ (∀ q ∈ g.2, q.2.1.2.1 = q.2.2.length)) (fun g => qs.length - g.1) (0, qs) ⟨hs, Nat.zero_le _, rfl, fun q hq => (hok q hq).2.1⟩ (by repeat' (first | exact trivial | exact rfl | apply And.intro)) ?_
  rintro ⟨k, ps⟩ w2 ⟨hs1, hk, hpr, hpl⟩ ih
  dsimp only at hs1 hk hpr hpl ih ⊢
  have hpn : ps.length = qs.length := by have := congrArg List.length hpr; rwa [List.length_map, List.length_map] at this
  by_cases hlt : k < qs.length
  · obtain ⟨b, o, rfl⟩ := (hs1.row a qs.length c).some (by omega)
    obtain ⟨F0, hF0⟩ : ∃ F0, F0 = (Star [TabQ (some ⟨b, o, none⟩) qs.length c (qs.map rawQ), OwnQ qs]).foot := ⟨_, rfl⟩
    rw [← hF0] at hs1 ih
    have hq : ps[k]? = some (ps[k]'(by omega)) := List.getElem?_eq_getElem (by omega)
    obtain ⟨q, hqd⟩ : ∃ q, q = ps[k]'(by omega) := ⟨_, rfl⟩
    rw [← hqd] at hq
    have hsp : ps.take k ++ q :: ps.drop (k + 1) = ps := by rw [hqd, ← List.drop_eq_getElem_cons (by omega), List.take_append_drop]
    have hrr : (qs.map rawQ)[k]? = some (rawQ q) := by rw [← hpr, List.getElem?_map, hq]; rfl
    have hql := hpl q (List.mem_of_getElem? hq)
    have hql2 : q.2.2.length ≤ 1000000 := by
      rw [List.getElem?_map] at hrr
      cases h0 : qs[k]? with
      | none => rw [h0] at hrr; cases hrr
      | some z =>
        rw [h0] at hrr
        have e1 : rawQ z = rawQ q := Option.some.inj hrr
        have e2 : z.2.1 = q.2.1 := congrArg Prod.snd e1
        have := (hok z (List.mem_of_getElem? h0)).2.1
        have h3 := hb z (List.mem_of_getElem? h0)
        rw [← hql, ← e2, this]; exact h3
    have hld : ∀ (j : Nat) (u : Value), (cRef (rawQ q))[j]? = some u → (encL cRef (qs.map rawQ))[k * 2 + j]? = some u := fun j u hj => by
      have hq3 : j < 2 := (List.getElem?_eq_some_iff.1 hj).1
      rw [show (encL cRef (qs.map rawQ))[k * 2 + j]? = (cRef (rawQ q))[j]? from encL_get (d := dRRef) (qs.map rawQ) k j (rawQ q) hrr hq3]; exact hj
    have hs : St w F0 w2 [_, _] := hs1
    repeat' (first
      | (apply JL_nil)
      | ((apply JL_pure); (first
      | (apply as_load; first | exact OpR_load' hs rfl rfl is_rfl | exact OpR_load_agg' hs rfl is_rfl | exact OpR_loadN (b := b) (o := o) (off := k * 2) (n := qs.length) (c := c) hs rfl rfl hld is_rfl)
      | (apply as_move; exact OpR_move rfl is_rfl)
      | (apply as_fieldAddr; exact OpR_fieldAddr0 rfl rfl is_rfl)
      | (apply as_binOp; exact OpR_ibin rfl rfl rfl is_rfl)
      | (apply as_b_len; exact OpR_len rfl is_rfl)
      | (apply as_indexAddr; exact OpR_indexAddr rfl rfl (by omega) (by omega) is_rfl)); first | (exact rfl; exact rfl) | exact rfl)
      | (apply J_seq)
      | (apply J_region)
      | (apply J_block)
      | (apply J_skip)
      | (apply al_none (t := 3); refine JL_o (by apply as_alloc; exact OpR_alloc' hs) rfl rfl ?_; rintro _ _ ⟨b3, rfl, hb3, hs, hE⟩)
      | (apply al_unit; refine JL_u (by apply as_store; exact OpR_store' hs rfl rfl rfl) rfl ?_; rintro _ _ ⟨hs, hF⟩)
      | (apply aj_cond; refine J_dec_t rfl ob ?_))
    have hs : St w F0 _ (OwnQ ps :: [TabQ (some ⟨b, o, none⟩) qs.length c (qs.map rawQ), Blk b3 (.cells #[.int .i64 q.1, .slice q.2.1.1 q.2.1.2.1 q.2.1.2.2] 116 (0, 0))]) := hs.sel [2, 1, 0] (by decide)
    rw [← hsp] at hs
    have hs := hs.outQ
    refine J_loopK (α := Nat × List HH) [(3, _), (5, _), (6, _), (7, _), (13, _)] (fun g => [(14, .int .i64 g.1)]) (fun g w' => St w F0 w' [RowH q.2.1.1 q.2.1.2.1 q.2.1.2.2 g.2, OwnQ (ps.take k ++ ps.drop (k + 1)), TabQ (some ⟨b, o, none⟩) qs.length c (qs.map rawQ), Blk b3 (.cells #[.int .i64 q.1, .slice q.2.1.1 q.2.1.2.1 q.2.1.2.2] 116 (0, 0))] ∧ g.1 ≤ q.2.2.length ∧ g.2.length = q.2.2.length) (fun g => q.2.2.length - g.1) (0, q.2.2) ⟨hs, Nat.zero_le _, rfl⟩ (by repeat' (first | exact trivial | exact rfl | apply And.intro)) ?_
    rintro ⟨j, ys⟩ w3 ⟨hs1, hj, hyl⟩ ih2
    dsimp only at hs1 hj hyl ih2 ⊢
    by_cases hlj : j < q.2.2.length
    · obtain ⟨⟨ix, ⟨ra, rn, rc⟩, zs⟩, hqe⟩ : ∃ z, z = q := ⟨_, rfl⟩
      subst hqe
      dsimp only at *
      obtain ⟨p2, o2, rfl⟩ := (hs1.row ra rn rc).some (by omega)
      have hs : St w F0 w3 [_, _, _, _] := hs1
      have hy : ys[j]? = some (ys[j]'(by omega)) := List.getElem?_eq_getElem (by omega)
      obtain ⟨y, hyd⟩ : ∃ y, y = ys[j]'(by omega) := ⟨_, rfl⟩
      rw [← hyd] at hy
      have hcy : (encL cH ys)[j * 2]? = some (.int .i64 y.1) := encL_get (d := dHeld) ys j 0 y hy (by decide)
      repeat' (first
        | ((apply al_unit; refine JL_u (by apply as_store; exact OpR_storeN (b := p2) (o := o2) (off := j * 2) (n := rn) (c := rc) (vs := [.int .i64 _]) hs rfl rfl rfl rfl (by simp [Value.oneCell']) (by show j * 2 + 1 ≤ rn * 2; omega)) rfl ?_; rintro _ _ ⟨hs, hF⟩; rw [encH_set0 ys j y _ hy] at hs))
        | (apply JL_nil)
        | ((apply JL_pure); (first
      | (apply as_load; first | exact OpR_load' hs rfl rfl is_rfl | exact OpR_load1N (b := p2) (o := o2) (off := j * 2) (n := rn) (c := rc) hs rfl hcy is_rfl)
      | (apply as_move; exact OpR_move rfl is_rfl)
      | (apply as_assign; exact OpR_assign rfl is_rfl)
      | (apply as_fieldAddr; first | exact OpR_fieldAddr0 rfl rfl is_rfl | exact OpR_fieldAddr rfl rfl is_rfl)
      | (apply as_add; first | exact OpR_addn rfl rfl (by omega) (by first | (simp only [Int.reduceAdd]; exact rfl) | exact rfl) is_rfl | exact OpR_ibin rfl rfl rfl is_rfl)
      | (apply as_binOp; exact OpR_ibin rfl rfl rfl is_rfl)
      | (apply as_indexAddr; exact OpR_indexAddr rfl rfl (by omega) (by omega) is_rfl)); first | (exact rfl; exact rfl) | exact rfl)
        | (apply J_seq)
        | (apply J_region)
        | (apply J_block)
        | (apply J_inBlock)
        | (apply J_skip)
        | (apply aj_cond; refine J_dec_t rfl ob ?_))
      refine ih2 (j + 1, ys.set j (_, y.2)) _ _ ⟨hs, hlj, by show (ys.set j _).length = _; rw [List.length_set]; exact hyl⟩ (by show zs.length - (j + 1) < zs.length - j; omega) (by repeat' (first | exact trivial | exact rfl | apply And.intro))
    · have hs : St w F0 w3 [_, _, _, _] := hs1
      repeat' (first
        | (apply JL_nil)
        | ((apply JL_pure); (first
      | (apply as_move; exact OpR_move rfl is_rfl)
      | (apply as_add; exact OpR_addn rfl rfl (by omega) (by first | (simp only [Int.reduceAdd]; exact rfl) | exact rfl) is_rfl)
      | (apply as_binOp; exact OpR_ibin rfl rfl rfl is_rfl)); first | (exact rfl; exact rfl) | exact rfl)
        | (apply J_seq)
        | (apply J_region)
        | (apply J_inBlock)
        | (apply aj_exit; refine J_exit rfl ?_)
        | (apply aj_cond; refine J_dec_f rfl ob ?_))
      have hs : St w F0 _ (rowQ (q.1, q.2.1, ys) :: OwnQ (ps.take k ++ ps.drop (k + 1)) :: [_, _]) := hs
      have hs := hs.inQ
      refine ih (k + 1, ps.take k ++ (q.1, q.2.1, ys) :: ps.drop (k + 1)) _ _ ⟨hs.sel [1, 0] (by decide), hlt, ?_, ?_⟩ (by show qs.length - (k + 1) < qs.length - k; omega) (by repeat' (first | exact trivial | exact rfl | apply And.intro))
      · show (ps.take k ++ (q.1, q.2.1, ys) :: ps.drop (k + 1)).map rawQ = _
        rw [← hpr]
        conv => rhs; rw [← hsp]
        rw [List.map_append, List.map_append, List.map_cons, List.map_cons]
      · intro z hz
        rcases List.mem_append.1 hz with e | e
        · exact hpl z (List.mem_of_mem_take e)
        · rcases List.mem_cons.1 e with e | e
          · rw [e]; show q.2.1.2.1 = ys.length; rw [hyl]; exact hql
          · exact hpl z (List.mem_of_mem_drop e)
  · have hs : St w (Star [TabQ a qs.length c (qs.map rawQ), OwnQ qs]).foot w2 [_, _] := hs1
    repeat' (first
      | (apply JL_nil)
      | ((apply JL_pure); (apply as_binOp; exact OpR_ibin rfl rfl rfl is_rfl); first | (exact rfl; exact rfl) | exact rfl)
      | (apply J_seq)
      | (apply J_region)
      | (apply aj_exit; refine J_exit rfl ?_)
      | (apply aj_cond; refine J_dec_f rfl ob ?_))
    refine J_leave_end Tryz.func23 rfl .nil ?_
    exact St.turned (A' := []) (M := [_, _]) hs
end Go.Eng
