/- The texts K17, K18, K19, K20, joined. -/
import Derived.Test.YtcoldgkhlkjjmaaGreatX3
/- Referrers: two rows changed. -/
namespace Go.Eng
open Go.Proofs
set_option linter.unusedSimpArgs false
set_option linter.unusedVariables false
def SQ (l : List RH) (A' : List HH) (p : Int) (i : Nat) (m : List RH) : Prop := (i = 0 → m = l) ∧ (i = 1 → Chg l m (partsM p).1 (underH A' (partsM p).1)) ∧ (i = 2 → m = ofH A')
theorem set_split {α : Type} (l1 l2 : List α) (x y : α) {i : Nat} (h : l1.length = i) : (l1 ++ x :: l2).set i y = l1 ++ y :: l2 := by
  subst h
  rw [List.set_append_right _ _ (Nat.le_refl _), Nat.sub_self]; rfl
theorem erase_split {α : Type} (l1 l2 : List α) (x : α) {i : Nat} (h : l1.length = i) : (l1 ++ x :: l2).eraseIdx i = l1 ++ l2 := by
  subst h
  rw [List.eraseIdx_append_of_length_le (Nat.le_refl _), Nat.sub_self]; rfl
theorem get_split {α : Type} (l1 l2 : List α) (x : α) {i : Nat} (h : l1.length = i) : (l1 ++ x :: l2)[i]? = some x := by
  subst h
  rw [List.getElem?_append_right (Nat.le_refl _), Nat.sub_self]; rfl
theorem one_encR (xs : List RRef) : ∀ u ∈ encL cRef xs, u.oneCell' = true := fun u hu => by
  obtain ⟨x, _, hx⟩ := List.mem_flatMap.1 hu
  simp only [List.mem_cons, List.not_mem_nil, or_false] at hx
  rcases hx with rfl | rfl <;> rfl
theorem insR_cells {xs : List RRef} {r : RRef} {i : Nat} (hi : i ≤ xs.length) : (encL cRef xs).take (i * 2) ++ [.int .i64 r.1, .slice r.2.1 r.2.2.1 r.2.2.2] ++ (encL cRef xs).drop (i * 2) = encL cRef (xs.take i ++ r :: xs.drop i) := by
  rw [encL_app, encL_cons, encL_take (d := dRRef), encL_drop (d := dRRef)]
  show _ ++ cRef r ++ _ = _ ++ (cRef r ++ _)
  rw [List.append_assoc]; rfl
theorem delR_cells {l1 l2 : List RRef} {x : RRef} {i : Nat} (h : l1.length = i) : (encL cRef (l1 ++ x :: l2)).take (i * 2) ++ (encL cRef (l1 ++ x :: l2)).drop ((i + 1) * 2) = encL cRef (l1 ++ l2) := by
  subst h
  have h0 : (encL cRef l1).length = l1.length * 2 := encL_len (d := dRRef) l1
  have h1 : (cRef x).length = 2 := rfl
  rw [encL_app, encL_cons, encL_app, ← h0, List.take_left, Nat.add_mul, Nat.one_mul, ← h0, ← List.drop_drop, List.drop_left, ← h1, List.drop_left]
theorem row_ge {w W : World} {L : List HP} {a : Option Addr} {n c e sz : Nat} {xs : List Value} (hs : St w NoF W (Row a n c e sz xs :: L)) : ∀ k, k < w.heap.size → ¬ afoot a k := fun k hk hf => by
  have := ((hs.foot _ List.mem_cons_self k hf).2).resolve_left id
  omega
theorem at_zero {l : List RH} {n : Int} {i : Nat} {r : RH} (hr : l[i]? = some r) (h : atR l n i = 0) : r.1 = n := by rw [atR_some hr, cmpI_zero'] at h; exact h
theorem cut_new {l : List RH} {n : Int} {i : Nat} (hl : risingR l) (hc : Cut (atR l n) l.length i) (hno : ∀ r ∈ l, r.1 ≠ n) : (∀ a x, l[a]? = some x → a < i → x.1 < n) ∧ ∀ a x, l[a]? = some x → i ≤ a → n < x.1 := by
  refine ⟨fun a x hx ha => ?_, fun a x hx ha => ?_⟩
  · have h1 := hc.lo (by omega)
    have hi1 : l[i - 1]? = some (l[i - 1]'(by have := hc.le; omega)) := List.getElem?_eq_getElem (by have := hc.le; omega)
    rw [atR_some hi1, cmpI_neg] at h1
    by_cases e : a = i - 1
    · subst e
      rw [hi1] at hx
      rw [← Option.some.inj hx]; exact h1
    · have := adj_pairwise (lt := fun a b : RH => a.1 < b.1) hl hx hi1 (by omega)
      omega
  · have hil : i < l.length := by have := (List.getElem?_eq_some_iff.1 hx).1; omega
    have h1 := hc.hi hil
    have hi1 : l[i]? = some (l[i]'hil) := List.getElem?_eq_getElem hil
    have hne := hno _ (List.mem_of_getElem? hi1)
    rw [atR_some hi1] at h1
    have h2 : n < (l[i]'hil).1 := by
      have : ¬ (l[i]'hil).1 < n := fun h => by have := cmpI_neg.2 h; omega
      omega
    by_cases e : a = i
    · subst e
      rw [hi1] at hx
      rw [← Option.some.inj hx]; exact h2
    · have := adj_pairwise (lt := fun a b : RH => a.1 < b.1) hl hi1 hx (by omega)
      omega
theorem aj_condu (t : Nat) {P : Program} {f : FuncId} {ro : Option Nat} {n : Nat} {R : Value → World → Prop} {k : List Item} {ds : List Deferred} {env : Env} {w : World} {x y : Code} (h : J P f ro n R (.code (.cond (.tmp t) x y) :: k) ds env w) : J P f ro n R (.code (.cond (.tmp t) x y) :: k) ds env w := h
attribute [local irreducible] Hold J JL JD JX JXat OpR OpG Ret RetV Is Blk Row MapC
set_option maxRecDepth 100000
set_option maxHeartbeats 1000000
theorem changed_r (w : World) (a : Option Addr) (n c : Nat) (l : List RH) (p : Int) (h : Sl dRef All w a n c l) (hok : OkR l) (hp : inK .u64 p) (hn : n ≤ 100000) (hb : tot l ≤ 100000) (g : FuncId) (cap : Array Value) (eg : Enters Tryz.prog g) (A' : List HH) (chg : List HH → List HH) (Q : List HH → Prop)
    (hQ : ∀ n, mentB p n = true → Q (underH (allH l) n)) (hA1 : ∀ n, mentB p n = true → chg (underH (allH l) n) = underH A' n) (hA2 : ∀ n, mentB p n = false → underH A' n = underH (allH l) n) (hck : ∀ xs, (∀ x ∈ xs, okH x) → ∀ x ∈ chg xs, okH x)
    (hcall : ∀ W a n c xs, Held W [RowH a n c xs] → xs.length = n → n ≤ 1000000 → (∀ x ∈ xs, okH x) → Q xs → (∀ k, k < w.heap.size → W.heap[k]? = w.heap[k]? ∧ ¬ afoot a k) → Ret Tryz.prog g (#[.slice a n c] ++ cap) W fun v w' => ∃ a' c', v = .slice a' (chg xs).length c' ∧ Turn W [RowH a n c xs] w' [RowH a' (chg xs).length c' (chg xs)]) :
    Ret Tryz.prog 74 #[.slice a n c, .int .u64 p, .func (.func g) #[] cap] w fun v w' => ∃ (qs : List QR) (a' : Option Addr) (c' : Nat), (qs.map meanQ = ofH A' ∧ ∀ q ∈ qs, okQ q) ∧ v = .slice a' qs.length c' ∧ Fresh w w' [TabQ a' qs.length c' (qs.map rawQ), OwnQ qs] := by
  refine Ret_of (l := [_, _, _]) Tryz.func74 rfl Tryz.ntmps74 (by simp) ?_
  have hs := St.init w
  have hl := h.len
  have hall := allH_len l
  obtain ⟨p1, hp1⟩ : ∃ p1, p1 = (partsM p).1 := ⟨_, rfl⟩
  obtain ⟨p2, hp2⟩ : ∃ p2, p2 = (partsM p).2 := ⟨_, rfl⟩
  have hpl := partsM_lt p
  rw [← hp1, ← hp2] at hpl
  have hm1 : mentB p p1 = true := ment_iff.2 (.inl hp1.symm)
  have hm2 : mentB p p2 = true := ment_iff.2 (.inr hp2.symm)
  repeat' (first
    | ((apply al_call 86; refine JL_o (by exact OpR_callF en86 rfl (rown_r _ a n c l (h.st hs) (by omega) (by omega))) rfl rfl ?_; rintro _ _ ⟨qs0, a1, ⟨hqm0, hqo0⟩, rfl, hf⟩; have hs := hs.fresh hf; (try simp only [List.cons_append, List.nil_append] at hs)))
    | ((apply al_call 150; refine JL_o (by exact OpR_callF en150 rfl (both_r _ p hp)) rfl rfl ?_; rintro _ _ ⟨rfl, hE⟩; rw [← hp1, ← hp2]; have hs := hs.ext hE; (try simp only [List.cons_append, List.nil_append] at hs)))
    | (apply JL_nil)
    | ((apply JL_pure); (first
      | (apply as_move; exact OpR_move rfl is_rfl)
      | (apply as_assign; exact OpR_assign rfl is_rfl)
      | (apply as_load; exact OpR_load_agg' hs rfl is_rfl)); first | (exact rfl; exact rfl) | exact rfl)
    | (apply J_seq)
    | (apply J_region)
    | (apply J_block)
    | (apply al_none (t := 8); refine JL_o (by apply as_alloc; exact OpR_alloc' hs) rfl rfl ?_; rintro _ _ ⟨b8, rfl, hb8, hs, hE⟩)
    | (apply al_unit; refine JL_u (by apply as_store; exact OpR_store' hs rfl rfl rfl) rfl ?_; rintro _ _ ⟨hs, hF⟩))
  have hq0l : qs0.length = n := by have := congrArg List.length hqm0; rw [List.length_map] at this; omega
  refine J_loopK (α := Nat × List QR × Option Addr × Nat) [(2, _), (8, _), (17, _)] (fun g => [(7, .slice g.2.2.1 g.2.1.length g.2.2.2), (18, .int .i64 g.1)]) (fun g w' => St w NoF w' [TabQ g.2.2.1 g.2.1.length g.2.2.2 (g.2.1.map rawQ), OwnQ g.2.1, Blk b8 (.cells #[.int .i64 p1, .int .i64 p2] 190 (0, 0))] ∧ SQ l A' p g.1 (g.2.1.map meanQ) ∧ (∀ q ∈ g.2.1, okQ q) ∧ g.1 ≤ 2 ∧ g.2.1.length ≤ n + g.1) (fun g => 2 - g.1) (0, qs0, a1, n) ⟨by show St _ _ _ [TabQ a1 qs0.length n _, _, _]; rw [hq0l]; exact hs.sel [1, 2, 0] (by decide), ⟨fun _ => hqm0, (fun e => by cases e), (fun e => by cases e)⟩, hqo0, by show 0 ≤ 2; omega, by show qs0.length ≤ n + 0; omega⟩ (by rw [← hq0l]; repeat' (first | exact trivial | exact rfl | apply And.intro)) ?_
  rintro ⟨i, qs, a', c'⟩ w2 ⟨hs1, hSQ, hqo, hi2, hql⟩ ih
  dsimp only at hs1 hSQ hqo hi2 hql ih ⊢
  have hs : St w NoF w2 [_, _, _] := hs1
  have hcase : i = 0 ∨ i = 1 ∨ i = 2 := by omega
  rcases hcase with rfl | rfl | rfl
  · have hcur := hSQ.1 rfl
    have hri : risingR (qs.map meanQ) := by rw [hcur]; exact hok.rise
    have hso : ∀ r ∈ qs.map meanQ, r.2 ≠ [] := by rw [hcur]; exact hok.some_
    have hlk : lookH (qs.map meanQ) p1 = underH (allH l) p1 := by rw [hcur]; exact (under_look hok p1).symm
    have hpost : ∀ m', Chg (qs.map meanQ) m' p1 (chg (underH (allH l) p1)) → SQ l A' p 1 m' := fun m' hC => ⟨(fun e => by cases e), fun _ => by rw [hcur, hA1 p1 hm1] at hC; rw [← hp1]; exact hC, (fun e => by cases e)⟩
    obtain ⟨xs, hxs⟩ : ∃ xs, xs = underH (allH l) p1 := ⟨_, rfl⟩
    have hxl : xs.length ≤ 100000 := by rw [hxs]; exact Nat.le_trans (List.length_filter_le _ _) (by omega)
    have hQx : Q xs := by rw [hxs]; exact hQ p1 hm1
    rw [← hxs] at hlk hpost
    repeat' (first
      | ((apply aj_condu 38; refine J_cutK (γ := List QR × QR × List QR × Option Addr × Nat) [(2, _), (8, _), (11, _), (17, _), (18, _)] (by repeat' (first | exact trivial | exact rfl | apply And.intro)) (fun g => [(7, .slice g.2.2.2.1 (g.1 ++ g.2.1 :: g.2.2.1).length g.2.2.2.2)]) (fun g w' => St w NoF w' [TabQ g.2.2.2.1 (g.1 ++ g.2.1 :: g.2.2.1).length g.2.2.2.2 ((g.1 ++ g.2.1 :: g.2.2.1).map rawQ), OwnQ (g.1 ++ g.2.1 :: g.2.2.1), Blk b8 (.cells #[.int .i64 p1, .int .i64 p2] 190 (0, 0))] ∧ (g.1.length = i1 ∧ g.2.1.1 = p1 ∧ g.2.1.2.2 = xs) ∧ (∀ q ∈ g.1 ++ g.2.1 :: g.2.2.1, okQ q) ∧ (g.1 ++ g.2.1 :: g.2.2.1).length ≤ n + (0 + 1) ∧ ((chg xs ≠ [] → Chg (qs.map meanQ) (g.1.map meanQ ++ (p1, chg xs) :: g.2.2.1.map meanQ) p1 (chg xs)) ∧ (chg xs = [] → Chg (qs.map meanQ) (g.1.map meanQ ++ g.2.2.1.map meanQ) p1 (chg xs)))) (fun RR kk hcont => hold ?_) (hold ?_)))
      | ((apply al_call 151; refine JL_o (by exact OpR_callF en151 rfl (find_r15 _ a' qs.length c' (qs.map meanQ) p1 (slQ hs (by repeat (first | exact List.Mem.head _ | apply List.Mem.tail)) (by repeat (first | exact List.Mem.head _ | apply List.Mem.tail)) hqo) (by omega))) rfl rfl ?_; rintro _ _ ⟨i1, hcut1, rfl, hE⟩; have hs := hs.ext hE; obtain ⟨fb, hfb⟩ : ∃ fb, fb = (decide (i1 < qs.length) && decide (atR (qs.map meanQ) p1 i1 = 0)) := ⟨_, rfl⟩; rw [← hfb]; (try simp only [List.cons_append, List.nil_append] at hs)))
      | (apply JL_nil)
      | ((apply JL_pure); (first
      | (apply as_move; exact OpR_move rfl is_rfl)
      | (apply as_assign; exact OpR_assign rfl is_rfl)
      | (apply as_binOp; exact OpR_ibin rfl rfl rfl is_rfl)
      | (apply as_unOp; exact OpR_not rfl is_rfl)
      | (apply as_pick; exact OpR_pick_f rfl gb rfl is_rfl)
      | (apply as_extract; exact OpR_extract rfl rfl is_rfl)
      | (apply as_index; exact OpR_index rfl rfl (by omega) (by omega) rfl is_rfl)); first | (exact rfl; exact rfl) | exact rfl)
      | (apply J_seq)
      | (apply J_region)
      | (apply J_block)
      | (apply J_skip)
      | (apply al_guard; (refine JL_no rfl gb rfl ?_))
      | (apply aj_cond; first | refine J_dec_t rfl ob ?_ | refine J_cond_f rfl gb ?_))
    · refine unhold ?_
      cases fb with
      | true =>
        have h2 := Bool.and_eq_true_iff.1 hfb.symm
        have hi1 : i1 < qs.length := of_decide_eq_true h2.1
        have h0 := of_decide_eq_true h2.2
        have hq : qs[i1]? = some (qs[i1]'hi1) := List.getElem?_eq_getElem hi1
        obtain ⟨q, hqd⟩ : ∃ q, q = qs[i1]'hi1 := ⟨_, rfl⟩
        rw [← hqd] at hq
        have hsp : qs.take i1 ++ q :: qs.drop (i1 + 1) = qs := by rw [hqd, ← List.drop_eq_getElem_cons hi1, List.take_append_drop]
        have hq1l : (qs.take i1).length = i1 := by rw [List.length_take]; omega
        have hmq : (qs.map meanQ)[i1]? = some (meanQ q) := by rw [List.getElem?_map, hq]; rfl
        have hqn : q.1 = p1 := at_zero hmq h0
        have hqx : q.2.2 = xs := by rw [← hlk, ← hqn]; exact (lookH_of hri (List.mem_of_getElem? hmq)).symm
        obtain ⟨c1, c2⟩ := chg_at hri hso hmq hqn (chg xs)
        have hms : qs.map meanQ = (qs.take i1).map meanQ ++ meanQ q :: (qs.drop (i1 + 1)).map meanQ := by rw [← List.map_cons, ← List.map_append, hsp]
        have hml : ((qs.take i1).map meanQ).length = i1 := by rw [List.length_map]; exact hq1l
        repeat' (first
          | (apply J_skip)
          | (apply aj_cond; refine J_cond_f rfl gb ?_))
        refine hcont (qs.take i1, q, qs.drop (i1 + 1), a', c') _ _ ⟨by show St w NoF _ [TabQ a' (qs.take i1 ++ q :: qs.drop (i1 + 1)).length c' ((qs.take i1 ++ q :: qs.drop (i1 + 1)).map rawQ), OwnQ (qs.take i1 ++ q :: qs.drop (i1 + 1)), _]; rw [hsp]; exact hs, ⟨hq1l, hqn, hqx⟩, by show ∀ z ∈ qs.take i1 ++ q :: qs.drop (i1 + 1), okQ z; rw [hsp]; exact hqo, by show (qs.take i1 ++ q :: qs.drop (i1 + 1)).length ≤ _; rw [hsp]; omega, fun e => ?_, fun e => ?_⟩ (by show Sub ([(7, .slice a' (qs.take i1 ++ q :: qs.drop (i1 + 1)).length c')] ++ _) _; rw [hsp]; repeat' (first | exact trivial | exact rfl | apply And.intro))
        · have := c1 e
          rw [hms, set_split _ _ _ _ hml, ← hms] at this
          exact this
        · have := c2 e
          rw [hms, erase_split _ _ _ hml, ← hms] at this
          exact this
      | false =>
        have hno : ∀ r ∈ qs.map meanQ, r.1 ≠ p1 := notR (by rw [List.length_map]; exact hcut1) (by rw [List.length_map]; exact hfb.symm) hri
        have hx0 : xs = [] := by rw [← hlk]; exact lookH_none hno
        obtain ⟨n1, n2⟩ := cut_new hri (by rw [List.length_map]; exact hcut1) hno
        have hile := hcut1.le
        obtain ⟨c1, c2⟩ := chg_new hri (i := i1) (by rw [List.length_map]; exact hile) n1 n2 (chg xs)
        have hq1l : (qs.take i1).length = i1 := by rw [List.length_take]; omega
        repeat' (first
          | ((apply al_none (t := 44); have hs2 : St w NoF _ ([TabQ a' qs.length c' (qs.map rawQ), Blk b43 (.cells #[.int .i64 p1, .slice none 0 0] 116 (0, 0))] ++ [OwnQ qs, Blk b8 (.cells #[.int .i64 p1, .int .i64 p2] 190 (0, 0))]) := hs.sel [1, 0, 2, 3] (by decide); refine JL_o (OpR_callF en153 rfl (insR_r _ a' qs.length c' i1 (encL cRef (qs.map rawQ)) (.int .i64 p1) (.slice none 0 0) b43 (St.held (A := [_, _]) hs2) hile (by omega) (one_encR _) (fun u hu => by simp only [List.mem_cons, List.not_mem_nil, or_false] at hu; rcases hu with rfl | rfl <;> rfl))) rfl rfl ?_; rintro _ _ ⟨a4, c4, rfl, ht⟩; have hs := St.take (A := [_, _]) (A' := [_]) hs2 ht; simp only [List.cons_append, List.nil_append] at hs))
          | (apply JL_nil)
          | ((apply JL_pure); (first
      | (apply as_move; exact OpR_move rfl is_rfl)
      | (apply as_assign; exact OpR_assign rfl is_rfl)
      | (apply as_build; exact OpR_build rfl (by (simp only [bld, placesOf, splice, Value.cells, List.take_succ_cons, List.take_zero, List.drop_succ_cons, List.drop_zero, List.cons_append, List.nil_append, List.length_cons, List.length_nil, List.getElem?_cons_zero, List.getElem?_cons_succ, Option.map_some, List.append_nil, Nat.reduceAdd, Nat.reduceMul, Nat.zero_add, Nat.reduceLeDiff, and_self, if_true, List.toList_toArray, Nat.le_refl, Nat.zero_mul, Nat.one_mul]; first | done | rfl)) is_rfl)); first | (exact rfl; exact rfl) | exact rfl)
          | (apply J_region)
          | (apply al_none (t := 43); refine JL_o (by apply as_buildSlice; exact OpR_buildSlice hs rfl (by omega) rfl) rfl rfl ?_; rintro _ _ ⟨b43, rfl, hb43, hs, hE⟩)
          | (apply aj_cond; refine J_cond_t rfl gb ?_))
        have hmp : ((qs.take i1 ++ (p1, (none, 0, 0), []) :: qs.drop i1 : List QR)).map rawQ = (qs.map rawQ).take i1 ++ (p1, (none, 0, 0)) :: (qs.map rawQ).drop i1 := by rw [List.map_append, List.map_cons, List.map_take, List.map_drop]
        have hic : (encL cRef (qs.map rawQ)).take (i1 * 2) ++ [.int .i64 p1, .slice none 0 0] ++ (encL cRef (qs.map rawQ)).drop (i1 * 2) = encL cRef ((qs.take i1 ++ (p1, (none, 0, 0), []) :: qs.drop i1 : List QR).map rawQ) := by rw [hmp]; exact insR_cells (xs := qs.map rawQ) (r := (p1, (none, 0, 0))) (i := i1) (by rw [List.length_map]; exact hile)
        rw [hic] at hs
        have hs := hs.nilRow 31 2
        have hown : OwnQ qs = OwnQ (qs.take i1 ++ qs.drop i1) := by rw [List.take_append_drop]
        rw [hown] at hs
        have hs : St w NoF _ (rowQ (p1, (none, 0, 0), []) :: OwnQ (qs.take i1 ++ qs.drop i1) :: [_, _]) := hs.sel [0, 2, 1, 3] (by decide)
        have hs := hs.inQ
        have hl2 : (qs.take i1 ++ (p1, (none, 0, 0), []) :: qs.drop i1 : List QR).length = qs.length + 1 := by rw [List.length_append, List.length_cons, List.length_take, List.length_drop]; omega
        refine hcont (qs.take i1, (p1, (none, 0, 0), []), qs.drop i1, a4, c4) _ _ ⟨by show St w NoF _ [TabQ a4 (qs.take i1 ++ (p1, (none, 0, 0), []) :: qs.drop i1 : List QR).length c4 _, _, _]; rw [hl2]; exact hs.sel [1, 0, 2] (by decide), ⟨hq1l, rfl, hx0.symm⟩, fun z hz => ?_, by show (qs.take i1 ++ (p1, (none, 0, 0), []) :: qs.drop i1 : List QR).length ≤ _; rw [hl2]; omega, fun e => ?_, fun e => ?_⟩ (by show Sub ([(7, .slice a4 (qs.take i1 ++ (p1, (none, 0, 0), []) :: qs.drop i1 : List QR).length c4)] ++ _) _; rw [hl2]; repeat' (first | exact trivial | exact rfl | apply And.intro))
        · rcases List.mem_append.1 hz with e | e
          · exact hqo z (List.mem_of_mem_take e)
          · rcases List.mem_cons.1 e with e | e
            · rw [e]; exact ⟨by show inK .i64 p1; unfold inK; omega, rfl, fun x hx => by cases hx⟩
            · exact hqo z (List.mem_of_mem_drop e)
        · have := c1 e
          rw [← List.map_take, ← List.map_drop] at this
          exact this
        · have := c2 e
          show Chg _ ((qs.take i1).map meanQ ++ (qs.drop i1).map meanQ) _ _
          rw [← List.map_append, List.take_append_drop]
          exact this
    · refine unhold ?_
      rintro ⟨q1, q, q2, a2, c2⟩ w3 ⟨hs1, ⟨hq1l, hqn, hqx⟩, hqo2, hlen2, hch1, hch2⟩
      dsimp only at hs1 hq1l hqn hqx hqo2 hlen2 hch1 hch2 ⊢
      have hs : St w NoF w3 [_, _, _] := hs1
      obtain ⟨b, o, rfl⟩ := (hs.row a2 (q1 ++ q :: q2).length c2).some (by rw [List.length_append, List.length_cons]; omega)
      have hs : St w NoF w3 (OwnQ (q1 ++ q :: q2) :: [TabQ (some ⟨b, o, none⟩) (q1 ++ q :: q2).length c2 ((q1 ++ q :: q2).map rawQ), Blk b8 (.cells #[.int .i64 p1, .int .i64 p2] 190 (0, 0))]) := hs1.sel [1, 0, 2] (by decide)
      have hs := hs.outQ
      have hqq := hqo2 q (by simp)
      have hilen : i1 < (q1 ++ q :: q2).length := by rw [List.length_append, List.length_cons]; omega
      have hq1r : (q1.map rawQ).length = i1 := by rw [List.length_map]; exact hq1l
      have hget : ((q1 ++ q :: q2).map rawQ)[i1]? = some (rawQ q) := by rw [List.getElem?_map, get_split _ _ _ hq1l]; rfl
      have hcx : (encL cRef ((q1 ++ q :: q2).map rawQ))[i1 * 2 + 1]? = some (.slice q.2.1.1 q.2.1.2.1 q.2.1.2.2) := encL_get (d := dRRef) _ i1 1 _ hget (by decide)
      have hrl : q.2.1.2.1 = q.2.2.length := hqq.2.1
      have hset : ∀ (a3 : Option Addr) (c3 : Nat), splice (encL cRef ((q1 ++ q :: q2).map rawQ)) (i1 * 2 + 1) [.slice a3 (chg q.2.2).length c3] = encL cRef ((q1 ++ (q.1, (a3, (chg q.2.2).length, c3), chg q.2.2) :: q2).map rawQ) := fun a3 c3 => by
        refine (encR_set1 _ i1 (rawQ q) (a3, (chg q.2.2).length, c3) hget).trans ?_
        rw [List.map_append, List.map_cons, set_split _ _ _ _ hq1r, List.map_append, List.map_cons]
      have hcx2 : ∀ (a3 : Option Addr) (c3 : Nat), (encL cRef ((q1 ++ (q.1, (a3, (chg q.2.2).length, c3), chg q.2.2) :: q2).map rawQ))[i1 * 2 + 1]? = some (.slice a3 (chg q.2.2).length c3) := fun a3 c3 => encL_get (d := dRRef) _ i1 1 (q.1, (a3, (chg q.2.2).length, c3)) (by rw [List.getElem?_map, get_split _ _ _ hq1l]; rfl) (by decide)
      have hll : ∀ z : QR, (q1 ++ z :: q2).length = (q1 ++ q :: q2).length := fun z => by rw [List.length_append, List.length_append, List.length_cons, List.length_cons]
      by_cases hce : chg xs = []
      · have hcl0 : (chg q.2.2).length = 0 := by rw [hqx, hce]; rfl
        repeat' (first
          | ((apply al_none (t := 53); refine JL_o (OpR_callV rfl rfl (Ret.value (cap := cap) eg (hcall _ q.2.1.1 q.2.1.2.1 q.2.1.2.2 q.2.2 (St.held (A := [_]) hs) hrl.symm (by rw [hrl, hqx]; omega) hqq.2.2 (by rw [hqx]; exact hQx) (fun k hk => ⟨hs.frm.old k hk id, row_ge hs k hk⟩)))) rfl rfl ?_; rintro _ _ ⟨a3, c3, rfl, ht⟩; have hs := St.take (A := [_]) (A' := [_]) hs ht; simp only [List.cons_append, List.nil_append] at hs))
          | ((apply al_unit; refine JL_u (by apply as_store; exact OpR_storeN (b := b) (o := o) (off := i1 * 2 + 1) (n := (q1 ++ q :: q2).length) (c := c2) (vs := [.slice a3 (chg q.2.2).length c3]) hs rfl rfl rfl rfl (by simp [Value.oneCell']) (by show i1 * 2 + 1 + 1 ≤ (q1 ++ q :: q2).length * 2; omega)) rfl ?_; rintro _ _ ⟨hs, hF⟩; rw [hset a3 c3] at hs))
          | ((apply al_none (t := 67); have hs2 : St w NoF _ ([TabQ (some ⟨b, o, none⟩) (q1 ++ q :: q2).length c2 _] ++ [RowH a3 _ c3 _, OwnQ (q1 ++ q2), Blk b8 (.cells #[.int .i64 p1, .int .i64 p2] 190 (0, 0))]) := hs.sel [2, 0, 1, 3] (by decide); refine JL_o (OpR_callF en154 rfl (deleteR_r _ (some ⟨b, o, none⟩) (q1 ++ q :: q2).length c2 i1 (encL cRef ((q1 ++ (q.1, (a3, (chg q.2.2).length, c3), chg q.2.2) :: q2).map rawQ)) (St.held (A := [_]) hs2) hilen (by omega) (one_encR _))) rfl rfl ?_; rintro _ _ ⟨rfl, ht⟩; have hs := St.take (A := [_]) (A' := [_]) hs2 ht; simp only [List.cons_append, List.nil_append] at hs))
          | (apply JL_nil)
          | ((apply JL_pure); (first
      | (apply as_load; first | exact OpR_load1N (b := b) (o := o) (off := i1 * 2 + 1) (n := (q1 ++ q :: q2).length) (c := c2) hs rfl hcx is_rfl | exact OpR_load1N (b := b) (o := o) (off := i1 * 2 + 1) (n := (q1 ++ q :: q2).length) (c := c2) hs rfl (hcx2 a3 c3) is_rfl)
      | (apply as_move; exact OpR_move rfl is_rfl)
      | (apply as_assign; exact OpR_assign rfl is_rfl)
      | (apply as_fieldAddr; exact OpR_fieldAddr rfl rfl is_rfl)
      | (apply as_add; exact OpR_addn rfl rfl (by omega) (by first | (simp only [Int.reduceAdd]; exact rfl) | exact rfl) is_rfl)
      | (apply as_binOp; exact OpR_ibin rfl rfl rfl is_rfl)
      | (apply as_b_len; exact OpR_len rfl is_rfl)
      | (apply as_indexAddr; exact OpR_indexAddr rfl rfl (by omega) (by omega) is_rfl)); first | (exact rfl; exact rfl) | exact rfl)
          | (apply J_seq)
          | (apply J_region)
          | (apply J_inBlock)
          | (apply aj_cond; refine J_dec_t rfl ob ?_))
        have hdc := delR_cells (l1 := q1.map rawQ) (l2 := q2.map rawQ) (x := (q.1, (a3, (chg q.2.2).length, c3))) hq1r
        have hl3 : (q1 ++ q :: q2).length - 1 = (q1 ++ q2).length := by rw [List.length_append, List.length_append, List.length_cons]; omega
        have hs : St w NoF _ [_, _, _] := hs.sel [0, 2, 3] (by decide)
        rw [List.map_append, List.map_cons, hdc, ← List.map_append, hl3] at hs
        refine ih (0 + 1, q1 ++ q2, some ⟨b, o, none⟩, c2) _ _ ⟨hs, hpost _ (by show Chg _ ((q1 ++ q2).map meanQ) _ _; rw [List.map_append]; exact hch2 hce), fun z hz => hqo2 z (by rcases List.mem_append.1 hz with e | e; exact List.mem_append_left _ e; exact List.mem_append_right _ (List.mem_cons_of_mem _ e)), by show 0 + 1 ≤ 2; omega, by show (q1 ++ q2).length ≤ n + (0 + 1); omega⟩ (by show 2 - (0 + 1) < 2 - 0; omega) (by rw [← hl3]; repeat' (first | exact trivial | exact rfl | apply And.intro))
      · have hcl0 : ¬ (chg q.2.2).length = 0 := by rw [hqx]; exact fun e => hce (List.eq_nil_of_length_eq_zero e)
        repeat' (first
          | ((apply al_none (t := 53); refine JL_o (OpR_callV rfl rfl (Ret.value (cap := cap) eg (hcall _ q.2.1.1 q.2.1.2.1 q.2.1.2.2 q.2.2 (St.held (A := [_]) hs) hrl.symm (by rw [hrl, hqx]; omega) hqq.2.2 (by rw [hqx]; exact hQx) (fun k hk => ⟨hs.frm.old k hk id, row_ge hs k hk⟩)))) rfl rfl ?_; rintro _ _ ⟨a3, c3, rfl, ht⟩; have hs := St.take (A := [_]) (A' := [_]) hs ht; simp only [List.cons_append, List.nil_append] at hs))
          | ((apply al_unit; refine JL_u (by apply as_store; exact OpR_storeN (b := b) (o := o) (off := i1 * 2 + 1) (n := (q1 ++ q :: q2).length) (c := c2) (vs := [.slice a3 (chg q.2.2).length c3]) hs rfl rfl rfl rfl (by simp [Value.oneCell']) (by show i1 * 2 + 1 + 1 ≤ (q1 ++ q :: q2).length * 2; omega)) rfl ?_; rintro _ _ ⟨hs, hF⟩; rw [hset a3 c3] at hs))
          | (apply JL_nil)
          | ((apply JL_pure); (first
      | (apply as_load; first | exact OpR_load1N (b := b) (o := o) (off := i1 * 2 + 1) (n := (q1 ++ q :: q2).length) (c := c2) hs rfl hcx is_rfl | exact OpR_load1N (b := b) (o := o) (off := i1 * 2 + 1) (n := (q1 ++ q :: q2).length) (c := c2) hs rfl (hcx2 a3 c3) is_rfl)
      | (apply as_move; exact OpR_move rfl is_rfl)
      | (apply as_fieldAddr; exact OpR_fieldAddr rfl rfl is_rfl)
      | (apply as_add; exact OpR_addn rfl rfl (by omega) (by first | (simp only [Int.reduceAdd]; exact rfl) | exact rfl) is_rfl)
      | (apply as_binOp; exact OpR_ibin rfl rfl rfl is_rfl)
      | (apply as_b_len; exact OpR_len rfl is_rfl)
      | (apply as_indexAddr; exact OpR_indexAddr rfl rfl (by omega) (by omega) is_rfl)); first | (exact rfl; exact rfl) | exact rfl)
          | (apply J_seq)
          | (apply J_region)
          | (apply J_inBlock)
          | (apply J_skip)
          | (apply aj_cond; refine J_dec_f rfl ob ?_))
        have hs : St w NoF _ (rowQ (q.1, (a3, (chg q.2.2).length, c3), chg q.2.2) :: OwnQ (q1 ++ q2) :: [TabQ (some ⟨b, o, none⟩) (q1 ++ q :: q2).length c2 _, Blk b8 (.cells #[.int .i64 p1, .int .i64 p2] 190 (0, 0))]) := hs
        have hs := hs.inQ
        refine ih (0 + 1, q1 ++ (q.1, (a3, (chg q.2.2).length, c3), chg q.2.2) :: q2, some ⟨b, o, none⟩, c2) _ _ ⟨by show St w NoF _ [TabQ _ (q1 ++ _ :: q2).length c2 _, _, _]; rw [hll]; exact hs.sel [1, 0, 2] (by decide), hpost _ ?_, fun z hz => ?_, by show 0 + 1 ≤ 2; omega, by show (q1 ++ _ :: q2).length ≤ n + (0 + 1); rw [hll]; omega⟩ (by show 2 - (0 + 1) < 2 - 0; omega) (by rw [hll]; repeat' (first | exact trivial | exact rfl | apply And.intro))
        · have := hch1 hce
          rw [List.map_append, List.map_cons]
          show Chg _ (q1.map meanQ ++ (q.1, chg q.2.2) :: q2.map meanQ) _ _
          rw [hqx, hqn]
          exact this
        · rcases List.mem_append.1 hz with e | e
          · exact hqo2 z (List.mem_append_left _ e)
          · rcases List.mem_cons.1 e with e | e
            · rw [e]; exact ⟨hqq.1, rfl, hck _ hqq.2.2⟩
            · exact hqo2 z (List.mem_append_right _ (List.mem_cons_of_mem _ e))
  · have hC := hSQ.2.1 rfl
    rw [← hp1] at hC
    by_cases hpe : p1 = p2
    · have hfin : qs.map meanQ = ofH A' := by
        have hof := of_ok hok
        refine chg_both (p := p) (A := allH l) (l1 := qs.map meanQ) (by rw [← hof, ← hp1]; exact hC) (fun e => absurd (by rw [← hp1, ← hp2]; exact hpe) e) (fun _ => rfl) hA2
      repeat' (first
        | (apply JL_nil)
        | ((first | (apply JL_pure) | (apply JL_pure_on; exact rfl; exact gb)); (first
      | (apply as_move; exact OpR_move rfl is_rfl)
      | (apply as_assign; exact OpR_assign rfl is_rfl)
      | (apply as_load; exact OpR_load' hs rfl rfl is_rfl)
      | (apply as_binOp; exact OpR_ibin rfl rfl rfl is_rfl)
      | (apply as_pick; exact OpR_pick_t rfl gb rfl is_rfl)
      | (apply as_indexAddr; exact OpR_indexAddr_arr' rfl rfl (by omega) (by omega) (by first | (simp only [Int.reduceToNat, Nat.reduceMul, Nat.reduceAdd]; exact rfl) | exact rfl) is_rfl)
      | (apply as_index; exact OpR_index rfl rfl (by omega) (by omega) rfl is_rfl)); first | (exact rfl; exact rfl) | exact rfl)
        | (apply J_seq)
        | (apply J_region)
        | (apply J_block)
        | (apply aj_exit; refine J_exit rfl ?_)
        | (apply J_skip)
        | (apply aj_cond; refine J_dec_t rfl ob ?_))
      refine J_leave Tryz.func74 rfl (.tmp rfl .nil) ⟨qs, a', c', ⟨hfin, hqo⟩, rfl, hs.out (.cons_cons _ (.cons_cons _ (List.nil_sublist _)))⟩
    · have hri : risingR (qs.map meanQ) := hC.rise
      have hso : ∀ r ∈ qs.map meanQ, r.2 ≠ [] := fun r hr => by
        rcases (hC.mem r).1 hr with ⟨_, h2⟩ | ⟨_, _, h3⟩
        · exact hok.some_ r h2
        · exact h3
      have hlk : lookH (qs.map meanQ) p2 = underH (allH l) p2 := by rw [hC.look hok.rise (fun e => hpe e.symm)]; exact (under_look hok p2).symm
      have hpost : ∀ m', Chg (qs.map meanQ) m' p2 (chg (underH (allH l) p2)) → SQ l A' p 2 m' := fun m' hC2 => ⟨(fun e => by cases e), (fun e => by cases e), fun _ => by
        have hof := of_ok hok
        rw [hA1 p2 hm2] at hC2
        exact chg_both (p := p) (A := allH l) (l1 := qs.map meanQ) (by rw [← hof, ← hp1]; exact hC) (fun _ => by rw [← hp2]; exact hC2) (fun e => absurd (by rw [hp1, hp2]; exact e) hpe) hA2⟩
      obtain ⟨xs, hxs⟩ : ∃ xs, xs = underH (allH l) p2 := ⟨_, rfl⟩
      have hxl : xs.length ≤ 100000 := by rw [hxs]; exact Nat.le_trans (List.length_filter_le _ _) (by omega)
      have hQx : Q xs := by rw [hxs]; exact hQ p2 hm2
      rw [← hxs] at hlk hpost
      repeat' (first
        | ((apply aj_condu 38; refine J_cutK (γ := List QR × QR × List QR × Option Addr × Nat) [(2, _), (8, _), (11, _), (17, _), (18, _)] (by repeat' (first | exact trivial | exact rfl | apply And.intro)) (fun g => [(7, .slice g.2.2.2.1 (g.1 ++ g.2.1 :: g.2.2.1).length g.2.2.2.2)]) (fun g w' => St w NoF w' [TabQ g.2.2.2.1 (g.1 ++ g.2.1 :: g.2.2.1).length g.2.2.2.2 ((g.1 ++ g.2.1 :: g.2.2.1).map rawQ), OwnQ (g.1 ++ g.2.1 :: g.2.2.1), Blk b8 (.cells #[.int .i64 p1, .int .i64 p2] 190 (0, 0))] ∧ (g.1.length = i1 ∧ g.2.1.1 = p2 ∧ g.2.1.2.2 = xs) ∧ (∀ q ∈ g.1 ++ g.2.1 :: g.2.2.1, okQ q) ∧ (g.1 ++ g.2.1 :: g.2.2.1).length ≤ n + (1 + 1) ∧ ((chg xs ≠ [] → Chg (qs.map meanQ) (g.1.map meanQ ++ (p2, chg xs) :: g.2.2.1.map meanQ) p2 (chg xs)) ∧ (chg xs = [] → Chg (qs.map meanQ) (g.1.map meanQ ++ g.2.2.1.map meanQ) p2 (chg xs)))) (fun RR kk hcont => hold ?_) (hold ?_)))
        | ((apply al_call 151; refine JL_o (by exact OpR_callF en151 rfl (find_r15 _ a' qs.length c' (qs.map meanQ) p2 (slQ hs (by repeat (first | exact List.Mem.head _ | apply List.Mem.tail)) (by repeat (first | exact List.Mem.head _ | apply List.Mem.tail)) hqo) (by omega))) rfl rfl ?_; rintro _ _ ⟨i1, hcut1, rfl, hE⟩; have hs := hs.ext hE; obtain ⟨fb, hfb⟩ : ∃ fb, fb = (decide (i1 < qs.length) && decide (atR (qs.map meanQ) p2 i1 = 0)) := ⟨_, rfl⟩; rw [← hfb]; (try simp only [List.cons_append, List.nil_append] at hs)))
        | (apply JL_nil)
        | ((first | (apply JL_pure) | (apply JL_pure_on; exact rfl; exact gb)); (first
      | (apply as_move; exact OpR_move rfl is_rfl)
      | (apply as_assign; exact OpR_assign rfl is_rfl)
      | (apply as_load; exact OpR_load' hs rfl rfl is_rfl)
      | (apply as_binOp; exact OpR_ibin rfl rfl rfl is_rfl)
      | (apply as_unOp; exact OpR_not rfl is_rfl)
      | (apply as_pick; exact OpR_pick_t rfl gb rfl is_rfl)
      | (apply as_extract; exact OpR_extract rfl rfl is_rfl)
      | (apply as_indexAddr; exact OpR_indexAddr_arr' rfl rfl (by omega) (by omega) (by first | (simp only [Int.reduceToNat, Nat.reduceMul, Nat.reduceAdd]; exact rfl) | exact rfl) is_rfl)
      | (apply as_index; exact OpR_index rfl rfl (by omega) (by omega) rfl is_rfl)); first | (exact rfl; exact rfl) | exact rfl)
        | (apply J_seq)
        | (apply J_region)
        | (apply J_block)
        | (apply J_skip)
        | (apply aj_cond; first | refine J_dec_t rfl ob ?_ | refine J_dec_f rfl ob ?_))
      · refine unhold ?_
        cases fb with
        | true =>
          have h2 := Bool.and_eq_true_iff.1 hfb.symm
          have hi1 : i1 < qs.length := of_decide_eq_true h2.1
          have h0 := of_decide_eq_true h2.2
          have hq : qs[i1]? = some (qs[i1]'hi1) := List.getElem?_eq_getElem hi1
          obtain ⟨q, hqd⟩ : ∃ q, q = qs[i1]'hi1 := ⟨_, rfl⟩
          rw [← hqd] at hq
          have hsp : qs.take i1 ++ q :: qs.drop (i1 + 1) = qs := by rw [hqd, ← List.drop_eq_getElem_cons hi1, List.take_append_drop]
          have hq1l : (qs.take i1).length = i1 := by rw [List.length_take]; omega
          have hmq : (qs.map meanQ)[i1]? = some (meanQ q) := by rw [List.getElem?_map, hq]; rfl
          have hqn : q.1 = p2 := at_zero hmq h0
          have hqx : q.2.2 = xs := by rw [← hlk, ← hqn]; exact (lookH_of hri (List.mem_of_getElem? hmq)).symm
          obtain ⟨c1, c2⟩ := chg_at hri hso hmq hqn (chg xs)
          have hms : qs.map meanQ = (qs.take i1).map meanQ ++ meanQ q :: (qs.drop (i1 + 1)).map meanQ := by rw [← List.map_cons, ← List.map_append, hsp]
          have hml : ((qs.take i1).map meanQ).length = i1 := by rw [List.length_map]; exact hq1l
          repeat' (first
            | (apply J_skip)
            | (apply aj_cond; refine J_cond_f rfl gb ?_))
          refine hcont (qs.take i1, q, qs.drop (i1 + 1), a', c') _ _ ⟨by show St w NoF _ [TabQ a' (qs.take i1 ++ q :: qs.drop (i1 + 1)).length c' ((qs.take i1 ++ q :: qs.drop (i1 + 1)).map rawQ), OwnQ (qs.take i1 ++ q :: qs.drop (i1 + 1)), _]; rw [hsp]; exact hs, ⟨hq1l, hqn, hqx⟩, by show ∀ z ∈ qs.take i1 ++ q :: qs.drop (i1 + 1), okQ z; rw [hsp]; exact hqo, by show (qs.take i1 ++ q :: qs.drop (i1 + 1)).length ≤ _; rw [hsp]; omega, fun e => ?_, fun e => ?_⟩ (by show Sub ([(7, .slice a' (qs.take i1 ++ q :: qs.drop (i1 + 1)).length c')] ++ _) _; rw [hsp]; repeat' (first | exact trivial | exact rfl | apply And.intro))
          · have := c1 e
            rw [hms, set_split _ _ _ _ hml, ← hms] at this
            exact this
          · have := c2 e
            rw [hms, erase_split _ _ _ hml, ← hms] at this
            exact this
        | false =>
          have hno : ∀ r ∈ qs.map meanQ, r.1 ≠ p2 := notR (by rw [List.length_map]; exact hcut1) (by rw [List.length_map]; exact hfb.symm) hri
          have hx0 : xs = [] := by rw [← hlk]; exact lookH_none hno
          obtain ⟨n1, n2⟩ := cut_new hri (by rw [List.length_map]; exact hcut1) hno
          have hile := hcut1.le
          obtain ⟨c1, c2⟩ := chg_new hri (i := i1) (by rw [List.length_map]; exact hile) n1 n2 (chg xs)
          have hq1l : (qs.take i1).length = i1 := by rw [List.length_take]; omega
          repeat' (first
            | ((apply al_none (t := 44); have hs2 : St w NoF _ ([TabQ a' qs.length c' (qs.map rawQ), Blk b43 (.cells #[.int .i64 p2, .slice none 0 0] 116 (0, 0))] ++ [OwnQ qs, Blk b8 (.cells #[.int .i64 p1, .int .i64 p2] 190 (0, 0))]) := hs.sel [1, 0, 2, 3] (by decide); refine JL_o (OpR_callF en153 rfl (insR_r _ a' qs.length c' i1 (encL cRef (qs.map rawQ)) (.int .i64 p2) (.slice none 0 0) b43 (St.held (A := [_, _]) hs2) hile (by omega) (one_encR _) (fun u hu => by simp only [List.mem_cons, List.not_mem_nil, or_false] at hu; rcases hu with rfl | rfl <;> rfl))) rfl rfl ?_; rintro _ _ ⟨a4, c4, rfl, ht⟩; have hs := St.take (A := [_, _]) (A' := [_]) hs2 ht; simp only [List.cons_append, List.nil_append] at hs))
            | (apply JL_nil)
            | ((apply JL_pure); (first
      | (apply as_move; exact OpR_move rfl is_rfl)
      | (apply as_assign; exact OpR_assign rfl is_rfl)
      | (apply as_build; exact OpR_build rfl (by (simp only [bld, placesOf, splice, Value.cells, List.take_succ_cons, List.take_zero, List.drop_succ_cons, List.drop_zero, List.cons_append, List.nil_append, List.length_cons, List.length_nil, List.getElem?_cons_zero, List.getElem?_cons_succ, Option.map_some, List.append_nil, Nat.reduceAdd, Nat.reduceMul, Nat.zero_add, Nat.reduceLeDiff, and_self, if_true, List.toList_toArray, Nat.le_refl, Nat.zero_mul, Nat.one_mul]; first | done | rfl)) is_rfl)); first | (exact rfl; exact rfl) | exact rfl)
            | (apply J_region)
            | (apply al_none (t := 43); refine JL_o (by apply as_buildSlice; exact OpR_buildSlice hs rfl (by omega) rfl) rfl rfl ?_; rintro _ _ ⟨b43, rfl, hb43, hs, hE⟩)
            | (apply aj_cond; refine J_cond_t rfl gb ?_))
          have hmp : ((qs.take i1 ++ (p2, (none, 0, 0), []) :: qs.drop i1 : List QR)).map rawQ = (qs.map rawQ).take i1 ++ (p2, (none, 0, 0)) :: (qs.map rawQ).drop i1 := by rw [List.map_append, List.map_cons, List.map_take, List.map_drop]
          have hic : (encL cRef (qs.map rawQ)).take (i1 * 2) ++ [.int .i64 p2, .slice none 0 0] ++ (encL cRef (qs.map rawQ)).drop (i1 * 2) = encL cRef ((qs.take i1 ++ (p2, (none, 0, 0), []) :: qs.drop i1 : List QR).map rawQ) := by rw [hmp]; exact insR_cells (xs := qs.map rawQ) (r := (p2, (none, 0, 0))) (i := i1) (by rw [List.length_map]; exact hile)
          rw [hic] at hs
          have hs := hs.nilRow 31 2
          have hown : OwnQ qs = OwnQ (qs.take i1 ++ qs.drop i1) := by rw [List.take_append_drop]
          rw [hown] at hs
          have hs : St w NoF _ (rowQ (p2, (none, 0, 0), []) :: OwnQ (qs.take i1 ++ qs.drop i1) :: [_, _]) := hs.sel [0, 2, 1, 3] (by decide)
          have hs := hs.inQ
          have hl2 : (qs.take i1 ++ (p2, (none, 0, 0), []) :: qs.drop i1 : List QR).length = qs.length + 1 := by rw [List.length_append, List.length_cons, List.length_take, List.length_drop]; omega
          refine hcont (qs.take i1, (p2, (none, 0, 0), []), qs.drop i1, a4, c4) _ _ ⟨by show St w NoF _ [TabQ a4 (qs.take i1 ++ (p2, (none, 0, 0), []) :: qs.drop i1 : List QR).length c4 _, _, _]; rw [hl2]; exact hs.sel [1, 0, 2] (by decide), ⟨hq1l, rfl, hx0.symm⟩, fun z hz => ?_, by show (qs.take i1 ++ (p2, (none, 0, 0), []) :: qs.drop i1 : List QR).length ≤ _; rw [hl2]; omega, fun e => ?_, fun e => ?_⟩ (by show Sub ([(7, .slice a4 (qs.take i1 ++ (p2, (none, 0, 0), []) :: qs.drop i1 : List QR).length c4)] ++ _) _; rw [hl2]; repeat' (first | exact trivial | exact rfl | apply And.intro))
          · rcases List.mem_append.1 hz with e | e
            · exact hqo z (List.mem_of_mem_take e)
            · rcases List.mem_cons.1 e with e | e
              · rw [e]; exact ⟨by show inK .i64 p2; unfold inK; omega, rfl, fun x hx => by cases hx⟩
              · exact hqo z (List.mem_of_mem_drop e)
          · have := c1 e
            rw [← List.map_take, ← List.map_drop] at this
            exact this
          · have := c2 e
            show Chg _ ((qs.take i1).map meanQ ++ (qs.drop i1).map meanQ) _ _
            rw [← List.map_append, List.take_append_drop]
            exact this
      · refine unhold ?_
        rintro ⟨q1, q, q2, a2, c2⟩ w3 ⟨hs1, ⟨hq1l, hqn, hqx⟩, hqo2, hlen2, hch1, hch2⟩
        dsimp only at hs1 hq1l hqn hqx hqo2 hlen2 hch1 hch2 ⊢
        have hs : St w NoF w3 [_, _, _] := hs1
        obtain ⟨b, o, rfl⟩ := (hs.row a2 (q1 ++ q :: q2).length c2).some (by rw [List.length_append, List.length_cons]; omega)
        have hs : St w NoF w3 (OwnQ (q1 ++ q :: q2) :: [TabQ (some ⟨b, o, none⟩) (q1 ++ q :: q2).length c2 ((q1 ++ q :: q2).map rawQ), Blk b8 (.cells #[.int .i64 p1, .int .i64 p2] 190 (0, 0))]) := hs1.sel [1, 0, 2] (by decide)
        have hs := hs.outQ
        have hqq := hqo2 q (by simp)
        have hilen : i1 < (q1 ++ q :: q2).length := by rw [List.length_append, List.length_cons]; omega
        have hq1r : (q1.map rawQ).length = i1 := by rw [List.length_map]; exact hq1l
        have hget : ((q1 ++ q :: q2).map rawQ)[i1]? = some (rawQ q) := by rw [List.getElem?_map, get_split _ _ _ hq1l]; rfl
        have hcx : (encL cRef ((q1 ++ q :: q2).map rawQ))[i1 * 2 + 1]? = some (.slice q.2.1.1 q.2.1.2.1 q.2.1.2.2) := encL_get (d := dRRef) _ i1 1 _ hget (by decide)
        have hrl : q.2.1.2.1 = q.2.2.length := hqq.2.1
        have hset : ∀ (a3 : Option Addr) (c3 : Nat), splice (encL cRef ((q1 ++ q :: q2).map rawQ)) (i1 * 2 + 1) [.slice a3 (chg q.2.2).length c3] = encL cRef ((q1 ++ (q.1, (a3, (chg q.2.2).length, c3), chg q.2.2) :: q2).map rawQ) := fun a3 c3 => by
          refine (encR_set1 _ i1 (rawQ q) (a3, (chg q.2.2).length, c3) hget).trans ?_
          rw [List.map_append, List.map_cons, set_split _ _ _ _ hq1r, List.map_append, List.map_cons]
        have hcx2 : ∀ (a3 : Option Addr) (c3 : Nat), (encL cRef ((q1 ++ (q.1, (a3, (chg q.2.2).length, c3), chg q.2.2) :: q2).map rawQ))[i1 * 2 + 1]? = some (.slice a3 (chg q.2.2).length c3) := fun a3 c3 => encL_get (d := dRRef) _ i1 1 (q.1, (a3, (chg q.2.2).length, c3)) (by rw [List.getElem?_map, get_split _ _ _ hq1l]; rfl) (by decide)
        have hll : ∀ z : QR, (q1 ++ z :: q2).length = (q1 ++ q :: q2).length := fun z => by rw [List.length_append, List.length_append, List.length_cons, List.length_cons]
        by_cases hce : chg xs = []
        · have hcl0 : (chg q.2.2).length = 0 := by rw [hqx, hce]; rfl
          repeat' (first
            | ((apply al_none (t := 53); refine JL_o (OpR_callV rfl rfl (Ret.value (cap := cap) eg (hcall _ q.2.1.1 q.2.1.2.1 q.2.1.2.2 q.2.2 (St.held (A := [_]) hs) hrl.symm (by rw [hrl, hqx]; omega) hqq.2.2 (by rw [hqx]; exact hQx) (fun k hk => ⟨hs.frm.old k hk id, row_ge hs k hk⟩)))) rfl rfl ?_; rintro _ _ ⟨a3, c3, rfl, ht⟩; have hs := St.take (A := [_]) (A' := [_]) hs ht; simp only [List.cons_append, List.nil_append] at hs))
            | ((apply al_unit; refine JL_u (by apply as_store; exact OpR_storeN (b := b) (o := o) (off := i1 * 2 + 1) (n := (q1 ++ q :: q2).length) (c := c2) (vs := [.slice a3 (chg q.2.2).length c3]) hs rfl rfl rfl rfl (by simp [Value.oneCell']) (by show i1 * 2 + 1 + 1 ≤ (q1 ++ q :: q2).length * 2; omega)) rfl ?_; rintro _ _ ⟨hs, hF⟩; rw [hset a3 c3] at hs))
            | ((apply al_none (t := 67); have hs2 : St w NoF _ ([TabQ (some ⟨b, o, none⟩) (q1 ++ q :: q2).length c2 _] ++ [RowH a3 _ c3 _, OwnQ (q1 ++ q2), Blk b8 (.cells #[.int .i64 p1, .int .i64 p2] 190 (0, 0))]) := hs.sel [2, 0, 1, 3] (by decide); refine JL_o (OpR_callF en154 rfl (deleteR_r _ (some ⟨b, o, none⟩) (q1 ++ q :: q2).length c2 i1 (encL cRef ((q1 ++ (q.1, (a3, (chg q.2.2).length, c3), chg q.2.2) :: q2).map rawQ)) (St.held (A := [_]) hs2) hilen (by omega) (one_encR _))) rfl rfl ?_; rintro _ _ ⟨rfl, ht⟩; have hs := St.take (A := [_]) (A' := [_]) hs2 ht; simp only [List.cons_append, List.nil_append] at hs))
            | (apply JL_nil)
            | ((apply JL_pure); (first
      | (apply as_load; first | exact OpR_load1N (b := b) (o := o) (off := i1 * 2 + 1) (n := (q1 ++ q :: q2).length) (c := c2) hs rfl hcx is_rfl | exact OpR_load1N (b := b) (o := o) (off := i1 * 2 + 1) (n := (q1 ++ q :: q2).length) (c := c2) hs rfl (hcx2 a3 c3) is_rfl)
      | (apply as_move; exact OpR_move rfl is_rfl)
      | (apply as_assign; exact OpR_assign rfl is_rfl)
      | (apply as_fieldAddr; exact OpR_fieldAddr rfl rfl is_rfl)
      | (apply as_add; exact OpR_addn rfl rfl (by omega) (by first | (simp only [Int.reduceAdd]; exact rfl) | exact rfl) is_rfl)
      | (apply as_binOp; exact OpR_ibin rfl rfl rfl is_rfl)
      | (apply as_b_len; exact OpR_len rfl is_rfl)
      | (apply as_indexAddr; exact OpR_indexAddr rfl rfl (by omega) (by omega) is_rfl)); first | (exact rfl; exact rfl) | exact rfl)
            | (apply J_seq)
            | (apply J_region)
            | (apply J_inBlock)
            | (apply aj_cond; refine J_dec_t rfl ob ?_))
          have hdc := delR_cells (l1 := q1.map rawQ) (l2 := q2.map rawQ) (x := (q.1, (a3, (chg q.2.2).length, c3))) hq1r
          have hl3 : (q1 ++ q :: q2).length - 1 = (q1 ++ q2).length := by rw [List.length_append, List.length_append, List.length_cons]; omega
          have hs : St w NoF _ [_, _, _] := hs.sel [0, 2, 3] (by decide)
          rw [List.map_append, List.map_cons, hdc, ← List.map_append, hl3] at hs
          refine ih (1 + 1, q1 ++ q2, some ⟨b, o, none⟩, c2) _ _ ⟨hs, hpost _ (by show Chg _ ((q1 ++ q2).map meanQ) _ _; rw [List.map_append]; exact hch2 hce), fun z hz => hqo2 z (by rcases List.mem_append.1 hz with e | e; exact List.mem_append_left _ e; exact List.mem_append_right _ (List.mem_cons_of_mem _ e)), by show 1 + 1 ≤ 2; omega, by show (q1 ++ q2).length ≤ n + (1 + 1); omega⟩ (by show 2 - (1 + 1) < 2 - 1; omega) (by rw [← hl3]; repeat' (first | exact trivial | exact rfl | apply And.intro))
        · have hcl0 : ¬ (chg q.2.2).length = 0 := by rw [hqx]; exact fun e => hce (List.eq_nil_of_length_eq_zero e)
          repeat' (first
            | ((apply al_none (t := 53); refine JL_o (OpR_callV rfl rfl (Ret.value (cap := cap) eg (hcall _ q.2.1.1 q.2.1.2.1 q.2.1.2.2 q.2.2 (St.held (A := [_]) hs) hrl.symm (by rw [hrl, hqx]; omega) hqq.2.2 (by rw [hqx]; exact hQx) (fun k hk => ⟨hs.frm.old k hk id, row_ge hs k hk⟩)))) rfl rfl ?_; rintro _ _ ⟨a3, c3, rfl, ht⟩; have hs := St.take (A := [_]) (A' := [_]) hs ht; simp only [List.cons_append, List.nil_append] at hs))
            | ((apply al_unit; refine JL_u (by apply as_store; exact OpR_storeN (b := b) (o := o) (off := i1 * 2 + 1) (n := (q1 ++ q :: q2).length) (c := c2) (vs := [.slice a3 (chg q.2.2).length c3]) hs rfl rfl rfl rfl (by simp [Value.oneCell']) (by show i1 * 2 + 1 + 1 ≤ (q1 ++ q :: q2).length * 2; omega)) rfl ?_; rintro _ _ ⟨hs, hF⟩; rw [hset a3 c3] at hs))
            | (apply JL_nil)
            | ((apply JL_pure); (first
      | (apply as_load; first | exact OpR_load1N (b := b) (o := o) (off := i1 * 2 + 1) (n := (q1 ++ q :: q2).length) (c := c2) hs rfl hcx is_rfl | exact OpR_load1N (b := b) (o := o) (off := i1 * 2 + 1) (n := (q1 ++ q :: q2).length) (c := c2) hs rfl (hcx2 a3 c3) is_rfl)
      | (apply as_move; exact OpR_move rfl is_rfl)
      | (apply as_fieldAddr; exact OpR_fieldAddr rfl rfl is_rfl)
      | (apply as_add; exact OpR_addn rfl rfl (by omega) (by first | (simp only [Int.reduceAdd]; exact rfl) | exact rfl) is_rfl)
      | (apply as_binOp; exact OpR_ibin rfl rfl rfl is_rfl)
      | (apply as_b_len; exact OpR_len rfl is_rfl)
      | (apply as_indexAddr; exact OpR_indexAddr rfl rfl (by omega) (by omega) is_rfl)); first | (exact rfl; exact rfl) | exact rfl)
            | (apply J_seq)
            | (apply J_region)
            | (apply J_inBlock)
            | (apply J_skip)
            | (apply aj_cond; refine J_dec_f rfl ob ?_))
          have hs : St w NoF _ (rowQ (q.1, (a3, (chg q.2.2).length, c3), chg q.2.2) :: OwnQ (q1 ++ q2) :: [TabQ (some ⟨b, o, none⟩) (q1 ++ q :: q2).length c2 _, Blk b8 (.cells #[.int .i64 p1, .int .i64 p2] 190 (0, 0))]) := hs
          have hs := hs.inQ
          refine ih (1 + 1, q1 ++ (q.1, (a3, (chg q.2.2).length, c3), chg q.2.2) :: q2, some ⟨b, o, none⟩, c2) _ _ ⟨by show St w NoF _ [TabQ _ (q1 ++ _ :: q2).length c2 _, _, _]; rw [hll]; exact hs.sel [1, 0, 2] (by decide), hpost _ ?_, fun z hz => ?_, by show 1 + 1 ≤ 2; omega, by show (q1 ++ _ :: q2).length ≤ n + (1 + 1); rw [hll]; omega⟩ (by show 2 - (1 + 1) < 2 - 1; omega) (by rw [hll]; repeat' (first | exact trivial | exact rfl | apply And.intro))
          · have := hch1 hce
            rw [List.map_append, List.map_cons]
            show Chg _ (q1.map meanQ ++ (q.1, chg q.2.2) :: q2.map meanQ) _ _
            rw [hqx, hqn]
            exact this
          · rcases List.mem_append.1 hz with e | e
            · exact hqo2 z (List.mem_append_left _ e)
            · rcases List.mem_cons.1 e with e | e
              · rw [e]; exact ⟨hqq.1, rfl, hck _ hqq.2.2⟩
              · exact hqo2 z (List.mem_append_right _ (List.mem_cons_of_mem _ e))
  · have hfin := hSQ.2.2 rfl
    repeat' (first
      | (apply JL_nil)
      | ((apply JL_pure); (first
      | (apply as_move; exact OpR_move rfl is_rfl)
      | (apply as_assign; exact OpR_assign rfl is_rfl)
      | (apply as_binOp; exact OpR_ibin rfl rfl rfl is_rfl)); first | (exact rfl; exact rfl) | exact rfl)
      | (apply J_seq)
      | (apply J_region)
      | (apply aj_exit; refine J_exit rfl ?_)
      | (apply aj_cond; refine J_dec_f rfl ob ?_))
    refine J_leave Tryz.func74 rfl (.tmp rfl .nil) ⟨qs, a', c', ⟨hfin, hqo⟩, rfl, hs.out (.cons_cons _ (.cons_cons _ (List.nil_sublist _)))⟩
end Go.Eng
/- Referrers: Put and Drop. -/
namespace Go.Eng
open Go.Proofs
set_option linter.unusedSimpArgs false
set_option linter.unusedVariables false
def putC (l : List RH) (h : HH) : Int := if rightH l then (if mayH h then (if h ∈ allH l then 5 else if (allH l).length = 20000 then 6 else 0) else 2) else 250
def dropC (l : List RH) (h : HH) : Int := if rightH l then (if mayH h then (if h ∈ allH l then 0 else 4) else 2) else 250
theorem putC_zero {l : List RH} {h : HH} (e : putC l h = 0) : rightH l = true ∧ mayH h = true ∧ h ∉ allH l ∧ (allH l).length ≠ 20000 := by
  unfold putC at e
  by_cases h1 : rightH l = true
  · rw [if_pos h1] at e
    by_cases h2 : mayH h = true
    · rw [if_pos h2] at e
      by_cases h3 : h ∈ allH l
      · rw [if_pos h3] at e; exact absurd e (by decide)
      · rw [if_neg h3] at e
        by_cases h4 : (allH l).length = 20000
        · rw [if_pos h4] at e; exact absurd e (by decide)
        · exact ⟨h1, h2, h3, h4⟩
    · rw [if_neg h2] at e; exact absurd e (by decide)
  · rw [if_neg h1] at e; exact absurd e (by decide)
theorem dropC_zero {l : List RH} {h : HH} (e : dropC l h = 0) : rightH l = true ∧ mayH h = true ∧ h ∈ allH l := by
  unfold dropC at e
  by_cases h1 : rightH l = true
  · rw [if_pos h1] at e
    by_cases h2 : mayH h = true
    · rw [if_pos h2] at e
      by_cases h3 : h ∈ allH l
      · exact ⟨h1, h2, h3⟩
      · rw [if_neg h3] at e; exact absurd e (by decide)
    · rw [if_neg h2] at e; exact absurd e (by decide)
  · rw [if_neg h1] at e; exact absurd e (by decide)
theorem withH_ok {xs : List HH} {h : HH} (h1 : ∀ x ∈ xs, okH x) (ho : okH h) : ∀ x ∈ withH xs h, okH x := fun x hx => by
  rcases withH_mem.1 hx with e | e
  · rw [e]; exact ho
  · exact h1 x e
attribute [local irreducible] Hold J JL JD JX JXat OpR OpG Ret RetV Is Blk Row MapC
set_option maxRecDepth 100000
set_option maxHeartbeats 1000000
theorem rput_ok (w : World) (a : Option Addr) (n c : Nat) (l : List RH) (h : HH) (hl : Sl dRef All w a n c l) (ho : okH h) (hn : n ≤ 100000) (hb : tot l ≤ 100000) (hp : putC l h = 0) :
    Ret Tryz.prog 15 #[.slice a n c, .agg (cH h).toArray] w fun u w' => ∃ (qs : List QR) (a' : Option Addr) (c' : Nat), (qs.map meanQ = ofH (withH (allH l) h) ∧ ∀ q ∈ qs, okQ q) ∧ u = .tuple #[.slice a' qs.length c', .int .i64 0] ∧ Fresh w w' [TabQ a' qs.length c' (qs.map rawQ), OwnQ qs] := by
  refine Ret_of (l := [_, _]) Tryz.func15 rfl Tryz.ntmps15 (by simp) ?_
  have hs := St.init w
  obtain ⟨hr, hm, hnot, h20⟩ := putC_zero hp
  have hok := right_ok.1 hr
  have hA : allR l = allH l := by unfold allR; rw [hr]; rfl
  have h20' : ¬ ((allH l).length : Int) = 20000 := by omega
  have hao := allH_ok (sl_okR hl)
  have hso := allH_sorted l
  repeat' (first
    | ((apply al_call 71; refine JL_o (by exact OpR_callF en71 rfl (rcheck_r _ a n c l (hl.st hs) (by omega) (by omega))) rfl rfl ?_; rintro _ _ ⟨rfl, hE⟩; rw [err_ok hr]; have hs := hs.ext hE; (try simp only [List.cons_append, List.nil_append] at hs)))
    | ((apply al_call 72; refine JL_o (by exact OpR_callF en72 rfl (rmay_r _ h ho)) rfl rfl ?_; rintro _ _ ⟨rfl, hE⟩; rw [hm]; have hs := hs.ext hE; (try simp only [List.cons_append, List.nil_append] at hs)))
    | ((apply al_call 73; refine JL_o (by exact OpR_callF en73 rfl (told_r _ a n c l h (hl.st hs) (by omega) hok ho)) rfl rfl ?_; rintro _ _ ⟨rfl, hE⟩; rw [decide_eq_false hnot]; have hs := hs.ext hE; (try simp only [List.cons_append, List.nil_append] at hs)))
    | ((apply al_call 66; refine JL_o (by exact OpR_callF en66 rfl (rall_r _ a n c l (hl.st hs) (by omega) (by omega))) rfl rfl ?_; rintro _ _ ⟨a5, c5, rfl, hf⟩; rw [hA] at hf ⊢; have hs := hs.fresh hf; (try simp only [List.cons_append, List.nil_append] at hs)))
    | ((apply al_call 74; refine JL_o (by exact OpR_callF en74 rfl (changed_r _ a n c l h.2 (hl.st hs) hok ho.2 hn hb 75 #[ptr b3] en75 (withH (allH l) h) (fun xs => withH xs h) (fun xs => sortedH xs ∧ h ∉ xs) (fun n hmn => ⟨underH_sorted hso n, fun hx => hnot (underH_mem.1 hx).1⟩) (fun n hmn => by rw [under_with hso, if_pos hmn]) (fun n hmn => by rw [under_with hso, if_neg (by rw [hmn]; decide)]) (fun xs hx => withH_ok hx ho) (fun W a n c xs hh hxl hxn hxo hxQ hold => put1_r W a n c xs h b3 hh hxl hxo ho ((hold b3 (hs.lt (b := b3))).1.trans (hs.blk (b := b3))) (hold b3 (hs.lt (b := b3))).2 hxQ.1 hxQ.2 hxn))) rfl rfl ?_; rintro _ _ ⟨qs, a4, c4, hq, rfl, hf⟩; have hs := hs.fresh hf; (try simp only [List.cons_append, List.nil_append] at hs)))
    | (apply JL_nil)
    | ((apply JL_pure); (first
      | (apply as_move; exact OpR_move rfl is_rfl)
      | (apply as_assign; exact OpR_assign rfl is_rfl)
      | (apply as_fieldAddr; exact OpR_fieldAddr0 rfl rfl is_rfl)
      | (apply as_load; first | exact OpR_load' hs rfl rfl is_rfl | exact OpR_load_agg' hs rfl is_rfl)
      | (apply as_binOp; exact OpR_ibin rfl rfl rfl is_rfl)
      | (apply as_unOp; exact OpR_not rfl is_rfl)
      | (apply as_b_len; exact OpR_len rfl is_rfl)
      | (apply as_makeFunc; exact OpR_func rfl is_rfl)); first | (exact rfl; exact rfl) | exact rfl)
    | (apply J_seq)
    | (apply J_region)
    | (apply J_block)
    | (apply J_inBlock)
    | (apply J_skip)
    | (apply al_none (t := 3); refine JL_o (by apply as_box; exact OpR_box' hs rfl) rfl rfl ?_; rintro _ _ ⟨b3, rfl, hb3, hs, hE⟩)
    | (apply aj_cond; first | refine J_dec_f rfl ob ?_ | refine J_cond_f rfl gb ?_))
  refine J_leave Tryz.func15 rfl (.tmp rfl (.tmp rfl .nil)) ⟨qs, a4, c4, hq, rfl, hs.out (.cons_cons _ (.cons_cons _ (List.nil_sublist _)))⟩
theorem rput_bad (w : World) (a : Option Addr) (n c : Nat) (l : List RH) (h : HH) (hl : Sl dRef All w a n c l) (ho : okH h) (hn : n ≤ 100000) (hb : tot l ≤ 100000) (hp : putC l h ≠ 0) :
    Ret Tryz.prog 15 #[.slice a n c, .agg (cH h).toArray] w fun u w' => u = .tuple #[.slice none 0 0, .int .i64 (putC l h)] ∧ Ext w w' := by
  refine Ret_of (l := [_, _]) Tryz.func15 rfl Tryz.ntmps15 (by simp) ?_
  have hs := St.init w
  unfold putC at hp ⊢
  cases hr : rightH l with
  | false =>
    rw [if_neg (by decide)]
    repeat' (first
      | ((apply al_call 71; refine JL_o (by exact OpR_callF en71 rfl (rcheck_r _ a n c l (hl.st hs) (by omega) (by omega))) rfl rfl ?_; rintro _ _ ⟨rfl, hE⟩; rw [err_bad hr]; have hs := hs.ext hE; (try simp only [List.cons_append, List.nil_append] at hs)))
      | (apply JL_nil)
      | ((apply JL_pure); (first
      | (apply as_move; exact OpR_move rfl is_rfl)
      | (apply as_assign; exact OpR_assign rfl is_rfl)
      | (apply as_binOp; exact OpR_ibin rfl rfl rfl is_rfl)); first | (exact rfl; exact rfl) | exact rfl)
      | (apply J_seq)
      | (apply J_region)
      | (apply J_block)
      | (apply al_none (t := 3); refine JL_o (by apply as_box; exact OpR_box' hs rfl) rfl rfl ?_; rintro _ _ ⟨b3, rfl, hb3, hs, hE⟩)
      | (apply aj_cond; refine J_dec_t rfl ob ?_))
    refine J_leave Tryz.func15 rfl (.tmp rfl (.tmp rfl .nil)) ⟨rfl, hs.frm.ext⟩
  | true =>
    rw [hr, if_pos rfl] at hp
    rw [if_pos rfl]
    have hok := right_ok.1 hr
    have hA : allR l = allH l := by unfold allR; rw [hr]; rfl
    cases hm : mayH h with
    | false =>
      rw [if_neg (by decide)]
      repeat' (first
        | ((apply al_call 71; refine JL_o (by exact OpR_callF en71 rfl (rcheck_r _ a n c l (hl.st hs) (by omega) (by omega))) rfl rfl ?_; rintro _ _ ⟨rfl, hE⟩; rw [err_ok hr]; have hs := hs.ext hE; (try simp only [List.cons_append, List.nil_append] at hs)))
        | ((apply al_call 72; refine JL_o (by exact OpR_callF en72 rfl (rmay_r _ h ho)) rfl rfl ?_; rintro _ _ ⟨rfl, hE⟩; rw [hm]; have hs := hs.ext hE; (try simp only [List.cons_append, List.nil_append] at hs)))
        | (apply JL_nil)
        | ((apply JL_pure); (first
      | (apply as_move; exact OpR_move rfl is_rfl)
      | (apply as_assign; exact OpR_assign rfl is_rfl)
      | (apply as_load; exact OpR_load_agg' hs rfl is_rfl)
      | (apply as_binOp; exact OpR_ibin rfl rfl rfl is_rfl)
      | (apply as_unOp; exact OpR_not rfl is_rfl)); first | (exact rfl; exact rfl) | exact rfl)
        | (apply J_seq)
        | (apply J_region)
        | (apply J_block)
        | (apply al_none (t := 3); refine JL_o (by apply as_box; exact OpR_box' hs rfl) rfl rfl ?_; rintro _ _ ⟨b3, rfl, hb3, hs, hE⟩)
        | (apply aj_cond; first | refine J_dec_f rfl ob ?_ | refine J_cond_t rfl gb ?_))
      refine J_leave Tryz.func15 rfl (.tmp rfl (.tmp rfl .nil)) ⟨rfl, hs.frm.ext⟩
    | true =>
      rw [hm, if_pos rfl] at hp
      rw [if_pos rfl]
      by_cases h3 : h ∈ allH l
      · rw [if_pos h3]
        repeat' (first
          | ((apply al_call 71; refine JL_o (by exact OpR_callF en71 rfl (rcheck_r _ a n c l (hl.st hs) (by omega) (by omega))) rfl rfl ?_; rintro _ _ ⟨rfl, hE⟩; rw [err_ok hr]; have hs := hs.ext hE; (try simp only [List.cons_append, List.nil_append] at hs)))
          | ((apply al_call 72; refine JL_o (by exact OpR_callF en72 rfl (rmay_r _ h ho)) rfl rfl ?_; rintro _ _ ⟨rfl, hE⟩; rw [hm]; have hs := hs.ext hE; (try simp only [List.cons_append, List.nil_append] at hs)))
          | ((apply al_call 73; refine JL_o (by exact OpR_callF en73 rfl (told_r _ a n c l h (hl.st hs) (by omega) hok ho)) rfl rfl ?_; rintro _ _ ⟨rfl, hE⟩; rw [decide_eq_true h3]; have hs := hs.ext hE; (try simp only [List.cons_append, List.nil_append] at hs)))
          | (apply JL_nil)
          | ((apply JL_pure); (first
      | (apply as_move; exact OpR_move rfl is_rfl)
      | (apply as_assign; exact OpR_assign rfl is_rfl)
      | (apply as_load; exact OpR_load_agg' hs rfl is_rfl)
      | (apply as_binOp; exact OpR_ibin rfl rfl rfl is_rfl)
      | (apply as_unOp; exact OpR_not rfl is_rfl)); first | (exact rfl; exact rfl) | exact rfl)
          | (apply J_seq)
          | (apply J_region)
          | (apply J_block)
          | (apply al_none (t := 3); refine JL_o (by apply as_box; exact OpR_box' hs rfl) rfl rfl ?_; rintro _ _ ⟨b3, rfl, hb3, hs, hE⟩)
          | (apply aj_cond; first | refine J_dec_f rfl ob ?_ | refine J_cond_t rfl gb ?_ | refine J_cond_f rfl gb ?_))
        refine J_leave Tryz.func15 rfl (.tmp rfl (.tmp rfl .nil)) ⟨rfl, hs.frm.ext⟩
      · rw [if_neg h3] at hp ⊢
        by_cases h4 : (allH l).length = 20000
        · rw [if_pos h4]
          have h4' : ((allH l).length : Int) = 20000 := by omega
          repeat' (first
            | ((apply al_call 71; refine JL_o (by exact OpR_callF en71 rfl (rcheck_r _ a n c l (hl.st hs) (by omega) (by omega))) rfl rfl ?_; rintro _ _ ⟨rfl, hE⟩; rw [err_ok hr]; have hs := hs.ext hE; (try simp only [List.cons_append, List.nil_append] at hs)))
            | ((apply al_call 72; refine JL_o (by exact OpR_callF en72 rfl (rmay_r _ h ho)) rfl rfl ?_; rintro _ _ ⟨rfl, hE⟩; rw [hm]; have hs := hs.ext hE; (try simp only [List.cons_append, List.nil_append] at hs)))
            | ((apply al_call 73; refine JL_o (by exact OpR_callF en73 rfl (told_r _ a n c l h (hl.st hs) (by omega) hok ho)) rfl rfl ?_; rintro _ _ ⟨rfl, hE⟩; rw [decide_eq_false h3]; have hs := hs.ext hE; (try simp only [List.cons_append, List.nil_append] at hs)))
            | ((apply al_call 66; refine JL_o (by exact OpR_callF en66 rfl (rall_r _ a n c l (hl.st hs) (by omega) (by omega))) rfl rfl ?_; rintro _ _ ⟨a5, c5, rfl, hf⟩; rw [hA] at hf ⊢; have hs := hs.fresh hf; (try simp only [List.cons_append, List.nil_append] at hs)))
            | (apply JL_nil)
            | ((apply JL_pure); (first
      | (apply as_move; exact OpR_move rfl is_rfl)
      | (apply as_assign; exact OpR_assign rfl is_rfl)
      | (apply as_load; exact OpR_load_agg' hs rfl is_rfl)
      | (apply as_binOp; exact OpR_ibin rfl rfl rfl is_rfl)
      | (apply as_unOp; exact OpR_not rfl is_rfl)
      | (apply as_b_len; exact OpR_len rfl is_rfl)); first | (exact rfl; exact rfl) | exact rfl)
            | (apply J_seq)
            | (apply J_region)
            | (apply J_block)
            | (apply al_none (t := 3); refine JL_o (by apply as_box; exact OpR_box' hs rfl) rfl rfl ?_; rintro _ _ ⟨b3, rfl, hb3, hs, hE⟩)
            | (apply aj_cond; first | refine J_dec_t rfl ob ?_ | refine J_dec_f rfl ob ?_ | refine J_cond_f rfl gb ?_))
          refine J_leave Tryz.func15 rfl (.tmp rfl (.tmp rfl .nil)) ⟨rfl, hs.frm.ext⟩
        · rw [if_neg h4] at hp; exact absurd rfl hp
theorem rdrop_ok (w : World) (a : Option Addr) (n c : Nat) (l : List RH) (h : HH) (hl : Sl dRef All w a n c l) (ho : okH h) (hn : n ≤ 100000) (hb : tot l ≤ 100000) (hp : dropC l h = 0) :
    Ret Tryz.prog 16 #[.slice a n c, .agg (cH h).toArray] w fun u w' => ∃ (qs : List QR) (a' : Option Addr) (c' : Nat), (qs.map meanQ = ofH (withoutH (allH l) h) ∧ ∀ q ∈ qs, okQ q) ∧ u = .tuple #[.slice a' qs.length c', .int .i64 0] ∧ Fresh w w' [TabQ a' qs.length c' (qs.map rawQ), OwnQ qs] := by
  refine Ret_of (l := [_, _]) Tryz.func16 rfl Tryz.ntmps16 (by simp) ?_
  have hs := St.init w
  obtain ⟨hr, hm, hin⟩ := dropC_zero hp
  have hok := right_ok.1 hr
  repeat' (first
    | ((apply al_call 71; refine JL_o (by exact OpR_callF en71 rfl (rcheck_r _ a n c l (hl.st hs) (by omega) (by omega))) rfl rfl ?_; rintro _ _ ⟨rfl, hE⟩; rw [err_ok hr]; have hs := hs.ext hE; (try simp only [List.cons_append, List.nil_append] at hs)))
    | ((apply al_call 72; refine JL_o (by exact OpR_callF en72 rfl (rmay_r _ h ho)) rfl rfl ?_; rintro _ _ ⟨rfl, hE⟩; rw [hm]; have hs := hs.ext hE; (try simp only [List.cons_append, List.nil_append] at hs)))
    | ((apply al_call 73; refine JL_o (by exact OpR_callF en73 rfl (told_r _ a n c l h (hl.st hs) (by omega) hok ho)) rfl rfl ?_; rintro _ _ ⟨rfl, hE⟩; rw [decide_eq_true hin]; have hs := hs.ext hE; (try simp only [List.cons_append, List.nil_append] at hs)))
    | ((apply al_call 74; refine JL_o (by exact OpR_callF en74 rfl (changed_r _ a n c l h.2 (hl.st hs) hok ho.2 hn hb 79 #[ptr b3] en79 (withoutH (allH l) h) (fun xs => withoutH xs h) (fun _ => True) (fun n hmn => trivial) (fun n hmn => (under_without h n).symm) (fun n hmn => by rw [under_without, without_none hmn]) (fun xs hx x hxm => hx x (withoutH_mem.1 hxm).1) (fun W a n c xs hh hxl hxn hxo hxQ hold => drop1_r W a n c xs h b3 hh hxo ((hold b3 (hs.lt (b := b3))).1.trans (hs.blk (b := b3))) (hold b3 (hs.lt (b := b3))).2 hxn))) rfl rfl ?_; rintro _ _ ⟨qs, a4, c4, hq, rfl, hf⟩; have hs := hs.fresh hf; (try simp only [List.cons_append, List.nil_append] at hs)))
    | (apply JL_nil)
    | ((apply JL_pure); (first
      | (apply as_move; exact OpR_move rfl is_rfl)
      | (apply as_assign; exact OpR_assign rfl is_rfl)
      | (apply as_fieldAddr; exact OpR_fieldAddr0 rfl rfl is_rfl)
      | (apply as_load; first | exact OpR_load' hs rfl rfl is_rfl | exact OpR_load_agg' hs rfl is_rfl)
      | (apply as_binOp; exact OpR_ibin rfl rfl rfl is_rfl)
      | (apply as_unOp; exact OpR_not rfl is_rfl)
      | (apply as_makeFunc; exact OpR_func rfl is_rfl)); first | (exact rfl; exact rfl) | exact rfl)
    | (apply J_seq)
    | (apply J_region)
    | (apply J_block)
    | (apply J_inBlock)
    | (apply J_skip)
    | (apply al_none (t := 3); refine JL_o (by apply as_box; exact OpR_box' hs rfl) rfl rfl ?_; rintro _ _ ⟨b3, rfl, hb3, hs, hE⟩)
    | (apply aj_cond; first | refine J_dec_f rfl ob ?_ | refine J_cond_f rfl gb ?_))
  refine J_leave Tryz.func16 rfl (.tmp rfl (.tmp rfl .nil)) ⟨qs, a4, c4, hq, rfl, hs.out (.cons_cons _ (.cons_cons _ (List.nil_sublist _)))⟩
theorem rdrop_bad (w : World) (a : Option Addr) (n c : Nat) (l : List RH) (h : HH) (hl : Sl dRef All w a n c l) (ho : okH h) (hn : n ≤ 100000) (hb : tot l ≤ 100000) (hp : dropC l h ≠ 0) :
    Ret Tryz.prog 16 #[.slice a n c, .agg (cH h).toArray] w fun u w' => u = .tuple #[.slice none 0 0, .int .i64 (dropC l h)] ∧ Ext w w' := by
  refine Ret_of (l := [_, _]) Tryz.func16 rfl Tryz.ntmps16 (by simp) ?_
  have hs := St.init w
  unfold dropC at hp ⊢
  cases hr : rightH l with
  | false =>
    rw [if_neg (by decide)]
    repeat' (first
      | ((apply al_call 71; refine JL_o (by exact OpR_callF en71 rfl (rcheck_r _ a n c l (hl.st hs) (by omega) (by omega))) rfl rfl ?_; rintro _ _ ⟨rfl, hE⟩; rw [err_bad hr]; have hs := hs.ext hE; (try simp only [List.cons_append, List.nil_append] at hs)))
      | (apply JL_nil)
      | ((apply JL_pure); (first
      | (apply as_move; exact OpR_move rfl is_rfl)
      | (apply as_assign; exact OpR_assign rfl is_rfl)
      | (apply as_binOp; exact OpR_ibin rfl rfl rfl is_rfl)); first | (exact rfl; exact rfl) | exact rfl)
      | (apply J_seq)
      | (apply J_region)
      | (apply J_block)
      | (apply al_none (t := 3); refine JL_o (by apply as_box; exact OpR_box' hs rfl) rfl rfl ?_; rintro _ _ ⟨b3, rfl, hb3, hs, hE⟩)
      | (apply aj_cond; refine J_dec_t rfl ob ?_))
    refine J_leave Tryz.func16 rfl (.tmp rfl (.tmp rfl .nil)) ⟨rfl, hs.frm.ext⟩
  | true =>
    rw [hr, if_pos rfl] at hp
    rw [if_pos rfl]
    have hok := right_ok.1 hr
    cases hm : mayH h with
    | false =>
      rw [if_neg (by decide)]
      repeat' (first
        | ((apply al_call 71; refine JL_o (by exact OpR_callF en71 rfl (rcheck_r _ a n c l (hl.st hs) (by omega) (by omega))) rfl rfl ?_; rintro _ _ ⟨rfl, hE⟩; rw [err_ok hr]; have hs := hs.ext hE; (try simp only [List.cons_append, List.nil_append] at hs)))
        | ((apply al_call 72; refine JL_o (by exact OpR_callF en72 rfl (rmay_r _ h ho)) rfl rfl ?_; rintro _ _ ⟨rfl, hE⟩; rw [hm]; have hs := hs.ext hE; (try simp only [List.cons_append, List.nil_append] at hs)))
        | (apply JL_nil)
        | ((apply JL_pure); (first
      | (apply as_move; exact OpR_move rfl is_rfl)
      | (apply as_assign; exact OpR_assign rfl is_rfl)
      | (apply as_load; exact OpR_load_agg' hs rfl is_rfl)
      | (apply as_binOp; exact OpR_ibin rfl rfl rfl is_rfl)
      | (apply as_unOp; exact OpR_not rfl is_rfl)); first | (exact rfl; exact rfl) | exact rfl)
        | (apply J_seq)
        | (apply J_region)
        | (apply J_block)
        | (apply al_none (t := 3); refine JL_o (by apply as_box; exact OpR_box' hs rfl) rfl rfl ?_; rintro _ _ ⟨b3, rfl, hb3, hs, hE⟩)
        | (apply aj_cond; first | refine J_dec_f rfl ob ?_ | refine J_cond_t rfl gb ?_))
      refine J_leave Tryz.func16 rfl (.tmp rfl (.tmp rfl .nil)) ⟨rfl, hs.frm.ext⟩
    | true =>
      rw [hm, if_pos rfl] at hp
      rw [if_pos rfl]
      by_cases h3 : h ∈ allH l
      · rw [if_pos h3] at hp; exact absurd rfl hp
      · rw [if_neg h3]
        repeat' (first
          | ((apply al_call 71; refine JL_o (by exact OpR_callF en71 rfl (rcheck_r _ a n c l (hl.st hs) (by omega) (by omega))) rfl rfl ?_; rintro _ _ ⟨rfl, hE⟩; rw [err_ok hr]; have hs := hs.ext hE; (try simp only [List.cons_append, List.nil_append] at hs)))
          | ((apply al_call 72; refine JL_o (by exact OpR_callF en72 rfl (rmay_r _ h ho)) rfl rfl ?_; rintro _ _ ⟨rfl, hE⟩; rw [hm]; have hs := hs.ext hE; (try simp only [List.cons_append, List.nil_append] at hs)))
          | ((apply al_call 73; refine JL_o (by exact OpR_callF en73 rfl (told_r _ a n c l h (hl.st hs) (by omega) hok ho)) rfl rfl ?_; rintro _ _ ⟨rfl, hE⟩; rw [decide_eq_false h3]; have hs := hs.ext hE; (try simp only [List.cons_append, List.nil_append] at hs)))
          | (apply JL_nil)
          | ((apply JL_pure); (first
      | (apply as_move; exact OpR_move rfl is_rfl)
      | (apply as_assign; exact OpR_assign rfl is_rfl)
      | (apply as_load; exact OpR_load_agg' hs rfl is_rfl)
      | (apply as_binOp; exact OpR_ibin rfl rfl rfl is_rfl)
      | (apply as_unOp; exact OpR_not rfl is_rfl)); first | (exact rfl; exact rfl) | exact rfl)
          | (apply J_seq)
          | (apply J_region)
          | (apply J_block)
          | (apply al_none (t := 3); refine JL_o (by apply as_box; exact OpR_box' hs rfl) rfl rfl ?_; rintro _ _ ⟨b3, rfl, hb3, hs, hE⟩)
          | (apply aj_cond; first | refine J_dec_f rfl ob ?_ | refine J_cond_t rfl gb ?_ | refine J_cond_f rfl gb ?_))
        refine J_leave Tryz.func16 rfl (.tmp rfl (.tmp rfl .nil)) ⟨rfl, hs.frm.ext⟩
end Go.Eng
/- Referrers: the laws' small functions. -/
namespace Go.Eng
open Go.Proofs
set_option linter.unusedSimpArgs false
set_option linter.unusedVariables false
theorem Sl.dropR {α : Type} {d : Ty α} {R : Nat → Prop} {w : World} {b o n c : Nat} {xs : List α} (h : Sl d R w (some ⟨b, o, none⟩) n c xs) (i : Nat) (hi : i ≤ n) : Sl d R w (some ⟨b, o + i * d.sz, none⟩) (n - i) (c - i) (xs.drop i) := by
  obtain ⟨h1, h2, h3, s⟩ := h
  have hl := s.len
  refine ⟨by omega, by omega, (fun h => nomatch h), ⟨by rw [List.length_drop]; omega, (fun h => nomatch h), fun _ ad h => by cases h; rfl, fun b' o' ha hp => by cases ha; exact s.reg _ _ rfl (by omega), fun j x hx => ?_⟩⟩
  rw [List.getElem?_drop] at hx
  obtain ⟨es, hr, hc⟩ := s.el (i + j) x hx
  refine ⟨es, hr, fun b' o' ha q u hq => ?_⟩
  cases ha
  have := hc b o rfl q u hq
  rw [Nat.add_mul, ← Nat.add_assoc] at this
  exact this
def pairM (r t : Int) : Int := 9223372036854775808 + r * 4294967296 + t
def smallL : List HH := [(5, 9223372036854775808 + 3 * 4294967296 + 3), (5, 9223372036854775808 + 3 * 4294967296 + 4), (6, 9223372036854775808 + 7 * 4294967296 + 5)]
attribute [local irreducible] Hold J JL JD JX JXat OpR OpG Ret RetV Is Blk Row MapC
set_option maxRecDepth 100000
set_option maxHeartbeats 1000000
theorem equalH_r (w : World) (a1 a2 : Option Addr) (n1 c1 n2 c2 : Nat) (xs ys : List HH) (h1 : Sl dHeld All w a1 n1 c1 xs) (h2 : Sl dHeld All w a2 n2 c2 ys) :
    Ret Tryz.prog 65 #[.slice a1 n1 c1, .slice a2 n2 c2] w fun v w' => v = .bool (decide (xs = ys)) ∧ Ext w w' := by
  refine Ret_of (l := [_, _]) Tryz.func65 rfl Tryz.ntmps65 (by simp) ?_
  have hs := St.init w
  have hl1 := h1.len
  have hl2 := h2.len
  have hmx : n1 ≤ 9223372036854775807 := by have h3 := h1.le; have h4 := h1.cap; unfold maxLen at h4; omega
  by_cases hn : n1 = n2
  · subst hn
    repeat' (first
      | (apply JL_nil)
      | ((apply JL_pure); (first
      | (apply as_move; exact OpR_move rfl is_rfl)
      | (apply as_assign; exact OpR_assign rfl is_rfl)
      | (apply as_binOp; exact OpR_ibin rfl rfl rfl is_rfl)
      | (apply as_b_len; exact OpR_len rfl is_rfl)); first | (exact rfl; exact rfl) | exact rfl)
      | (apply J_seq)
      | (apply J_region)
      | (apply J_block)
      | (apply J_skip)
      | (apply aj_cond; refine J_dec_f rfl ob ?_))
    refine J_loopK (α := Nat) [(0, _), (1, _), (12, _)] (fun k => [(13, .int .i64 k)]) (fun k w' => St w NoF w' [] ∧ k ≤ n1 ∧ xs.take k = ys.take k) (fun k => n1 - k) 0 ⟨hs, Nat.zero_le _, rfl⟩ (by repeat' (first | exact trivial | exact rfl | apply And.intro)) ?_
    rintro k w2 ⟨hs1, hk, heq⟩ ih
    have hs : St w NoF w2 [] := hs1
    by_cases hlt : k < n1
    · obtain ⟨p, o, rfl⟩ := h1.sl.addr (by omega)
      obtain ⟨p2, o2, rfl⟩ := h2.sl.addr (by omega)
      have hs : St w NoF w2 [] := hs1
      have hx : xs[k]? = some (xs[k]'(by omega)) := List.getElem?_eq_getElem (by omega)
      have hy : ys[k]? = some (ys[k]'(by omega)) := List.getElem?_eq_getElem (by omega)
      obtain ⟨x, hxd⟩ : ∃ x, x = xs[k]'(by omega) := ⟨_, rfl⟩
      obtain ⟨y, hyd⟩ : ∃ y, y = ys[k]'(by omega) := ⟨_, rfl⟩
      rw [← hxd] at hx
      rw [← hyd] at hy
      by_cases hc : x = y
      · have hc2 : decide (¬ (x.1 = y.1 ∧ x.2 = y.2)) = false := by simp [hc]
        repeat' (first
          | (apply JL_nil)
          | ((first | (apply JL_pure) | (apply JX_f; exact rfl; intro W X hs)); (first
      | (apply as_load; first | exact OpR_load_el (b := p) (o := o) (h1.st hs) hx rfl rfl is_rfl | exact OpR_load_el (b := p2) (o := o2) (h2.st hs) hy rfl rfl is_rfl)
      | (apply as_move; exact OpR_move rfl is_rfl)
      | (apply as_assign; exact OpR_assign rfl is_rfl)
      | (apply as_add; exact OpR_addn rfl rfl (by omega) (by first | (simp only [Int.reduceAdd]; exact rfl) | exact rfl) is_rfl)
      | (apply as_binOp; first | exact OpR_neT rfl rfl is_rfl | exact OpR_ibin rfl rfl rfl is_rfl)
      | (apply as_indexAddr; exact OpR_indexAddr rfl rfl (by omega) (by omega) is_rfl)); first | (exact rfl; exact rfl) | exact rfl)
          | (apply J_seq)
          | (apply J_region)
          | (apply J_block)
          | (apply J_inBlock)
          | (apply J_skip)
          | (apply aj_cond; first | refine J_dec_t rfl ob ?_ | refine J_cond_f rfl gb ?_)
          | (apply aj_draw; (refine J_drawX (id := 6) [0, 0, 3, 7, 0, 0, 48, 112, 255] [(0, 0), (1, 0), (2, 0), (3, 0), (4, 0), (5, 0), (6, 0), (7, 0), (8, 0)] [] hs mixed (by kernel_rfl) (by kernel_rfl) (by kernel_rfl) (by kernel_rfl) (by kernel_rfl) ?_))
          | (refine JX_done (fun W hs => ?_))
          | (apply JD_done))
        refine ih (k + 1) _ _ ⟨hs, hlt, take_eq_succ hx (by rw [hc]; exact hy) heq⟩ (by omega) (by repeat' (first | exact trivial | exact rfl | apply And.intro))
      · have hc2 : decide (¬ (x.1 = y.1 ∧ x.2 = y.2)) = true := decide_eq_true (fun e => hc (hh_eq.1 e))
        repeat' (first
          | (apply JL_nil)
          | ((first | (apply JL_pure) | (apply JX_f; exact rfl; intro W X hs)); (first
      | (apply as_load; first | exact OpR_load_el (b := p) (o := o) (h1.st hs) hx rfl rfl is_rfl | exact OpR_load_el (b := p2) (o := o2) (h2.st hs) hy rfl rfl is_rfl)
      | (apply as_move; exact OpR_move rfl is_rfl)
      | (apply as_assign; exact OpR_assign rfl is_rfl)
      | (apply as_binOp; first | exact OpR_neT rfl rfl is_rfl | exact OpR_ibin rfl rfl rfl is_rfl)
      | (apply as_indexAddr; exact OpR_indexAddr rfl rfl (by omega) (by omega) is_rfl)); first | (exact rfl; exact rfl) | exact rfl)
          | (apply J_seq)
          | (apply J_region)
          | (apply J_block)
          | (apply J_skip)
          | (apply aj_cond; first | refine J_dec_t rfl ob ?_ | refine J_cond_t rfl gb ?_)
          | (apply aj_draw; (refine J_drawX (id := 6) [0, 0, 3, 7, 0, 0, 48, 112, 255] [(0, 0), (1, 0), (2, 0), (3, 0), (4, 0), (5, 0), (6, 0), (7, 0), (8, 0)] [] hs mixed (by kernel_rfl) (by kernel_rfl) (by kernel_rfl) (by kernel_rfl) (by kernel_rfl) ?_))
          | (refine JX_done (fun W hs => ?_))
          | (apply JD_done))
        refine J_leave Tryz.func65 rfl (.tmp rfl .nil) ⟨congrArg Value.bool (decide_eq_false fun e => hc (by subst e; rw [hx] at hy; exact Option.some.inj hy)).symm, hs.frm.ext⟩
    · rw [List.take_of_length_le (by omega), List.take_of_length_le (by omega)] at heq
      repeat' (first
        | (apply JL_nil)
        | ((apply JL_pure); (first
      | (apply as_assign; exact OpR_assign rfl is_rfl)
      | (apply as_binOp; exact OpR_ibin rfl rfl rfl is_rfl)); first | (exact rfl; exact rfl) | exact rfl)
        | (apply J_seq)
        | (apply J_region)
        | (apply aj_exit; refine J_exit rfl ?_)
        | (apply aj_cond; refine J_dec_f rfl ob ?_))
      refine J_leave Tryz.func65 rfl (.tmp rfl .nil) ⟨congrArg Value.bool (decide_eq_true heq).symm, hs.frm.ext⟩
  · repeat' (first
      | (apply JL_nil)
      | ((apply JL_pure); (first
      | (apply as_move; exact OpR_move rfl is_rfl)
      | (apply as_assign; exact OpR_assign rfl is_rfl)
      | (apply as_binOp; exact OpR_ibin rfl rfl rfl is_rfl)
      | (apply as_b_len; exact OpR_len rfl is_rfl)); first | (exact rfl; exact rfl) | exact rfl)
      | (apply J_seq)
      | (apply J_region)
      | (apply aj_cond; refine J_dec_t rfl ob ?_))
    refine J_leave Tryz.func65 rfl (.tmp rfl .nil) ⟨congrArg Value.bool (decide_eq_false fun e => hn (by rw [← hl1, ← hl2, e])).symm, hs.frm.ext⟩
theorem equalI_r (w : World) (a1 a2 : Option Addr) (n1 c1 n2 c2 : Nat) (xs ys : List Int) (h1 : Sl (tInt .i64) All w a1 n1 c1 xs) (h2 : Sl (tInt .i64) All w a2 n2 c2 ys) :
    Ret Tryz.prog 48 #[.slice a1 n1 c1, .slice a2 n2 c2] w fun v w' => v = .bool (decide (xs = ys)) ∧ Ext w w' := by
  refine Ret_of (l := [_, _]) Tryz.func48 rfl Tryz.ntmps48 (by simp) ?_
  have hs := St.init w
  have hl1 := h1.len
  have hl2 := h2.len
  have hmx : n1 ≤ 9223372036854775807 := by have h3 := h1.le; have h4 := h1.cap; unfold maxLen at h4; omega
  by_cases hn : n1 = n2
  · subst hn
    repeat' (first
      | (apply JL_nil)
      | ((apply JL_pure); (first
      | (apply as_move; exact OpR_move rfl is_rfl)
      | (apply as_assign; exact OpR_assign rfl is_rfl)
      | (apply as_binOp; exact OpR_ibin rfl rfl rfl is_rfl)
      | (apply as_b_len; exact OpR_len rfl is_rfl)); first | (exact rfl; exact rfl) | exact rfl)
      | (apply J_seq)
      | (apply J_region)
      | (apply J_block)
      | (apply J_skip)
      | (apply aj_cond; refine J_dec_f rfl ob ?_))
    refine J_loopK (α := Nat) [(0, _), (1, _), (12, _)] (fun k => [(13, .int .i64 k)]) (fun k w' => St w NoF w' [] ∧ k ≤ n1 ∧ xs.take k = ys.take k) (fun k => n1 - k) 0 ⟨hs, Nat.zero_le _, rfl⟩ (by repeat' (first | exact trivial | exact rfl | apply And.intro)) ?_
    rintro k w2 ⟨hs1, hk, heq⟩ ih
    have hs : St w NoF w2 [] := hs1
    by_cases hlt : k < n1
    · obtain ⟨p, o, rfl⟩ := h1.sl.addr (by omega)
      obtain ⟨p2, o2, rfl⟩ := h2.sl.addr (by omega)
      have hs : St w NoF w2 [] := hs1
      have hx : xs[k]? = some (xs[k]'(by omega)) := List.getElem?_eq_getElem (by omega)
      have hy : ys[k]? = some (ys[k]'(by omega)) := List.getElem?_eq_getElem (by omega)
      obtain ⟨x, hxd⟩ : ∃ x, x = xs[k]'(by omega) := ⟨_, rfl⟩
      obtain ⟨y, hyd⟩ : ∃ y, y = ys[k]'(by omega) := ⟨_, rfl⟩
      rw [← hxd] at hx
      rw [← hyd] at hy
      by_cases hc : x = y
      · have hc2 : x = y := hc
        repeat' (first
          | (apply JL_nil)
          | ((first | (apply JL_pure) | (apply JX_f; exact rfl; intro W X hs)); (first
      | (apply as_load; first | exact OpR_load_el1 (b := p) (o := o) (i := k) (j := 0) (h1.st hs) hx rfl rfl rfl is_rfl | exact OpR_load_el1 (b := p2) (o := o2) (i := k) (j := 0) (h2.st hs) hy rfl rfl rfl is_rfl)
      | (apply as_move; exact OpR_move rfl is_rfl)
      | (apply as_assign; exact OpR_assign rfl is_rfl)
      | (apply as_add; exact OpR_addn rfl rfl (by omega) (by first | (simp only [Int.reduceAdd]; exact rfl) | exact rfl) is_rfl)
      | (apply as_binOp; exact OpR_ibin rfl rfl rfl is_rfl)
      | (apply as_indexAddr; exact OpR_indexAddr rfl rfl (by omega) (by omega) is_rfl)); first | (exact rfl; exact rfl) | exact rfl)
          | (apply J_seq)
          | (apply J_region)
          | (apply J_block)
          | (apply J_inBlock)
          | (apply J_skip)
          | (apply aj_cond; first | refine J_dec_t rfl ob ?_ | refine J_dec_f rfl ob ?_)
          | (apply aj_draw; (refine J_drawX (id := 6) [0, 0, 3, 7, 0, 0, 48, 112, 255] [(0, 0), (1, 0), (2, 0), (3, 0), (4, 0), (5, 0), (6, 0), (7, 0), (8, 0)] [] hs mixed (by kernel_rfl) (by kernel_rfl) (by kernel_rfl) (by kernel_rfl) (by kernel_rfl) ?_))
          | (refine JX_done (fun W hs => ?_))
          | (apply JD_done))
        refine ih (k + 1) _ _ ⟨hs, hlt, take_eq_succ hx (by rw [hc]; exact hy) heq⟩ (by omega) (by repeat' (first | exact trivial | exact rfl | apply And.intro))
      · have hc2 : ¬ x = y := hc
        repeat' (first
          | (apply JL_nil)
          | ((first | (apply JL_pure) | (apply JX_f; exact rfl; intro W X hs)); (first
      | (apply as_load; first | exact OpR_load_el1 (b := p) (o := o) (i := k) (j := 0) (h1.st hs) hx rfl rfl rfl is_rfl | exact OpR_load_el1 (b := p2) (o := o2) (i := k) (j := 0) (h2.st hs) hy rfl rfl rfl is_rfl)
      | (apply as_move; exact OpR_move rfl is_rfl)
      | (apply as_assign; exact OpR_assign rfl is_rfl)
      | (apply as_binOp; exact OpR_ibin rfl rfl rfl is_rfl)
      | (apply as_indexAddr; exact OpR_indexAddr rfl rfl (by omega) (by omega) is_rfl)); first | (exact rfl; exact rfl) | exact rfl)
          | (apply J_seq)
          | (apply J_region)
          | (apply J_block)
          | (apply J_skip)
          | (apply aj_cond; refine J_dec_t rfl ob ?_)
          | (apply aj_draw; (refine J_drawX (id := 6) [0, 0, 3, 7, 0, 0, 48, 112, 255] [(0, 0), (1, 0), (2, 0), (3, 0), (4, 0), (5, 0), (6, 0), (7, 0), (8, 0)] [] hs mixed (by kernel_rfl) (by kernel_rfl) (by kernel_rfl) (by kernel_rfl) (by kernel_rfl) ?_))
          | (refine JX_done (fun W hs => ?_))
          | (apply JD_done))
        refine J_leave Tryz.func48 rfl (.tmp rfl .nil) ⟨congrArg Value.bool (decide_eq_false fun e => hc (by subst e; rw [hx] at hy; exact Option.some.inj hy)).symm, hs.frm.ext⟩
    · rw [List.take_of_length_le (by omega), List.take_of_length_le (by omega)] at heq
      repeat' (first
        | (apply JL_nil)
        | ((apply JL_pure); (first
      | (apply as_assign; exact OpR_assign rfl is_rfl)
      | (apply as_binOp; exact OpR_ibin rfl rfl rfl is_rfl)); first | (exact rfl; exact rfl) | exact rfl)
        | (apply J_seq)
        | (apply J_region)
        | (apply aj_exit; refine J_exit rfl ?_)
        | (apply aj_cond; refine J_dec_f rfl ob ?_))
      refine J_leave Tryz.func48 rfl (.tmp rfl .nil) ⟨congrArg Value.bool (decide_eq_true heq).symm, hs.frm.ext⟩
  · repeat' (first
      | (apply JL_nil)
      | ((apply JL_pure); (first
      | (apply as_move; exact OpR_move rfl is_rfl)
      | (apply as_assign; exact OpR_assign rfl is_rfl)
      | (apply as_binOp; exact OpR_ibin rfl rfl rfl is_rfl)
      | (apply as_b_len; exact OpR_len rfl is_rfl)); first | (exact rfl; exact rfl) | exact rfl)
      | (apply J_seq)
      | (apply J_region)
      | (apply aj_cond; refine J_dec_t rfl ob ?_))
    refine J_leave Tryz.func48 rfl (.tmp rfl .nil) ⟨congrArg Value.bool (decide_eq_false fun e => hn (by rw [← hl1, ← hl2, e])).symm, hs.frm.ext⟩
theorem indexI_r (w : World) (a : Option Addr) (n c : Nat) (xs : List Int) (x : Int) (h : Sl (tInt .i64) All w a n c xs) :
    Ret Tryz.prog 131 #[.slice a n c, .int .i64 x] w fun v w' => ∃ i : Int, (0 ≤ i ↔ x ∈ xs) ∧ v = .int .i64 i ∧ Ext w w' := by
  refine Ret_of (l := [_, _]) Tryz.func131 rfl Tryz.ntmps131 (by simp) ?_
  have hs := St.init w
  have hl := h.len
  have hmx : n ≤ 9223372036854775807 := by have h3 := h.le; have h4 := h.cap; unfold maxLen at h4; omega
  repeat' (first
    | (apply JL_nil)
    | ((apply JL_pure); (first
      | (apply as_move; exact OpR_move rfl is_rfl)
      | (apply as_assign; exact OpR_assign rfl is_rfl)
      | (apply as_b_len; exact OpR_len rfl is_rfl)); first | (exact rfl; exact rfl) | exact rfl)
    | (apply J_seq)
    | (apply J_region)
    | (apply J_block))
  refine J_loopK (α := Nat) [(0, _), (1, _), (7, _)] (fun k => [(8, .int .i64 k)]) (fun k w' => St w NoF w' [] ∧ k ≤ n ∧ x ∉ xs.take k) (fun k => n - k) 0 ⟨hs, Nat.zero_le _, (by simp)⟩ (by repeat' (first | exact trivial | exact rfl | apply And.intro)) ?_
  rintro k w2 ⟨hs1, hk, hno⟩ ih
  have hs : St w NoF w2 [] := hs1
  by_cases hlt : k < n
  · obtain ⟨p, o, rfl⟩ := h.sl.addr (by omega)
    have hs : St w NoF w2 [] := hs1
    have hx : xs[k]? = some (xs[k]'(by omega)) := List.getElem?_eq_getElem (by omega)
    obtain ⟨y, hyd⟩ : ∃ y, y = xs[k]'(by omega) := ⟨_, rfl⟩
    rw [← hyd] at hx
    by_cases hc : x = y
    · repeat' (first
        | (apply JL_nil)
        | ((apply JL_pure); (first
      | (apply as_load; exact OpR_load_el1 (i := k) (j := 0) (h.st hs) hx rfl rfl rfl is_rfl)
      | (apply as_move; exact OpR_move rfl is_rfl)
      | (apply as_assign; exact OpR_assign rfl is_rfl)
      | (apply as_binOp; exact OpR_ibin rfl rfl rfl is_rfl)
      | (apply as_indexAddr; exact OpR_indexAddr rfl rfl (by omega) (by omega) is_rfl)); first | (exact rfl; exact rfl) | exact rfl)
        | (apply J_seq)
        | (apply J_region)
        | (apply J_block)
        | (apply J_skip)
        | (apply aj_cond; refine J_dec_t rfl ob ?_))
      refine J_leave Tryz.func131 rfl (.tmp rfl .nil) ⟨k, ⟨fun _ => hc ▸ List.mem_of_getElem? hx, fun _ => by omega⟩, rfl, hs.frm.ext⟩
    · repeat' (first
        | (apply JL_nil)
        | ((apply JL_pure); (first
      | (apply as_load; exact OpR_load_el1 (i := k) (j := 0) (h.st hs) hx rfl rfl rfl is_rfl)
      | (apply as_move; exact OpR_move rfl is_rfl)
      | (apply as_assign; exact OpR_assign rfl is_rfl)
      | (apply as_add; exact OpR_addn rfl rfl (by omega) (by first | (simp only [Int.reduceAdd]; exact rfl) | exact rfl) is_rfl)
      | (apply as_binOp; exact OpR_ibin rfl rfl rfl is_rfl)
      | (apply as_indexAddr; exact OpR_indexAddr rfl rfl (by omega) (by omega) is_rfl)); first | (exact rfl; exact rfl) | exact rfl)
        | (apply J_seq)
        | (apply J_region)
        | (apply J_block)
        | (apply J_inBlock)
        | (apply J_skip)
        | (apply aj_cond; first | refine J_dec_t rfl ob ?_ | refine J_dec_f rfl ob ?_))
      refine ih (k + 1) _ _ ⟨hs, hlt, fun hm => ?_⟩ (by omega) (by repeat' (first | exact trivial | exact rfl | apply And.intro))
      rw [List.take_add_one, hx] at hm
      rcases List.mem_append.1 hm with e | e
      · exact hno e
      · exact hc (by simpa using e)
  · rw [List.take_of_length_le (by omega)] at hno
    repeat' (first
      | (apply JL_nil)
      | ((apply JL_pure); (first
      | (apply as_assign; exact OpR_assign rfl is_rfl)
      | (apply as_binOp; exact OpR_ibin rfl rfl rfl is_rfl)); first | (exact rfl; exact rfl) | exact rfl)
      | (apply J_seq)
      | (apply J_region)
      | (apply aj_exit; refine J_exit rfl ?_)
      | (apply aj_cond; refine J_dec_f rfl ob ?_))
    refine J_leave Tryz.func131 rfl (.tmp rfl .nil) ⟨-1, ⟨fun e => absurd e (by decide), fun e => absurd e hno⟩, rfl, hs.frm.ext⟩
theorem contI_r (w : World) (a : Option Addr) (n c : Nat) (xs : List Int) (x : Int) (h : Sl (tInt .i64) All w a n c xs) :
    Ret Tryz.prog 52 #[.slice a n c, .int .i64 x] w fun v w' => v = .bool (decide (x ∈ xs)) ∧ Ext w w' := by
  refine Ret_of (l := [_, _]) Tryz.func52 rfl Tryz.ntmps52 (by simp) ?_
  have hs := St.init w
  repeat' (first
    | ((apply al_call 131; refine JL_o (by exact OpR_callF en131 rfl (indexI_r _ a n c xs x (h.st hs))) rfl rfl ?_; rintro _ _ ⟨i, hi, rfl, hE⟩; have hs := hs.ext hE; (try simp only [List.cons_append, List.nil_append] at hs)))
    | (apply JL_nil)
    | ((apply JL_pure); (first
      | (apply as_move; exact OpR_move rfl is_rfl)
      | (apply as_assign; exact OpR_assign rfl is_rfl)
      | (apply as_binOp; exact OpR_ibin rfl rfl rfl is_rfl)); first | (exact rfl; exact rfl) | exact rfl)
    | (apply J_seq)
    | (apply J_region))
  refine J_leave Tryz.func52 rfl (.tmp rfl .nil) ⟨congrArg Value.bool (by rw [decide_eq_decide]; exact hi), hs.frm.ext⟩
theorem pair_r (w : World) (r t : Int) (hr : 0 ≤ r ∧ r < 1073741824) (ht : 0 ≤ t ∧ t < 1073741824) : Ret Tryz.prog 140 #[.int .i64 r, .int .i64 t] w fun v w' => v = .int .u64 (9223372036854775808 + r * 4294967296 + t) ∧ Ext w w' := by
  refine Ret_of (l := [_, _]) Tryz.func140 rfl Tryz.ntmps140 (by simp) ?_
  have hs := St.init w
  repeat' (first
    | ((apply al_call 90; refine JL_o (by exact OpR_callF en90 rfl (madeR_r _ 9223372036854775808 r t (by decide) hr ht)) rfl rfl ?_; rintro _ _ ⟨rfl, hE⟩; have hs := hs.ext hE; (try simp only [List.cons_append, List.nil_append] at hs)))
    | (apply JL_nil)
    | ((apply JL_pure); (first
      | (apply as_move; exact OpR_move rfl is_rfl)
      | (apply as_assign; exact OpR_assign rfl is_rfl)); first | (exact rfl; exact rfl) | exact rfl)
    | (apply J_seq)
    | (apply J_region))
  refine J_leave Tryz.func140 rfl (.tmp rfl .nil) ⟨rfl, hs.frm.ext⟩
theorem small_r (w : World) : Ret Tryz.prog 64 #[] w fun v w' => ∃ b, v = .slice (some ⟨b, 0, none⟩) 3 3 ∧ Fresh w w' [RowH (some ⟨b, 0, none⟩) 3 3 smallL] := by
  refine Ret_of (l := []) Tryz.func64 rfl Tryz.ntmps64 (by simp) ?_
  have hs := St.init w
  repeat' (first
    | ((apply al_call 140; refine JL_o (by exact OpR_callF en140 rfl (pair_r _ 3 3 (by decide) (by decide))) rfl rfl ?_; rintro _ _ ⟨rfl, hE⟩; have hs := hs.ext hE; (try simp only [List.cons_append, List.nil_append] at hs)))
    | ((apply al_call 140; refine JL_o (by exact OpR_callF en140 rfl (pair_r _ 3 4 (by decide) (by decide))) rfl rfl ?_; rintro _ _ ⟨rfl, hE⟩; have hs := hs.ext hE; (try simp only [List.cons_append, List.nil_append] at hs)))
    | ((apply al_call 140; refine JL_o (by exact OpR_callF en140 rfl (pair_r _ 7 5 (by decide) (by decide))) rfl rfl ?_; rintro _ _ ⟨rfl, hE⟩; have hs := hs.ext hE; (try simp only [List.cons_append, List.nil_append] at hs)))
    | (apply JL_nil)
    | ((apply JL_pure); (first
      | (apply as_assign; exact OpR_assign rfl is_rfl)
      | (apply as_build; exact OpR_build rfl (by (simp only [bld, placesOf, splice, Value.cells, List.take_succ_cons, List.take_zero, List.drop_succ_cons, List.drop_zero, List.cons_append, List.nil_append, List.length_cons, List.length_nil, List.getElem?_cons_zero, List.getElem?_cons_succ, Option.map_some, List.append_nil, Nat.reduceAdd, Nat.reduceMul, Nat.zero_add, Nat.reduceLeDiff, and_self, if_true, List.toList_toArray, Nat.le_refl, Nat.zero_mul, Nat.one_mul]; first | done | rfl)) is_rfl)); first | (exact rfl; exact rfl) | exact rfl)
    | (apply J_seq)
    | (apply J_region)
    | (apply al_none (t := 7); refine JL_o (by apply as_buildSlice; exact OpR_buildSlice hs rfl (by omega) rfl) rfl rfl ?_; rintro _ _ ⟨b7, rfl, hb7, hs, hE⟩))
  have hs := hs.toRow 0 3 3 2 (xs := encL cH smallL) (by decide) (by unfold maxLen; decide) (by decide) rfl
  refine J_leave Tryz.func64 rfl (.tmp rfl .nil) ⟨b7, rfl, hs.out (List.Sublist.refl _)⟩
end Go.Eng
/- Referrers: the layer wakes. -/
namespace Go.Eng
open Go.Proofs
set_option linter.unusedSimpArgs false
set_option linter.unusedVariables false
set_option maxRecDepth 100000
abbrev sm0 : HH := (5, 9223372036854775808 + 3 * 4294967296 + 3)
abbrev sm1 : HH := (5, 9223372036854775808 + 3 * 4294967296 + 4)
abbrev sm2 : HH := (6, 9223372036854775808 + 7 * 4294967296 + 5)
theorem wk_put : putC (ofH []) sm0 = 0 ∧ putC (ofH [sm0]) sm1 = 0 ∧ putC (ofH [sm0, sm1]) sm2 = 0 ∧ putC (ofH smallL) sm1 = 5 := by decide +kernel
theorem wk_all : allR (ofH smallL) = smallL ∧ ofR (ofH smallL) 4 = [sm1] ∧ hldR (ofH smallL) 3 = [5] := by decide +kernel
theorem wk_with : withH (allH (ofH [])) sm0 = [sm0] ∧ withH (allH (ofH [sm0])) sm1 = [sm0, sm1] ∧ withH (allH (ofH [sm0, sm1])) sm2 = smallL := by decide +kernel
theorem wk_tot : (ofH []).length ≤ 10 ∧ (ofH [sm0]).length ≤ 10 ∧ (ofH [sm0, sm1]).length ≤ 10 ∧ (ofH smallL).length ≤ 10 ∧ tot (ofH []) ≤ 10 ∧ tot (ofH [sm0]) ≤ 10 ∧ tot (ofH [sm0, sm1]) ≤ 10 ∧ tot (ofH smallL) ≤ 10 := by decide +kernel
theorem wk_ok : ∀ x ∈ smallL, okH x := fun x hx => by
  simp only [smallL, List.mem_cons, List.not_mem_nil, or_false] at hx
  rcases hx with rfl | rfl | rfl <;> exact ⟨by unfold inK; decide, by unfold inK; decide⟩
theorem wk_len {qs : List QR} {A : List HH} (h : qs.map meanQ = ofH A) : qs.length = (ofH A).length := by have := congrArg List.length h; rw [List.length_map] at this; exact this
attribute [local irreducible] Hold J JL JD JX JXat OpR OpG Ret RetV Is Blk Row MapC putC ofH tot allR ofR hldR
set_option maxHeartbeats 1000000
theorem rwakes_r (w : World) : Ret Tryz.prog 10 #[] w fun v w' => v = .bool true ∧ Ext w w' := by
  refine Ret_of (l := []) Tryz.func10 rfl Tryz.ntmps10 (by simp) ?_
  have hs := St.init w
  obtain ⟨p0, p1, p2, p3⟩ := wk_put
  obtain ⟨w0, w1, w2⟩ := wk_with
  obtain ⟨aA, aO, aH⟩ := wk_all
  obtain ⟨l0, l1, l2, l3, t0, t1, t2, t3⟩ := wk_tot
  have hso := wk_ok
  repeat' (first
    | ((apply al_call 64; refine JL_o (by exact OpR_callF en64 rfl (small_r _)) rfl rfl ?_; rintro _ _ ⟨bs, rfl, hf⟩; have hs := hs.fresh hf; (try simp only [List.cons_append, List.nil_append] at hs)))
    | (apply JL_nil)
    | ((apply JL_pure); (first
      | (apply as_move; exact OpR_move rfl is_rfl)
      | (apply as_assign; exact OpR_assign rfl is_rfl)
      | (apply as_b_len; exact OpR_len rfl is_rfl)); first | (exact rfl; exact rfl) | exact rfl)
    | (apply J_seq)
    | (apply J_region)
    | (apply J_block))
  have hs := (hs.nilQ).nilRow 116 2
  refine J_loopK (α := Nat × List QR × Option Addr × Nat) [(8, _), (9, _)] (fun g => [(1, .slice g.2.2.1 g.2.1.length g.2.2.2), (10, .int .i64 g.1)]) (fun g w' => St w NoF w' [TabQ g.2.2.1 g.2.1.length g.2.2.2 (g.2.1.map rawQ), OwnQ g.2.1, RowH (some ⟨bs, 0, none⟩) 3 3 smallL] ∧ g.2.1.map meanQ = ofH (smallL.take g.1) ∧ (∀ q ∈ g.2.1, okQ q) ∧ g.1 ≤ 3) (fun g => 3 - g.1) (0, [], none, 0) ⟨hs.sel [0, 1, 2] (by decide), by show [] = _; decide +kernel, (fun q hq => by cases hq), by show 0 ≤ 3; omega⟩ (by repeat' (first | exact trivial | exact rfl | apply And.intro)) ?_
  rintro ⟨i, qs, a', c'⟩ w3 ⟨hs1, hqm, hqo, hi⟩ ih
  dsimp only at hs1 hqm hqo hi ih ⊢
  have hs : St w NoF w3 [_, _, _] := hs1
  have hcase : i = 0 ∨ i = 1 ∨ i = 2 ∨ i = 3 := by omega
  rcases hcase with rfl | rfl | rfl | rfl
  · have hqm : qs.map meanQ = ofH [] := hqm
    have hql := wk_len hqm
    have hx : smallL[0]? = some sm0 := rfl
    repeat' (first
      | ((apply al_call 15; refine JL_o (by exact OpR_callF en15 rfl (rput_ok _ a' qs.length c' (qs.map meanQ) sm0 (slQ hs (by repeat (first | exact List.Mem.head _ | apply List.Mem.tail)) (by repeat (first | exact List.Mem.head _ | apply List.Mem.tail)) hqo) (hso sm0 (by simp [smallL])) (by omega) (by rw [hqm]; omega) (by rw [hqm]; exact p0))) rfl rfl ?_; rintro _ _ ⟨qs2, a4, c4, ⟨hqm2, hqo2⟩, rfl, hf⟩; have hs := hs.fresh hf; (try simp only [List.cons_append, List.nil_append] at hs)))
      | (apply JL_nil)
      | ((apply JL_pure); (first
      | (apply as_load; first | exact OpR_load' hs rfl rfl is_rfl | exact OpR_load_agg' hs rfl is_rfl | exact OpR_load_el (i := 0) (slH hs (by repeat (first | exact List.Mem.head _ | apply List.Mem.tail)) hso) hx rfl rfl is_rfl)
      | (apply as_move; exact OpR_move rfl is_rfl)
      | (apply as_assign; exact OpR_assign rfl is_rfl)
      | (apply as_add; exact OpR_addn rfl rfl (by omega) (by first | (simp only [Int.reduceAdd]; exact rfl) | exact rfl) is_rfl)
      | (apply as_binOp; exact OpR_ibin rfl rfl rfl is_rfl)
      | (apply as_extract; exact OpR_extract rfl rfl is_rfl)
      | (apply as_indexAddr; exact OpR_indexAddr rfl rfl (by omega) (by omega) is_rfl)); first | (exact rfl; exact rfl) | exact rfl)
      | (apply J_seq)
      | (apply J_region)
      | (apply J_block)
      | (apply J_inBlock)
      | (apply J_skip)
      | (apply al_none (t := 3); refine JL_o (by apply as_alloc; exact OpR_alloc' hs) rfl rfl ?_; rintro _ _ ⟨b3, rfl, hb3, hs, hE⟩)
      | (apply al_unit; refine JL_u (by apply as_store; exact OpR_store' hs rfl rfl rfl) rfl ?_; rintro _ _ ⟨hs, hF⟩)
      | (apply aj_cond; first | refine J_dec_t rfl ob ?_ | refine J_dec_f rfl ob ?_))
    rw [hqm, w0] at hqm2
    refine ih (1, qs2, a4, c4) _ _ ⟨hs.sel [0, 1, 5] (by decide), hqm2, hqo2, by show 1 ≤ 3; omega⟩ (by show 3 - 1 < 3 - 0; omega) (by repeat' (first | exact trivial | exact rfl | apply And.intro))
  · have hqm : qs.map meanQ = ofH [sm0] := hqm
    have hql := wk_len hqm
    have hx : smallL[1]? = some sm1 := rfl
    repeat' (first
      | ((apply al_call 15; refine JL_o (by exact OpR_callF en15 rfl (rput_ok _ a' qs.length c' (qs.map meanQ) sm1 (slQ hs (by repeat (first | exact List.Mem.head _ | apply List.Mem.tail)) (by repeat (first | exact List.Mem.head _ | apply List.Mem.tail)) hqo) (hso sm1 (by simp [smallL])) (by omega) (by rw [hqm]; omega) (by rw [hqm]; exact p1))) rfl rfl ?_; rintro _ _ ⟨qs2, a4, c4, ⟨hqm2, hqo2⟩, rfl, hf⟩; have hs := hs.fresh hf; (try simp only [List.cons_append, List.nil_append] at hs)))
      | (apply JL_nil)
      | ((apply JL_pure); (first
      | (apply as_load; first | exact OpR_load' hs rfl rfl is_rfl | exact OpR_load_agg' hs rfl is_rfl | exact OpR_load_el (i := 1) (slH hs (by repeat (first | exact List.Mem.head _ | apply List.Mem.tail)) hso) hx rfl rfl is_rfl)
      | (apply as_move; exact OpR_move rfl is_rfl)
      | (apply as_assign; exact OpR_assign rfl is_rfl)
      | (apply as_add; exact OpR_addn rfl rfl (by omega) (by first | (simp only [Int.reduceAdd]; exact rfl) | exact rfl) is_rfl)
      | (apply as_binOp; exact OpR_ibin rfl rfl rfl is_rfl)
      | (apply as_extract; exact OpR_extract rfl rfl is_rfl)
      | (apply as_indexAddr; exact OpR_indexAddr rfl rfl (by omega) (by omega) is_rfl)); first | (exact rfl; exact rfl) | exact rfl)
      | (apply J_seq)
      | (apply J_region)
      | (apply J_block)
      | (apply J_inBlock)
      | (apply J_skip)
      | (apply al_none (t := 3); refine JL_o (by apply as_alloc; exact OpR_alloc' hs) rfl rfl ?_; rintro _ _ ⟨b3, rfl, hb3, hs, hE⟩)
      | (apply al_unit; refine JL_u (by apply as_store; exact OpR_store' hs rfl rfl rfl) rfl ?_; rintro _ _ ⟨hs, hF⟩)
      | (apply aj_cond; first | refine J_dec_t rfl ob ?_ | refine J_dec_f rfl ob ?_))
    rw [hqm, w1] at hqm2
    refine ih (2, qs2, a4, c4) _ _ ⟨hs.sel [0, 1, 5] (by decide), hqm2, hqo2, by show 2 ≤ 3; omega⟩ (by show 3 - 2 < 3 - 1; omega) (by repeat' (first | exact trivial | exact rfl | apply And.intro))
  · have hqm : qs.map meanQ = ofH [sm0, sm1] := hqm
    have hql := wk_len hqm
    have hx : smallL[2]? = some sm2 := rfl
    repeat' (first
      | ((apply al_call 15; refine JL_o (by exact OpR_callF en15 rfl (rput_ok _ a' qs.length c' (qs.map meanQ) sm2 (slQ hs (by repeat (first | exact List.Mem.head _ | apply List.Mem.tail)) (by repeat (first | exact List.Mem.head _ | apply List.Mem.tail)) hqo) (hso sm2 (by simp [smallL])) (by omega) (by rw [hqm]; omega) (by rw [hqm]; exact p2))) rfl rfl ?_; rintro _ _ ⟨qs2, a4, c4, ⟨hqm2, hqo2⟩, rfl, hf⟩; have hs := hs.fresh hf; (try simp only [List.cons_append, List.nil_append] at hs)))
      | (apply JL_nil)
      | ((apply JL_pure); (first
      | (apply as_load; first | exact OpR_load' hs rfl rfl is_rfl | exact OpR_load_agg' hs rfl is_rfl | exact OpR_load_el (i := 2) (slH hs (by repeat (first | exact List.Mem.head _ | apply List.Mem.tail)) hso) hx rfl rfl is_rfl)
      | (apply as_move; exact OpR_move rfl is_rfl)
      | (apply as_assign; exact OpR_assign rfl is_rfl)
      | (apply as_add; exact OpR_addn rfl rfl (by omega) (by first | (simp only [Int.reduceAdd]; exact rfl) | exact rfl) is_rfl)
      | (apply as_binOp; exact OpR_ibin rfl rfl rfl is_rfl)
      | (apply as_extract; exact OpR_extract rfl rfl is_rfl)
      | (apply as_indexAddr; exact OpR_indexAddr rfl rfl (by omega) (by omega) is_rfl)); first | (exact rfl; exact rfl) | exact rfl)
      | (apply J_seq)
      | (apply J_region)
      | (apply J_block)
      | (apply J_inBlock)
      | (apply J_skip)
      | (apply al_none (t := 3); refine JL_o (by apply as_alloc; exact OpR_alloc' hs) rfl rfl ?_; rintro _ _ ⟨b3, rfl, hb3, hs, hE⟩)
      | (apply al_unit; refine JL_u (by apply as_store; exact OpR_store' hs rfl rfl rfl) rfl ?_; rintro _ _ ⟨hs, hF⟩)
      | (apply aj_cond; first | refine J_dec_t rfl ob ?_ | refine J_dec_f rfl ob ?_))
    rw [hqm, w2] at hqm2
    refine ih (3, qs2, a4, c4) _ _ ⟨hs.sel [0, 1, 5] (by decide), hqm2, hqo2, by show 3 ≤ 3; omega⟩ (by show 3 - 3 < 3 - 2; omega) (by repeat' (first | exact trivial | exact rfl | apply And.intro))
  · have hqm : qs.map meanQ = ofH smallL := hqm
    have hql := wk_len hqm
    have hx : smallL[1]? = some sm1 := rfl
    repeat' (first
      | ((apply al_none (t := 26); refine JL_o (OpR_callF en64 rfl (small_r _)) rfl rfl ?_; rintro _ _ ⟨bs26, rfl, hf⟩; have hs := hs.fresh hf; simp only [List.cons_append, List.nil_append] at hs))
      | ((apply al_guard; refine JL_o_on (t := 37) rfl gb (OpR_callF en64 rfl (small_r _)) rfl rfl ?_; rintro _ _ ⟨bs37, rfl, hf⟩; have hs := hs.fresh hf; simp only [List.cons_append, List.nil_append] at hs))
      | ((apply al_guard; refine JL_o_on (t := 43) rfl gb (OpR_callF en64 rfl (small_r _)) rfl rfl ?_; rintro _ _ ⟨bs43, rfl, hf⟩; have hs := hs.fresh hf; simp only [List.cons_append, List.nil_append] at hs))
      | ((apply al_call 15; refine JL_o (by exact OpR_callF en15 rfl (rput_bad _ a' qs.length c' (qs.map meanQ) sm1 (slQ hs (by repeat (first | exact List.Mem.head _ | apply List.Mem.tail)) (by repeat (first | exact List.Mem.head _ | apply List.Mem.tail)) hqo) (hso sm1 (by simp [smallL])) (by omega) (by rw [hqm]; omega) (by rw [hqm, p3]; decide))) rfl rfl ?_; rintro _ _ ⟨rfl, hE⟩; rw [hqm, p3]; have hs := hs.ext hE; (try simp only [List.cons_append, List.nil_append] at hs)))
      | ((apply al_callg 66; refine JL_o_on rfl gb (by exact OpR_callF en66 rfl (rall_r _ a' qs.length c' (qs.map meanQ) (slQ hs (by repeat (first | exact List.Mem.head _ | apply List.Mem.tail)) (by repeat (first | exact List.Mem.head _ | apply List.Mem.tail)) hqo) (by omega) (by rw [hqm]; omega))) rfl rfl ?_; rintro _ _ ⟨a36, c36, rfl, hf⟩; rw [hqm, aA] at hf ⊢; have hs := hs.fresh hf; (try simp only [List.cons_append, List.nil_append] at hs)))
      | ((apply al_callg 67; refine JL_o_on rfl gb (by exact OpR_callF en67 rfl (rof_r _ a' qs.length c' (qs.map meanQ) 4 (slQ hs (by repeat (first | exact List.Mem.head _ | apply List.Mem.tail)) (by repeat (first | exact List.Mem.head _ | apply List.Mem.tail)) hqo) (by omega) (by rw [hqm]; omega))) rfl rfl ?_; rintro _ _ ⟨a42, c42, rfl, hf⟩; rw [hqm, aO] at hf ⊢; have hs := hs.fresh hf; (try simp only [List.cons_append, List.nil_append] at hs)))
      | ((apply al_callg 68; refine JL_o_on rfl gb (by exact OpR_callF en68 rfl (rholders_r _ a' qs.length c' (qs.map meanQ) 3 (slQ hs (by repeat (first | exact List.Mem.head _ | apply List.Mem.tail)) (by repeat (first | exact List.Mem.head _ | apply List.Mem.tail)) hqo) (by omega) (by rw [hqm]; omega))) rfl rfl ?_; rintro _ _ ⟨a49, c49, rfl, hf⟩; rw [hqm, aH] at hf ⊢; have hs := hs.fresh hf; (try simp only [List.cons_append, List.nil_append] at hs)))
      | ((apply al_callg 65; refine JL_o_on rfl gb (by exact OpR_callF en65 rfl (equalH_r _ a36 (some ⟨bs37, 0, none⟩) 3 c36 3 3 smallL smallL (slH hs (by repeat (first | exact List.Mem.head _ | apply List.Mem.tail)) hso) (slH hs (by repeat (first | exact List.Mem.head _ | apply List.Mem.tail)) hso))) rfl rfl ?_; rintro _ _ ⟨rfl, hE⟩; rw [decide_eq_true rfl]; have hs := hs.ext hE; (try simp only [List.cons_append, List.nil_append] at hs)))
      | ((apply al_callg 65; refine JL_o_on rfl gb (by exact OpR_callF en65 rfl (equalH_r _ a42 (some ⟨bs43, 0 + 1 * 2, none⟩) 1 c42 1 2 [sm1] [sm1] (slH hs (by repeat (first | exact List.Mem.head _ | apply List.Mem.tail)) (fun x hx => hso x (by simp at hx; rw [hx]; simp [smallL]))) (((slH hs (by repeat (first | exact List.Mem.head _ | apply List.Mem.tail)) hso).dropR 1 (by decide)).cutR 1 (by decide)))) rfl rfl ?_; rintro _ _ ⟨rfl, hE⟩; rw [decide_eq_true rfl]; have hs := hs.ext hE; (try simp only [List.cons_append, List.nil_append] at hs)))
      | ((apply al_callg 48; refine JL_o_on rfl gb (by exact OpR_callF en48 rfl (equalI_r _ a49 (some ⟨b50, 0, none⟩) 1 c49 1 1 [5] [5] (slI hs (by repeat (first | exact List.Mem.head _ | apply List.Mem.tail)) (fun x hx => by simp at hx; rw [hx]; unfold inK; decide)) (sl_blkE [5] (hs.blk (b := b50)) rfl (fun x hx => by simp at hx; rw [hx]; unfold inK; decide) (by unfold maxLen; decide)))) rfl rfl ?_; rintro _ _ ⟨rfl, hE⟩; rw [decide_eq_true rfl]; have hs := hs.ext hE; (try simp only [List.cons_append, List.nil_append] at hs)))
      | (apply JL_nil)
      | ((first | (apply JL_pure) | (apply JL_pure_on; exact rfl; exact gb)); (first
      | (apply as_slice; exact OpR_slice (kl := .i64) (kh := .i64) (km := .i64) (a' := some ⟨bs43, 0 + 1 * 2, none⟩) (l := 1) (h := 2) (m := 3) rfl (.inr ⟨_, rfl, rfl⟩) (.inr ⟨_, rfl, rfl⟩) (.inl ⟨rfl, rfl⟩) (by omega) (by omega) (by omega) (by omega) (by rw [if_neg (by decide)]; simp [add_eq]) is_rfl)
      | (apply as_load; first | exact OpR_load' hs rfl rfl is_rfl | exact OpR_load_agg' hs rfl is_rfl | exact OpR_load_el (i := 1) (slH (a := some ⟨bs26, 0, none⟩) hs (by repeat (first | exact List.Mem.head _ | apply List.Mem.tail)) hso) hx rfl rfl is_rfl)
      | (apply as_move; exact OpR_move rfl is_rfl)
      | (apply as_assign; exact OpR_assign rfl is_rfl)
      | (apply as_binOp; exact OpR_ibin rfl rfl rfl is_rfl)
      | (apply as_pick; exact OpR_pick_t rfl gb rfl is_rfl)
      | (apply as_extract; exact OpR_extract rfl rfl is_rfl)
      | (apply as_indexAddr; exact OpR_indexAddr rfl rfl (by omega) (by omega) is_rfl)); first | (exact rfl; exact rfl) | exact rfl)
      | (apply J_seq)
      | (apply J_region)
      | (apply aj_exit; refine J_exit rfl ?_)
      | (refine JL_o_on (t := 50) rfl gb (by apply as_buildSlice; exact OpR_buildSlice hs rfl (by omega) rfl) rfl rfl ?_; rintro _ _ ⟨b50, rfl, hb50, hs, hE⟩)
      | (apply aj_cond; refine J_dec_f rfl ob ?_))
    refine J_leave Tryz.func10 rfl (.tmp rfl .nil) ⟨rfl, hs.frm.ext⟩
end Go.Eng
