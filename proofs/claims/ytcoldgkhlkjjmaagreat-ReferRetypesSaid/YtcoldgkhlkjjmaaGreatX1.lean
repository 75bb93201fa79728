/- The texts L1, L2, L3, L4, L5, joined. -/
import Derived.Test.YtcoldgkhlkjjmaaGreatI
import Derived.Test.YtcoldgkhlkjjmaaGreatE23
import Derived.Shelf.SlSortCmp.Insertion
/- Ids: their parts and kinds, as the program and as the reference tell them. -/
namespace Go.Eng
open Go.Proofs
set_option linter.unusedSimpArgs false
set_option linter.unusedVariables false
def idA (id : Int) : Int := id / 4294967296 % 1073741824
def idB (id : Int) : Int := id % 1073741824
/-- Of the parts a, b. -/
def kindP (id a b : Int) : Int :=
  if id = a * 4294967296 + b ∧ (1 ≤ b ∧ b ≤ 1048578) ∧ 0 ≤ a ∧ a ≤ 7 then 1 else
  if id = 4611686018427387904 + b ∧ 1 ≤ b ∧ b ≤ 24 then 2 else
  if id = 9223372036854775808 + a * 4294967296 + b ∧ (1 ≤ a ∧ a ≤ 1048578) ∧ 1 ≤ b ∧ b ≤ 1048578 then 3 else
  if id = 9223372036854775808 + a * 4294967296 + b ∧ (0 ≤ a ∧ a ≤ 1048578) ∧ 0 ≤ b ∧ b ≤ 1048578 then 4 else 0
def kindM (id : Int) : Int := kindP id (idA id) (idB id)
def partsM (id : Int) : Int × Int := if kindM id = 0 then (0, 0) else if kindM id ≤ 2 then (idB id, idA id) else (idA id, idB id)
theorem idA_lt (id : Int) : 0 ≤ idA id ∧ idA id < 1073741824 := by unfold idA; omega
theorem idB_lt (id : Int) : 0 ≤ idB id ∧ idB id < 1073741824 := by unfold idB; omega
theorem inK_u {x : Int} (h : inK .u64 x) : 0 ≤ x ∧ x < 18446744073709551616 := by unfold inK at h; omega
def inB (lo hi x : Int) : Bool := decide (lo ≤ x ∧ x ≤ hi)
attribute [local irreducible] Hold J JL JD JX JXat OpR OpG Ret RetV Is Blk Row MapC
set_option maxRecDepth 100000
set_option maxHeartbeats 1000000
theorem halvesR_r (w : World) (id : Int) (hi : inK .u64 id) : Ret Tryz.prog 89 #[.int .u64 id] w fun v w' => v = .tuple #[.int .i64 (idA id), .int .i64 (idB id)] ∧ Ext w w' := by
  refine Ret_of (l := [_]) Tryz.func89 rfl Tryz.ntmps89 (by simp) ?_
  have hs := St.init w
  have hu := inK_u hi
  repeat' (first
    | (apply JL_nil)
    | ((apply JL_pure); (first
      | (apply as_move; exact OpR_move rfl is_rfl)
      | (apply as_assign; exact OpR_assign rfl is_rfl)
      | (apply as_binOp; first | exact OpR_rem rfl rfl (by omega) (by omega) is_rfl | exact OpR_quou rfl rfl (by omega) (by omega) is_rfl)
      | (apply as_convert; exact OpR_conv_i rfl (by omega) is_rfl)); first | (exact rfl; exact rfl) | exact rfl)
    | (apply J_seq)
    | (apply J_region))
  refine J_leave Tryz.func89 rfl (.tmp rfl (.tmp rfl .nil)) ⟨rfl, hs.frm.ext⟩
theorem isR_r (w : World) (x lo hi : Int) : Ret Tryz.prog 27 #[.int .i64 x, .int .i64 lo, .int .i64 hi] w fun v w' => v = .bool (inB lo hi x) ∧ Ext w w' := by
  refine Ret_of (l := [_, _, _]) Tryz.func27 rfl Tryz.ntmps27 (by simp) ?_
  have hs := St.init w
  unfold inB
  by_cases h1 : lo ≤ x
  · repeat' (first
      | (apply JL_nil)
      | ((first | (apply JL_pure) | (apply JL_pure_on; exact rfl; exact gb)); (first
      | (apply as_move; exact OpR_move rfl is_rfl)
      | (apply as_assign; exact OpR_assign rfl is_rfl)
      | (apply as_binOp; exact OpR_ibin rfl rfl rfl is_rfl)
      | (apply as_pick; exact OpR_pick_t rfl gb rfl is_rfl)); first | (exact rfl; exact rfl) | exact rfl)
      | (apply J_seq)
      | (apply J_region))
    refine J_leave Tryz.func27 rfl (.tmp rfl .nil) ⟨by simp [mkRes, h1], hs.frm.ext⟩
  · repeat' (first
      | (apply JL_nil)
      | ((apply JL_pure); (first
      | (apply as_move; exact OpR_move rfl is_rfl)
      | (apply as_assign; exact OpR_assign rfl is_rfl)
      | (apply as_binOp; exact OpR_ibin rfl rfl rfl is_rfl)
      | (apply as_pick; exact OpR_pick_f rfl gb rfl is_rfl)); first | (exact rfl; exact rfl) | exact rfl)
      | (apply J_seq)
      | (apply J_region)
      | (apply al_guard; (refine JL_no rfl gb rfl ?_)))
    refine J_leave Tryz.func27 rfl (.tmp rfl .nil) ⟨by simp [mkRes, h1], hs.frm.ext⟩
theorem madeR_r (w : World) (m a b : Int) (hm : 0 ≤ m ∧ m ≤ 9223372036854775808) (ha : 0 ≤ a ∧ a < 1073741824) (hb : 0 ≤ b ∧ b < 1073741824) : Ret Tryz.prog 90 #[.int .u64 m, .int .i64 a, .int .i64 b] w fun v w' => v = .int .u64 (m + a * 4294967296 + b) ∧ Ext w w' := by
  refine Ret_of (l := [_, _, _]) Tryz.func90 rfl Tryz.ntmps90 (by simp) ?_
  have hs := St.init w
  repeat' (first
    | (apply JL_nil)
    | ((apply JL_pure); (first
      | (apply as_move; exact OpR_move rfl is_rfl)
      | (apply as_assign; exact OpR_assign rfl is_rfl)
      | (apply as_add; exact OpR_addu rfl rfl (by omega) is_rfl)
      | (apply as_binOp; exact OpR_mulu rfl rfl (by omega) is_rfl)
      | (apply as_convert; exact OpR_conv_u rfl (by omega) is_rfl)); first | (exact rfl; exact rfl) | exact rfl)
    | (apply J_seq)
    | (apply J_region))
  refine J_leave Tryz.func90 rfl (.tmp rfl .nil) ⟨rfl, hs.frm.ext⟩
theorem kindR_r (w : World) (id : Int) (hi : inK .u64 id) : Ret Tryz.prog 28 #[.int .u64 id] w fun v w' => v = .int .i64 (kindM id) ∧ Ext w w' := by
  refine Ret_of (l := [_]) Tryz.func28 rfl Tryz.ntmps28 (by simp) ?_
  have hs := St.init w
  have ha := idA_lt id
  have hb := idB_lt id
  unfold kindM
  obtain ⟨a, had⟩ : ∃ a, a = idA id := ⟨_, rfl⟩
  obtain ⟨b, hbd⟩ : ∃ b, b = idB id := ⟨_, rfl⟩
  rw [← had] at ha
  rw [← hbd] at hb
  rw [← had, ← hbd]
  have key : (id = a * 4294967296 + b) ∨ (id = 4611686018427387904 + b ∧ ¬ id = a * 4294967296 + b) ∨ (id = 9223372036854775808 + a * 4294967296 + b ∧ ¬ id = a * 4294967296 + b ∧ ¬ id = 4611686018427387904 + b) ∨ (¬ id = 9223372036854775808 + a * 4294967296 + b ∧ ¬ id = a * 4294967296 + b ∧ ¬ id = 4611686018427387904 + b) := by omega
  rcases key with e1 | ⟨e1, e2⟩ | ⟨e1, e2, e3⟩ | ⟨e1, e2, e3⟩
  all_goals
    repeat' (first
      | ((apply al_call 89; refine JL_o (by exact OpR_callF en89 rfl (halvesR_r _ id hi)) rfl rfl ?_; rintro _ _ ⟨rfl, hE⟩; rw [← had, ← hbd]; have hs := hs.ext hE; (try simp only [List.cons_append, List.nil_append] at hs)))
      | ((apply al_call 90; refine JL_o (by exact OpR_callF en90 rfl (madeR_r _ 0 a b (by omega) ha hb)) rfl rfl ?_; rintro _ _ ⟨rfl, hE⟩; have hs := hs.ext hE; (try simp only [List.cons_append, List.nil_append] at hs)))
      | ((apply al_call 90; refine JL_o (by exact OpR_callF en90 rfl (madeR_r _ 4611686018427387904 0 b (by omega) (by omega) hb)) rfl rfl ?_; rintro _ _ ⟨rfl, hE⟩; have hs := hs.ext hE; (try simp only [List.cons_append, List.nil_append] at hs)))
      | ((apply al_call 90; refine JL_o (by exact OpR_callF en90 rfl (madeR_r _ 9223372036854775808 a b (by omega) ha hb)) rfl rfl ?_; rintro _ _ ⟨rfl, hE⟩; have hs := hs.ext hE; (try simp only [List.cons_append, List.nil_append] at hs)))
      | ((apply al_callg 27; refine JL_o_on rfl gb (by exact OpR_callF en27 rfl (isR_r _ _ _ _)) rfl rfl ?_; rintro _ _ ⟨rfl, hE⟩; unfold inB; have hs := hs.ext hE; (try simp only [List.cons_append, List.nil_append] at hs)))
      | (apply JL_nil)
      | ((first | (apply JL_pure) | (apply JL_pure_on; exact rfl; exact gb)); (first
      | (apply as_move; exact OpR_move rfl is_rfl)
      | (apply as_assign; exact OpR_assign rfl is_rfl)
      | (apply as_binOp; exact OpR_ibin rfl rfl rfl is_rfl)
      | (apply as_pick; first | exact OpR_pick_t rfl gb rfl is_rfl | exact OpR_pick_f rfl gb rfl is_rfl)
      | (apply as_extract; exact OpR_extract rfl rfl is_rfl)); first | (exact rfl; exact rfl) | exact rfl)
      | (apply J_seq)
      | (apply J_region)
      | (apply J_block)
      | (apply J_inBlock)
      | (apply J_skip)
      | (apply al_guard; first
    | (refine JL_no rfl gb rfl ?_)
    | ((fail_if_success (apply JL_o_on rfl gb)); first | (refine JL_split_dec rfl (fun _ => ?_) (fun _ => ?_)) | (refine JL_split rfl (fun _ => ?_) (fun _ => ?_))))
      | (apply aj_cond; first | refine J_cond_f rfl gb ?_ | (refine J_cond_dec rfl (fun _ => ?_) (fun _ => ?_))))
    all_goals refine J_leave Tryz.func28 rfl (.tmp rfl .nil) ⟨?_, hs.frm.ext⟩
    all_goals
      show Value.int IntKind.i64 _ = Value.int IntKind.i64 _
      congr 1
      unfold kindP
      (repeat' split) <;> omega
end Go.Eng
/- Ids: the program's kinds. -/
namespace Go.Eng
open Go.Proofs
set_option linter.unusedSimpArgs false
set_option linter.unusedVariables false
theorem ior_addI (n : Nat) {q y : Int} (hq : 0 ≤ q) (hy : 0 ≤ y ∧ y < 2 ^ n) : ior (q * 2 ^ n) y = q * 2 ^ n + y := by
  have e2 : ((2 : Int) ^ n) = ((2 ^ n : Nat) : Int) := by simp
  have e1 : (q * 2 ^ n).toNat = q.toNat * 2 ^ n := by
    rw [e2, show q = ((q.toNat : Nat) : Int) by omega, ← Int.natCast_mul, Int.toNat_natCast, Int.toNat_natCast]
  unfold ior
  rw [ior_add n q.toNat e1 (by omega), e1, e2, Int.natCast_add, Int.natCast_mul, Int.toNat_of_nonneg hq, Int.toNat_of_nonneg hy.1]
theorem iand_30 {x : Int} (h : 0 ≤ x) : iand x 1073741823 = x % 1073741824 := by
  have := iand_mask x 30
  rw [show (2 : Int) ^ 30 - 1 = 1073741823 by decide, show (2 : Int) ^ 30 = 1073741824 by decide] at this
  rw [this]; omega
theorem sl_blkE {k : IntKind} {w : World} {b e : Nat} {cs : Array Value} (vs : List Int) (h : w.heap[b]? = some (.cells cs e (0, 0))) (hc : cs = (vs.map (Value.int k)).toArray) (hk : ∀ v ∈ vs, inK k v) (hm : vs.length ≤ maxLen) : Sl (tInt k) All w (some ⟨b, 0, none⟩) vs.length vs.length vs := by
  subst hc
  have hr : RowV w (some ⟨b, 0, none⟩) vs.length vs.length e 1 (vs.map (Value.int k)) := ⟨by simp, Nat.le_refl _, hm, .inr ⟨b, 0, _, rfl, h, by simp, by simp [List.take_of_length_le]⟩⟩
  exact (RowV.sl hr hk).weak (fun _ _ => trivial)
theorem inKi {x : Int} (h : 0 ≤ x ∧ x < 1073741824) : inK .i64 x := by unfold inK; omega
def k1B (id a b : Int) : Bool := decide (id = a * 4294967296 + b ∧ (1 ≤ b ∧ b ≤ 1048578) ∧ 0 ≤ a ∧ a ≤ 7)
def k2B (id b : Int) : Bool := decide (id = 4611686018427387904 + b ∧ 1 ≤ b ∧ b ≤ 24)
def k3B (id a b : Int) : Bool := decide (id = 9223372036854775808 + a * 4294967296 + b ∧ (1 ≤ a ∧ a ≤ 1048578) ∧ 1 ≤ b ∧ b ≤ 1048578)
def k4B (id a b : Int) : Bool := decide (id = 9223372036854775808 + a * 4294967296 + b ∧ (0 ≤ a ∧ a ≤ 1048578) ∧ 0 ≤ b ∧ b ≤ 1048578)
attribute [local irreducible] Hold J JL JD JX JXat OpR OpG Ret RetV Is Blk Row MapC
set_option maxRecDepth 100000
set_option maxHeartbeats 1000000
theorem halves_r (w : World) (id : Int) (hi : inK .u64 id) : Ret Tryz.prog 208 #[.int .u64 id] w fun v w' => v = .tuple #[.int .i64 (idA id), .int .i64 (idB id)] ∧ Ext w w' := by
  refine Ret_of (l := [_]) Tryz.func208 rfl Tryz.ntmps208 (by simp) ?_
  have hs := St.init w
  have hu := inK_u hi
  have e1 : iand (id / 2 ^ 32) 1073741823 = idA id := by rw [iand_30 (Int.ediv_nonneg hu.1 (by decide))]; rfl
  have e2 : iand id 1073741823 = idB id := iand_30 hu.1
  have ha := idA_lt id
  have hb := idB_lt id
  have hq : 0 ≤ id / 2 ^ 32 ∧ id / 2 ^ 32 < 18446744073709551616 := by rw [show (2 : Int) ^ 32 = 4294967296 by decide]; omega
  repeat' (first
    | (apply JL_nil)
    | ((apply JL_pure); (first
      | (apply as_binOp; first | exact OpR_shr (n := 32) rfl rfl (by decide) rfl is_rfl | exact OpR_band rfl rfl hq (by decide) (by rw [e1]; exact is_rfl) | exact OpR_band rfl rfl hu (by decide) (by rw [e2]; exact is_rfl))
      | (apply as_move; exact OpR_move rfl is_rfl)
      | (apply as_assign; exact OpR_assign rfl is_rfl)
      | (apply as_convert; exact OpR_conv_i rfl (by omega) is_rfl)); first | (exact rfl; exact rfl) | exact rfl)
    | (apply J_seq)
    | (apply J_region))
  refine J_leave Tryz.func208 rfl (.tmp rfl (.tmp rfl .nil)) ⟨rfl, hs.frm.ext⟩
theorem packed_r (w : World) (m a b : Int) (hm : m = 0 ∨ m = 4611686018427387904 ∨ m = 9223372036854775808) (ha : 0 ≤ a ∧ a < 1073741824) (hb : 0 ≤ b ∧ b < 1073741824) : Ret Tryz.prog 166 #[.int .u64 m, .int .i64 a, .int .i64 b] w fun v w' => v = .int .u64 (m + a * 4294967296 + b) ∧ Ext w w' := by
  refine Ret_of (l := [_, _, _]) Tryz.func166 rfl Tryz.ntmps166 (by simp) ?_
  have hs := St.init w
  have e1 : IntKind.u64.wrap (a * 2 ^ 32) = a * 4294967296 := by
    rw [show (2 : Int) ^ 32 = 4294967296 by decide]; simp only [IntKind.wrap, IntKind.bits, IntKind.signed]; simp; omega
  have e2 : ior m (a * 4294967296) = m + a * 4294967296 := by
    obtain ⟨q, hq, rfl⟩ : ∃ q : Int, 0 ≤ q ∧ m = q * 2 ^ 62 := by
      rcases hm with rfl | rfl | rfl
      · exact ⟨0, by decide, by decide⟩
      · exact ⟨1, by decide, by decide⟩
      · exact ⟨2, by decide, by decide⟩
    exact ior_addI 62 hq (by rw [show (2 : Int) ^ 62 = 4611686018427387904 by decide]; omega)
  have e3 : ior (m + a * 4294967296) b = m + a * 4294967296 + b := by
    obtain ⟨q, hq, he⟩ : ∃ q : Int, 0 ≤ q ∧ m + a * 4294967296 = q * 2 ^ 32 := by
      rw [show (2 : Int) ^ 32 = 4294967296 by decide]
      rcases hm with rfl | rfl | rfl
      · exact ⟨a, ha.1, by omega⟩
      · exact ⟨1073741824 + a, by omega, by omega⟩
      · exact ⟨2147483648 + a, by omega, by omega⟩
    rw [he]
    exact ior_addI 32 hq (by rw [show (2 : Int) ^ 32 = 4294967296 by decide]; omega)
  repeat' (first
    | (apply JL_nil)
    | ((apply JL_pure); (first
      | (apply as_binOp; first | exact OpR_shl (n := 32) rfl rfl (by decide) rfl (by rw [e1]; exact is_rfl) | exact OpR_bor rfl rfl (by omega) (by omega) (by rw [e2]; exact is_rfl) | exact OpR_bor rfl rfl (by omega) (by omega) (by rw [e3]; exact is_rfl))
      | (apply as_move; exact OpR_move rfl is_rfl)
      | (apply as_assign; exact OpR_assign rfl is_rfl)
      | (apply as_convert; exact OpR_conv_u rfl (by omega) is_rfl)); first | (exact rfl; exact rfl) | exact rfl)
    | (apply J_seq)
    | (apply J_region))
  refine J_leave Tryz.func166 rfl (.tmp rfl .nil) ⟨rfl, hs.frm.ext⟩
theorem within_r (w : World) (lo hi : Int) (a : Option Addr) (n c : Nat) (xs : List Int) (h : Sl (tInt .i64) All w a n c xs) :
    Ret Tryz.prog 165 #[.int .i64 lo, .int .i64 hi, .slice a n c] w fun v w' => v = .bool (xs.all (inB lo hi)) ∧ Ext w w' := by
  refine Ret_of (l := [_, _, _]) Tryz.func165 rfl Tryz.ntmps165 (by simp) ?_
  have hs := St.init w
  have hl := h.len
  have hc := h.le
  have hm := h.cap
  unfold maxLen at hm
  repeat' (first
    | (apply JL_nil)
    | ((apply JL_pure); (first
      | (apply as_move; exact OpR_move rfl is_rfl)
      | (apply as_assign; exact OpR_assign rfl is_rfl)
      | (apply as_b_len; exact OpR_len rfl is_rfl)); first | (exact rfl; exact rfl) | exact rfl)
    | (apply J_seq)
    | (apply J_region)
    | (apply J_block)
    | (apply J_label)
    | (apply J_scope))
  refine J_loopK (α := Nat) [(0, _), (1, _), (10, _), (11, _)] (fun k => [(7, .bool true), (12, .int .i64 k)]) (fun k w' => St w NoF w' [] ∧ k ≤ n ∧ ∀ y ∈ xs.take k, inB lo hi y = true) (fun k => n - k) 0 ⟨hs, by omega, by simp⟩ (by repeat' (first | exact trivial | exact rfl | apply And.intro)) ?_
  rintro k w' ⟨hs, hk, hj⟩ ih
  by_cases hlt : k < n
  · obtain ⟨p1, o1, rfl⟩ := h.sl.addr (by omega)
    have hx : xs[k]? = some xs[k] := List.getElem?_eq_getElem (by omega)
    obtain ⟨x, hxd⟩ : ∃ x, x = xs[k] := ⟨_, rfl⟩
    rw [← hxd] at hx
    by_cases hin : lo ≤ x ∧ x ≤ hi
    · obtain ⟨h1, h2⟩ := hin
      repeat' (first
        | (apply JL_nil)
        | ((first | (apply JL_pure) | (apply JL_pure_on; exact rfl; exact gb)); (first
      | (apply as_load; exact OpR_load_int (h.st hs).sl rfl hx is_rfl)
      | (apply as_move; exact OpR_move rfl is_rfl)
      | (apply as_assign; exact OpR_assign rfl is_rfl)
      | (apply as_add; exact OpR_addn rfl rfl (by omega) (by first | (simp only [Int.reduceAdd]; exact rfl) | exact rfl) is_rfl)
      | (apply as_binOp; exact OpR_ibin rfl rfl rfl is_rfl)
      | (apply as_unOp; exact OpR_not rfl is_rfl)
      | (apply as_pick; exact OpR_pick_t rfl gb rfl is_rfl)
      | (apply as_indexAddr; exact OpR_indexAddr rfl rfl (by omega) (by omega) is_rfl)); first | (exact rfl; exact rfl) | exact rfl)
        | (apply J_seq)
        | (apply J_region)
        | (apply J_block)
        | (apply J_inBlock)
        | (apply J_skip)
        | (apply aj_cond; first | refine J_dec_t rfl ob ?_ | refine J_cond_f rfl gb ?_))
      refine ih (k + 1) _ _ ⟨hs, by omega, fun y hy => ?_⟩ (by omega) (by repeat' (first | exact trivial | exact rfl | exact congrArg (fun z => some (Value.bool z)) (decide_eq_true h2) | apply And.intro))
      rw [List.take_add_one, hx] at hy
      rcases List.mem_append.1 hy with hy | hy
      · exact hj y hy
      · have hy : y = x := by simpa using hy
        rw [hy]; unfold inB; exact decide_eq_true ⟨h1, h2⟩
    · have hf : xs.all (inB lo hi) = false := by
        rw [List.all_eq_false]
        exact ⟨x, List.mem_of_getElem? hx, by unfold inB; simp [hin]⟩
      rw [hf]
      have hin2 : ¬ lo ≤ x ∨ (lo ≤ x ∧ ¬ x ≤ hi) := by omega
      rcases hin2 with h1 | ⟨h1, h2⟩
      all_goals
        repeat' (first
          | (apply JL_nil)
          | ((first | (apply JL_pure) | (apply JL_pure_on; exact rfl; exact gb)); (first
      | (apply as_load; exact OpR_load_int (h.st hs).sl rfl hx is_rfl)
      | (apply as_move; exact OpR_move rfl is_rfl)
      | (apply as_assign; exact OpR_assign rfl is_rfl)
      | (apply as_binOp; exact OpR_ibin rfl rfl rfl is_rfl)
      | (apply as_unOp; exact OpR_not rfl is_rfl)
      | (apply as_pick; first | exact OpR_pick_t rfl gb rfl is_rfl | exact OpR_pick_f rfl gb rfl is_rfl)
      | (apply as_indexAddr; exact OpR_indexAddr rfl rfl (by omega) (by omega) is_rfl)); first | (exact rfl; exact rfl) | exact rfl)
          | (apply J_seq)
          | (apply J_region)
          | (apply J_block)
          | (apply aj_exit; refine J_exit rfl ?_)
          | (apply J_skip)
          | (apply al_guard; (refine JL_no rfl gb rfl ?_))
          | (apply aj_cond; first | refine J_dec_t rfl ob ?_ | refine J_cond_t rfl gb ?_))
        refine J_leave Tryz.func165 rfl (.tmp rfl .nil) ⟨by simp [mkRes]; try omega, hs.frm.ext⟩
  · rw [List.take_of_length_le (by omega)] at hj
    have hf : xs.all (inB lo hi) = true := List.all_eq_true.2 hj
    rw [hf]
    repeat' (first
      | (apply JL_nil)
      | ((apply JL_pure); (first
      | (apply as_move; exact OpR_move rfl is_rfl)
      | (apply as_assign; exact OpR_assign rfl is_rfl)
      | (apply as_binOp; exact OpR_ibin rfl rfl rfl is_rfl)); first | (exact rfl; exact rfl) | exact rfl)
      | (apply J_seq)
      | (apply J_region)
      | (apply aj_exit; refine J_exit rfl ?_)
      | (apply aj_cond; refine J_dec_f rfl ob ?_))
    refine J_leave Tryz.func165 rfl (.tmp rfl .nil) ⟨rfl, hs.frm.ext⟩
end Go.Eng
/- Ids: the program's kinds, whole. -/
namespace Go.Eng
open Go.Proofs
set_option linter.unusedSimpArgs false
set_option linter.unusedVariables false
attribute [local irreducible] Hold J JL JD JX JXat OpR OpG Ret RetV Is Blk Row MapC
set_option maxRecDepth 100000
set_option maxHeartbeats 1000000
theorem kind1_r (w : World) (bi : Nat) (ba : Nat) (bb : Nat) (id : Int) (a : Int) (hab : 0 ≤ a ∧ a < 1073741824) (b : Int) (hbb : 0 ≤ b ∧ b < 1073741824) (hi1 : w.heap[bi]? = some (.cells #[.int .u64 id] 29 (0, 0))) (ha1 : w.heap[ba]? = some (.cells #[.int .i64 a] 3 (0, 0))) (hb1 : w.heap[bb]? = some (.cells #[.int .i64 b] 3 (0, 0))) :
    Ret Tryz.prog 209 (#[] ++ #[ptr bi, ptr ba, ptr bb]) w fun v w' => v = .bool (k1B id a b) ∧ Ext w w' := by
  refine Ret_of (l := [_, _, _]) Tryz.func209 rfl Tryz.ntmps209 (by simp) ?_
  have hs := St.init w
  unfold k1B
  by_cases e1 : id = 0 + a * 4294967296 + b
  all_goals
    repeat' (first
      | ((apply ax_c; apply JX_cF 166; exact rfl; (intro W X hN hs; exact OpR_callF en166 rfl (packed_r _ 0 a b (by simp) hab hbb)); (rintro _ _ _ _ ⟨rfl, hE⟩; first | exact hE | exact Fresh.ext hf); rintro W X _ _ hN hs ⟨rfl, hE⟩; have hs := hs.ext hE; (try simp only [List.cons_append, List.nil_append] at hs); refine JX.at hs ?_))
      | ((apply ax_c; apply JX_cFg 165; exact rfl; exact rfl; exact gb; (intro W X hN hs; exact OpR_callF en165 rfl (within_r _ _ _ (some ⟨b11, 0, none⟩) 1 1 [b] (sl_blkE [b] hs.blk rfl (by simpa using inKi hbb) (by unfold maxLen; simp)))); (rintro _ _ _ _ ⟨rfl, hE⟩; first | exact hE | exact Fresh.ext hf); rintro W X _ _ hN hs ⟨rfl, hE⟩; simp only [List.all_cons, List.all_nil, Bool.and_true]; unfold inB; have hs := hs.ext hE; (try simp only [List.cons_append, List.nil_append] at hs); refine JX.at hs ?_))
      | ((apply ax_c; apply JX_cFg 165; exact rfl; exact rfl; exact gb; (intro W X hN hs; exact OpR_callF en165 rfl (within_r _ _ _ (some ⟨b16, 0, none⟩) 1 1 [a] (sl_blkE [a] hs.blk rfl (by simpa using inKi hab) (by unfold maxLen; simp)))); (rintro _ _ _ _ ⟨rfl, hE⟩; first | exact hE | exact Fresh.ext hf); rintro W X _ _ hN hs ⟨rfl, hE⟩; simp only [List.all_cons, List.all_nil, Bool.and_true]; unfold inB; have hs := hs.ext hE; (try simp only [List.cons_append, List.nil_append] at hs); refine JX.at hs ?_))
      | (apply JL_nil)
      | ((first | (apply JL_pure) | (apply JX_f; exact rfl; intro W X hs) | (apply JX_f_on; exact rfl; exact rfl; exact gb; intro W X hs)); (first
      | (apply as_load; first | exact OpR_load_cell (hs.old_cell (cell_blk (off := 0) hi1 rfl)) rfl is_rfl | exact OpR_load_cell (hs.old_cell (cell_blk (off := 0) ha1 rfl)) rfl is_rfl | exact OpR_load_cell (hs.old_cell (cell_blk (off := 0) hb1 rfl)) rfl is_rfl)
      | (apply as_move; exact OpR_move rfl is_rfl)
      | (apply as_assign; exact OpR_assign rfl is_rfl)
      | (apply as_binOp; exact OpR_ibin rfl rfl rfl is_rfl)
      | (apply as_pick; first | exact OpR_pick_t rfl gb rfl is_rfl | exact OpR_pick_f rfl gb rfl is_rfl)); first | (exact rfl; exact rfl) | exact rfl)
      | (apply J_seq)
      | (apply J_region)
      | (apply ax_c; refine JX_c_on (t := 11) rfl rfl gb (fun W X hN hs => by apply as_buildSlice; exact OpR_buildSlice hs rfl (by omega) rfl) (by rintro _ _ _ _ ⟨_, _, _, _, h⟩; exact h.rl) rfl ?_; rintro W X _ _ hN hs0 ⟨b11, rfl, hb11, hs, hE⟩; refine JX.at hs ?_)
      | (apply ax_c; refine JX_c_on (t := 16) rfl rfl gb (fun W X hN hs => by apply as_buildSlice; exact OpR_buildSlice hs rfl (by omega) rfl) (by rintro _ _ _ _ ⟨_, _, _, _, h⟩; exact h.rl) rfl ?_; rintro W X _ _ hN hs0 ⟨b16, rfl, hb16, hs, hE⟩; refine JX.at hs ?_)
      | (apply aj_draw; (refine J_drawX (id := 1) [0, 0, 0, 6, 15, 31, 63, 127, 255, 511, 1023, 2047, 4095, 8191, 16383, 32767] [(0, 0), (1, 0), (2, 0), (3, 1), (4, 0), (5, 0), (6, 0), (7, 1), (8, 1), (9, 0), (10, 0), (11, 0), (12, 1), (13, 1), (14, 0), (15, 0)] [] hs mixed (by kernel_rfl) (by kernel_rfl) (by kernel_rfl) (by kernel_rfl) (by kernel_rfl) ?_))
      | (refine JX_done (fun W hs => ?_))
      | (refine JX_f_off rfl rfl gb rfl ?_)
      | (refine JX_c_off rfl rfl gb rfl ?_)
      | (refine JX_split_dec rfl rfl (fun hq => ?_) (fun hq => ?_); (fail_if_success (exact absurd (by clear hq; first | assumption | omega) (not_not_intro hq))); rotate_left; (fail_if_success (exact absurd (by clear hq; first | assumption | omega) hq)); rotate_left)
      | (apply JD_done))
    all_goals refine J_leave Tryz.func209 rfl (.tmp rfl .nil) ⟨?_, hs.frm.ext⟩
    all_goals
      show Value.bool _ = Value.bool _
      congr 1
      first | exact (decide_eq_true (by omega)).symm | exact (decide_eq_false (by omega)).symm | (rw [decide_eq_decide]; omega)
theorem kind2_r (w : World) (bi : Nat) (bb : Nat) (id : Int) (b : Int) (hbb : 0 ≤ b ∧ b < 1073741824) (hi1 : w.heap[bi]? = some (.cells #[.int .u64 id] 29 (0, 0))) (hb1 : w.heap[bb]? = some (.cells #[.int .i64 b] 3 (0, 0))) :
    Ret Tryz.prog 210 (#[] ++ #[ptr bi, ptr bb]) w fun v w' => v = .bool (k2B id b) ∧ Ext w w' := by
  refine Ret_of (l := [_, _]) Tryz.func210 rfl Tryz.ntmps210 (by simp) ?_
  have hs := St.init w
  unfold k2B
  by_cases e1 : id = 4611686018427387904 + 0 * 4294967296 + b
  all_goals
    repeat' (first
      | ((apply ax_c; apply JX_cF 166; exact rfl; (intro W X hN hs; exact OpR_callF en166 rfl (packed_r _ 4611686018427387904 0 b (by simp) (by omega) hbb)); (rintro _ _ _ _ ⟨rfl, hE⟩; first | exact hE | exact Fresh.ext hf); rintro W X _ _ hN hs ⟨rfl, hE⟩; have hs := hs.ext hE; (try simp only [List.cons_append, List.nil_append] at hs); refine JX.at hs ?_))
      | ((apply ax_c; apply JX_cFg 165; exact rfl; exact rfl; exact gb; (intro W X hN hs; exact OpR_callF en165 rfl (within_r _ _ _ (some ⟨b9, 0, none⟩) 1 1 [b] (sl_blkE [b] hs.blk rfl (by simpa using inKi hbb) (by unfold maxLen; simp)))); (rintro _ _ _ _ ⟨rfl, hE⟩; first | exact hE | exact Fresh.ext hf); rintro W X _ _ hN hs ⟨rfl, hE⟩; simp only [List.all_cons, List.all_nil, Bool.and_true]; unfold inB; have hs := hs.ext hE; (try simp only [List.cons_append, List.nil_append] at hs); refine JX.at hs ?_))
      | (apply JL_nil)
      | ((first | (apply JL_pure) | (apply JX_f; exact rfl; intro W X hs) | (apply JX_f_on; exact rfl; exact rfl; exact gb; intro W X hs)); (first
      | (apply as_load; first | exact OpR_load_cell (hs.old_cell (cell_blk (off := 0) hi1 rfl)) rfl is_rfl | exact OpR_load_cell (hs.old_cell (cell_blk (off := 0) hb1 rfl)) rfl is_rfl)
      | (apply as_move; exact OpR_move rfl is_rfl)
      | (apply as_assign; exact OpR_assign rfl is_rfl)
      | (apply as_binOp; exact OpR_ibin rfl rfl rfl is_rfl)
      | (apply as_pick; first | exact OpR_pick_t rfl gb rfl is_rfl | exact OpR_pick_f rfl gb rfl is_rfl)); first | (exact rfl; exact rfl) | exact rfl)
      | (apply J_seq)
      | (apply J_region)
      | (apply ax_c; refine JX_c_on (t := 9) rfl rfl gb (fun W X hN hs => by apply as_buildSlice; exact OpR_buildSlice hs rfl (by omega) rfl) (by rintro _ _ _ _ ⟨_, _, _, _, h⟩; exact h.rl) rfl ?_; rintro W X _ _ hN hs0 ⟨b9, rfl, hb9, hs, hE⟩; refine JX.at hs ?_)
      | (apply aj_draw; (refine J_drawX (id := 1) [0, 0, 2, 7, 15, 31, 63, 127, 255, 511] [(0, 0), (1, 0), (2, 1), (3, 0), (4, 0), (5, 0), (6, 1), (7, 1), (8, 0), (9, 0)] [] hs mixed (by kernel_rfl) (by kernel_rfl) (by kernel_rfl) (by kernel_rfl) (by kernel_rfl) ?_))
      | (refine JX_done (fun W hs => ?_))
      | (refine JX_f_off rfl rfl gb rfl ?_)
      | (refine JX_c_off rfl rfl gb rfl ?_)
      | (apply JD_done))
    all_goals refine J_leave Tryz.func210 rfl (.tmp rfl .nil) ⟨?_, hs.frm.ext⟩
    all_goals
      show Value.bool _ = Value.bool _
      congr 1
      first | exact (decide_eq_true (by omega)).symm | exact (decide_eq_false (by omega)).symm | (rw [decide_eq_decide]; omega)
theorem kind3_r (w : World) (bi : Nat) (ba : Nat) (bb : Nat) (id : Int) (a : Int) (hab : 0 ≤ a ∧ a < 1073741824) (b : Int) (hbb : 0 ≤ b ∧ b < 1073741824) (hi1 : w.heap[bi]? = some (.cells #[.int .u64 id] 29 (0, 0))) (ha1 : w.heap[ba]? = some (.cells #[.int .i64 a] 3 (0, 0))) (hb1 : w.heap[bb]? = some (.cells #[.int .i64 b] 3 (0, 0))) :
    Ret Tryz.prog 211 (#[] ++ #[ptr bi, ptr ba, ptr bb]) w fun v w' => v = .bool (k3B id a b) ∧ Ext w w' := by
  refine Ret_of (l := [_, _, _]) Tryz.func211 rfl Tryz.ntmps211 (by simp) ?_
  have hs := St.init w
  unfold k3B
  by_cases e1 : id = 9223372036854775808 + a * 4294967296 + b
  all_goals
    repeat' (first
      | ((apply ax_c; apply JX_cF 166; exact rfl; (intro W X hN hs; exact OpR_callF en166 rfl (packed_r _ 9223372036854775808 a b (by simp) hab hbb)); (rintro _ _ _ _ ⟨rfl, hE⟩; first | exact hE | exact Fresh.ext hf); rintro W X _ _ hN hs ⟨rfl, hE⟩; have hs := hs.ext hE; (try simp only [List.cons_append, List.nil_append] at hs); refine JX.at hs ?_))
      | ((apply ax_c; apply JX_cFg 165; exact rfl; exact rfl; exact gb; (intro W X hN hs; exact OpR_callF en165 rfl (within_r _ _ _ (some ⟨b12, 0, none⟩) 2 2 [a, b] (sl_blkE [a, b] hs.blk rfl (by simpa using ⟨inKi hab, inKi hbb⟩) (by unfold maxLen; simp)))); (rintro _ _ _ _ ⟨rfl, hE⟩; first | exact hE | exact Fresh.ext hf); rintro W X _ _ hN hs ⟨rfl, hE⟩; simp only [List.all_cons, List.all_nil, Bool.and_true]; unfold inB; have hs := hs.ext hE; (try simp only [List.cons_append, List.nil_append] at hs); refine JX.at hs ?_))
      | (apply JL_nil)
      | ((first | (apply JL_pure) | (apply JX_f; exact rfl; intro W X hs) | (apply JX_f_on; exact rfl; exact rfl; exact gb; intro W X hs)); (first
      | (apply as_load; first | exact OpR_load_cell (hs.old_cell (cell_blk (off := 0) hi1 rfl)) rfl is_rfl | exact OpR_load_cell (hs.old_cell (cell_blk (off := 0) ha1 rfl)) rfl is_rfl | exact OpR_load_cell (hs.old_cell (cell_blk (off := 0) hb1 rfl)) rfl is_rfl)
      | (apply as_move; exact OpR_move rfl is_rfl)
      | (apply as_assign; exact OpR_assign rfl is_rfl)
      | (apply as_binOp; exact OpR_ibin rfl rfl rfl is_rfl)
      | (apply as_pick; first | exact OpR_pick_t rfl gb rfl is_rfl | exact OpR_pick_f rfl gb rfl is_rfl)); first | (exact rfl; exact rfl) | exact rfl)
      | (apply J_seq)
      | (apply J_region)
      | (apply ax_c; refine JX_c_on (t := 12) rfl rfl gb (fun W X hN hs => by apply as_buildSlice; exact OpR_buildSlice hs rfl (by omega) rfl) (by rintro _ _ _ _ ⟨_, _, _, _, h⟩; exact h.rl) rfl ?_; rintro W X _ _ hN hs0 ⟨b12, rfl, hb12, hs, hE⟩; refine JX.at hs ?_)
      | (apply aj_draw; (refine J_drawX (id := 1) [0, 0, 0, 6, 15, 31, 63, 63, 255, 511, 1023, 2047] [(0, 0), (1, 0), (2, 0), (3, 1), (4, 0), (5, 0), (6, 0), (7, 0), (8, 1), (9, 1), (10, 0), (11, 0)] [] hs mixed (by kernel_rfl) (by kernel_rfl) (by kernel_rfl) (by kernel_rfl) (by kernel_rfl) ?_))
      | (refine JX_done (fun W hs => ?_))
      | (refine JX_f_off rfl rfl gb rfl ?_)
      | (refine JX_c_off rfl rfl gb rfl ?_)
      | (apply JD_done))
    all_goals refine J_leave Tryz.func211 rfl (.tmp rfl .nil) ⟨?_, hs.frm.ext⟩
    all_goals
      show Value.bool _ = Value.bool _
      congr 1
      first | exact (decide_eq_true (by omega)).symm | exact (decide_eq_false (by omega)).symm | (rw [← Bool.decide_and, decide_eq_decide]; omega)
theorem kind4_r (w : World) (bi : Nat) (ba : Nat) (bb : Nat) (id : Int) (a : Int) (hab : 0 ≤ a ∧ a < 1073741824) (b : Int) (hbb : 0 ≤ b ∧ b < 1073741824) (hi1 : w.heap[bi]? = some (.cells #[.int .u64 id] 29 (0, 0))) (ha1 : w.heap[ba]? = some (.cells #[.int .i64 a] 3 (0, 0))) (hb1 : w.heap[bb]? = some (.cells #[.int .i64 b] 3 (0, 0))) :
    Ret Tryz.prog 212 (#[] ++ #[ptr bi, ptr ba, ptr bb]) w fun v w' => v = .bool (k4B id a b) ∧ Ext w w' := by
  refine Ret_of (l := [_, _, _]) Tryz.func212 rfl Tryz.ntmps212 (by simp) ?_
  have hs := St.init w
  unfold k4B
  by_cases e1 : id = 9223372036854775808 + a * 4294967296 + b
  all_goals
    repeat' (first
      | ((apply ax_c; apply JX_cF 166; exact rfl; (intro W X hN hs; exact OpR_callF en166 rfl (packed_r _ 9223372036854775808 a b (by simp) hab hbb)); (rintro _ _ _ _ ⟨rfl, hE⟩; first | exact hE | exact Fresh.ext hf); rintro W X _ _ hN hs ⟨rfl, hE⟩; have hs := hs.ext hE; (try simp only [List.cons_append, List.nil_append] at hs); refine JX.at hs ?_))
      | ((apply ax_c; apply JX_cFg 165; exact rfl; exact rfl; exact gb; (intro W X hN hs; exact OpR_callF en165 rfl (within_r _ _ _ (some ⟨b12, 0, none⟩) 2 2 [a, b] (sl_blkE [a, b] hs.blk rfl (by simpa using ⟨inKi hab, inKi hbb⟩) (by unfold maxLen; simp)))); (rintro _ _ _ _ ⟨rfl, hE⟩; first | exact hE | exact Fresh.ext hf); rintro W X _ _ hN hs ⟨rfl, hE⟩; simp only [List.all_cons, List.all_nil, Bool.and_true]; unfold inB; have hs := hs.ext hE; (try simp only [List.cons_append, List.nil_append] at hs); refine JX.at hs ?_))
      | (apply JL_nil)
      | ((first | (apply JL_pure) | (apply JX_f; exact rfl; intro W X hs) | (apply JX_f_on; exact rfl; exact rfl; exact gb; intro W X hs)); (first
      | (apply as_load; first | exact OpR_load_cell (hs.old_cell (cell_blk (off := 0) hi1 rfl)) rfl is_rfl | exact OpR_load_cell (hs.old_cell (cell_blk (off := 0) ha1 rfl)) rfl is_rfl | exact OpR_load_cell (hs.old_cell (cell_blk (off := 0) hb1 rfl)) rfl is_rfl)
      | (apply as_move; exact OpR_move rfl is_rfl)
      | (apply as_assign; exact OpR_assign rfl is_rfl)
      | (apply as_binOp; exact OpR_ibin rfl rfl rfl is_rfl)
      | (apply as_pick; first | exact OpR_pick_t rfl gb rfl is_rfl | exact OpR_pick_f rfl gb rfl is_rfl)); first | (exact rfl; exact rfl) | exact rfl)
      | (apply J_seq)
      | (apply J_region)
      | (apply ax_c; refine JX_c_on (t := 12) rfl rfl gb (fun W X hN hs => by apply as_buildSlice; exact OpR_buildSlice hs rfl (by omega) rfl) (by rintro _ _ _ _ ⟨_, _, _, _, h⟩; exact h.rl) rfl ?_; rintro W X _ _ hN hs0 ⟨b12, rfl, hb12, hs, hE⟩; refine JX.at hs ?_)
      | (apply aj_draw; (refine J_drawX (id := 1) [0, 0, 0, 6, 15, 31, 63, 63, 255, 511, 1023, 2047] [(0, 0), (1, 0), (2, 0), (3, 1), (4, 0), (5, 0), (6, 0), (7, 0), (8, 1), (9, 1), (10, 0), (11, 0)] [] hs mixed (by kernel_rfl) (by kernel_rfl) (by kernel_rfl) (by kernel_rfl) (by kernel_rfl) ?_))
      | (refine JX_done (fun W hs => ?_))
      | (refine JX_f_off rfl rfl gb rfl ?_)
      | (refine JX_c_off rfl rfl gb rfl ?_)
      | (apply JD_done))
    all_goals refine J_leave Tryz.func212 rfl (.tmp rfl .nil) ⟨?_, hs.frm.ext⟩
    all_goals
      show Value.bool _ = Value.bool _
      congr 1
      first | exact (decide_eq_true (by omega)).symm | exact (decide_eq_false (by omega)).symm | (rw [← Bool.decide_and, decide_eq_decide]; omega)
theorem kindM_eq (id : Int) : kindM id = if k1B id (idA id) (idB id) then 1 else if k2B id (idB id) then 2 else if k3B id (idA id) (idB id) then 3 else if k4B id (idA id) (idB id) then 4 else 0 := by
  unfold kindM kindP k1B k2B k3B k4B
  simp only [decide_eq_true_eq]
theorem kind_r (w : World) (id : Int) (hi : inK .u64 id) : Ret Tryz.prog 152 #[.int .u64 id] w fun v w' => v = .int .i64 (kindM id) ∧ Ext w w' := by
  refine Ret_of (l := [_]) Tryz.func152 rfl Tryz.ntmps152 (by simp) ?_
  have hs := St.init w
  have hA := idA_lt id
  have hB := idB_lt id
  rw [kindM_eq]
  obtain ⟨a, had⟩ : ∃ a, a = idA id := ⟨_, rfl⟩
  obtain ⟨b, hbd⟩ : ∃ b, b = idB id := ⟨_, rfl⟩
  rw [← had] at hA
  rw [← hbd] at hB
  rw [← had, ← hbd]
  repeat' (first
    | ((apply al_call 208; refine JL_o (by exact OpR_callF en208 rfl (halves_r _ id hi)) rfl rfl ?_; rintro _ _ ⟨rfl, hE⟩; rw [← had, ← hbd]; have hs := hs.ext hE; (try simp only [List.cons_append, List.nil_append] at hs)))
    | (apply JL_nil)
    | ((apply JL_pure); (first
      | (apply as_move; exact OpR_move rfl is_rfl)
      | (apply as_assign; exact OpR_assign rfl is_rfl)
      | (apply as_load; exact OpR_load' hs rfl rfl is_rfl)
      | (apply as_extract; exact OpR_extract rfl rfl is_rfl)
      | (apply as_makeFunc; exact OpR_func rfl is_rfl)
      | (apply as_build; exact OpR_build_arr rfl (by (simp only [bld, placesOf, splice, Value.cells, List.take_succ_cons, List.take_zero, List.drop_succ_cons, List.drop_zero, List.cons_append, List.nil_append, List.length_cons, List.length_nil, List.getElem?_cons_zero, List.getElem?_cons_succ, Option.map_some, List.append_nil, Nat.reduceAdd, Nat.reduceMul, Nat.zero_add, Nat.reduceLeDiff, and_self, if_true, List.toList_toArray, Nat.le_refl, Nat.zero_mul, Nat.one_mul]; first | done | rfl)) is_rfl)); first | (exact rfl; exact rfl) | exact rfl)
    | (apply J_seq)
    | (apply J_region)
    | (apply J_block)
    | (apply al_none (t := 1); refine JL_o (by apply as_box; exact OpR_box' hs rfl) rfl rfl ?_; rintro _ _ ⟨b1, rfl, hb1, hs, hE⟩)
    | (apply al_none (t := 3); refine JL_o (by apply as_alloc; exact OpR_alloc' hs) rfl rfl ?_; rintro _ _ ⟨b3, rfl, hb3, hs, hE⟩)
    | (apply al_none (t := 4); refine JL_o (by apply as_alloc; exact OpR_alloc' hs) rfl rfl ?_; rintro _ _ ⟨b4, rfl, hb4, hs, hE⟩)
    | (apply al_none (t := 5); refine JL_o (by apply as_alloc; exact OpR_alloc' hs) rfl rfl ?_; rintro _ _ ⟨b5, rfl, hb5, hs, hE⟩)
    | (apply al_unit; refine JL_u (by apply as_store; exact OpR_store' hs rfl rfl rfl) rfl ?_; rintro _ _ ⟨hs, hF⟩))
  obtain ⟨q1, hq1⟩ : ∃ q, q = k1B id a b := ⟨_, rfl⟩
  obtain ⟨q2, hq2⟩ : ∃ q, q = k2B id b := ⟨_, rfl⟩
  obtain ⟨q3, hq3⟩ : ∃ q, q = k3B id a b := ⟨_, rfl⟩
  obtain ⟨q4, hq4⟩ : ∃ q, q = k4B id a b := ⟨_, rfl⟩
  rw [← hq1, ← hq2, ← hq3, ← hq4]
  refine J_loopK (α := Nat) [(5, _)] (fun k => [(6, .int .i64 k)]) (fun k w' => St w NoF w' [Blk b5 (.cells #[.nilFunc, .func (.func 209) #[] #[ptr b1, ptr b3, ptr b4], .func (.func 210) #[] #[ptr b1, ptr b4], .func (.func 211) #[] #[ptr b1, ptr b3, ptr b4], .func (.func 212) #[] #[ptr b1, ptr b3, ptr b4]] 239 (0, 0)), Blk b4 (.cells #[.int .i64 b] 3 (0, 0)), Blk b3 (.cells #[.int .i64 a] 3 (0, 0)), Blk b1 (.cells #[.int .u64 id] 29 (0, 0))] ∧ 1 ≤ k ∧ k ≤ 5 ∧ (1 < k → q1 = false) ∧ (2 < k → q2 = false) ∧ (3 < k → q3 = false) ∧ (4 < k → q4 = false)) (fun k => 5 - k) 1 ⟨hs, by omega, by omega, by omega, by omega, by omega, by omega⟩ (by repeat' (first | exact trivial | exact rfl | apply And.intro)) ?_
  rintro k w2 ⟨hs1, hk1, hk5, i1, i2, i3, i4⟩ ih
  have hs : St w NoF w2 [_, _, _, _] := hs1
  have hk : k = 1 ∨ k = 2 ∨ k = 3 ∨ k = 4 ∨ k = 5 := by omega
  rcases hk with h5 | h5 | h5 | h5 | h5
  · have hk2 : k = 1 := h5
    subst hk2
    obtain h | h : q1 = true ∨ q1 = false := by cases q1 <;> simp
    · have hk : k1B id a b = true := by rw [← hq1, h]
      repeat' (first
        | ((apply al_none (t := 24); refine JL_o (OpR_callV rfl rfl (Ret.value (cap := #[ptr b1, ptr b3, ptr b4]) en209 (kind1_r _ b1 b3 b4 id a hA b hB hs.blk hs.blk hs.blk))) rfl rfl ?_; rintro _ _ ⟨rfl, hE⟩; rw [hk]; have hs := hs.ext hE))
        | (apply JL_nil)
        | ((apply JL_pure); (first
      | (apply as_move; exact OpR_move rfl is_rfl)
      | (apply as_assign; exact OpR_assign rfl is_rfl)
      | (apply as_load; exact OpR_load' hs rfl rfl is_rfl)
      | (apply as_binOp; exact OpR_ibin rfl rfl rfl is_rfl)
      | (apply as_indexAddr; exact OpR_indexAddr_arr' rfl rfl (by omega) (by omega) (by first | (simp only [Int.reduceToNat, Nat.reduceMul, Nat.reduceAdd]; exact rfl) | exact rfl) is_rfl)); first | (exact rfl; exact rfl) | exact rfl)
        | (apply J_seq)
        | (apply J_region)
        | (apply J_block)
        | (apply J_skip)
        | (apply aj_cond; first | refine J_dec_t rfl ob ?_ | refine J_cond_t rfl gb ?_))
      refine J_leave Tryz.func152 rfl (.tmp rfl .nil) ⟨by simp [mkRes, h], hs.frm.ext⟩
    · have hk : k1B id a b = false := by rw [← hq1, h]
      repeat' (first
        | ((apply al_none (t := 24); refine JL_o (OpR_callV rfl rfl (Ret.value (cap := #[ptr b1, ptr b3, ptr b4]) en209 (kind1_r _ b1 b3 b4 id a hA b hB hs.blk hs.blk hs.blk))) rfl rfl ?_; rintro _ _ ⟨rfl, hE⟩; rw [hk]; have hs := hs.ext hE))
        | (apply JL_nil)
        | ((apply JL_pure); (first
      | (apply as_move; exact OpR_move rfl is_rfl)
      | (apply as_assign; exact OpR_assign rfl is_rfl)
      | (apply as_load; exact OpR_load' hs rfl rfl is_rfl)
      | (apply as_add; exact OpR_addn rfl rfl (by omega) (by first | (simp only [Int.reduceAdd]; exact rfl) | exact rfl) is_rfl)
      | (apply as_binOp; exact OpR_ibin rfl rfl rfl is_rfl)
      | (apply as_indexAddr; exact OpR_indexAddr_arr' rfl rfl (by omega) (by omega) (by first | (simp only [Int.reduceToNat, Nat.reduceMul, Nat.reduceAdd]; exact rfl) | exact rfl) is_rfl)); first | (exact rfl; exact rfl) | exact rfl)
        | (apply J_seq)
        | (apply J_region)
        | (apply J_block)
        | (apply J_inBlock)
        | (apply J_skip)
        | (apply aj_cond; first | refine J_dec_t rfl ob ?_ | refine J_cond_f rfl gb ?_))
      refine ih 2 _ _ ⟨hs, by omega, by omega, fun _ => h, by omega, by omega, by omega⟩ (by omega) (by repeat' (first | exact trivial | exact rfl | apply And.intro))
  · have hk2 : k = 2 := h5
    subst hk2
    have g1 := i1 (by omega)
    obtain h | h : q2 = true ∨ q2 = false := by cases q2 <;> simp
    · have hk : k2B id b = true := by rw [← hq2, h]
      repeat' (first
        | ((apply al_none (t := 24); refine JL_o (OpR_callV rfl rfl (Ret.value (cap := #[ptr b1, ptr b4]) en210 (kind2_r _ b1 b4 id b hB hs.blk hs.blk))) rfl rfl ?_; rintro _ _ ⟨rfl, hE⟩; rw [hk]; have hs := hs.ext hE))
        | (apply JL_nil)
        | ((apply JL_pure); (first
      | (apply as_move; exact OpR_move rfl is_rfl)
      | (apply as_assign; exact OpR_assign rfl is_rfl)
      | (apply as_load; exact OpR_load' hs rfl rfl is_rfl)
      | (apply as_binOp; exact OpR_ibin rfl rfl rfl is_rfl)
      | (apply as_indexAddr; exact OpR_indexAddr_arr' rfl rfl (by omega) (by omega) (by first | (simp only [Int.reduceToNat, Nat.reduceMul, Nat.reduceAdd]; exact rfl) | exact rfl) is_rfl)); first | (exact rfl; exact rfl) | exact rfl)
        | (apply J_seq)
        | (apply J_region)
        | (apply J_block)
        | (apply J_skip)
        | (apply aj_cond; first | refine J_dec_t rfl ob ?_ | refine J_cond_t rfl gb ?_))
      refine J_leave Tryz.func152 rfl (.tmp rfl .nil) ⟨by simp [mkRes, g1, h], hs.frm.ext⟩
    · have hk : k2B id b = false := by rw [← hq2, h]
      repeat' (first
        | ((apply al_none (t := 24); refine JL_o (OpR_callV rfl rfl (Ret.value (cap := #[ptr b1, ptr b4]) en210 (kind2_r _ b1 b4 id b hB hs.blk hs.blk))) rfl rfl ?_; rintro _ _ ⟨rfl, hE⟩; rw [hk]; have hs := hs.ext hE))
        | (apply JL_nil)
        | ((apply JL_pure); (first
      | (apply as_move; exact OpR_move rfl is_rfl)
      | (apply as_assign; exact OpR_assign rfl is_rfl)
      | (apply as_load; exact OpR_load' hs rfl rfl is_rfl)
      | (apply as_add; exact OpR_addn rfl rfl (by omega) (by first | (simp only [Int.reduceAdd]; exact rfl) | exact rfl) is_rfl)
      | (apply as_binOp; exact OpR_ibin rfl rfl rfl is_rfl)
      | (apply as_indexAddr; exact OpR_indexAddr_arr' rfl rfl (by omega) (by omega) (by first | (simp only [Int.reduceToNat, Nat.reduceMul, Nat.reduceAdd]; exact rfl) | exact rfl) is_rfl)); first | (exact rfl; exact rfl) | exact rfl)
        | (apply J_seq)
        | (apply J_region)
        | (apply J_block)
        | (apply J_inBlock)
        | (apply J_skip)
        | (apply aj_cond; first | refine J_dec_t rfl ob ?_ | refine J_cond_f rfl gb ?_))
      refine ih 3 _ _ ⟨hs, by omega, by omega, fun _ => g1, fun _ => h, by omega, by omega⟩ (by omega) (by repeat' (first | exact trivial | exact rfl | apply And.intro))
  · have hk2 : k = 3 := h5
    subst hk2
    have g1 := i1 (by omega)
    have g2 := i2 (by omega)
    obtain h | h : q3 = true ∨ q3 = false := by cases q3 <;> simp
    · have hk : k3B id a b = true := by rw [← hq3, h]
      repeat' (first
        | ((apply al_none (t := 24); refine JL_o (OpR_callV rfl rfl (Ret.value (cap := #[ptr b1, ptr b3, ptr b4]) en211 (kind3_r _ b1 b3 b4 id a hA b hB hs.blk hs.blk hs.blk))) rfl rfl ?_; rintro _ _ ⟨rfl, hE⟩; rw [hk]; have hs := hs.ext hE))
        | (apply JL_nil)
        | ((apply JL_pure); (first
      | (apply as_move; exact OpR_move rfl is_rfl)
      | (apply as_assign; exact OpR_assign rfl is_rfl)
      | (apply as_load; exact OpR_load' hs rfl rfl is_rfl)
      | (apply as_binOp; exact OpR_ibin rfl rfl rfl is_rfl)
      | (apply as_indexAddr; exact OpR_indexAddr_arr' rfl rfl (by omega) (by omega) (by first | (simp only [Int.reduceToNat, Nat.reduceMul, Nat.reduceAdd]; exact rfl) | exact rfl) is_rfl)); first | (exact rfl; exact rfl) | exact rfl)
        | (apply J_seq)
        | (apply J_region)
        | (apply J_block)
        | (apply J_skip)
        | (apply aj_cond; first | refine J_dec_t rfl ob ?_ | refine J_cond_t rfl gb ?_))
      refine J_leave Tryz.func152 rfl (.tmp rfl .nil) ⟨by simp [mkRes, g1, g2, h], hs.frm.ext⟩
    · have hk : k3B id a b = false := by rw [← hq3, h]
      repeat' (first
        | ((apply al_none (t := 24); refine JL_o (OpR_callV rfl rfl (Ret.value (cap := #[ptr b1, ptr b3, ptr b4]) en211 (kind3_r _ b1 b3 b4 id a hA b hB hs.blk hs.blk hs.blk))) rfl rfl ?_; rintro _ _ ⟨rfl, hE⟩; rw [hk]; have hs := hs.ext hE))
        | (apply JL_nil)
        | ((apply JL_pure); (first
      | (apply as_move; exact OpR_move rfl is_rfl)
      | (apply as_assign; exact OpR_assign rfl is_rfl)
      | (apply as_load; exact OpR_load' hs rfl rfl is_rfl)
      | (apply as_add; exact OpR_addn rfl rfl (by omega) (by first | (simp only [Int.reduceAdd]; exact rfl) | exact rfl) is_rfl)
      | (apply as_binOp; exact OpR_ibin rfl rfl rfl is_rfl)
      | (apply as_indexAddr; exact OpR_indexAddr_arr' rfl rfl (by omega) (by omega) (by first | (simp only [Int.reduceToNat, Nat.reduceMul, Nat.reduceAdd]; exact rfl) | exact rfl) is_rfl)); first | (exact rfl; exact rfl) | exact rfl)
        | (apply J_seq)
        | (apply J_region)
        | (apply J_block)
        | (apply J_inBlock)
        | (apply J_skip)
        | (apply aj_cond; first | refine J_dec_t rfl ob ?_ | refine J_cond_f rfl gb ?_))
      refine ih 4 _ _ ⟨hs, by omega, by omega, fun _ => g1, fun _ => g2, fun _ => h, by omega⟩ (by omega) (by repeat' (first | exact trivial | exact rfl | apply And.intro))
  · have hk2 : k = 4 := h5
    subst hk2
    have g1 := i1 (by omega)
    have g2 := i2 (by omega)
    have g3 := i3 (by omega)
    obtain h | h : q4 = true ∨ q4 = false := by cases q4 <;> simp
    · have hk : k4B id a b = true := by rw [← hq4, h]
      repeat' (first
        | ((apply al_none (t := 24); refine JL_o (OpR_callV rfl rfl (Ret.value (cap := #[ptr b1, ptr b3, ptr b4]) en212 (kind4_r _ b1 b3 b4 id a hA b hB hs.blk hs.blk hs.blk))) rfl rfl ?_; rintro _ _ ⟨rfl, hE⟩; rw [hk]; have hs := hs.ext hE))
        | (apply JL_nil)
        | ((apply JL_pure); (first
      | (apply as_move; exact OpR_move rfl is_rfl)
      | (apply as_assign; exact OpR_assign rfl is_rfl)
      | (apply as_load; exact OpR_load' hs rfl rfl is_rfl)
      | (apply as_binOp; exact OpR_ibin rfl rfl rfl is_rfl)
      | (apply as_indexAddr; exact OpR_indexAddr_arr' rfl rfl (by omega) (by omega) (by first | (simp only [Int.reduceToNat, Nat.reduceMul, Nat.reduceAdd]; exact rfl) | exact rfl) is_rfl)); first | (exact rfl; exact rfl) | exact rfl)
        | (apply J_seq)
        | (apply J_region)
        | (apply J_block)
        | (apply J_skip)
        | (apply aj_cond; first | refine J_dec_t rfl ob ?_ | refine J_cond_t rfl gb ?_))
      refine J_leave Tryz.func152 rfl (.tmp rfl .nil) ⟨by simp [mkRes, g1, g2, g3, h], hs.frm.ext⟩
    · have hk : k4B id a b = false := by rw [← hq4, h]
      repeat' (first
        | ((apply al_none (t := 24); refine JL_o (OpR_callV rfl rfl (Ret.value (cap := #[ptr b1, ptr b3, ptr b4]) en212 (kind4_r _ b1 b3 b4 id a hA b hB hs.blk hs.blk hs.blk))) rfl rfl ?_; rintro _ _ ⟨rfl, hE⟩; rw [hk]; have hs := hs.ext hE))
        | (apply JL_nil)
        | ((apply JL_pure); (first
      | (apply as_move; exact OpR_move rfl is_rfl)
      | (apply as_assign; exact OpR_assign rfl is_rfl)
      | (apply as_load; exact OpR_load' hs rfl rfl is_rfl)
      | (apply as_add; exact OpR_addn rfl rfl (by omega) (by first | (simp only [Int.reduceAdd]; exact rfl) | exact rfl) is_rfl)
      | (apply as_binOp; exact OpR_ibin rfl rfl rfl is_rfl)
      | (apply as_indexAddr; exact OpR_indexAddr_arr' rfl rfl (by omega) (by omega) (by first | (simp only [Int.reduceToNat, Nat.reduceMul, Nat.reduceAdd]; exact rfl) | exact rfl) is_rfl)); first | (exact rfl; exact rfl) | exact rfl)
        | (apply J_seq)
        | (apply J_region)
        | (apply J_block)
        | (apply J_inBlock)
        | (apply J_skip)
        | (apply aj_cond; first | refine J_dec_t rfl ob ?_ | refine J_cond_f rfl gb ?_))
      refine ih 5 _ _ ⟨hs, by omega, by omega, fun _ => g1, fun _ => g2, fun _ => g3, fun _ => h⟩ (by omega) (by repeat' (first | exact trivial | exact rfl | apply And.intro))
  · subst h5
    repeat' (first
      | (apply JL_nil)
      | ((apply JL_pure); (first
      | (apply as_move; exact OpR_move rfl is_rfl)
      | (apply as_assign; exact OpR_assign rfl is_rfl)
      | (apply as_binOp; exact OpR_ibin rfl rfl rfl is_rfl)); first | (exact rfl; exact rfl) | exact rfl)
      | (apply J_seq)
      | (apply J_region)
      | (apply aj_exit; refine J_exit rfl ?_)
      | (apply aj_cond; refine J_dec_f rfl ob ?_))
    refine J_leave Tryz.func152 rfl (.tmp rfl .nil) ⟨by simp [mkRes, i1, i2, i3, i4], hs.frm.ext⟩
end Go.Eng
/- Types: which may be. -/
namespace Go.Eng
open Go.Proofs
set_option linter.unusedSimpArgs false
set_option linter.unusedVariables false
def mayM (id : Int) : Bool := decide (kindM id = 2 ∨ kindM id = 3)
def okAt (l : List Int) (i : Nat) : Bool := mayM (l.getD i 0) && (decide (i = 0) || decide (l.getD (i - 1) 0 < l.getD i 0))
def typeB (l : List Int) : Bool := decide (l.length ≤ 12) && (List.range l.length).all (okAt l)
theorem getD_some {l : List Int} {i x : Int} {k : Nat} (h : l[k]? = some x) : l.getD k 0 = x := by rw [List.getD_eq_getElem?_getD, h]; rfl
theorem typeB_true {l : List Int} : typeB l = true ↔ l.length ≤ 12 ∧ ∀ i, i < l.length → okAt l i = true := by
  unfold typeB
  rw [Bool.and_eq_true, decide_eq_true_eq, List.all_eq_true]
  exact ⟨fun h => ⟨h.1, fun i hi => h.2 i (List.mem_range.2 hi)⟩, fun h => ⟨h.1, fun i hi => h.2 i (List.mem_range.1 hi)⟩⟩
theorem typeB_false {l : List Int} {i : Nat} (hi : i < l.length) (h : okAt l i = false) : typeB l = false := by
  cases hb : typeB l with
  | false => rfl
  | true => rw [(typeB_true.1 hb).2 i hi] at h; cases h
theorem inK_el {k : IntKind} {R : Nat → Prop} {w : World} {a : Option Addr} {n c : Nat} {xs : List Int} (h : Sl (tInt k) R w a n c xs) {i : Nat} {x : Int} (hx : xs[i]? = some x) : inK k x := (h.elF hx).1
attribute [local irreducible] Hold J JL JD JX JXat OpR OpG Ret RetV Is Blk Row MapC
set_option maxRecDepth 100000
set_option maxHeartbeats 1000000
theorem may_r (w : World) (id : Int) (hi : inK .u64 id) : Ret Tryz.prog 115 #[.int .u64 id] w fun v w' => v = .bool (mayM id) ∧ Ext w w' := by
  refine Ret_of (l := [_]) Tryz.func115 rfl Tryz.ntmps115 (by simp) ?_
  have hs := St.init w
  unfold mayM
  by_cases h1 : kindM id = 2
  all_goals
    repeat' (first
      | ((apply al_call 152; refine JL_o (by exact OpR_callF en152 rfl (kind_r _ id hi)) rfl rfl ?_; rintro _ _ ⟨rfl, hE⟩; have hs := hs.ext hE; (try simp only [List.cons_append, List.nil_append] at hs)))
      | (apply JL_nil)
      | ((first | (apply JL_pure) | (apply JL_pure_on; exact rfl; exact gb)); (first
      | (apply as_move; exact OpR_move rfl is_rfl)
      | (apply as_assign; exact OpR_assign rfl is_rfl)
      | (apply as_binOp; exact OpR_ibin rfl rfl rfl is_rfl)
      | (apply as_pick; first | exact OpR_pick_t rfl gb rfl is_rfl | exact OpR_pick_f rfl gb rfl is_rfl)); first | (exact rfl; exact rfl) | exact rfl)
      | (apply J_seq)
      | (apply J_region)
      | (apply al_guard; (refine JL_no rfl gb rfl ?_)))
    refine J_leave Tryz.func115 rfl (.tmp rfl .nil) ⟨by simp [mkRes, h1], hs.frm.ext⟩
theorem mayR_r (w : World) (id : Int) (hi : inK .u64 id) : Ret Tryz.prog 88 #[.int .u64 id] w fun v w' => v = .bool (mayM id) ∧ Ext w w' := by
  refine Ret_of (l := [_]) Tryz.func88 rfl Tryz.ntmps88 (by simp) ?_
  have hs := St.init w
  unfold mayM
  by_cases h1 : kindM id = 2
  all_goals
    repeat' (first
      | ((apply al_call 28; refine JL_o (by exact OpR_callF en28 rfl (kindR_r _ id hi)) rfl rfl ?_; rintro _ _ ⟨rfl, hE⟩; have hs := hs.ext hE; (try simp only [List.cons_append, List.nil_append] at hs)))
      | ((apply al_callg 28; refine JL_o_on rfl gb (by exact OpR_callF en28 rfl (kindR_r _ id hi)) rfl rfl ?_; rintro _ _ ⟨rfl, hE⟩; have hs := hs.ext hE; (try simp only [List.cons_append, List.nil_append] at hs)))
      | (apply JL_nil)
      | ((first | (apply JL_pure) | (apply JL_pure_on; exact rfl; exact gb)); (first
      | (apply as_move; exact OpR_move rfl is_rfl)
      | (apply as_assign; exact OpR_assign rfl is_rfl)
      | (apply as_binOp; exact OpR_ibin rfl rfl rfl is_rfl)
      | (apply as_pick; first | exact OpR_pick_t rfl gb rfl is_rfl | exact OpR_pick_f rfl gb rfl is_rfl)); first | (exact rfl; exact rfl) | exact rfl)
      | (apply J_seq)
      | (apply J_region)
      | (apply al_guard; (refine JL_no rfl gb rfl ?_)))
    refine J_leave Tryz.func88 rfl (.tmp rfl .nil) ⟨by simp [mkRes, h1], hs.frm.ext⟩
theorem tcheck_r (w : World) (a : Option Addr) (n c : Nat) (xs : List Int) (h : Sl (tInt .u64) All w a n c xs) :
    Ret Tryz.prog 59 #[.slice a n c] w fun v w' => v = .int .i64 (if typeB xs then 0 else 130) ∧ Ext w w' := by
  refine Ret_of (l := [_]) Tryz.func59 rfl Tryz.ntmps59 (by simp) ?_
  have hs := St.init w
  have hl := h.len
  have hc := h.le
  have hm := h.cap
  unfold maxLen at hm
  repeat' (first
    | (apply JL_nil)
    | ((apply JL_pure); (first
      | (apply as_move; exact OpR_move rfl is_rfl)
      | (apply as_assign; exact OpR_assign rfl is_rfl)
      | (apply as_binOp; exact OpR_ibin rfl rfl rfl is_rfl)
      | (apply as_b_len; exact OpR_len rfl is_rfl)); first | (exact rfl; exact rfl) | exact rfl)
    | (apply J_seq)
    | (apply J_region)
    | (apply J_block)
    | (apply J_label)
    | (apply J_scope))
  by_cases h12 : n ≤ 12
  · refine J_loopK (α := Nat) [(0, _), (9, _), (10, _)] (fun k => [(3, .bool true), (11, .int .i64 k)]) (fun k w' => St w NoF w' [] ∧ k ≤ n ∧ ∀ i, i < k → okAt xs i = true) (fun k => n - k) 0 ⟨hs, by omega, by simp⟩ (by repeat' (first | exact trivial | exact rfl | exact congrArg (fun z => some (Value.bool z)) (decide_eq_true (by omega)) | apply And.intro)) ?_
    rintro k w' ⟨hs, hk, hj⟩ ih
    by_cases hlt : k < n
    · obtain ⟨p1, o1, rfl⟩ := h.sl.addr (by omega)
      have hx : xs[k]? = some xs[k] := List.getElem?_eq_getElem (by omega)
      obtain ⟨x, hxd⟩ : ∃ x, x = xs[k] := ⟨_, rfl⟩
      rw [← hxd] at hx
      have hgx : xs.getD k 0 = x := by rw [List.getD_eq_getElem?_getD, hx]; rfl
      have hxk := inK_el h hx
      have hor : (k = 0) ∨ (¬ k = 0 ∧ ∃ y, xs[((k : Int) - 1).toNat]? = some y ∧ xs.getD (k - 1) 0 = y) := by
        by_cases h0 : k = 0
        · exact .inl h0
        · have hy : xs[((k : Int) - 1).toNat]? = some xs[((k : Int) - 1).toNat] := List.getElem?_eq_getElem (by omega)
          refine .inr ⟨h0, _, hy, ?_⟩
          rw [List.getD_eq_getElem?_getD, show k - 1 = ((k : Int) - 1).toNat by omega, hy]; rfl
      cases hmx : mayM x with
      | false =>
        have hf : typeB xs = false := typeB_false (i := k) (by omega) (by unfold okAt; rw [hgx, hmx]; rfl)
        rw [hf]
        repeat' (first
          | ((apply al_callg 115; refine JL_o_on rfl gb (by exact OpR_callF en115 rfl (may_r _ x hxk)) rfl rfl ?_; rintro _ _ ⟨rfl, hE⟩; rw [hmx]; have hs := hs.ext hE; (try simp only [List.cons_append, List.nil_append] at hs)))
          | (apply JL_nil)
          | ((first | (apply JL_pure) | (apply JL_pure_on; exact rfl; exact gb)); (first
      | (apply as_load; first | exact OpR_load_int (h.st hs).sl rfl hx is_rfl)
      | (apply as_move; exact OpR_move rfl is_rfl)
      | (apply as_assign; exact OpR_assign rfl is_rfl)
      | (apply as_binOp; exact OpR_ibin rfl rfl rfl is_rfl)
      | (apply as_unOp; exact OpR_not rfl is_rfl)
      | (apply as_pick; first | exact OpR_pick_t rfl gb rfl is_rfl | exact OpR_pick_f rfl gb rfl is_rfl)
      | (apply as_indexAddr; exact OpR_indexAddr rfl rfl (by omega) (by omega) is_rfl)); first | (exact rfl; exact rfl) | exact rfl)
          | (apply J_seq)
          | (apply J_region)
          | (apply J_block)
          | (apply aj_exit; refine J_exit rfl ?_)
          | (apply J_skip)
          | (apply al_guard; first
    | (refine JL_nou rfl rfl ?_)
    | (refine JL_no rfl gb rfl ?_))
          | (apply aj_cond; first | refine J_dec_t rfl ob ?_ | refine J_cond_t rfl gb ?_))
        refine J_leave Tryz.func59 rfl (.tmp rfl .nil) ⟨rfl, hs.frm.ext⟩
      | true =>
        rcases hor with h0 | ⟨h0, y, hy, hgy⟩
        · have hok : okAt xs k = true := by unfold okAt; rw [hgx, hmx, decide_eq_true h0]; rfl
          repeat' (first
            | ((apply al_callg 115; refine JL_o_on rfl gb (by exact OpR_callF en115 rfl (may_r _ x hxk)) rfl rfl ?_; rintro _ _ ⟨rfl, hE⟩; rw [hmx]; have hs := hs.ext hE; (try simp only [List.cons_append, List.nil_append] at hs)))
            | (apply JL_nil)
            | ((first | (apply JL_pure) | (apply JL_pure_on; exact rfl; exact gb)); (first
      | (apply as_load; first | exact OpR_load_int (h.st hs).sl rfl hx is_rfl)
      | (apply as_move; exact OpR_move rfl is_rfl)
      | (apply as_assign; exact OpR_assign rfl is_rfl)
      | (apply as_add; exact OpR_addn rfl rfl (by omega) (by first | (simp only [Int.reduceAdd]; exact rfl) | exact rfl) is_rfl)
      | (apply as_binOp; exact OpR_ibin rfl rfl rfl is_rfl)
      | (apply as_unOp; exact OpR_not rfl is_rfl)
      | (apply as_pick; exact OpR_pick_t rfl gb rfl is_rfl)
      | (apply as_indexAddr; exact OpR_indexAddr rfl rfl (by omega) (by omega) is_rfl)); first | (exact rfl; exact rfl) | exact rfl)
            | (apply J_seq)
            | (apply J_region)
            | (apply J_block)
            | (apply J_inBlock)
            | (apply J_skip)
            | (apply al_guard; (refine JL_no rfl gb rfl ?_))
            | (apply aj_cond; first | refine J_dec_t rfl ob ?_ | refine J_cond_f rfl gb ?_))
          refine ih (k + 1) _ _ ⟨hs, by omega, (fun i hi => by
            by_cases e : i = k
            · rw [e]; exact hok
            · exact hj i (by omega))⟩ (by omega) (by repeat' (first | exact trivial | exact rfl | apply And.intro))
        · by_cases hyx : y < x
          · have hok : okAt xs k = true := by unfold okAt; rw [hgx, hmx, hgy, decide_eq_true hyx, decide_eq_false h0]; rfl
            repeat' (first
              | ((apply al_callg 115; refine JL_o_on rfl gb (by exact OpR_callF en115 rfl (may_r _ x hxk)) rfl rfl ?_; rintro _ _ ⟨rfl, hE⟩; rw [hmx]; have hs := hs.ext hE; (try simp only [List.cons_append, List.nil_append] at hs)))
              | (apply JL_nil)
              | ((first | (apply JL_pure) | (apply JL_pure_on; exact rfl; exact gb)); (first
      | (apply as_load; first | exact OpR_load_int (i := k) (h.st hs).sl rfl hx is_rfl | exact OpR_load_int (i := ((k : Int) - 1).toNat) (h.st hs).sl rfl hy is_rfl)
      | (apply as_move; exact OpR_move rfl is_rfl)
      | (apply as_assign; exact OpR_assign rfl is_rfl)
      | (apply as_add; exact OpR_addn rfl rfl (by omega) (by first | (simp only [Int.reduceAdd]; exact rfl) | exact rfl) is_rfl)
      | (apply as_sub; exact OpR_sub rfl rfl (by omega) is_rfl)
      | (apply as_binOp; exact OpR_ibin rfl rfl rfl is_rfl)
      | (apply as_unOp; exact OpR_not rfl is_rfl)
      | (apply as_pick; first | exact OpR_pick_t rfl gb rfl is_rfl | exact OpR_pick_f rfl gb rfl is_rfl)
      | (apply as_indexAddr; exact OpR_indexAddr rfl rfl (by omega) (by omega) is_rfl)); first | (exact rfl; exact rfl) | exact rfl)
              | (apply J_seq)
              | (apply J_region)
              | (apply J_block)
              | (apply J_inBlock)
              | (apply J_skip)
              | (apply aj_cond; first | refine J_dec_t rfl ob ?_ | refine J_cond_f rfl gb ?_))
            refine ih (k + 1) _ _ ⟨hs, by omega, (fun i hi => by
              by_cases e : i = k
              · rw [e]; exact hok
              · exact hj i (by omega))⟩ (by omega) (by repeat' (first | exact trivial | exact rfl | exact congrArg (fun z => some (Value.bool z)) (decide_eq_true (by omega)) | apply And.intro))
          · have hf : typeB xs = false := typeB_false (i := k) (by omega) (by unfold okAt; rw [hgx, hmx, hgy, decide_eq_false hyx, decide_eq_false h0]; rfl)
            rw [hf]
            repeat' (first
              | ((apply al_callg 115; refine JL_o_on rfl gb (by exact OpR_callF en115 rfl (may_r _ x hxk)) rfl rfl ?_; rintro _ _ ⟨rfl, hE⟩; rw [hmx]; have hs := hs.ext hE; (try simp only [List.cons_append, List.nil_append] at hs)))
              | (apply JL_nil)
              | ((first | (apply JL_pure) | (apply JL_pure_on; exact rfl; exact gb)); (first
      | (apply as_load; first | exact OpR_load_int (i := k) (h.st hs).sl rfl hx is_rfl | exact OpR_load_int (i := ((k : Int) - 1).toNat) (h.st hs).sl rfl hy is_rfl)
      | (apply as_move; exact OpR_move rfl is_rfl)
      | (apply as_assign; exact OpR_assign rfl is_rfl)
      | (apply as_sub; exact OpR_sub rfl rfl (by omega) is_rfl)
      | (apply as_binOp; exact OpR_ibin rfl rfl rfl is_rfl)
      | (apply as_unOp; exact OpR_not rfl is_rfl)
      | (apply as_pick; first | exact OpR_pick_t rfl gb rfl is_rfl | exact OpR_pick_f rfl gb rfl is_rfl)
      | (apply as_indexAddr; exact OpR_indexAddr rfl rfl (by omega) (by omega) is_rfl)); first | (exact rfl; exact rfl) | exact rfl)
              | (apply J_seq)
              | (apply J_region)
              | (apply J_block)
              | (apply aj_exit; refine J_exit rfl ?_)
              | (apply J_skip)
              | (apply aj_cond; first | refine J_dec_t rfl ob ?_ | refine J_cond_t rfl gb ?_))
            refine J_leave Tryz.func59 rfl (.tmp rfl .nil) ⟨rfl, hs.frm.ext⟩
    · have hf : typeB xs = true := typeB_true.2 ⟨by omega, fun i hi => hj i (by omega)⟩
      rw [hf]
      repeat' (first
        | (apply JL_nil)
        | ((apply JL_pure); (first
      | (apply as_move; exact OpR_move rfl is_rfl)
      | (apply as_assign; exact OpR_assign rfl is_rfl)
      | (apply as_binOp; exact OpR_ibin rfl rfl rfl is_rfl)
      | (apply as_unOp; exact OpR_not rfl is_rfl)); first | (exact rfl; exact rfl) | exact rfl)
        | (apply J_seq)
        | (apply J_region)
        | (apply aj_exit; refine J_exit rfl ?_)
        | (apply J_skip)
        | (apply aj_cond; first | refine J_dec_f rfl ob ?_ | refine J_cond_f rfl gb ?_))
      refine J_leave Tryz.func59 rfl (.tmp rfl .nil) ⟨rfl, hs.frm.ext⟩
  · have hf : typeB xs = false := by unfold typeB; rw [decide_eq_false (by omega)]; rfl
    rw [hf]
    refine J_loopK (α := Nat) [(0, _), (9, _), (10, _)] (fun k => [(3, .bool false), (11, .int .i64 k)]) (fun k w' => St w NoF w' [] ∧ k = 0) (fun k => n - k) 0 ⟨hs, rfl⟩ (by repeat' (first | exact trivial | exact rfl | exact congrArg (fun z => some (Value.bool z)) (decide_eq_false (by omega)) | apply And.intro)) ?_
    rintro k w' ⟨hs, rfl⟩ ih
    obtain ⟨p1, o1, rfl⟩ := h.sl.addr (by omega)
    have hx : xs[0]? = some xs[0] := List.getElem?_eq_getElem (by omega)
    repeat' (first
      | (apply JL_nil)
      | ((apply JL_pure); (first
      | (apply as_load; exact OpR_load_int (i := 0) (h.st hs).sl rfl hx is_rfl)
      | (apply as_move; exact OpR_move rfl is_rfl)
      | (apply as_assign; exact OpR_assign rfl is_rfl)
      | (apply as_binOp; exact OpR_ibin rfl rfl rfl is_rfl)
      | (apply as_unOp; exact OpR_not rfl is_rfl)
      | (apply as_pick; exact OpR_pick_f rfl gb rfl is_rfl)
      | (apply as_indexAddr; exact OpR_indexAddr rfl rfl (by omega) (by omega) is_rfl)); first | (exact rfl; exact rfl) | exact rfl)
      | (apply J_seq)
      | (apply J_region)
      | (apply J_block)
      | (apply aj_exit; refine J_exit rfl ?_)
      | (apply J_skip)
      | (apply al_guard; first
    | (refine JL_nou rfl rfl ?_)
    | (refine JL_no rfl gb rfl ?_))
      | (apply aj_cond; first | refine J_dec_t rfl ob ?_ | refine J_cond_t rfl gb ?_))
    refine J_leave Tryz.func59 rfl (.tmp rfl .nil) ⟨rfl, hs.frm.ext⟩
theorem rightR_r (w : World) (a : Option Addr) (n c : Nat) (xs : List Int) (h : Sl (tInt .u64) All w a n c xs) :
    Ret Tryz.prog 26 #[.slice a n c] w fun v w' => v = .bool (typeB xs) ∧ Ext w w' := by
  refine Ret_of (l := [_]) Tryz.func26 rfl Tryz.ntmps26 (by simp) ?_
  have hs := St.init w
  have hl := h.len
  have hc := h.le
  have hm := h.cap
  unfold maxLen at hm
  repeat' (first
    | (apply JL_nil)
    | ((apply JL_pure); (first
      | (apply as_move; exact OpR_move rfl is_rfl)
      | (apply as_assign; exact OpR_assign rfl is_rfl)
      | (apply as_b_len; exact OpR_len rfl is_rfl)); first | (exact rfl; exact rfl) | exact rfl)
    | (apply J_seq)
    | (apply J_region)
    | (apply J_block))
  refine J_loopK (α := Nat) [(0, _), (5, _), (6, _)] (fun k => [(7, .int .i64 k)]) (fun k w' => St w NoF w' [] ∧ k ≤ n ∧ ∀ i, i < k → okAt xs i = true) (fun k => n - k) 0 ⟨hs, by omega, by simp⟩ (by repeat' (first | exact trivial | exact rfl | apply And.intro)) ?_
  rintro k w' ⟨hs, hk, hj⟩ ih
  by_cases hlt : k < n
  · obtain ⟨p1, o1, rfl⟩ := h.sl.addr (by omega)
    have hx : xs[k]? = some xs[k] := List.getElem?_eq_getElem (by omega)
    obtain ⟨x, hxd⟩ : ∃ x, x = xs[k] := ⟨_, rfl⟩
    rw [← hxd] at hx
    have hgx : xs.getD k 0 = x := by rw [List.getD_eq_getElem?_getD, hx]; rfl
    have hxk := inK_el h hx
    have hor : (k = 0) ∨ (¬ k = 0 ∧ ∃ y, xs[((k : Int) - 1).toNat]? = some y ∧ xs.getD (k - 1) 0 = y) := by
      by_cases h0 : k = 0
      · exact .inl h0
      · have hy : xs[((k : Int) - 1).toNat]? = some xs[((k : Int) - 1).toNat] := List.getElem?_eq_getElem (by omega)
        refine .inr ⟨h0, _, hy, ?_⟩
        rw [List.getD_eq_getElem?_getD, show k - 1 = ((k : Int) - 1).toNat by omega, hy]; rfl
    cases hmx : mayM x with
    | false =>
      have hf : typeB xs = false := typeB_false (i := k) (by omega) (by unfold okAt; rw [hgx, hmx]; rfl)
      rw [hf]
      repeat' (first
        | ((apply al_call 88; refine JL_o (by exact OpR_callF en88 rfl (mayR_r _ x hxk)) rfl rfl ?_; rintro _ _ ⟨rfl, hE⟩; rw [hmx]; have hs := hs.ext hE; (try simp only [List.cons_append, List.nil_append] at hs)))
        | (apply JL_nil)
        | ((apply JL_pure); (first
      | (apply as_load; first | exact OpR_load_int (h.st hs).sl rfl hx is_rfl)
      | (apply as_move; exact OpR_move rfl is_rfl)
      | (apply as_assign; exact OpR_assign rfl is_rfl)
      | (apply as_binOp; exact OpR_ibin rfl rfl rfl is_rfl)
      | (apply as_unOp; exact OpR_not rfl is_rfl)
      | (apply as_pick; exact OpR_pick_t rfl gb rfl is_rfl)
      | (apply as_indexAddr; exact OpR_indexAddr rfl rfl (by omega) (by omega) is_rfl)); first | (exact rfl; exact rfl) | exact rfl)
        | (apply J_seq)
        | (apply J_region)
        | (apply J_block)
        | (apply J_skip)
        | (apply al_guard; first
    | (refine JL_nou rfl rfl ?_)
    | (refine JL_no rfl gb rfl ?_))
        | (apply aj_cond; first | refine J_dec_t rfl ob ?_ | refine J_cond_t rfl gb ?_))
      refine J_leave Tryz.func26 rfl (.tmp rfl .nil) ⟨rfl, hs.frm.ext⟩
    | true =>
      rcases hor with h0 | ⟨h0, y, hy, hgy⟩
      · have hok : okAt xs k = true := by unfold okAt; rw [hgx, hmx, decide_eq_true h0]; rfl
        repeat' (first
          | ((apply al_call 88; refine JL_o (by exact OpR_callF en88 rfl (mayR_r _ x hxk)) rfl rfl ?_; rintro _ _ ⟨rfl, hE⟩; rw [hmx]; have hs := hs.ext hE; (try simp only [List.cons_append, List.nil_append] at hs)))
          | (apply JL_nil)
          | ((first | (apply JL_pure) | (apply JL_pure_on; exact rfl; exact gb)); (first
      | (apply as_load; first | exact OpR_load_int (h.st hs).sl rfl hx is_rfl)
      | (apply as_move; exact OpR_move rfl is_rfl)
      | (apply as_assign; exact OpR_assign rfl is_rfl)
      | (apply as_add; exact OpR_addn rfl rfl (by omega) (by first | (simp only [Int.reduceAdd]; exact rfl) | exact rfl) is_rfl)
      | (apply as_binOp; exact OpR_ibin rfl rfl rfl is_rfl)
      | (apply as_unOp; exact OpR_not rfl is_rfl)
      | (apply as_pick; exact OpR_pick_f rfl gb rfl is_rfl)
      | (apply as_indexAddr; exact OpR_indexAddr rfl rfl (by omega) (by omega) is_rfl)); first | (exact rfl; exact rfl) | exact rfl)
          | (apply J_seq)
          | (apply J_region)
          | (apply J_block)
          | (apply J_inBlock)
          | (apply J_skip)
          | (apply al_guard; (refine JL_no rfl gb rfl ?_))
          | (apply aj_cond; first | refine J_dec_t rfl ob ?_ | refine J_cond_f rfl gb ?_))
        refine ih (k + 1) _ _ ⟨hs, by omega, (fun i hi => by
          by_cases e : i = k
          · rw [e]; exact hok
          · exact hj i (by omega))⟩ (by omega) (by repeat' (first | exact trivial | exact rfl | apply And.intro))
      · by_cases hyx : y < x
        · have hok : okAt xs k = true := by unfold okAt; rw [hgx, hmx, hgy, decide_eq_true hyx, decide_eq_false h0]; rfl
          repeat' (first
            | ((apply al_call 88; refine JL_o (by exact OpR_callF en88 rfl (mayR_r _ x hxk)) rfl rfl ?_; rintro _ _ ⟨rfl, hE⟩; rw [hmx]; have hs := hs.ext hE; (try simp only [List.cons_append, List.nil_append] at hs)))
            | (apply JL_nil)
            | ((first | (apply JL_pure) | (apply JL_pure_on; exact rfl; exact gb)); (first
      | (apply as_load; first | exact OpR_load_int (i := k) (h.st hs).sl rfl hx is_rfl | exact OpR_load_int (i := ((k : Int) - 1).toNat) (h.st hs).sl rfl hy is_rfl)
      | (apply as_move; exact OpR_move rfl is_rfl)
      | (apply as_assign; exact OpR_assign rfl is_rfl)
      | (apply as_add; exact OpR_addn rfl rfl (by omega) (by first | (simp only [Int.reduceAdd]; exact rfl) | exact rfl) is_rfl)
      | (apply as_sub; exact OpR_sub rfl rfl (by omega) is_rfl)
      | (apply as_binOp; exact OpR_ibin rfl rfl rfl is_rfl)
      | (apply as_unOp; exact OpR_not rfl is_rfl)
      | (apply as_pick; first | exact OpR_pick_t rfl gb rfl is_rfl | exact OpR_pick_f rfl gb rfl is_rfl)
      | (apply as_indexAddr; exact OpR_indexAddr rfl rfl (by omega) (by omega) is_rfl)); first | (exact rfl; exact rfl) | exact rfl)
            | (apply J_seq)
            | (apply J_region)
            | (apply J_block)
            | (apply J_inBlock)
            | (apply J_skip)
            | (apply aj_cond; first | refine J_dec_t rfl ob ?_ | refine J_dec_f rfl ob ?_))
          refine ih (k + 1) _ _ ⟨hs, by omega, (fun i hi => by
            by_cases e : i = k
            · rw [e]; exact hok
            · exact hj i (by omega))⟩ (by omega) (by repeat' (first | exact trivial | exact rfl | apply And.intro))
        · have hf : typeB xs = false := typeB_false (i := k) (by omega) (by unfold okAt; rw [hgx, hmx, hgy, decide_eq_false hyx, decide_eq_false h0]; rfl)
          rw [hf]
          repeat' (first
            | ((apply al_call 88; refine JL_o (by exact OpR_callF en88 rfl (mayR_r _ x hxk)) rfl rfl ?_; rintro _ _ ⟨rfl, hE⟩; rw [hmx]; have hs := hs.ext hE; (try simp only [List.cons_append, List.nil_append] at hs)))
            | (apply JL_nil)
            | ((first | (apply JL_pure) | (apply JL_pure_on; exact rfl; exact gb)); (first
      | (apply as_load; first | exact OpR_load_int (i := k) (h.st hs).sl rfl hx is_rfl | exact OpR_load_int (i := ((k : Int) - 1).toNat) (h.st hs).sl rfl hy is_rfl)
      | (apply as_move; exact OpR_move rfl is_rfl)
      | (apply as_assign; exact OpR_assign rfl is_rfl)
      | (apply as_sub; exact OpR_sub rfl rfl (by omega) is_rfl)
      | (apply as_binOp; exact OpR_ibin rfl rfl rfl is_rfl)
      | (apply as_unOp; exact OpR_not rfl is_rfl)
      | (apply as_pick; first | exact OpR_pick_t rfl gb rfl is_rfl | exact OpR_pick_f rfl gb rfl is_rfl)
      | (apply as_indexAddr; exact OpR_indexAddr rfl rfl (by omega) (by omega) is_rfl)); first | (exact rfl; exact rfl) | exact rfl)
            | (apply J_seq)
            | (apply J_region)
            | (apply J_block)
            | (apply J_skip)
            | (apply aj_cond; refine J_dec_t rfl ob ?_))
          refine J_leave Tryz.func26 rfl (.tmp rfl .nil) ⟨rfl, hs.frm.ext⟩
  · have hf : typeB xs = decide (n ≤ 12) := by
      by_cases h12 : n ≤ 12
      · rw [decide_eq_true h12]; exact typeB_true.2 ⟨by omega, fun i hi => hj i (by omega)⟩
      · rw [decide_eq_false h12]; unfold typeB; rw [decide_eq_false (by omega)]; rfl
    rw [hf]
    repeat' (first
      | (apply JL_nil)
      | ((apply JL_pure); (first
      | (apply as_move; exact OpR_move rfl is_rfl)
      | (apply as_assign; exact OpR_assign rfl is_rfl)
      | (apply as_binOp; exact OpR_ibin rfl rfl rfl is_rfl)
      | (apply as_b_len; exact OpR_len rfl is_rfl)); first | (exact rfl; exact rfl) | exact rfl)
      | (apply J_seq)
      | (apply J_region)
      | (apply aj_exit; refine J_exit rfl ?_)
      | (apply aj_cond; refine J_dec_f rfl ob ?_))
    refine J_leave Tryz.func26 rfl (.tmp rfl .nil) ⟨by simp [mkRes]; omega, hs.frm.ext⟩
end Go.Eng
/- Rows of ids: equal, cloned, compared. -/
namespace Go.Eng
open Go.Proofs
set_option linter.unusedSimpArgs false
set_option linter.unusedVariables false
theorem take_eq_succ {α : Type} {xs ys : List α} {k : Nat} {x : α} (hx : xs[k]? = some x) (hy : ys[k]? = some x) (h : xs.take k = ys.take k) : xs.take (k + 1) = ys.take (k + 1) := by
  rw [List.take_add_one, List.take_add_one, hx, hy, h]
def cmpI (x y : Int) : Int := if x < y then -1 else if y < x then 1 else 0
theorem cmpI_lt {x y : Int} (h : x < y) : cmpI x y = -1 := by unfold cmpI; rw [if_pos h]
theorem cmpI_gt {x y : Int} (h : y < x) : cmpI x y = 1 := by unfold cmpI; rw [if_neg (by omega), if_pos h]
theorem cmpI_self (x : Int) : cmpI x x = 0 := by unfold cmpI; rw [if_neg (by omega), if_neg (by omega)]
/-- The order of rows, as Go's slices.Compare gives it. -/
def cmpL : List Int → List Int → Int
  | [], [] => 0
  | [], _ :: _ => -1
  | _ :: _, [] => 1
  | x :: xs, y :: ys => if x < y then -1 else if y < x then 1 else cmpL xs ys
theorem cmpL_range : ∀ xs ys, cmpL xs ys = -1 ∨ cmpL xs ys = 0 ∨ cmpL xs ys = 1
  | [], [] => by simp [cmpL]
  | [], _ :: _ => by simp [cmpL]
  | _ :: _, [] => by simp [cmpL]
  | x :: xs, y :: ys => by
    unfold cmpL
    have := cmpL_range xs ys
    split; · simp
    split; · simp
    exact this
theorem cmpL_swap : ∀ xs ys, cmpL ys xs = - cmpL xs ys
  | [], [] => by simp [cmpL]
  | [], _ :: _ => by simp [cmpL]
  | _ :: _, [] => by simp [cmpL]
  | x :: xs, y :: ys => by
    have := cmpL_swap xs ys
    rw [cmpL, cmpL]
    split
    · rw [if_neg (by omega)]
    · split
      · rfl
      · exact this
theorem cmpL_eq : ∀ {xs ys}, cmpL xs ys = 0 → xs = ys
  | [], [], _ => rfl
  | [], _ :: _, h => by simp [cmpL] at h
  | _ :: _, [], h => by simp [cmpL] at h
  | x :: xs, y :: ys, h => by
    rw [cmpL] at h
    split at h; · omega
    split at h; · omega
    rw [cmpL_eq h, show x = y by omega]
theorem cmpL_self : ∀ xs, cmpL xs xs = 0
  | [] => rfl
  | x :: xs => by rw [cmpL, if_neg (by omega), if_neg (by omega)]; exact cmpL_self xs
theorem cmpL_trans : ∀ {xs ys zs}, cmpL xs ys < 0 → cmpL ys zs < 0 → cmpL xs zs < 0
  | [], [], zs, h, _ => by simp [cmpL] at h
  | [], _ :: _, [], _, h => by simp [cmpL] at h
  | [], _ :: _, _ :: _, _, _ => by simp [cmpL]
  | _ :: _, [], _, h, _ => by simp [cmpL] at h
  | _ :: _, _ :: _, [], _, h => by simp [cmpL] at h
  | x :: xs, y :: ys, z :: zs, h, h2 => by
    have ih := @cmpL_trans xs ys zs
    rw [cmpL] at h h2 ⊢
    split
    · omega
    · split
      · split at h
        · split at h2; · omega
          split at h2; · omega
          omega
        · split at h; · omega
          split at h2; · omega
          split at h2; · omega
          omega
      · split at h
        · split at h2; · omega
          split at h2; · omega
          omega
        · split at h; · omega
          split at h2; · omega
          split at h2; · omega
          exact ih h h2
theorem cmpL_swo {α : Type} (f : α → List Int) : Go.Sort.SWO (Go.Proofs.ltOf fun x y => cmpL (f x) (f y)) where
  irrefl x := by simp [Go.Proofs.ltOf, cmpL_self]
  trans x y z h1 h2 := by
    simp only [Go.Proofs.ltOf, decide_eq_true_eq] at *
    exact cmpL_trans h1 h2
  ntrans x y z h1 h2 := by
    simp only [Go.Proofs.ltOf, decide_eq_false_iff_not, Int.not_lt] at *
    have e1 := cmpL_swap (f x) (f y)
    have e2 := cmpL_swap (f y) (f z)
    have e3 := cmpL_swap (f x) (f z)
    rcases cmpL_range (f x) (f y) with h | h | h
    · omega
    · rw [cmpL_eq h]; exact h2
    · rcases cmpL_range (f y) (f z) with h' | h' | h'
      · omega
      · rw [← cmpL_eq h']; exact h1
      · have := @cmpL_trans (f z) (f y) (f x) (by omega) (by omega)
        omega
/-- What is sorted, and of the same rows, is the same. -/
theorem sorted_uniq {l1 l2 : List (List Int)} (hp : l1.Perm l2) (h1 : l1.Pairwise fun x y => 0 ≤ cmpL y x) (h2 : l2.Pairwise fun x y => 0 ≤ cmpL y x) : l1 = l2 :=
  hp.eq_of_pairwise (fun a b _ _ hab hba => by
    have := cmpL_swap a b
    exact cmpL_eq (by omega)) h1 h2
theorem cmpL_drop {xs ys : List Int} {k : Nat} (hx : k < xs.length) (hy : k < ys.length) (h : xs[k] = ys[k]) : cmpL (xs.drop k) (ys.drop k) = cmpL (xs.drop (k + 1)) (ys.drop (k + 1)) := by
  rw [List.drop_eq_getElem_cons hx, List.drop_eq_getElem_cons hy, cmpL, if_neg (by omega), if_neg (by omega)]
theorem cmpL_drop_ne {xs ys : List Int} {k : Nat} (hx : k < xs.length) (hy : k < ys.length) (h : cmpI xs[k] ys[k] ≠ 0) : cmpL (xs.drop k) (ys.drop k) = cmpI xs[k] ys[k] := by
  rw [List.drop_eq_getElem_cons hx, List.drop_eq_getElem_cons hy, cmpL]
  unfold cmpI at h ⊢
  split
  · rfl
  · split
    · rfl
    · rename_i h1 h2; rw [if_neg h1, if_neg h2] at h; exact (h rfl).elim
theorem cmpI_zero {x y : Int} (h : cmpI x y = 0) : x = y := by
  unfold cmpI at h; split at h; · omega
  split at h <;> omega
theorem cmpL_nilR {xs : List Int} {k : Nat} (hx : k < xs.length) {ys : List Int} (hy : ys.length ≤ k) : cmpL (xs.drop k) (ys.drop k) = 1 := by
  rw [List.drop_eq_getElem_cons hx, List.drop_eq_nil_of_le hy, cmpL]
theorem cmpL_nilL {xs : List Int} {k : Nat} (hx : xs.length ≤ k) {ys : List Int} (hy : k < ys.length) : cmpL (xs.drop k) (ys.drop k) = -1 := by
  rw [List.drop_eq_getElem_cons hy, List.drop_eq_nil_of_le hx, cmpL]
attribute [local irreducible] Hold J JL JD JX JXat OpR OpG Ret RetV Is Blk Row MapC
set_option maxRecDepth 100000
set_option maxHeartbeats 1000000
theorem isNaN_r (w : World) (x : Int) : Ret Tryz.prog 199 #[.int .u64 x] w fun v w' => v = .bool false ∧ Ext w w' := by
  refine Ret_of (l := [_]) Tryz.func199 rfl Tryz.ntmps199 (by simp) ?_
  have hs := St.init w
  repeat' (first
    | (apply JL_nil)
    | ((apply JL_pure); (first
      | (apply as_move; exact OpR_move rfl is_rfl)
      | (apply as_assign; exact OpR_assign rfl is_rfl)
      | (apply as_binOp; exact OpR_ibin rfl rfl rfl is_rfl)); first | (exact rfl; exact rfl) | exact rfl)
    | (apply J_seq)
    | (apply J_region))
  refine J_leave Tryz.func199 rfl (.tmp rfl .nil) ⟨by simp [mkRes], hs.frm.ext⟩
theorem compare_r (w : World) (x y : Int) (hx : inK .u64 x) (hy : inK .u64 y) : Ret Tryz.prog 138 #[.int .u64 x, .int .u64 y] w fun v w' => v = .int .i64 (cmpI x y) ∧ Ext w w' := by
  refine Ret_of (l := [_, _]) Tryz.func138 rfl Tryz.ntmps138 (by simp) ?_
  have hs := St.init w
  rcases Int.lt_trichotomy x y with h | h | h
  · rw [cmpI_lt h]
    repeat' (first
      | ((apply al_call 199; refine JL_o (by exact OpR_callF en199 rfl (isNaN_r _ _)) rfl rfl ?_; rintro _ _ ⟨rfl, hE⟩; have hs := hs.ext hE; (try simp only [List.cons_append, List.nil_append] at hs)))
      | (apply JL_nil)
      | ((apply JL_pure); (first
      | (apply as_move; exact OpR_move rfl is_rfl)
      | (apply as_assign; exact OpR_assign rfl is_rfl)
      | (apply as_binOp; exact OpR_ibin rfl rfl rfl is_rfl)); first | (exact rfl; exact rfl) | exact rfl)
      | (apply J_seq)
      | (apply J_region)
      | (apply J_skip)
      | (apply aj_cond; first | refine J_dec_t rfl ob ?_ | refine J_cond_f rfl gb ?_))
    refine J_leave Tryz.func138 rfl (.tmp rfl .nil) ⟨rfl, hs.frm.ext⟩
  · subst h
    rw [cmpI_self]
    repeat' (first
      | ((apply al_call 199; refine JL_o (by exact OpR_callF en199 rfl (isNaN_r _ _)) rfl rfl ?_; rintro _ _ ⟨rfl, hE⟩; have hs := hs.ext hE; (try simp only [List.cons_append, List.nil_append] at hs)))
      | (apply JL_nil)
      | ((apply JL_pure); (first
      | (apply as_move; exact OpR_move rfl is_rfl)
      | (apply as_assign; exact OpR_assign rfl is_rfl)
      | (apply as_binOp; exact OpR_ibin rfl rfl rfl is_rfl)); first | (exact rfl; exact rfl) | exact rfl)
      | (apply J_seq)
      | (apply J_region)
      | (apply J_skip)
      | (apply aj_cond; first | refine J_dec_f rfl ob ?_ | refine J_cond_f rfl gb ?_))
    refine J_leave Tryz.func138 rfl (.tmp rfl .nil) ⟨rfl, hs.frm.ext⟩
  · rw [cmpI_gt h]
    repeat' (first
      | ((apply al_call 199; refine JL_o (by exact OpR_callF en199 rfl (isNaN_r _ _)) rfl rfl ?_; rintro _ _ ⟨rfl, hE⟩; have hs := hs.ext hE; (try simp only [List.cons_append, List.nil_append] at hs)))
      | (apply JL_nil)
      | ((apply JL_pure); (first
      | (apply as_move; exact OpR_move rfl is_rfl)
      | (apply as_assign; exact OpR_assign rfl is_rfl)
      | (apply as_binOp; exact OpR_ibin rfl rfl rfl is_rfl)); first | (exact rfl; exact rfl) | exact rfl)
      | (apply J_seq)
      | (apply J_region)
      | (apply J_skip)
      | (apply aj_cond; first | refine J_dec_t rfl ob ?_ | refine J_dec_f rfl ob ?_ | refine J_cond_f rfl gb ?_))
    refine J_leave Tryz.func138 rfl (.tmp rfl .nil) ⟨rfl, hs.frm.ext⟩
theorem compareF_r (w : World) (a1 a2 : Option Addr) (n1 c1 n2 c2 : Nat) (xs ys : List Int) (h1 : Sl (tInt .u64) All w a1 n1 c1 xs) (h2 : Sl (tInt .u64) All w a2 n2 c2 ys) :
    Ret Tryz.prog 137 #[.slice a1 n1 c1, .slice a2 n2 c2, .func (.func 138) #[] #[]] w fun v w' => v = .int .i64 (cmpL xs ys) ∧ Ext w w' := by
  refine Ret_of (l := [_, _, _]) Tryz.func137 rfl Tryz.ntmps137 (by simp) ?_
  have hs := St.init w
  have hl1 := h1.len
  have hl2 := h2.len
  have hc1 := h1.le
  have hm1 := h1.cap
  have hc2 := h2.le
  have hm2 := h2.cap
  unfold maxLen at hm1 hm2
  repeat' (first
    | (apply JL_nil)
    | ((apply JL_pure); (first
      | (apply as_move; exact OpR_move rfl is_rfl)
      | (apply as_assign; exact OpR_assign rfl is_rfl)
      | (apply as_b_len; exact OpR_len rfl is_rfl)); first | (exact rfl; exact rfl) | exact rfl)
    | (apply J_seq)
    | (apply J_region)
    | (apply J_block))
  refine J_loopK (α := Nat) [(0, _), (1, _), (2, _), (11, _), (12, _)] (fun k => [(13, .int .i64 k)]) (fun k w' => St w NoF w' [] ∧ k ≤ n1 ∧ k ≤ n2 ∧ cmpL (xs.drop k) (ys.drop k) = cmpL xs ys) (fun k => n1 - k) 0 ⟨hs, by omega, by omega, by simp⟩ (by repeat' (first | exact trivial | exact rfl | apply And.intro)) ?_
  rintro k w' ⟨hs, hk, hk2, hj⟩ ih
  by_cases hlt : k < n1
  · obtain ⟨p1, o1, rfl⟩ := h1.sl.addr (by omega)
    have hx : xs[k]? = some xs[k] := List.getElem?_eq_getElem (by omega)
    by_cases hlt2 : k < n2
    · obtain ⟨p2, o2, rfl⟩ := h2.sl.addr (by omega)
      have hy : ys[k]? = some ys[k] := List.getElem?_eq_getElem (by omega)
      have hxk := (h1.sl.int hx rfl).2
      have hyk := (h2.sl.int hy rfl).2
      by_cases he : cmpI xs[k] ys[k] = 0
      · repeat' (first
          | ((apply al_none (t := 29); refine JL_o (OpR_callV rfl rfl (Ret.value (cap := #[]) en138 (compare_r _ xs[k] ys[k] hxk hyk))) rfl rfl ?_; rintro _ _ ⟨rfl, hE⟩; have hs := hs.ext hE))
          | (apply JL_nil)
          | ((apply JL_pure); (first
      | (apply as_load; first | exact OpR_load_int (h1.sl.st hs) rfl hx is_rfl | exact OpR_load_int (h2.sl.st hs) rfl hy is_rfl)
      | (apply as_move; exact OpR_move rfl is_rfl)
      | (apply as_assign; exact OpR_assign rfl is_rfl)
      | (apply as_add; exact OpR_addn rfl rfl (by omega) (by first | (simp only [Int.reduceAdd]; exact rfl) | exact rfl) is_rfl)
      | (apply as_binOp; exact OpR_ibin rfl rfl rfl is_rfl)
      | (apply as_b_len; exact OpR_len rfl is_rfl)
      | (apply as_indexAddr; exact OpR_indexAddr rfl rfl (by omega) (by omega) is_rfl)); first | (exact rfl; exact rfl) | exact rfl)
          | (apply J_seq)
          | (apply J_region)
          | (apply J_block)
          | (apply J_inBlock)
          | (apply J_skip)
          | (apply aj_cond; first | refine J_dec_t rfl ob ?_ | refine J_dec_f rfl ob ?_))
        refine ih (k + 1) _ _ ⟨hs, by omega, by omega, ?_⟩ (by omega) (by repeat' (first | exact trivial | exact rfl | apply And.intro))
        rw [← hj, cmpL_drop (by omega) (by omega) (cmpI_zero he)]
      · repeat' (first
          | ((apply al_none (t := 29); refine JL_o (OpR_callV rfl rfl (Ret.value (cap := #[]) en138 (compare_r _ xs[k] ys[k] hxk hyk))) rfl rfl ?_; rintro _ _ ⟨rfl, hE⟩; have hs := hs.ext hE))
          | (apply JL_nil)
          | ((apply JL_pure); (first
      | (apply as_load; first | exact OpR_load_int (h1.sl.st hs) rfl hx is_rfl | exact OpR_load_int (h2.sl.st hs) rfl hy is_rfl)
      | (apply as_move; exact OpR_move rfl is_rfl)
      | (apply as_assign; exact OpR_assign rfl is_rfl)
      | (apply as_binOp; exact OpR_ibin rfl rfl rfl is_rfl)
      | (apply as_b_len; exact OpR_len rfl is_rfl)
      | (apply as_indexAddr; exact OpR_indexAddr rfl rfl (by omega) (by omega) is_rfl)); first | (exact rfl; exact rfl) | exact rfl)
          | (apply J_seq)
          | (apply J_region)
          | (apply J_block)
          | (apply J_skip)
          | (apply aj_cond; first | refine J_dec_t rfl ob ?_ | refine J_dec_f rfl ob ?_))
        refine J_leave Tryz.func137 rfl (.tmp rfl .nil) ⟨?_, hs.frm.ext⟩
        rw [← hj, cmpL_drop_ne (by omega) (by omega) he]; rfl
    · repeat' (first
        | (apply JL_nil)
        | ((apply JL_pure); (first
      | (apply as_load; first | exact OpR_load_int (h1.sl.st hs) rfl hx is_rfl)
      | (apply as_move; exact OpR_move rfl is_rfl)
      | (apply as_assign; exact OpR_assign rfl is_rfl)
      | (apply as_binOp; exact OpR_ibin rfl rfl rfl is_rfl)
      | (apply as_b_len; exact OpR_len rfl is_rfl)
      | (apply as_indexAddr; exact OpR_indexAddr rfl rfl (by omega) (by omega) is_rfl)); first | (exact rfl; exact rfl) | exact rfl)
        | (apply J_seq)
        | (apply J_region)
        | (apply J_block)
        | (apply J_skip)
        | (apply aj_cond; refine J_dec_t rfl ob ?_))
      refine J_leave Tryz.func137 rfl (.tmp rfl .nil) ⟨?_, hs.frm.ext⟩
      rw [← hj, cmpL_nilR (by omega) (by omega)]; rfl
  · by_cases hlt2 : n1 < n2
    · repeat' (first
        | (apply JL_nil)
        | ((apply JL_pure); (first
      | (apply as_move; exact OpR_move rfl is_rfl)
      | (apply as_assign; exact OpR_assign rfl is_rfl)
      | (apply as_binOp; exact OpR_ibin rfl rfl rfl is_rfl)
      | (apply as_b_len; exact OpR_len rfl is_rfl)); first | (exact rfl; exact rfl) | exact rfl)
        | (apply J_seq)
        | (apply J_region)
        | (apply aj_exit; refine J_exit rfl ?_)
        | (apply aj_cond; first | refine J_dec_t rfl ob ?_ | refine J_dec_f rfl ob ?_))
      refine J_leave Tryz.func137 rfl (.tmp rfl .nil) ⟨?_, hs.frm.ext⟩
      rw [← hj, cmpL_nilL (by omega) (by omega)]; rfl
    · repeat' (first
        | (apply JL_nil)
        | ((apply JL_pure); (first
      | (apply as_move; exact OpR_move rfl is_rfl)
      | (apply as_assign; exact OpR_assign rfl is_rfl)
      | (apply as_binOp; exact OpR_ibin rfl rfl rfl is_rfl)
      | (apply as_b_len; exact OpR_len rfl is_rfl)); first | (exact rfl; exact rfl) | exact rfl)
        | (apply J_seq)
        | (apply J_region)
        | (apply aj_exit; refine J_exit rfl ?_)
        | (apply J_skip)
        | (apply aj_cond; refine J_dec_f rfl ob ?_))
      refine J_leave Tryz.func137 rfl (.tmp rfl .nil) ⟨?_, hs.frm.ext⟩
      rw [← hj, List.drop_eq_nil_of_le (by omega), List.drop_eq_nil_of_le (by omega)]; rfl
theorem tcompare_r (w : World) (a1 a2 : Option Addr) (n1 c1 n2 c2 : Nat) (xs ys : List Int) (h1 : Sl (tInt .u64) All w a1 n1 c1 xs) (h2 : Sl (tInt .u64) All w a2 n2 c2 ys) :
    Ret Tryz.prog 61 #[.slice a1 n1 c1, .slice a2 n2 c2] w fun v w' => v = .int .i64 (cmpL xs ys) ∧ Ext w w' := by
  refine Ret_of (l := [_, _]) Tryz.func61 rfl Tryz.ntmps61 (by simp) ?_
  have hs := St.init w
  repeat' (first
    | ((apply al_call 137; refine JL_o (by exact OpR_callF en137 rfl (compareF_r _ a1 a2 n1 c1 n2 c2 xs ys (h1.st hs) (h2.st hs))) rfl rfl ?_; rintro _ _ ⟨rfl, hE⟩; have hs := hs.ext hE; (try simp only [List.cons_append, List.nil_append] at hs)))
    | (apply JL_nil)
    | ((apply JL_pure); (first
      | (apply as_move; exact OpR_move rfl is_rfl)
      | (apply as_assign; exact OpR_assign rfl is_rfl)); first | (exact rfl; exact rfl) | exact rfl)
    | (apply J_seq)
    | (apply J_region))
  refine J_leave Tryz.func61 rfl (.tmp rfl .nil) ⟨rfl, hs.frm.ext⟩
theorem compareR_r (w : World) (a1 a2 : Option Addr) (n1 c1 n2 c2 : Nat) (xs ys : List Int) (h1 : Sl (tInt .u64) All w a1 n1 c1 xs) (h2 : Sl (tInt .u64) All w a2 n2 c2 ys) :
    Ret Tryz.prog 221 #[.slice a1 n1 c1, .slice a2 n2 c2] w fun v w' => v = .int .i64 (cmpL xs ys) ∧ Ext w w' := by
  refine Ret_of (l := [_, _]) Tryz.func221 rfl Tryz.ntmps221 (by simp) ?_
  have hs := St.init w
  have hl1 := h1.len
  have hl2 := h2.len
  have hc1 := h1.le
  have hm1 := h1.cap
  have hc2 := h2.le
  have hm2 := h2.cap
  unfold maxLen at hm1 hm2
  repeat' (first
    | (apply JL_nil)
    | ((apply JL_pure); (first
      | (apply as_move; exact OpR_move rfl is_rfl)
      | (apply as_assign; exact OpR_assign rfl is_rfl)
      | (apply as_b_len; exact OpR_len rfl is_rfl)); first | (exact rfl; exact rfl) | exact rfl)
    | (apply J_seq)
    | (apply J_region)
    | (apply J_block))
  refine J_loopK (α := Nat) [(0, _), (1, _), (7, _), (8, _)] (fun k => [(9, .int .i64 k)]) (fun k w' => St w NoF w' [] ∧ k ≤ n1 ∧ k ≤ n2 ∧ cmpL (xs.drop k) (ys.drop k) = cmpL xs ys) (fun k => n1 - k) 0 ⟨hs, by omega, by omega, by simp⟩ (by repeat' (first | exact trivial | exact rfl | apply And.intro)) ?_
  rintro k w' ⟨hs, hk, hk2, hj⟩ ih
  by_cases hlt : k < n1
  · obtain ⟨p1, o1, rfl⟩ := h1.sl.addr (by omega)
    have hx : xs[k]? = some xs[k] := List.getElem?_eq_getElem (by omega)
    by_cases hlt2 : k < n2
    · obtain ⟨p2, o2, rfl⟩ := h2.sl.addr (by omega)
      have hy : ys[k]? = some ys[k] := List.getElem?_eq_getElem (by omega)
      have hxk := (h1.sl.int hx rfl).2
      have hyk := (h2.sl.int hy rfl).2
      obtain ⟨x, hxd⟩ : ∃ x, x = xs[k] := ⟨_, rfl⟩
      obtain ⟨y, hyd⟩ : ∃ y, y = ys[k] := ⟨_, rfl⟩
      have hkn : ¬ (k : Int) = (n2 : Nat) := by omega
      rcases Int.lt_trichotomy x y with he | he | he
      · have hr : cmpL xs ys = -1 := by rw [← hj, cmpL_drop_ne (by omega) (by omega) (by rw [cmpI_lt (by omega)]; decide), cmpI_lt (by omega)]
        rw [hr]
        rw [← hxd] at hx
        rw [← hyd] at hy
        repeat' (first
          | (apply JL_nil)
          | ((first | (apply JL_pure) | (apply JL_pure_on; exact rfl; exact gb)); (first
      | (apply as_load; first | exact OpR_load_int (h1.sl.st hs) rfl hx is_rfl | exact OpR_load_int (h2.sl.st hs) rfl hy is_rfl)
      | (apply as_move; exact OpR_move rfl is_rfl)
      | (apply as_assign; exact OpR_assign rfl is_rfl)
      | (apply as_binOp; exact OpR_ibin rfl rfl rfl is_rfl)
      | (apply as_pick; exact OpR_pick_f rfl gb rfl is_rfl)
      | (apply as_b_len; exact OpR_len rfl is_rfl)
      | (apply as_indexAddr; exact OpR_indexAddr rfl rfl (by omega) (by omega) is_rfl)); first | (exact rfl; exact rfl) | exact rfl)
          | (apply J_seq)
          | (apply J_region)
          | (apply J_block)
          | (apply J_skip)
          | (apply aj_cond; first | refine J_dec_t rfl ob ?_ | refine J_dec_f rfl ob ?_))
        refine J_leave Tryz.func221 rfl (.tmp rfl .nil) ⟨rfl, hs.frm.ext⟩
      · have hst := cmpL_drop (xs := xs) (ys := ys) (k := k) (by omega) (by omega) (by omega)
        rw [← hxd] at hx
        rw [← hyd] at hy
        repeat' (first
          | (apply JL_nil)
          | ((first | (apply JL_pure) | (apply JL_pure_on; exact rfl; exact gb)); (first
      | (apply as_load; first | exact OpR_load_int (h1.sl.st hs) rfl hx is_rfl | exact OpR_load_int (h2.sl.st hs) rfl hy is_rfl)
      | (apply as_move; exact OpR_move rfl is_rfl)
      | (apply as_assign; exact OpR_assign rfl is_rfl)
      | (apply as_add; exact OpR_addn rfl rfl (by omega) (by first | (simp only [Int.reduceAdd]; exact rfl) | exact rfl) is_rfl)
      | (apply as_binOp; exact OpR_ibin rfl rfl rfl is_rfl)
      | (apply as_pick; exact OpR_pick_f rfl gb rfl is_rfl)
      | (apply as_b_len; exact OpR_len rfl is_rfl)
      | (apply as_indexAddr; exact OpR_indexAddr rfl rfl (by omega) (by omega) is_rfl)); first | (exact rfl; exact rfl) | exact rfl)
          | (apply J_seq)
          | (apply J_region)
          | (apply J_block)
          | (apply J_inBlock)
          | (apply J_skip)
          | (apply aj_cond; first | refine J_dec_t rfl ob ?_ | refine J_dec_f rfl ob ?_))
        refine ih (k + 1) _ _ ⟨hs, by omega, by omega, by rw [← hj, hst]⟩ (by omega) (by repeat' (first | exact trivial | exact rfl | apply And.intro))
      · have hr : cmpL xs ys = 1 := by rw [← hj, cmpL_drop_ne (by omega) (by omega) (by rw [cmpI_gt (by omega)]; decide), cmpI_gt (by omega)]
        rw [hr]
        rw [← hxd] at hx
        rw [← hyd] at hy
        repeat' (first
          | (apply JL_nil)
          | ((first | (apply JL_pure) | (apply JL_pure_on; exact rfl; exact gb)); (first
      | (apply as_load; first | exact OpR_load_int (h1.sl.st hs) rfl hx is_rfl | exact OpR_load_int (h2.sl.st hs) rfl hy is_rfl)
      | (apply as_move; exact OpR_move rfl is_rfl)
      | (apply as_assign; exact OpR_assign rfl is_rfl)
      | (apply as_binOp; exact OpR_ibin rfl rfl rfl is_rfl)
      | (apply as_pick; exact OpR_pick_f rfl gb rfl is_rfl)
      | (apply as_b_len; exact OpR_len rfl is_rfl)
      | (apply as_indexAddr; exact OpR_indexAddr rfl rfl (by omega) (by omega) is_rfl)); first | (exact rfl; exact rfl) | exact rfl)
          | (apply J_seq)
          | (apply J_region)
          | (apply J_block)
          | (apply J_skip)
          | (apply aj_cond; refine J_dec_t rfl ob ?_))
        refine J_leave Tryz.func221 rfl (.tmp rfl .nil) ⟨rfl, hs.frm.ext⟩
    · repeat' (first
        | (apply JL_nil)
        | ((apply JL_pure); (first
      | (apply as_load; first | exact OpR_load_int (h1.sl.st hs) rfl hx is_rfl)
      | (apply as_move; exact OpR_move rfl is_rfl)
      | (apply as_assign; exact OpR_assign rfl is_rfl)
      | (apply as_binOp; exact OpR_ibin rfl rfl rfl is_rfl)
      | (apply as_pick; exact OpR_pick_t rfl gb rfl is_rfl)
      | (apply as_b_len; exact OpR_len rfl is_rfl)
      | (apply as_indexAddr; exact OpR_indexAddr rfl rfl (by omega) (by omega) is_rfl)); first | (exact rfl; exact rfl) | exact rfl)
        | (apply J_seq)
        | (apply J_region)
        | (apply J_block)
        | (apply J_skip)
        | (apply al_guard; (refine JL_no rfl gb rfl ?_))
        | (apply aj_cond; first | refine J_dec_t rfl ob ?_ | refine J_cond_t rfl gb ?_))
      refine J_leave Tryz.func221 rfl (.tmp rfl .nil) ⟨?_, hs.frm.ext⟩
      rw [← hj, cmpL_nilR (by omega) (by omega)]; rfl
  · by_cases hlt2 : n1 < n2
    · repeat' (first
        | (apply JL_nil)
        | ((apply JL_pure); (first
      | (apply as_move; exact OpR_move rfl is_rfl)
      | (apply as_assign; exact OpR_assign rfl is_rfl)
      | (apply as_binOp; exact OpR_ibin rfl rfl rfl is_rfl)
      | (apply as_b_len; exact OpR_len rfl is_rfl)); first | (exact rfl; exact rfl) | exact rfl)
        | (apply J_seq)
        | (apply J_region)
        | (apply aj_exit; refine J_exit rfl ?_)
        | (apply aj_cond; first | refine J_dec_t rfl ob ?_ | refine J_dec_f rfl ob ?_))
      refine J_leave Tryz.func221 rfl (.tmp rfl .nil) ⟨?_, hs.frm.ext⟩
      rw [← hj, cmpL_nilL (by omega) (by omega)]; rfl
    · repeat' (first
        | (apply JL_nil)
        | ((apply JL_pure); (first
      | (apply as_move; exact OpR_move rfl is_rfl)
      | (apply as_assign; exact OpR_assign rfl is_rfl)
      | (apply as_binOp; exact OpR_ibin rfl rfl rfl is_rfl)
      | (apply as_b_len; exact OpR_len rfl is_rfl)); first | (exact rfl; exact rfl) | exact rfl)
        | (apply J_seq)
        | (apply J_region)
        | (apply aj_exit; refine J_exit rfl ?_)
        | (apply J_skip)
        | (apply aj_cond; refine J_dec_f rfl ob ?_))
      refine J_leave Tryz.func221 rfl (.tmp rfl .nil) ⟨?_, hs.frm.ext⟩
      rw [← hj, List.drop_eq_nil_of_le (by omega), List.drop_eq_nil_of_le (by omega)]; rfl
theorem equalId_r (w : World) (a1 a2 : Option Addr) (n1 c1 n2 c2 : Nat) (xs ys : List Int) (h1 : Sl (tInt .u64) All w a1 n1 c1 xs) (h2 : Sl (tInt .u64) All w a2 n2 c2 ys) :
    Ret Tryz.prog 43 #[.slice a1 n1 c1, .slice a2 n2 c2] w fun v w' => v = .bool (decide (xs = ys)) ∧ Ext w w' := by
  refine Ret_of (l := [_, _]) Tryz.func43 rfl Tryz.ntmps43 (by simp) ?_
  have hs := St.init w
  have hl1 := h1.len
  have hl2 := h2.len
  have hc1 := h1.le
  have hm1 := h1.cap
  unfold maxLen at hm1
  by_cases hn : n1 = n2
  · subst hn
    repeat' (first
      | (apply JL_nil)
      | ((apply JL_pure); (first
      | (apply as_move; exact OpR_move rfl is_rfl)
      | (apply as_assign; exact OpR_assign rfl is_rfl)
      | (apply as_binOp; exact OpR_ibin rfl rfl rfl is_rfl)
      | (apply as_b_len; exact OpR_len rfl is_rfl)); first | (exact rfl; exact rfl) | exact rfl)
      | (apply J_seq)
      | (apply J_region)
      | (apply J_block)
      | (apply J_skip)
      | (apply aj_cond; refine J_dec_f rfl ob ?_))
    refine J_loopK (α := Nat) [(0, _), (1, _), (12, _)] (fun k => [(13, .int .i64 k)]) (fun k w' => St w NoF w' [] ∧ k ≤ n1 ∧ xs.take k = ys.take k) (fun k => n1 - k) 0 ⟨hs, by omega, by simp⟩ (by repeat' (first | exact trivial | exact rfl | apply And.intro)) ?_
    rintro k w' ⟨hs, hk, hj⟩ ih
    by_cases hlt : k < n1
    · obtain ⟨p1, o1, rfl⟩ := h1.sl.addr (by omega)
      obtain ⟨p2, o2, rfl⟩ := h2.sl.addr (by omega)
      have hx : xs[k]? = some xs[k] := List.getElem?_eq_getElem (by omega)
      have hy : ys[k]? = some ys[k] := List.getElem?_eq_getElem (by omega)
      obtain ⟨x, hxd⟩ : ∃ x, x = xs[k] := ⟨_, rfl⟩
      obtain ⟨y, hyd⟩ : ∃ y, y = ys[k] := ⟨_, rfl⟩
      rw [← hxd] at hx
      rw [← hyd] at hy
      by_cases he : x = y
      · have he2 : x = y := he
        repeat' (first
          | (apply JL_nil)
          | ((first | (apply JL_pure) | (apply JX_f; exact rfl; intro W X hs)); (first
      | (apply as_load; first | exact OpR_load_int (h1.sl.st hs) rfl hx is_rfl | exact OpR_load_int (h2.sl.st hs) rfl hy is_rfl)
      | (apply as_move; exact OpR_move rfl is_rfl)
      | (apply as_assign; exact OpR_assign rfl is_rfl)
      | (apply as_add; exact OpR_addn rfl rfl (by omega) (by first | (simp only [Int.reduceAdd]; exact rfl) | exact rfl) is_rfl)
      | (apply as_binOp; exact OpR_ibin rfl rfl rfl is_rfl)
      | (apply as_indexAddr; exact OpR_indexAddr rfl rfl (by omega) (by omega) is_rfl)); first | (exact rfl; exact rfl) | exact rfl)
          | (apply J_seq)
          | (apply J_region)
          | (apply J_block)
          | (apply J_inBlock)
          | (apply J_skip)
          | (apply aj_cond; first | refine J_dec_t rfl ob ?_ | refine J_dec_f rfl ob ?_)
          | (apply aj_draw; (refine J_drawX (id := 6) [0, 0, 3, 7, 0, 0, 48, 112, 255] [(0, 0), (1, 0), (2, 0), (3, 0), (4, 0), (5, 0), (6, 0), (7, 0), (8, 0)] [] hs mixed (by kernel_rfl) (by kernel_rfl) (by kernel_rfl) (by kernel_rfl) (by kernel_rfl) ?_))
          | (refine JX_done (fun W hs => ?_))
          | (apply JD_done))
        refine ih (k + 1) _ _ ⟨hs, by omega, take_eq_succ hx (by rw [hy, he2]) hj⟩ (by omega) (by repeat' (first | exact trivial | exact rfl | apply And.intro))
      · repeat' (first
          | (apply JL_nil)
          | ((first | (apply JL_pure) | (apply JX_f; exact rfl; intro W X hs)); (first
      | (apply as_load; first | exact OpR_load_int (h1.sl.st hs) rfl hx is_rfl | exact OpR_load_int (h2.sl.st hs) rfl hy is_rfl)
      | (apply as_move; exact OpR_move rfl is_rfl)
      | (apply as_assign; exact OpR_assign rfl is_rfl)
      | (apply as_binOp; exact OpR_ibin rfl rfl rfl is_rfl)
      | (apply as_indexAddr; exact OpR_indexAddr rfl rfl (by omega) (by omega) is_rfl)); first | (exact rfl; exact rfl) | exact rfl)
          | (apply J_seq)
          | (apply J_region)
          | (apply J_block)
          | (apply J_skip)
          | (apply aj_cond; refine J_dec_t rfl ob ?_)
          | (apply aj_draw; (refine J_drawX (id := 6) [0, 0, 3, 7, 0, 0, 48, 112, 255] [(0, 0), (1, 0), (2, 0), (3, 0), (4, 0), (5, 0), (6, 0), (7, 0), (8, 0)] [] hs mixed (by kernel_rfl) (by kernel_rfl) (by kernel_rfl) (by kernel_rfl) (by kernel_rfl) ?_))
          | (refine JX_done (fun W hs => ?_))
          | (apply JD_done))
        refine J_leave Tryz.func43 rfl (.tmp rfl .nil) ⟨?_, hs.frm.ext⟩
        have : xs ≠ ys := fun e => he (by rw [e, hy] at hx; injection hx with hx; rw [hx])
        rw [decide_eq_false this]; rfl
    · rw [List.take_of_length_le (by omega), List.take_of_length_le (by omega)] at hj
      repeat' (first
        | (apply JL_nil)
        | ((apply JL_pure); (first
      | (apply as_assign; exact OpR_assign rfl is_rfl)
      | (apply as_binOp; exact OpR_ibin rfl rfl rfl is_rfl)); first | (exact rfl; exact rfl) | exact rfl)
        | (apply J_seq)
        | (apply J_region)
        | (apply aj_exit; refine J_exit rfl ?_)
        | (apply aj_cond; refine J_dec_f rfl ob ?_))
      refine J_leave Tryz.func43 rfl (.tmp rfl .nil) ⟨?_, hs.frm.ext⟩
      rw [decide_eq_true hj]; rfl
  · repeat' (first
      | (apply JL_nil)
      | ((apply JL_pure); (first
      | (apply as_move; exact OpR_move rfl is_rfl)
      | (apply as_assign; exact OpR_assign rfl is_rfl)
      | (apply as_binOp; exact OpR_ibin rfl rfl rfl is_rfl)
      | (apply as_b_len; exact OpR_len rfl is_rfl)); first | (exact rfl; exact rfl) | exact rfl)
      | (apply J_seq)
      | (apply J_region)
      | (apply aj_cond; refine J_dec_t rfl ob ?_))
    refine J_leave Tryz.func43 rfl (.tmp rfl .nil) ⟨?_, hs.frm.ext⟩
    have : xs ≠ ys := by intro e; subst e; omega
    rw [decide_eq_false this]; rfl
theorem sameR_r (w : World) (a1 a2 : Option Addr) (n1 c1 n2 c2 : Nat) (xs ys : List Int) (h1 : Sl (tInt .u64) All w a1 n1 c1 xs) (h2 : Sl (tInt .u64) All w a2 n2 c2 ys) :
    Ret Tryz.prog 134 #[.slice a1 n1 c1, .slice a2 n2 c2] w fun v w' => v = .bool (decide (xs = ys)) ∧ Ext w w' := by
  refine Ret_of (l := [_, _]) Tryz.func134 rfl Tryz.ntmps134 (by simp) ?_
  have hs := St.init w
  have hl1 := h1.len
  have hl2 := h2.len
  have hc1 := h1.le
  have hm1 := h1.cap
  unfold maxLen at hm1
  by_cases hn : n1 = n2
  · subst hn
    repeat' (first
      | (apply JL_nil)
      | ((apply JL_pure); (first
      | (apply as_move; exact OpR_move rfl is_rfl)
      | (apply as_assign; exact OpR_assign rfl is_rfl)
      | (apply as_binOp; exact OpR_ibin rfl rfl rfl is_rfl)
      | (apply as_b_len; exact OpR_len rfl is_rfl)); first | (exact rfl; exact rfl) | exact rfl)
      | (apply J_seq)
      | (apply J_region)
      | (apply J_block)
      | (apply J_skip)
      | (apply aj_cond; refine J_dec_f rfl ob ?_))
    refine J_loopK (α := Nat) [(0, _), (1, _), (12, _)] (fun k => [(13, .int .i64 k)]) (fun k w' => St w NoF w' [] ∧ k ≤ n1 ∧ xs.take k = ys.take k) (fun k => n1 - k) 0 ⟨hs, by omega, by simp⟩ (by repeat' (first | exact trivial | exact rfl | apply And.intro)) ?_
    rintro k w' ⟨hs, hk, hj⟩ ih
    by_cases hlt : k < n1
    · obtain ⟨p1, o1, rfl⟩ := h1.sl.addr (by omega)
      obtain ⟨p2, o2, rfl⟩ := h2.sl.addr (by omega)
      have hx : xs[k]? = some xs[k] := List.getElem?_eq_getElem (by omega)
      have hy : ys[k]? = some ys[k] := List.getElem?_eq_getElem (by omega)
      obtain ⟨x, hxd⟩ : ∃ x, x = xs[k] := ⟨_, rfl⟩
      obtain ⟨y, hyd⟩ : ∃ y, y = ys[k] := ⟨_, rfl⟩
      rw [← hxd] at hx
      rw [← hyd] at hy
      by_cases he : x = y
      · have he2 : x = y := he
        repeat' (first
          | (apply JL_nil)
          | ((first | (apply JL_pure) | (apply JX_f; exact rfl; intro W X hs)); (first
      | (apply as_load; first | exact OpR_load_int (h1.sl.st hs) rfl hx is_rfl | exact OpR_load_int (h2.sl.st hs) rfl hy is_rfl)
      | (apply as_move; exact OpR_move rfl is_rfl)
      | (apply as_assign; exact OpR_assign rfl is_rfl)
      | (apply as_add; exact OpR_addn rfl rfl (by omega) (by first | (simp only [Int.reduceAdd]; exact rfl) | exact rfl) is_rfl)
      | (apply as_binOp; exact OpR_ibin rfl rfl rfl is_rfl)
      | (apply as_indexAddr; exact OpR_indexAddr rfl rfl (by omega) (by omega) is_rfl)); first | (exact rfl; exact rfl) | exact rfl)
          | (apply J_seq)
          | (apply J_region)
          | (apply J_block)
          | (apply J_inBlock)
          | (apply J_skip)
          | (apply aj_cond; first | refine J_dec_t rfl ob ?_ | refine J_dec_f rfl ob ?_)
          | (apply aj_draw; (refine J_drawX (id := 6) [0, 0, 3, 7, 0, 0, 48, 112, 255] [(0, 0), (1, 0), (2, 0), (3, 0), (4, 0), (5, 0), (6, 0), (7, 0), (8, 0)] [] hs mixed (by kernel_rfl) (by kernel_rfl) (by kernel_rfl) (by kernel_rfl) (by kernel_rfl) ?_))
          | (refine JX_done (fun W hs => ?_))
          | (apply JD_done))
        refine ih (k + 1) _ _ ⟨hs, by omega, take_eq_succ hx (by rw [hy, he2]) hj⟩ (by omega) (by repeat' (first | exact trivial | exact rfl | apply And.intro))
      · repeat' (first
          | (apply JL_nil)
          | ((first | (apply JL_pure) | (apply JX_f; exact rfl; intro W X hs)); (first
      | (apply as_load; first | exact OpR_load_int (h1.sl.st hs) rfl hx is_rfl | exact OpR_load_int (h2.sl.st hs) rfl hy is_rfl)
      | (apply as_move; exact OpR_move rfl is_rfl)
      | (apply as_assign; exact OpR_assign rfl is_rfl)
      | (apply as_binOp; exact OpR_ibin rfl rfl rfl is_rfl)
      | (apply as_indexAddr; exact OpR_indexAddr rfl rfl (by omega) (by omega) is_rfl)); first | (exact rfl; exact rfl) | exact rfl)
          | (apply J_seq)
          | (apply J_region)
          | (apply J_block)
          | (apply J_skip)
          | (apply aj_cond; refine J_dec_t rfl ob ?_)
          | (apply aj_draw; (refine J_drawX (id := 6) [0, 0, 3, 7, 0, 0, 48, 112, 255] [(0, 0), (1, 0), (2, 0), (3, 0), (4, 0), (5, 0), (6, 0), (7, 0), (8, 0)] [] hs mixed (by kernel_rfl) (by kernel_rfl) (by kernel_rfl) (by kernel_rfl) (by kernel_rfl) ?_))
          | (refine JX_done (fun W hs => ?_))
          | (apply JD_done))
        refine J_leave Tryz.func134 rfl (.tmp rfl .nil) ⟨?_, hs.frm.ext⟩
        have : xs ≠ ys := fun e => he (by rw [e, hy] at hx; injection hx with hx; rw [hx])
        rw [decide_eq_false this]; rfl
    · rw [List.take_of_length_le (by omega), List.take_of_length_le (by omega)] at hj
      repeat' (first
        | (apply JL_nil)
        | ((apply JL_pure); (first
      | (apply as_assign; exact OpR_assign rfl is_rfl)
      | (apply as_binOp; exact OpR_ibin rfl rfl rfl is_rfl)); first | (exact rfl; exact rfl) | exact rfl)
        | (apply J_seq)
        | (apply J_region)
        | (apply aj_exit; refine J_exit rfl ?_)
        | (apply aj_cond; refine J_dec_f rfl ob ?_))
      refine J_leave Tryz.func134 rfl (.tmp rfl .nil) ⟨?_, hs.frm.ext⟩
      rw [decide_eq_true hj]; rfl
  · repeat' (first
      | (apply JL_nil)
      | ((apply JL_pure); (first
      | (apply as_move; exact OpR_move rfl is_rfl)
      | (apply as_assign; exact OpR_assign rfl is_rfl)
      | (apply as_binOp; exact OpR_ibin rfl rfl rfl is_rfl)
      | (apply as_b_len; exact OpR_len rfl is_rfl)); first | (exact rfl; exact rfl) | exact rfl)
      | (apply J_seq)
      | (apply J_region)
      | (apply aj_cond; refine J_dec_t rfl ob ?_))
    refine J_leave Tryz.func134 rfl (.tmp rfl .nil) ⟨?_, hs.frm.ext⟩
    have : xs ≠ ys := by intro e; subst e; omega
    rw [decide_eq_false this]; rfl
theorem cloneId_r (w : World) (a : Option Addr) (n c : Nat) (cells : List Value) (hsrc : Src w a n 1 cells) (hpl : 0 < n → PlainA a) (hn : n ≤ 4000000000) :
    Ret Tryz.prog 24 #[.slice a n c] w fun v w' => ∃ a' c', v = .slice a' n c' ∧ Fresh w w' [Row a' n c' 29 1 cells] := by
  refine Ret_of (l := [_]) Tryz.func24 rfl Tryz.ntmps24 (by simp) ?_
  have hs := St.init w
  have hl := hsrc.1
  cases a with
  | none =>
    have hn0 := hsrc.2.1 rfl
    subst hn0
    have : cells = [] := List.eq_nil_of_length_eq_zero (by omega)
    subst this
    repeat' (first
      | (apply JL_nil)
      | ((apply JL_pure); (first
      | (apply as_move; exact OpR_move rfl is_rfl)
      | (apply as_assign; exact OpR_assign rfl is_rfl)
      | (apply as_binOp; exact OpR_eqNil rfl rfl is_rfl)); first | (exact rfl; exact rfl) | exact rfl)
      | (apply J_seq)
      | (apply J_region)
      | (apply aj_cond; refine J_cond_t rfl gb ?_))
    have hs := hs.nilRow 29 1
    refine J_leave Tryz.func24 rfl (.tmp rfl .nil) ⟨_, _, rfl, hs.out (List.Sublist.refl _)⟩
  | some ad =>
    repeat' (first
      | ((apply al_none; refine JL_o (by apply as_buildSlice; exact OpR_buildSlice hs rfl (by omega) rfl) rfl rfl ?_; rintro _ _ ⟨b, rfl, hb, hs, hE⟩; have hs := hs.toRow 0 0 0 1 (xs := []) (Nat.le_refl _) (by unfold maxLen; omega) (by simp) rfl))
      | ((apply al_none; refine JL_o (by apply as_b_append; exact OpR_append hs rfl rfl (Src.st hsrc hs) hpl rfl (by omega) (by unfold maxLen; omega)) rfl rfl ?_; rintro _ _ ⟨a2, c2, rfl, hs, hF, hnil⟩; rw [Nat.zero_add] at hs ⊢; rw [List.nil_append] at hs))
      | (apply JL_nil)
      | ((apply JL_pure); (first
      | (apply as_move; exact OpR_move rfl is_rfl)
      | (apply as_assign; exact OpR_assign rfl is_rfl)
      | (apply as_binOp; exact OpR_eqNil rfl rfl is_rfl)); first | (exact rfl; exact rfl) | exact rfl)
      | (apply J_seq)
      | (apply J_region)
      | (apply J_skip)
      | (apply aj_cond; refine J_cond_f rfl gb ?_))
    refine J_leave Tryz.func24 rfl (.tmp rfl .nil) ⟨_, _, rfl, hs.out (.cons_cons _ (List.nil_sublist _))⟩
end Go.Eng
