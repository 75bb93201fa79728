/- The engine, part 22: numbers' bits, shifts, quotients. -/
import Derived.Test.YtcoldgkhlkjjmaaGreatE21
namespace Go.Eng
open Go.RowKit
set_option linter.unusedVariables false
set_option linter.unusedSimpArgs false
def iand (x y : Int) : Int := ((x.toNat &&& y.toNat : Nat) : Int)
def ior (x y : Int) : Int := ((x.toNat ||| y.toNat : Nat) : Int)
def ixor (x y : Int) : Int := ((x.toNat ^^^ y.toNat : Nat) : Int)
theorem u64_nat (a : Nat) (h : a < 18446744073709551616) : IntKind.u64.wrap (a : Int) = a := by
  simp only [IntKind.wrap, IntKind.bits, IntKind.signed]; simp; omega
theorem i64_nat (a : Nat) (h : a < 9223372036854775808) : IntKind.i64.wrap (a : Int) = a := by
  simp only [IntKind.wrap, IntKind.bits, IntKind.signed]; simp; omega
theorem bv_nat {a : Int} (h : 0 ≤ a ∧ a < 18446744073709551616) : (BitVec.ofInt 64 a).toNat = a.toNat := by
  rw [BitVec.toNat_ofInt]; omega
section
variable {P : Program} {env : Env} {w : World} {dst : Option Tmp} {ty : TypeId} {pos : String} {af : Array Edge} {gd : Option (Nat × Bool)} {S : Value → World → Prop} {T T' : Nat} {a b : Int} {x y : Operand}
theorem OpR_band (hx : ev env x = some (.int .u64 a)) (hy : ev env y = some (.int .u64 b)) (ha : 0 ≤ a ∧ a < 18446744073709551616) (hb : 0 ≤ b ∧ b < 18446744073709551616) (hS : S (.int .u64 (iand a b)) w) : OpR P env ⟨dst, .binOp .and T x y T', ty, pos, af, gd⟩ w S :=
  .val (fun tmps hm => by
    have e : IntKind.u64.wrap (((BitVec.ofInt 64 a &&& BitVec.ofInt 64 b).toNat : Nat) : Int) = iand a b := by
      rw [BitVec.toNat_and, bv_nat ha, bv_nat hb]
      exact u64_nat _ (Nat.lt_of_le_of_lt Nat.and_le_left (by omega))
    have e2 : (BitVec.ofInt 64 a &&& BitVec.ofInt 64 b).toNat = (BitVec.ofInt IntKind.u64.bits a &&& BitVec.ofInt IntKind.u64.bits b).toNat := rfl
    rw [e2] at e
    simp [execOp, hm.eval hx, hm.eval hy, eqGuard, binOp, Op.intBits]
    exact e) hS
theorem OpR_bor (hx : ev env x = some (.int .u64 a)) (hy : ev env y = some (.int .u64 b)) (ha : 0 ≤ a ∧ a < 18446744073709551616) (hb : 0 ≤ b ∧ b < 18446744073709551616) (hS : S (.int .u64 (ior a b)) w) : OpR P env ⟨dst, .binOp .or T x y T', ty, pos, af, gd⟩ w S :=
  .val (fun tmps hm => by
    have e : IntKind.u64.wrap (((BitVec.ofInt 64 a ||| BitVec.ofInt 64 b).toNat : Nat) : Int) = ior a b := by
      rw [BitVec.toNat_or, bv_nat ha, bv_nat hb]
      exact u64_nat _ (Nat.or_lt_two_pow (n := 64) (by omega) (by omega))
    have e2 : (BitVec.ofInt 64 a ||| BitVec.ofInt 64 b).toNat = (BitVec.ofInt IntKind.u64.bits a ||| BitVec.ofInt IntKind.u64.bits b).toNat := rfl
    rw [e2] at e
    simp [execOp, hm.eval hx, hm.eval hy, eqGuard, binOp, Op.intBits]
    exact e) hS
theorem OpR_bxor (hx : ev env x = some (.int .u64 a)) (hy : ev env y = some (.int .u64 b)) (ha : 0 ≤ a ∧ a < 18446744073709551616) (hb : 0 ≤ b ∧ b < 18446744073709551616) (hS : S (.int .u64 (ixor a b)) w) : OpR P env ⟨dst, .binOp .xor T x y T', ty, pos, af, gd⟩ w S :=
  .val (fun tmps hm => by
    have e : IntKind.u64.wrap (((BitVec.ofInt 64 a ^^^ BitVec.ofInt 64 b).toNat : Nat) : Int) = ixor a b := by
      rw [BitVec.toNat_xor, bv_nat ha, bv_nat hb]
      exact u64_nat _ (Nat.xor_lt_two_pow (n := 64) (by omega) (by omega))
    have e2 : (BitVec.ofInt 64 a ^^^ BitVec.ofInt 64 b).toNat = (BitVec.ofInt IntKind.u64.bits a ^^^ BitVec.ofInt IntKind.u64.bits b).toNat := rfl
    rw [e2] at e
    simp [execOp, hm.eval hx, hm.eval hy, eqGuard, binOp, Op.intBits]
    exact e) hS
theorem OpR_bandi (hx : ev env x = some (.int .i64 a)) (hy : ev env y = some (.int .i64 b)) (ha : 0 ≤ a ∧ a < 9223372036854775808) (hb : 0 ≤ b ∧ b < 9223372036854775808) (hS : S (.int .i64 (iand a b)) w) : OpR P env ⟨dst, .binOp .and T x y T', ty, pos, af, gd⟩ w S :=
  .val (fun tmps hm => by
    have e : IntKind.i64.wrap (((BitVec.ofInt 64 a &&& BitVec.ofInt 64 b).toNat : Nat) : Int) = iand a b := by
      rw [BitVec.toNat_and, bv_nat (by omega), bv_nat (by omega)]
      exact i64_nat _ (Nat.lt_of_le_of_lt Nat.and_le_left (by omega))
    have e2 : (BitVec.ofInt 64 a &&& BitVec.ofInt 64 b).toNat = (BitVec.ofInt IntKind.i64.bits a &&& BitVec.ofInt IntKind.i64.bits b).toNat := rfl
    rw [e2] at e
    simp [execOp, hm.eval hx, hm.eval hy, eqGuard, binOp, Op.intBits]
    exact e) hS
theorem fdiv_pos {a : Int} {m : Int} (h : 0 ≤ m) : a.fdiv m = a / m := Int.fdiv_eq_ediv_of_nonneg a h
theorem OpR_shr {k k' : IntKind} {n : Nat} (hx : ev env x = some (.int k a)) (hy : ev env y = some (.int k' b)) (hb : 0 ≤ b) (hn : min b.toNat k.bits = n) (hS : S (.int k (a / 2 ^ n)) w) : OpR P env ⟨dst, .binOp .shr T x y T', ty, pos, af, gd⟩ w S :=
  .val (fun tmps hm => by
    have h0 : ¬ b < 0 := by omega
    have hp : (0 : Int) ≤ 2 ^ n := Int.le_of_lt (Int.pow_pos (by decide))
    simp [execOp, hm.eval hx, hm.eval hy, eqGuard, binOp, Op.shift, h0, hn]
    exact fdiv_pos hp) hS
theorem OpR_shl {k k' : IntKind} {n : Nat} (hx : ev env x = some (.int k a)) (hy : ev env y = some (.int k' b)) (hb : 0 ≤ b) (hn : min b.toNat k.bits = n) (hS : S (.int k (k.wrap (a * 2 ^ n))) w) : OpR P env ⟨dst, .binOp .shl T x y T', ty, pos, af, gd⟩ w S :=
  .val (fun tmps hm => by
    have h0 : ¬ b < 0 := by omega
    simp [execOp, hm.eval hx, hm.eval hy, eqGuard, binOp, Op.shift, h0, hn]) hS
theorem OpR_rem {k : IntKind} (hx : ev env x = some (.int k a)) (hy : ev env y = some (.int k b)) (ha : 0 ≤ a) (hb : 0 < b) (hS : S (.int k (a % b)) w) : OpR P env ⟨dst, .binOp .rem T x y T', ty, pos, af, gd⟩ w S :=
  .val (fun tmps hm => by
    have h0 : ¬ b = 0 := by omega
    simp [execOp, hm.eval hx, hm.eval hy, eqGuard, binOp, Op.intDiv, h0]
    exact Int.tmod_eq_emod_of_nonneg ha) hS
theorem OpR_quo {k : IntKind} (hx : ev env x = some (.int k a)) (hy : ev env y = some (.int k b)) (ha : 0 ≤ a) (hb : 0 < b) (hw : k.wrap (a / b) = a / b) (hS : S (.int k (a / b)) w) : OpR P env ⟨dst, .binOp .quo T x y T', ty, pos, af, gd⟩ w S :=
  .val (fun tmps hm => by
    have h0 : ¬ b = 0 := by omega
    have e : a.tdiv b = a / b := Int.tdiv_eq_ediv_of_nonneg ha
    simp [execOp, hm.eval hx, hm.eval hy, eqGuard, binOp, Op.intDiv, h0, e, hw]) hS
theorem OpR_conv_i {k : IntKind} {d : TypeDesc} [U : Und P T d] [U' : Und P T' (.int .i64)] (hx : ev env x = some (.int k a)) (hb : -9223372036854775808 ≤ a ∧ a < 9223372036854775808) (hS : S (.int .i64 a) w) : OpR P env ⟨dst, .convert T T' x, ty, pos, af, gd⟩ w S :=
  OpR_conv_int hx (by rw [show IntKind.i64.wrap a = a by simp only [IntKind.wrap, IntKind.bits, IntKind.signed]; simp; omega]; exact hS)
theorem OpR_conv_u {k : IntKind} {d : TypeDesc} [U : Und P T d] [U' : Und P T' (.int .u64)] (hx : ev env x = some (.int k a)) (hb : 0 ≤ a ∧ a < 18446744073709551616) (hS : S (.int .u64 a) w) : OpR P env ⟨dst, .convert T T' x, ty, pos, af, gd⟩ w S :=
  OpR_conv_int hx (by rw [show IntKind.u64.wrap a = a by simp only [IntKind.wrap, IntKind.bits, IntKind.signed]; simp; omega]; exact hS)
theorem OpR_addu (hx : ev env x = some (.int .u64 a)) (hy : ev env y = some (.int .u64 b)) (hb : 0 ≤ a + b ∧ a + b < 18446744073709551616) (hS : S (.int .u64 (a + b)) w) : OpR P env ⟨dst, .binOp .add T x y T', ty, pos, af, gd⟩ w S :=
  OpR_ibin hx hy rfl (by rw [show IntKind.u64.wrap (a + b) = a + b by simp only [IntKind.wrap, IntKind.bits, IntKind.signed]; simp; omega]; exact hS)
theorem OpR_mulu (hx : ev env x = some (.int .u64 a)) (hy : ev env y = some (.int .u64 b)) (hb : 0 ≤ a * b ∧ a * b < 18446744073709551616) (hS : S (.int .u64 (a * b)) w) : OpR P env ⟨dst, .binOp .mul T x y T', ty, pos, af, gd⟩ w S :=
  OpR_ibin hx hy rfl (by rw [show IntKind.u64.wrap (a * b) = a * b by simp only [IntKind.wrap, IntKind.bits, IntKind.signed]; simp; omega]; exact hS)
theorem OpR_quou (hx : ev env x = some (.int .u64 a)) (hy : ev env y = some (.int .u64 b)) (ha : 0 ≤ a ∧ a < 18446744073709551616) (hb : 0 < b) (hS : S (.int .u64 (a / b)) w) : OpR P env ⟨dst, .binOp .quo T x y T', ty, pos, af, gd⟩ w S :=
  OpR_quo hx hy ha.1 hb (by
    have h1 : 0 ≤ a / b := Int.ediv_nonneg ha.1 (Int.le_of_lt hb)
    have h2 : a / b ≤ a := Int.ediv_le_self b ha.1
    simp only [IntKind.wrap, IntKind.bits, IntKind.signed]; simp; omega) hS
end
/-! ### What bits are as numbers -/
theorem iand_mask (a : Int) (n : Nat) : iand a (2 ^ n - 1) = a.toNat % 2 ^ n := by
  unfold iand
  have h : ((2 : Int) ^ n - 1).toNat = 2 ^ n - 1 := by
    have : ((2 : Int) ^ n) = ((2 ^ n : Nat) : Int) := by simp
    omega
  rw [h, Nat.and_two_pow_sub_one_eq_mod]
  simp
theorem ior_add {a b : Nat} (n q : Nat) (ha : a = q * 2 ^ n) (hb : b < 2 ^ n) : a ||| b = a + b := by
  subst ha
  rw [Nat.mul_comm]
  exact (Nat.two_pow_add_eq_or_of_lt hb q).symm
end Go.Eng
