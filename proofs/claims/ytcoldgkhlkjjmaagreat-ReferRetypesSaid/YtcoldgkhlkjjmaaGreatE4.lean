/- The engine, part 4: facts of types as instances; operations that leave the world alone. -/
import Derived.Test.YtcoldgkhlkjjmaaGreatE3
import Derived.IntWalk
import Derived.Laws.Entries
import Derived.Laws.Cells
import Derived.Laws.Append
import Derived.Laws.CopyRow
import Derived.Laws.Rows
import Derived.Laws.Tables
import Derived.Laws.World
namespace Go.Eng
open Go.RowKit

/-! ### Types -/
class Und (P : Program) (T : Nat) (d : outParam TypeDesc) : Prop where h : P.underlying T = some d
class Sz (P : Program) (T : Nat) (s : outParam Nat) : Prop where h : (P.info? T).map (·.size) = some s
class Byt (P : Program) (T : Nat) (s : outParam Nat) : Prop where h : (P.info? T).map (·.bytes) = some s
class Zer (P : Program) (T : Nat) (v : outParam Value) : Prop where h : (P.info? T).bind (·.zero) = some v
def aggB : TypeDesc → Bool | .struct _ => true | .array _ _ => true | _ => false
/-- A type of one cell, no struct and no array. -/
class Scal (P : Program) (T : Nat) : Prop where h : (P.underlying T).map aggB = some false
class Agg (P : Program) (T : Nat) (s : outParam Nat) : Prop where
  h : (P.underlying T).map aggB = some true
  s : (P.info? T).map (·.size) = some s
def fldRow (P : Program) (f : Field) : Option (Nat × Nat × Bool) :=
  match P.info? f.type, P.underlying f.type with
  | some i, some d => some (f.offset, i.size, aggB d)
  | _, _ => none
def fldRows (P : Program) : List Field → Option (List (Nat × Nat × Bool))
  | [] => some []
  | f :: r => match fldRow P f, fldRows P r with | some x, some l => some (x :: l) | _, _ => none
def fieldsOf (P : Program) (T : Nat) : Option (List (Nat × Nat × Bool)) :=
  match P.underlying T with
  | some (.struct fs) => fldRows P fs.toList
  | _ => none
/-- A struct's fields: offset, size, is it a struct or an array? -/
class Flds (P : Program) (T : Nat) (l : outParam (List (Nat × Nat × Bool))) : Prop where h : fieldsOf P T = some l

section
variable {P : Program} {env : Env} {w w' : World} {dst : Option Tmp} {ty : TypeId} {pos : String} {af : Array Edge} {gd : Option (Nat × Bool)} {S : Value → World → Prop}

theorem isAgg_of {T : Nat} {b : Bool} (h : (P.underlying T).map aggB = some b) (w : World) : (isAgg T).run P w = .ok b w := by
  cases hu : P.underlying T with
  | none => simp [hu] at h
  | some d =>
    simp only [hu, Option.map_some, Option.some.injEq] at h
    simp only [isAgg, Sem.run_bind, run_underlying hu, Result.andThen_ok]
    cases d <;> simp [aggB] at h <;> subst h <;> rfl
theorem sizeOf_of {T s : Nat} (h : (P.info? T).map (·.size) = some s) (w : World) : (sizeOf T).run P w = .ok s w := by
  cases hi : P.info? T with
  | none => simp [hi] at h
  | some i => simp [hi] at h; simp [sizeOf, typeInfo, hi, h]
theorem zero_of {T : Nat} {v : Value} (h : (P.info? T).bind (·.zero) = some v) (w : World) : (zeroValue T).run P w = .ok v w := by
  cases hi : P.info? T with
  | none => simp [hi] at h
  | some i => simp [hi] at h; simp [zeroValue, typeInfo, hi, h]
theorem flds_at {T : Nat} {l : List (Nat × Nat × Bool)} (h : fieldsOf P T = some l) {i off s : Nat} {b : Bool} (hi : l[i]? = some (off, s, b)) :
    ∃ fs f, P.underlying T = some (.struct fs) ∧ fs[i]? = some f ∧ f.offset = off ∧ (P.info? f.type).map (·.size) = some s ∧ (P.underlying f.type).map aggB = some b := by
  unfold fieldsOf at h
  cases hu : P.underlying T with
  | none => simp [hu] at h
  | some d =>
    cases d <;> simp only [hu] at h <;> try cases h
    rename_i fs
    have hall : ∀ (L : List Field) (l : List (Nat × Nat × Bool)), fldRows P L = some l → ∀ (j : Nat) (x : Nat × Nat × Bool), l[j]? = some x → ∃ f, L[j]? = some f ∧ fldRow P f = some x := by
      intro L
      induction L with
      | nil => intro l hl j x hx; simp [fldRows] at hl; subst hl; simp at hx
      | cons f r ih =>
        intro l hl j x hx
        simp only [fldRows] at hl
        cases h1 : fldRow P f with
        | none => simp [h1] at hl
        | some y =>
          cases h2 : fldRows P r with
          | none => simp [h1, h2] at hl
          | some l' =>
            simp [h1, h2] at hl
            subst hl
            cases j with
            | zero => simp at hx; subst hx; exact ⟨f, by simp, h1⟩
            | succ j => simpa using ih l' h2 j x (by simpa using hx)
    obtain ⟨f, hf, hx⟩ := hall _ _ h i _ hi
    refine ⟨fs, f, rfl, by rw [← Array.getElem?_toList]; exact hf, ?_⟩
    unfold fldRow at hx
    cases h1 : P.info? f.type with
    | none => simp [h1] at hx
    | some inf =>
      cases h2 : P.underlying f.type with
      | none => simp [h1, h2] at hx
      | some d => simp [h1, h2] at hx; simp [hx]

/-! ### Operations that leave the world alone -/
theorem add_eq (b o n : Nat) : (⟨b, o, none⟩ : Addr).add n = ⟨b, o + n, none⟩ := by unfold Addr.add; split <;> simp_all
theorem OpR_move {x : Operand} {v : Value} (hx : ev env x = some v) (hS : S v w) : OpR P env ⟨dst, .move x, ty, pos, af, gd⟩ w S :=
  .val (fun _ hm => by simp [execOp, hm.eval hx]) hS
theorem OpR_assign {x : Operand} {v : Value} (hx : ev env x = some v) (hS : S v w) : OpR P env ⟨dst, .assign x, ty, pos, af, gd⟩ w S :=
  .val (fun _ hm => by simp [execOp, hm.eval hx]) hS
theorem OpR_pick_t {c x y : Operand} {v : Value} {b : Bool} (hc : ev env c = some (.bool b)) (hb : b = true) (hx : ev env x = some v) (hS : S v w) : OpR P env ⟨dst, .pick c x y, ty, pos, af, gd⟩ w S :=
  .val (fun _ hm => by subst hb; simp [execOp, hm.eval hc, hm.eval hx, asBool]) hS
theorem OpR_pick_f {c x y : Operand} {v : Value} {b : Bool} (hc : ev env c = some (.bool b)) (hb : b = false) (hx : ev env y = some v) (hS : S v w) : OpR P env ⟨dst, .pick c x y, ty, pos, af, gd⟩ w S :=
  .val (fun _ hm => by subst hb; simp [execOp, hm.eval hc, hm.eval hx, asBool]) hS
theorem OpR_nilCheck {x : Operand} {a : Addr} (hx : ev env x = some (.pointer (some a))) (hS : S (.pointer (some a)) w) : OpR P env ⟨dst, .nilCheck x, ty, pos, af, gd⟩ w S :=
  .val (fun _ hm => by simp [execOp, hm.eval hx]) hS
theorem OpR_nilCheck_func {x : Operand} {f : FuncId} {cap : Array Value} (hx : ev env x = some (.func (.func f) #[] cap)) (hS : S (.func (.func f) #[] cap) w) : OpR P env ⟨dst, .nilCheck x, ty, pos, af, gd⟩ w S :=
  .val (fun _ hm => by simp [execOp, hm.eval hx]) hS
theorem OpR_fieldAddr {T i b o off s : Nat} {g : Bool} {x : Operand} {l : List (Nat × Nat × Bool)} [F : Flds P T l] (hx : ev env x = some (.pointer (some ⟨b, o, none⟩))) (hi : l[i]? = some (off, s + 1, g))
    (hS : S (.pointer (some ⟨b, o + off, none⟩)) w) : OpR P env ⟨dst, .fieldAddr T x i, ty, pos, af, gd⟩ w S :=
  .val (fun _ hm => by
    obtain ⟨fs, f, h1, h2, h3, h4, _⟩ := flds_at F.h hi
    have hz := sizeOf_of h4 w
    simp [execOp, hm.eval hx, Instr.fieldAt, run_underlying h1, h2, Instr.sureAddr, fieldPlace, hz, h3, add_eq]) hS
theorem OpR_field {T i off : Nat} {x : Operand} {l : List (Nat × Nat × Bool)} {cs : Array Value} {v : Value} [F : Flds P T l] (hx : ev env x = some (.agg cs)) (hi : l[i]? = some (off, 1, false)) (hv : cs.toList[off]? = some v)
    (hS : S v w) : OpR P env ⟨dst, .field T x i, ty, pos, af, gd⟩ w S :=
  .val (fun _ hm => by
    obtain ⟨fs, f, h1, h2, h3, _, h5⟩ := flds_at F.h hi
    have hz := isAgg_of h5 w
    have hv' : cs[off]? = some v := by simpa using hv
    simp [execOp, hm.eval hx, Instr.field, run_underlying h1, h2, part, asAgg, hz, h3, hv']) hS
theorem OpR_field_agg {T i off s : Nat} {x : Operand} {l : List (Nat × Nat × Bool)} {cs cs' : Array Value} [F : Flds P T l] (hx : ev env x = some (.agg cs)) (hi : l[i]? = some (off, s, true)) (hv : cs.extract off (off + s) = cs')
    (hS : S (.agg cs') w) : OpR P env ⟨dst, .field T x i, ty, pos, af, gd⟩ w S :=
  .val (fun _ hm => by
    obtain ⟨fs, f, h1, h2, h3, h4, h5⟩ := flds_at F.h hi
    have hz := isAgg_of h5 w
    have hz2 := sizeOf_of h4 w
    simp [execOp, hm.eval hx, Instr.field, run_underlying h1, h2, part, asAgg, hz, hz2, h3, hv]) hS
theorem OpR_indexAddr {T e sz b o n c : Nat} {k : IntKind} {i : Int} {x ix : Operand} [U : Und P T (.slice e)] [Z : Sz P e sz] (hx : ev env x = some (.slice (some ⟨b, o, none⟩) n c)) (hix : ev env ix = some (.int k i)) (h0 : 0 ≤ i) (h1 : i < n)
    (hS : S (.pointer (some ⟨b, o + i.toNat * sz, none⟩)) w) : OpR P env ⟨dst, .indexAddr T x ix, ty, pos, af, gd⟩ w S :=
  .val (fun _ hm => by
    have hz := sizeOf_of Z.h w
    simp [execOp, hm.eval hx, hm.eval hix, Instr.indexAt, asIntOf, run_underlying U.h, h0, h1, hz, add_eq]) hS
theorem OpR_indexAddr_arr {T e sz b o n : Nat} {k : IntKind} {i : Int} {x ix : Operand} [U : Und P T (.array n e)] [Z : Sz P e sz] (hx : ev env x = some (.pointer (some ⟨b, o, none⟩))) (hix : ev env ix = some (.int k i)) (h0 : 0 ≤ i) (h1 : i < n)
    (hS : S (.pointer (some ⟨b, o + i.toNat * sz, none⟩)) w) : OpR P env ⟨dst, .indexAddr T x ix, ty, pos, af, gd⟩ w S :=
  .val (fun _ hm => by
    have hz := sizeOf_of Z.h w
    simp [execOp, hm.eval hx, hm.eval hix, Instr.indexAt, asIntOf, run_underlying U.h, h0, h1, hz, add_eq, Instr.sureAddr]) hS
theorem OpR_index_agg {T e s n : Nat} {k : IntKind} {i : Int} {x ix : Operand} {cs cs' : Array Value} [U : Und P T (.array n e)] [A : Agg P e s] (hx : ev env x = some (.agg cs)) (hix : ev env ix = some (.int k i)) (h0 : 0 ≤ i) (h1 : i < n)
    (hv : cs.extract (i.toNat * s) (i.toNat * s + s) = cs') (hS : S (.agg cs') w) : OpR P env ⟨dst, .index T x ix, ty, pos, af, gd⟩ w S :=
  .val (fun _ hm => by
    have hz := sizeOf_of A.s w
    have hg := isAgg_of A.h w
    simp [execOp, hm.eval hx, hm.eval hix, Instr.index, asIntOf, run_underlying U.h, h0, h1, hz, part, hg, hv]) hS
theorem OpR_index {T e n : Nat} {k : IntKind} {i : Int} {x ix : Operand} {cs : Array Value} {v : Value} [U : Und P T (.array n e)] [A : Scal P e] [Z : Sz P e 1] (hx : ev env x = some (.agg cs)) (hix : ev env ix = some (.int k i)) (h0 : 0 ≤ i) (h1 : i < n)
    (hv : cs.toList[i.toNat]? = some v) (hS : S v w) : OpR P env ⟨dst, .index T x ix, ty, pos, af, gd⟩ w S :=
  .val (fun _ hm => by
    have hz := sizeOf_of Z.h w
    have hg := isAgg_of A.h w
    have hv' : cs[i.toNat]? = some v := by simpa using hv
    simp [execOp, hm.eval hx, hm.eval hix, Instr.index, asIntOf, run_underlying U.h, h0, h1, hz, part, hg, hv']) hS
theorem OpR_extract {x : Operand} {i : Nat} {vs : Array Value} {v : Value} (hx : ev env x = some (.tuple vs)) (hv : vs.toList[i]? = some v) (hS : S v w) : OpR P env ⟨dst, .extract x i, ty, pos, af, gd⟩ w S :=
  .val (fun _ hm => by
    have hv' : vs[i]? = some v := by simpa using hv
    simp [execOp, hm.eval hx, Instr.extract, hv']) hS
theorem OpR_makeFunc {fn : Fn} {cap : Array Operand} {cvs : Array Value} (hc : ∀ tmps, Match tmps env → cap.map (Act.eval ⟨tmps, []⟩) = cvs) (hS : S (.func fn #[] cvs) w) : OpR P env ⟨dst, .makeFunc fn #[] cap, ty, pos, af, gd⟩ w S :=
  .val (fun _ hm => by simp [execOp, hc _ hm, Instr.makeFunc]) hS
/-- Values of operands, one by one. -/
def evs (env : Env) : List Operand → Option (List Value)
  | [] => some []
  | x :: r => match ev env x, evs env r with | some v, some vs => some (v :: vs) | _, _ => none
theorem evs_map {tmps : Array Value} (hm : Match tmps env) : ∀ {l : List Operand} {vs : List Value}, evs env l = some vs → (l.toArray).map (Act.eval ⟨tmps, []⟩) = vs.toArray := by
  intro l
  induction l with
  | nil => intro vs h; simp [evs] at h; subst h; simp
  | cons x r ih =>
    intro vs h
    simp only [evs] at h
    cases hx : ev env x with
    | none => simp [hx] at h
    | some v =>
      cases hr : evs env r with
      | none => simp [hx, hr] at h
      | some us =>
        simp [hx, hr] at h
        subst h
        have := ih hr
        simp only [List.map_toArray, List.map_cons, hm.eval hx] at this ⊢
        simp at this ⊢
        exact this
theorem OpR_func {fn : Fn} {cap : List Operand} {cvs : List Value} (hc : evs env cap = some cvs) (hS : S (.func fn #[] cvs.toArray) w) : OpR P env ⟨dst, .makeFunc fn #[] cap.toArray, ty, pos, af, gd⟩ w S :=
  OpR_makeFunc (fun _ hm => evs_map hm hc) hS
theorem OpR_len {T e n c : Nat} {a : Option Addr} {x : Operand} [U : Und P T (.slice e)] (hx : ev env x = some (.slice a n c)) (hS : S (.int .i64 n) w) : OpR P env ⟨dst, .call ⟨.builtin .len, #[x], #[T]⟩, ty, pos, af, gd⟩ w S :=
  .val (fun _ hm => by simp [execOp, resolve, invoke, builtin, hm.eval hx, Builtin.len_, run_underlying U.h, goInt]) hS
theorem OpR_len_str {T : Nat} {s : ByteArray} {x : Operand} [U : Und P T .string] (hx : ev env x = some (.string s)) (hS : S (.int .i64 s.size) w) : OpR P env ⟨dst, .call ⟨.builtin .len, #[x], #[T]⟩, ty, pos, af, gd⟩ w S :=
  .val (fun _ hm => by simp [execOp, resolve, invoke, builtin, hm.eval hx, Builtin.len_, run_underlying U.h, goInt]) hS
theorem OpR_len_arr {T e n : Nat} {v : Value} {x : Operand} [U : Und P T (.array n e)] (hx : ev env x = some v) (hS : S (.int .i64 n) w) : OpR P env ⟨dst, .call ⟨.builtin .len, #[x], #[T]⟩, ty, pos, af, gd⟩ w S :=
  .val (fun _ hm => by simp [execOp, resolve, invoke, builtin, hm.eval hx, Builtin.len_, run_underlying U.h, goInt]) hS
theorem OpR_min {T : Array TypeId} {k : IntKind} {a b : Int} {x y : Operand} (hx : ev env x = some (.int k a)) (hy : ev env y = some (.int k b)) (hS : S (.int k (min a b)) w) : OpR P env ⟨dst, .call ⟨.builtin .min, #[x, y], T⟩, ty, pos, af, gd⟩ w S :=
  .val (fun _ hm => by
    have : min a b = if b < a then b else a := by omega
    simp [execOp, resolve, invoke, builtin, hm.eval hx, hm.eval hy, Builtin.min_, Builtin.min2, this]) hS
theorem OpR_max {T : Array TypeId} {k : IntKind} {a b : Int} {x y : Operand} (hx : ev env x = some (.int k a)) (hy : ev env y = some (.int k b)) (hS : S (.int k (max a b)) w) : OpR P env ⟨dst, .call ⟨.builtin .max, #[x, y], T⟩, ty, pos, af, gd⟩ w S :=
  .val (fun _ hm => by
    have : max a b = if b > a then b else a := by omega
    simp [execOp, resolve, invoke, builtin, hm.eval hx, hm.eval hy, Builtin.max_, Builtin.max2, this]) hS
/-- Numbers: what comes out of the operation. -/
def ibin (op : BinOp) (k : IntKind) (a b : Int) : Option Value :=
  match op with
  | .add => some (.int k (k.wrap (a + b)))
  | .sub => some (.int k (k.wrap (a - b)))
  | .mul => some (.int k (k.wrap (a * b)))
  | .eql => some (.bool (decide (a = b)))
  | .neq => some (.bool (decide (a ≠ b)))
  | .lss => some (.bool (decide (a < b)))
  | .leq => some (.bool (decide (a ≤ b)))
  | .gtr => some (.bool (decide (b < a)))
  | .geq => some (.bool (decide (b ≤ a)))
  | _ => none
theorem OpR_ibin {op : BinOp} {T T' : Nat} {k : IntKind} {a b : Int} {v : Value} {x y : Operand} (hx : ev env x = some (.int k a)) (hy : ev env y = some (.int k b)) (hv : ibin op k a b = some v) (hS : S v w) :
    OpR P env ⟨dst, .binOp op T x y T', ty, pos, af, gd⟩ w S :=
  .val (fun tmps hm => by
    have e1 : ∀ o, eqGuard o T x y (.int k a) (.int k b) = (if !(o matches .eql | .neq) then pure () else pure ()) := fun o => by cases o <;> rfl
    cases op <;> simp only [ibin, Option.some.injEq] at hv <;> try (cases hv; done)
    all_goals
      subst hv
      simp [execOp, hm.eval hx, hm.eval hy, eqGuard, binOp, Op.intArith, Op.intCmp]
    all_goals (first | rfl | (congr 2; simp [bne, BEq.beq])) ) hS
theorem OpR_add {T T' : Nat} {a b : Int} {x y : Operand} (hx : ev env x = some (.int .i64 a)) (hy : ev env y = some (.int .i64 b)) (hb : -9223372036854775808 ≤ a + b ∧ a + b ≤ 9223372036854775807) (hS : S (.int .i64 (a + b)) w) :
    OpR P env ⟨dst, .binOp .add T x y T', ty, pos, af, gd⟩ w S := OpR_ibin hx hy rfl (by rwa [IntWalk.i64_in _ (by omega)])
theorem OpR_sub {T T' : Nat} {a b : Int} {x y : Operand} (hx : ev env x = some (.int .i64 a)) (hy : ev env y = some (.int .i64 b)) (hb : -9223372036854775808 ≤ a - b ∧ a - b ≤ 9223372036854775807) (hS : S (.int .i64 (a - b)) w) :
    OpR P env ⟨dst, .binOp .sub T x y T', ty, pos, af, gd⟩ w S := OpR_ibin hx hy rfl (by rwa [IntWalk.i64_in _ (by omega)])
theorem OpR_mul {T T' : Nat} {a b : Int} {x y : Operand} (hx : ev env x = some (.int .i64 a)) (hy : ev env y = some (.int .i64 b)) (hb : -9223372036854775808 ≤ a * b ∧ a * b ≤ 9223372036854775807) (hS : S (.int .i64 (a * b)) w) :
    OpR P env ⟨dst, .binOp .mul T x y T', ty, pos, af, gd⟩ w S := OpR_ibin hx hy rfl (by rwa [IntWalk.i64_in _ hb])
theorem equal_bool {T : Nat} [U : Und P T .bool] (a b : Bool) : (Op.equal T (.bool a) (.bool b)).run P w = .ok (a == b) w := by
  have e : Op.equal T (.bool a) (.bool b) = Op.equalIn (9999 + 1) T (.bool a) (.bool b) := rfl
  rw [e, Op.equalIn]
  simp only [Sem.run_bind, run_underlying U.h, Result.andThen_ok, Sem.run_pure]
theorem OpR_beq {T T' : Nat} {a b : Bool} {x y : Operand} [U : Und P T .bool] (hx : ev env x = some (.bool a)) (hy : ev env y = some (.bool b)) (hS : S (.bool (a == b)) w) : OpR P env ⟨dst, .binOp .eql T x y T', ty, pos, af, gd⟩ w S :=
  .val (fun _ hm => by simp [execOp, hm.eval hx, hm.eval hy, eqGuard, binOp, equal_bool]) hS
theorem OpR_bne {T T' : Nat} {a b : Bool} {x y : Operand} [U : Und P T .bool] (hx : ev env x = some (.bool a)) (hy : ev env y = some (.bool b)) (hS : S (.bool (a != b)) w) : OpR P env ⟨dst, .binOp .neq T x y T', ty, pos, af, gd⟩ w S :=
  .val (fun _ hm => by simp [execOp, hm.eval hx, hm.eval hy, eqGuard, binOp, equal_bool, bne]) hS
theorem OpR_not {T : Nat} {a : Bool} {x : Operand} (hx : ev env x = some (.bool a)) (hS : S (.bool (!a)) w) : OpR P env ⟨dst, .unOp .not T x, ty, pos, af, gd⟩ w S :=
  .val (fun _ hm => by simp [execOp, hm.eval hx, Op.unary]) hS
theorem OpR_conv_int {T T' : Nat} {k k' : IntKind} {a : Int} {d : TypeDesc} {x : Operand} [U : Und P T d] [U' : Und P T' (.int k')] (hx : ev env x = some (.int k a)) (hS : S (.int k' (k'.wrap a)) w) : OpR P env ⟨dst, .convert T T' x, ty, pos, af, gd⟩ w S :=
  .val (fun _ hm => by simp [execOp, hm.eval hx, convert, run_underlying U.h, run_underlying U'.h, Conv.intToInt]) hS
end
end Go.Eng
