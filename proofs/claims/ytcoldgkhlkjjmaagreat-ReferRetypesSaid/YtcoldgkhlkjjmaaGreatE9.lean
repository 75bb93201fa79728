/- The engine, part 9: cells written out; literals; the rules of boxes, loads and stores over them. -/
import Derived.Test.YtcoldgkhlkjjmaaGreatE8
namespace Go.Eng
open Go.RowKit

/-- A value's cells, written out. -/
class CellsIs (v : Value) (vs : outParam (List Value)) : Prop where h : v.cells = vs.toArray
instance {l : List Value} : CellsIs (.agg l.toArray) l := ⟨rfl⟩
instance {k : IntKind} {x : Int} : CellsIs (.int k x) [.int k x] := ⟨rfl⟩
instance {b : Bool} : CellsIs (.bool b) [.bool b] := ⟨rfl⟩
instance {s : ByteArray} : CellsIs (.string s) [.string s] := ⟨rfl⟩
instance {a : Option Addr} : CellsIs (.pointer a) [.pointer a] := ⟨rfl⟩
instance {a : Option Addr} {n c : Nat} : CellsIs (.slice a n c) [.slice a n c] := ⟨rfl⟩
instance {m : Option Nat} : CellsIs (.map m) [.map m] := ⟨rfl⟩
instance {f : Fn} {a b : Array Value} : CellsIs (.func f a b) [.func f a b] := ⟨rfl⟩
instance : CellsIs .nilFunc [.nilFunc] := ⟨rfl⟩
instance : CellsIs .nilIface [.nilIface] := ⟨rfl⟩
instance {t : TypeId} {v : Value} : CellsIs (.iface t v) [.iface t v] := ⟨rfl⟩
/-- out is l with vs from off on. -/
class SpliceIs (l : List Value) (off : Nat) (vs : List Value) (out : outParam (List Value)) : Prop where
  h : splice l off vs = out
  le : off + vs.length ≤ l.length
instance {l : List Value} : SpliceIs l 0 [] l := ⟨by simp [splice], by simp⟩
instance {l vs out : List Value} {x v : Value} [s : SpliceIs l 0 vs out] : SpliceIs (x :: l) 0 (v :: vs) (v :: out) := ⟨by have := s.h; simp [splice] at this ⊢; exact this, by have := s.le; simp at this ⊢; omega⟩
instance {l vs out : List Value} {x : Value} {n : Nat} [s : SpliceIs l n vs out] : SpliceIs (x :: l) (n + 1) vs (x :: out) := ⟨by have := s.h; simp [splice, Nat.add_right_comm] at this ⊢; exact this, by have := s.le; simp at this ⊢; omega⟩
/-- out: s cells of l, from off on. -/
class SubIs (l : List Value) (off s : Nat) (out : outParam (List Value)) : Prop where
  h : ∀ j v, out[j]? = some v → l[off + j]? = some v
  len : out.length = s
instance {l : List Value} : SubIs l 0 0 [] := ⟨by simp, rfl⟩
instance {l out : List Value} {x : Value} {s : Nat} [u : SubIs l 0 s out] : SubIs (x :: l) 0 (s + 1) (x :: out) := ⟨fun j v hj => by
  cases j with
  | zero => simpa using hj
  | succ j => have := u.h j v (by simpa using hj); simpa using this, by simp [u.len]⟩
instance {l out : List Value} {x : Value} {n s : Nat} [u : SubIs l n s out] : SubIs (x :: l) (n + 1) s out := ⟨fun j v hj => by have := u.h j v hj; rw [show n + 1 + j = (n + j) + 1 by omega]; simpa using this, u.len⟩
class OneCells (vs : List Value) : Prop where h : ∀ u ∈ vs, u.oneCell' = true
instance : OneCells [] := ⟨by simp⟩
class OneCell (v : Value) : Prop where h : v.oneCell' = true
instance {v : Value} {vs : List Value} [a : OneCell v] [b : OneCells vs] : OneCells (v :: vs) := ⟨fun u hu => by rcases List.mem_cons.1 hu with rfl | hu; exact a.h; exact b.h u hu⟩
instance {k : IntKind} {x : Int} : OneCell (.int k x) := ⟨rfl⟩
instance {b : Bool} : OneCell (.bool b) := ⟨rfl⟩
instance {s : ByteArray} : OneCell (.string s) := ⟨rfl⟩
instance {a : Option Addr} : OneCell (.pointer a) := ⟨rfl⟩
instance {a : Option Addr} {n c : Nat} : OneCell (.slice a n c) := ⟨rfl⟩
instance {m : Option Nat} : OneCell (.map m) := ⟨rfl⟩
instance {f : Fn} {a b : Array Value} : OneCell (.func f a b) := ⟨rfl⟩
instance : OneCell .nilFunc := ⟨rfl⟩
instance : OneCell .nilIface := ⟨rfl⟩
instance {t : TypeId} {v : Value} : OneCell (.iface t v) := ⟨rfl⟩

section
variable {P : Program} {env : Env} {w0 w w' : World} {F : Nat → Prop} {L L' : List HP} {dst : Option Tmp} {ty : TypeId} {pos : String} {af : Array Edge} {gd : Option (Nat × Bool)} {S : Value → World → Prop}
theorem OpR_alloc' {T : Nat} {z : Value} {vs : List Value} [Z : Zer P T z] [C : CellsIs z vs] (hs : St w0 F w L) : OpR P env ⟨dst, .alloc T, ty, pos, af, gd⟩ w (NewAt w0 F w L (.cells vs.toArray T (0, 0)) ptr) := by
  rw [← C.h]; exact OpR_alloc hs
theorem OpR_box' {T : Nat} {x : Operand} {v : Value} {vs : List Value} (hs : St w0 F w L) (hx : ev env x = some v) [C : CellsIs v vs] : OpR P env ⟨dst, .box T x, ty, pos, af, gd⟩ w (NewAt w0 F w L (.cells vs.toArray T (0, 0)) ptr) := by
  rw [← C.h]; exact OpR_box hs hx
theorem OpR_load' {T b off e : Nat} {x : Operand} {v : Value} {cs : List Value} {fz : Nat × Nat} [A : Scal P T] (hs : St w0 F w L) (hx : ev env x = some (.pointer (some ⟨b, off, none⟩))) [m : BlkAt L b (.cells cs.toArray e fz)] (hv : cs[off]? = some v)
    (hS : S v w) : OpR P env ⟨dst, .load T x, ty, pos, af, gd⟩ w S := OpR_load_cell (cell_blk hs.blk (by simpa using hv)) hx hS
theorem OpR_load_agg' {T b off s e : Nat} {x : Operand} {vs cs : List Value} {fz : Nat × Nat} [A : Agg P T s] (hs : St w0 F w L) (hx : ev env x = some (.pointer (some ⟨b, off, none⟩))) [m : BlkAt L b (.cells cs.toArray e fz)] [u : SubIs cs off s vs]
    (hS : S (.agg vs.toArray) w) : OpR P env ⟨dst, .load T x, ty, pos, af, gd⟩ w S :=
  OpR_load_cells u.len (fun j v hj => cell_blk hs.blk (by simpa using u.h j v hj)) hx hS
theorem OpR_store' {T b off e s : Nat} {x y : Operand} {v : Value} {vs cs cs' : List Value} (hs : St w0 F w L) (hx : ev env x = some (.pointer (some ⟨b, off, none⟩))) (hy : ev env y = some v) [C : CellsIs v vs] [O : OneCells vs] [Z : Sz P T s] (hl : vs.length = s)
    [m : BlkAt L b (.cells cs.toArray e (0, 0))] [sp : SpliceIs cs off vs cs'] [u : BlkUp L b (.cells cs.toArray e (0, 0)) (.cells cs'.toArray e (0, 0)) L'] :
    OpR P env ⟨dst, .store T x y, ty, pos, af, gd⟩ w (fun _ w' => St w0 F w' L' ∧ Frm (fun k => k = b) w w') := by
  have hv : v.cells.toList = vs := by rw [C.h]
  have Z' : Sz P T v.cells.toList.length := ⟨by rw [hv, hl]; exact Z.h⟩
  refine OpR_store (cs := cs.toArray) (cs' := cs') hs hx hy (by rw [hv]; exact sp.h) (by rw [hv]; simpa using sp.le) (by rw [hv]; exact List.all_eq_true.2 O.h)
theorem ResOk.agg' {t T b s e : Nat} {fz : Nat × Nat} {us : List Value} {l : List ResultVar} {vs : List Value} [A : Agg P T s] (hs : St w0 F w L) (h : Env.get env t = some (.pointer (some ⟨b, 0, none⟩))) [m : BlkAt L b (.cells us.toArray e fz)] (hl : us.length = s) (r : ResOk P env w l vs) :
    ResOk P env w (.cell t T :: l) (.agg us.toArray :: vs) := ResOk.agg hs h (by simp) hl r
theorem ResOk.scal' {t T b e : Nat} {fz : Nat × Nat} {v : Value} {us : List Value} {l : List ResultVar} {vs : List Value} [A : Scal P T] (hs : St w0 F w L) (h : Env.get env t = some (.pointer (some ⟨b, 0, none⟩))) [m : BlkAt L b (.cells us.toArray e fz)] (hv : us[0]? = some v) (r : ResOk P env w l vs) :
    ResOk P env w (.cell t T :: l) (v :: vs) := ResOk.scal hs h (by simpa using hv) r

theorem OpR_fieldAddr0 {T i b off s : Nat} {g : Bool} {x : Operand} {l : List (Nat × Nat × Bool)} [Fl : Flds P T l] (hx : ev env x = some (.pointer (some ⟨b, 0, none⟩))) (hi : l[i]? = some (off, s + 1, g))
    (hS : S (.pointer (some ⟨b, off, none⟩)) w) : OpR P env ⟨dst, .fieldAddr T x i, ty, pos, af, gd⟩ w S := OpR_fieldAddr hx hi (by rwa [Nat.zero_add])
theorem OpR_index_agg' {T e s n o : Nat} {k : IntKind} {i : Int} {x ix : Operand} {cs vs : List Value} [U : Und P T (.array n e)] [A : Agg P e s] (hx : ev env x = some (.agg cs.toArray)) (hix : ev env ix = some (.int k i)) (h0 : 0 ≤ i) (h1 : i < n) (ho : i.toNat * s = o)
    [u : SubIs cs o s vs] (hS : S (.agg vs.toArray) w) : OpR P env ⟨dst, .index T x ix, ty, pos, af, gd⟩ w S := by
  refine OpR_index_agg hx hix h0 h1 (cs' := vs.toArray) ?_ hS
  subst ho
  apply Array.ext_getElem?
  intro j
  have hl := u.len
  by_cases hj : j < s
  · have h2 := u.h j vs[j] (List.getElem?_eq_getElem (by omega))
    rw [Array.getElem?_extract]
    have hlt : i.toNat * s + j < cs.length := (List.getElem?_eq_some_iff.1 h2).1
    simp only [List.size_toArray, List.getElem?_toArray]
    rw [if_pos (by omega), h2, List.getElem?_eq_getElem (by omega)]
  · rw [Array.getElem?_eq_none (by simp; omega), Array.getElem?_eq_none (by simp; omega)]
theorem OpR_indexAddr_arr' {T e sz b o o' n : Nat} {k : IntKind} {i : Int} {x ix : Operand} [U : Und P T (.array n e)] [Z : Sz P e sz] (hx : ev env x = some (.pointer (some ⟨b, o, none⟩))) (hix : ev env ix = some (.int k i)) (h0 : 0 ≤ i) (h1 : i < n) (ho : o + i.toNat * sz = o')
    (hS : S (.pointer (some ⟨b, o', none⟩)) w) : OpR P env ⟨dst, .indexAddr T x ix, ty, pos, af, gd⟩ w S := OpR_indexAddr_arr hx hix h0 h1 (by rw [ho]; exact hS)
theorem OpR_addn {T T' : Nat} {a b c : Int} {x y : Operand} (hx : ev env x = some (.int .i64 a)) (hy : ev env y = some (.int .i64 b)) (hb : -9223372036854775808 ≤ a + b ∧ a + b ≤ 9223372036854775807) (hc : a + b = c) (hS : S (.int .i64 c) w) :
    OpR P env ⟨dst, .binOp .add T x y T', ty, pos, af, gd⟩ w S := OpR_add hx hy hb (by rw [hc]; exact hS)
/-! ### Literals -/
def evParts (env : Env) : List (Nat × Operand) → Option (List (Nat × Value))
  | [] => some []
  | (i, x) :: r => match ev env x, evParts env r with | some v, some vs => some ((i, v) :: vs) | _, _ => none
theorem evParts_map {tmps : Array Value} (hm : Match tmps env) : ∀ {l : List (Nat × Operand)} {vs : List (Nat × Value)}, evParts env l = some vs → l.map (fun (i, x) => (i, Act.eval ⟨tmps, []⟩ x)) = vs := by
  intro l
  induction l with
  | nil => intro vs h; simp [evParts] at h; subst h; simp
  | cons x r ih =>
    obtain ⟨i, x⟩ := x
    intro vs h
    simp only [evParts] at h
    cases hx : ev env x with
    | none => simp [hx] at h
    | some v =>
      cases hr : evParts env r with
      | none => simp [hx, hr] at h
      | some us => simp [hx, hr] at h; subst h; simp [hm.eval hx, ih hr]
def bld (ps : Nat → Option (Nat × Nat)) : List Value → List (Nat × Value) → Option (List Value)
  | cells, [] => some cells
  | cells, (i, v) :: r => match ps i with
    | none => none
    | some (off, size) => if v.cells.toList.length = size ∧ off + size ≤ cells.length then bld ps (splice cells off v.cells.toList) r else none
theorem fold_set (off : Nat) : ∀ (vs : List Value) (k : Nat) (cells : Array Value), off + k + vs.length ≤ cells.size → ((vs.zipIdx k).foldl (fun (cs : Array Value) (x : Value × Nat) => cs.setIfInBounds (off + x.2) x.1) cells).toList = splice cells.toList (off + k) vs := by
  intro vs
  induction vs with
  | nil => intro k cells _; simp [splice]
  | cons v r ih =>
    intro k cells h
    simp only [List.length_cons] at h
    simp only [List.zipIdx_cons, List.foldl_cons]
    rw [ih (k + 1) _ (by simp; omega)]
    simp only [splice, Array.toList_setIfInBounds, List.length_cons]
    apply List.ext_getElem?
    intro i
    have hlen : (cells.toList.set (off + k) v).length = cells.size := by simp
    by_cases h1 : i < off + k
    · rw [List.getElem?_append_left (by simp; omega), List.getElem?_append_left (by simp; omega), List.getElem?_append_left (by simp; omega), List.getElem?_append_left (by simp; omega)]
      simp [show i < off + (k + 1) by omega, h1, show off + k ≠ i by omega]
    · by_cases h2 : i = off + k
      · subst h2
        rw [List.getElem?_append_left (by simp; omega), List.getElem?_append_left (by simp; omega), List.getElem?_append_left (by simp; omega), List.getElem?_append_right (by simp; omega)]
        simp [show off + k < off + (k + 1) by omega, show off + k < cells.size by omega, show min (off + k) cells.size = off + k by omega]
      · by_cases h3 : i < off + k + 1 + r.length
        · rw [List.getElem?_append_left (by simp; omega), List.getElem?_append_right (by simp; omega), List.getElem?_append_left (by simp; omega), List.getElem?_append_right (by simp; omega)]
          simp only [List.length_take, hlen, Array.length_toList]
          rw [show min (off + (k + 1)) cells.size = off + (k + 1) by omega, show min (off + k) cells.size = off + k by omega, show i - (off + k) = (i - (off + (k + 1))) + 1 by omega]
          simp
        · rw [List.getElem?_append_right (by simp; omega), List.getElem?_append_right (by simp; omega)]
          simp only [List.length_append, List.length_take, hlen, Array.length_toList, List.length_cons, List.getElem?_drop, List.getElem?_set]
          rw [if_neg (by omega)]
          congr 1
          omega
theorem fill_bld (place : Nat → Option (Nat × Nat)) : ∀ (parts : List (Nat × Value)) (cells : Array Value), Instr.fill place cells parts = (bld place cells.toList parts).map List.toArray := by
  intro parts
  induction parts with
  | nil => intro cells; simp [Instr.fill, bld]
  | cons x r ih =>
    obtain ⟨i, v⟩ := x
    intro cells
    simp only [Instr.fill, bld]
    cases hp : place i with
    | none => rfl
    | some q =>
      obtain ⟨off, size⟩ := q
      simp only
      by_cases hc : v.cells.size = size ∧ off + size ≤ cells.size
      · have h1 : ¬ (v.cells.size ≠ size || off + v.cells.size > cells.size) = true := by simp; omega
        rw [if_neg h1, if_pos (by simpa using hc), ih]
        congr 2
        have := fold_set off v.cells.toList 0 cells (by simp; omega)
        simp only [Nat.add_zero] at this
        rw [← this]
        congr 1
        rw [← Array.foldl_toList]
        congr 1
        simp [Array.toList_zipIdx]
      · have h1 : (v.cells.size ≠ size || off + v.cells.size > cells.size) = true := by
          simp only [Bool.or_eq_true, decide_eq_true_eq, ne_eq]
          by_cases h : v.cells.size = size
          · right; have := fun h2 => hc ⟨h, h2⟩; omega
          · left; exact h
        rw [if_pos h1, if_neg (by simpa using hc)]
        rfl
def placesOf (l : List (Nat × Nat × Bool)) (i : Nat) : Option (Nat × Nat) := (l[i]?).map fun x => (x.1, x.2.1)
theorem OpR_build {T : Nat} {l : List (Nat × Nat × Bool)} {z : Value} {zs : List Value} {parts : List (Nat × Operand)} {vs : List (Nat × Value)} {cs : List Value} [Fl : Flds P T l] [Z : Zer P T z] [C : CellsIs z zs] (hp : evParts env parts = some vs) (hb : bld (placesOf l) zs vs = some cs)
    (hS : S (.agg cs.toArray) w) : OpR P env ⟨dst, .build T parts.toArray, ty, pos, af, gd⟩ w S :=
  .val (fun tmps hm => by
    have hl := Fl.h
    unfold fieldsOf at hl
    cases hu : P.underlying T with
    | none => simp [hu] at hl
    | some d =>
      cases d <;> simp only [hu] at hl <;> try cases hl
      rename_i fs
      obtain ⟨fl⟩ := fs
      have hplaces : ∀ (L : List Field) (l : List (Nat × Nat × Bool)), fldRows P L = some l → (L.mapM (fun f => (do pure (f.offset, ← sizeOf f.type) : Sem (Nat × Nat)))).run P w = .ok (l.map fun x => (x.1, x.2.1)) w := by
        intro L
        induction L with
        | nil => intro l h; simp [fldRows] at h; subst h; rfl
        | cons f r ih =>
          intro l h
          simp only [fldRows] at h
          cases h1 : fldRow P f with
          | none => simp [h1] at h
          | some y =>
            cases h2 : fldRows P r with
            | none => simp [h1, h2] at h
            | some l' =>
              simp [h1, h2] at h
              subst h
              have hs : (sizeOf f.type).run P w = .ok y.2.1 w ∧ y.1 = f.offset := by
                unfold fldRow at h1
                cases hi : P.info? f.type with
                | none => simp [hi] at h1
                | some inf =>
                  cases hd : P.underlying f.type with
                  | none => simp [hi, hd] at h1
                  | some d => simp [hi, hd] at h1; subst h1; exact ⟨by simp [sizeOf, typeInfo, hi], rfl⟩
              simp only [List.mapM_cons, Sem.run_bind, hs.1, Result.andThen_ok, Sem.run_pure, ih l' h2, List.map_cons, hs.2]
      have hpl := hplaces _ _ hl
      have hparts : (parts.toArray.map fun (x : Nat × Operand) => (x.1, Act.eval ⟨tmps, []⟩ x.2)).toList = vs := by
        rw [Array.toList_map, List.toList_toArray]; exact evParts_map hm hp
      have hplace : (fun i => (l.map fun x => (x.1, x.2.1)).toArray[i]?) = placesOf l := by funext i; simp [placesOf]
      simp only [execOp, Instr.build, Sem.run_bind, zero_of Z.h, Result.andThen_ok, run_underlying hu]
      simp only [List.mapM_toArray, Sem.run_map, hpl, Result.andThen_ok]
      rw [hplace, hparts, fill_bld, C.h, List.toList_toArray, hb]
      rfl) hS
theorem OpR_build_arr {T e n sz : Nat} {z : Value} {zs : List Value} {parts : List (Nat × Operand)} {vs : List (Nat × Value)} {cs : List Value} [U : Und P T (.array n e)] [Z : Zer P T z] [C : CellsIs z zs] [Q : Sz P e sz] (hp : evParts env parts = some vs) (hb : bld (fun i => some (i * sz, sz)) zs vs = some cs)
    (hS : S (.agg cs.toArray) w) : OpR P env ⟨dst, .build T parts.toArray, ty, pos, af, gd⟩ w S :=
  .val (fun tmps hm => by
    have hparts : (parts.toArray.map fun (x : Nat × Operand) => (x.1, Act.eval ⟨tmps, []⟩ x.2)).toList = vs := by
      rw [Array.toList_map, List.toList_toArray]; exact evParts_map hm hp
    simp only [execOp, Instr.build, Sem.run_bind, zero_of Z.h, Result.andThen_ok, run_underlying U.h, sizeOf_of Q.h]
    rw [hparts, fill_bld, C.h, List.toList_toArray, hb]
    rfl) hS
theorem OpR_buildSlice {T e n sz : Nat} {z : Value} {parts : List (Nat × Operand)} {vs : List (Nat × Value)} {cs : List Value} [U : Und P T (.slice e)] [Z : Zer P e z] [Q : Sz P e sz] (hs : St w0 F w L) (hp : evParts env parts = some vs) (hsz : n * sz ≤ 16777216)
    (hb : bld (fun i => some (i * sz, sz)) (if n * sz = 0 then [] else (List.range (n * sz)).map fun i => z.cells[i % z.cells.size]!) vs = some cs) :
    OpR P env ⟨dst, .buildSlice T n parts.toArray, ty, pos, af, gd⟩ w (NewAt w0 F w L (.cells cs.toArray e (0, 0)) (fun b => .slice (some ⟨b, 0, none⟩) n n)) := by
  refine .val (w' := w.alloc (.cells cs.toArray e (0, 0))) (v := .slice (some ⟨w.heap.size, 0, none⟩) n n) (fun tmps hm => ?_) (newAt hs _ _)
  have hparts : (parts.toArray.map fun (x : Nat × Operand) => (x.1, Act.eval ⟨tmps, []⟩ x.2)).toList = vs := by
    rw [Array.toList_map, List.toList_toArray]; exact evParts_map hm hp
  have h24 : ¬ (n * sz > 2 ^ 24) := by omega
  have h24' : ¬ ((0 : Nat) > 2 ^ 24) := by omega
  by_cases h0 : n * sz = 0
  · simp only [h0, if_true] at hb
    simp only [execOp, Instr.buildSlice, Sem.run_bind, run_underlying U.h, sizeOf_of Q.h, Result.andThen_ok, h0, if_true, if_neg h24', Sem.run_pure]
    rw [hparts, fill_bld]
    simp only [Array.toList_map, Array.toList_range, List.range_zero, List.map_nil, hb, Option.map_some, newRow, Sem.run_bind, run_newObj, Result.andThen_ok, Sem.run_pure]
    rfl
  · simp only [h0, if_false] at hb
    simp only [execOp, Instr.buildSlice, Sem.run_bind, run_underlying U.h, sizeOf_of Q.h, Result.andThen_ok, if_neg h24, if_neg h0, Sem.run_pure, zero_of Z.h]
    rw [hparts, fill_bld]
    simp only [Array.toList_map, Array.toList_range, hb, Option.map_some, newRow, Sem.run_bind, run_newObj, Result.andThen_ok, Sem.run_pure]
    rfl
end
end Go.Eng
