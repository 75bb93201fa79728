/- The engine, part 20: compares of structs; maps. -/
import Derived.Test.YtcoldgkhlkjjmaaGreatE19
import Derived.Laws.StructEq
import Derived.Maps.OwnSet
import Derived.DeepKeys4
namespace Go.Eng
open Go.RowKit
/-- Two structs of type T compare: they are the same if p. -/
class EqlT (P : Program) (T : Nat) (x y : Value) (p : outParam Prop) (d : outParam (Decidable p)) : Prop where
  h : ∀ w, (Op.equalIn 10000 T x y).run P w = .ok (@decide p d) w
  agg : ∃ xs ys, x = .agg xs ∧ y = .agg ys
  g : P.eqGuardType P.depth T = false
section
variable {P : Program} {env : Env} {w w0 w' : World} {F : Nat → Prop} {L L' : List HP} {S : Value → World → Prop} {dst : Option Nat} {ty : Nat} {pos : String} {af : Array Edge} {gd : Option (Nat × Bool)}
theorem OpR_eqT {T T' : Nat} {x y : Operand} {a b : Value} {p : Prop} {d : Decidable p} [E : EqlT P T a b p d] (hx : ev env x = some a) (hy : ev env y = some b) (hS : S (.bool (decide p)) w) : OpR P env ⟨dst, .binOp .eql T x y T', ty, pos, af, gd⟩ w S :=
  .val (fun _ hm => by
    obtain ⟨xs, ys, rfl, rfl⟩ := E.agg
    simp [execOp, hm.eval hx, hm.eval hy, run_eqGuard_agg w .eql T x y xs ys E.g, run_eql_struct, E.h]) hS
theorem OpR_neT {T T' : Nat} {x y : Operand} {a b : Value} {p : Prop} {d : Decidable p} [E : EqlT P T a b p d] (hx : ev env x = some a) (hy : ev env y = some b) (hS : S (.bool (decide (¬ p))) w) : OpR P env ⟨dst, .binOp .neq T x y T', ty, pos, af, gd⟩ w S :=
  .val (w' := w) (v := .bool (!decide p)) (fun _ hm => by
    obtain ⟨xs, ys, rfl, rfl⟩ := E.agg
    simp [execOp, hm.eval hx, hm.eval hy, run_eqGuard_agg w .neq T x y xs ys E.g, run_neq_struct, E.h]) (by rw [← decide_not]; exact hS)
end
/-! ### Elements of flat slices -/
section
variable {P : Program} {env : Env} {w w0 w' : World} {F : Nat → Prop} {L L' : List HP} {S : Value → World → Prop} {dst : Option Nat} {ty : Nat} {pos : String} {af : Array Edge} {gd : Option (Nat × Bool)} {α : Type} {d : Ty α} {enc : α → List Value} {ok : α → Prop} {R : Nat → Prop} {n c : Nat} {xs : List α}
theorem OpR_load_el {T b o i s : Nat} {x : Operand} {v : α} [A : Agg P T s] [Q : FlatTy d enc ok] (h : Sl d R w (some ⟨b, o, none⟩) n c xs) (hv : xs[i]? = some v) (hz : d.sz = s) (hx : ev env x = some (.pointer (some ⟨b, o + i * s, none⟩))) (hS : S (.agg (enc v).toArray) w) :
    OpR P env ⟨dst, .load T x, ty, pos, af, gd⟩ w S := by
  subst hz
  exact OpR_load_cells (off := o + i * d.sz) (Q.len v) (fun j u hu => (h.elF hv).2 b o rfl j u hu) hx hS
theorem OpR_load_el1 {T b o i j s : Nat} {x : Operand} {v : α} {u : Value} [A : Scal P T] [Q : FlatTy d enc ok] (h : Sl d R w (some ⟨b, o, none⟩) n c xs) (hv : xs[i]? = some v) (hz : d.sz = s) (hu : (enc v)[j]? = some u) (hx : ev env x = some (.pointer (some ⟨b, o + i * s + j, none⟩))) (hS : S u w) :
    OpR P env ⟨dst, .load T x, ty, pos, af, gd⟩ w S := by
  subst hz
  exact OpR_load_cell ((h.elF hv).2 b o rfl j u hu) hx hS
end
theorem OpR_load_aggX {P : Program} {env : Env} {w0 w W : World} {F X : Nat → Prop} {L : List HP} {dst : Option Tmp} {ty : TypeId} {pos : String} {af : Array Edge} {gd : Option (Nat × Bool)} {S : Value → World → Prop} {T b s e : Nat} {x : Operand} {cs : List Value} {fz : Nat × Nat}
    [A : Agg P T s] (hs : St w0 F w L) (hW : Rl X w W) (hx : ev env x = some (.pointer (some ⟨b, 0, none⟩))) [m : BlkAt L b (.cells cs.toArray e fz)] (hl : cs.length = s) (hX : ¬ X b) (hS : S (.agg cs.toArray) W) : OpR P env ⟨dst, .load T x, ty, pos, af, gd⟩ W S := by
  have hb : w.heap[b]? = some (.cells cs.toArray e fz) := hs.blk
  have hlt := (Array.getElem?_eq_some_iff.1 hb).1
  have hb2 : W.heap[b]? = some (.cells cs.toArray e fz) := (hW.old b hlt hX).trans hb
  exact OpR_load_cells hl (fun j v hv => cell_blk hb2 (by simpa using hv)) hx hS
/-! ### Maps -/
/-- Keys of type kt, as enc writes them, of those that are ok. -/
structure KeyE {α : Type} (P : Program) (kt : TypeId) (enc : α → Value) (ok : α → Prop) : Prop where
  K : Go.Maps.Keyed P kt
  key : ∀ a, ok a → ∃ l, keyOf P kt (enc a) = some l
  inj : ∀ a b, enc a = enc b → a = b
/-- A map's block. -/
def MapV {α β : Type} (enc : α → Value) (encv : β → Value) (ok : α → Prop) (w : World) (b : Nat) (l : List (α × β)) : Prop :=
  (∃ es clock, w.heap[b]? = some (.map es clock) ∧ es.toList.map (fun e => (e.key, e.val)) = l.map (fun p => (enc p.1, encv p.2))) ∧ (l.map Prod.fst).Nodup ∧ ∀ p ∈ l, ok p.1
def MapC {α β : Type} (enc : α → Value) (encv : β → Value) (ok : α → Prop) (b : Nat) (l : List (α × β)) : HP :=
  ⟨fun k => k = b, fun w => MapV enc encv ok w b l, fun _ _ h ⟨⟨es, c, h1, h2⟩, h3⟩ => ⟨⟨es, c, (h b rfl).trans h1, h2⟩, h3⟩⟩
def putL {α β : Type} [DecidableEq α] (l : List (α × β)) (k : α) (v : β) : List (α × β) := if k ∈ l.map Prod.fst then l.map (fun p => if p.1 = k then (k, v) else p) else l ++ [(k, v)]
theorem putL_keys {α β : Type} [DecidableEq α] (l : List (α × β)) (k : α) (v : β) : (putL l k v).map Prod.fst = if k ∈ l.map Prod.fst then l.map Prod.fst else l.map Prod.fst ++ [k] := by
  unfold putL
  split
  · rw [List.map_map]
    refine List.map_congr_left fun p _ => ?_
    simp only [Function.comp]
    split
    · rename_i h; exact h.symm
    · rfl
  · simp
class MapAt (L : List HP) {α β : Type} (enc : α → Value) (encv : β → Value) (ok : α → Prop) (b : Nat) (l : outParam (List (α × β))) (f : outParam (HP → List HP)) : Prop where ctx : Ctx L (MapC enc encv ok b l) f
instance (priority := low) MapAt.tail {L : List HP} {α β : Type} {enc : α → Value} {encv : β → Value} {ok : α → Prop} {b : Nat} {l : List (α × β)} {f : HP → List HP} {d : HP} [h : MapAt L enc encv ok b l f] : MapAt (d :: L) enc encv ok b l (fun x => d :: f x) := ⟨.tail _ h.ctx⟩
instance MapAt.head {L : List HP} {α β : Type} {enc : α → Value} {encv : β → Value} {ok : α → Prop} {b : Nat} {l : List (α × β)} : MapAt (MapC enc encv ok b l :: L) enc encv ok b l (fun x => x :: L) := ⟨.head ..⟩
section
variable {P : Program} {env : Env} {w w0 w' : World} {F : Nat → Prop} {L L' : List HP} {S : Value → World → Prop} {dst : Option Nat} {ty : Nat} {pos : String} {af : Array Edge} {gd : Option (Nat × Bool)}
theorem St.mapV {α β : Type} {enc : α → Value} {encv : β → Value} {ok : α → Prop} {b : Nat} {l : List (α × β)} {f : HP → List HP} (hs : St w0 F w L) [q : MapAt L enc encv ok b l f] : MapV enc encv ok w b l := hs.all _ (q.ctx.up (Junk 0)).mem
theorem OpR_makeMap {T : Nat} (hs : St w0 F w L) : OpR P env ⟨dst, .makeMap T none, ty, pos, af, gd⟩ w (NewAt w0 F w L (.map #[] 0) (fun b => .map (some b))) :=
  .val (w' := w.alloc (.map #[] 0)) (v := .map (some w.heap.size)) (fun _ _ => by
    simp only [execOp, Instr.makeMap, Sem.run_bind, run_newObj, Option.map_none]; rfl) (newAt hs _ _)
theorem St.toMap {α β : Type} (enc : α → Value) (encv : β → Value) (ok : α → Prop) {b : Nat} (hs : St w0 F w (Blk b (.map #[] 0) :: L)) : St w0 F w (MapC enc encv ok b [] :: L) :=
  hs.conv (fun _ h => h) (fun h => ⟨⟨#[], 0, h, rfl⟩, List.nodup_nil, fun _ h => by cases h⟩)
theorem MapV.len {α β : Type} {enc : α → Value} {encv : β → Value} {ok : α → Prop} {b : Nat} {l : List (α × β)} (h : MapV enc encv ok w b l) : ∃ es clock, w.heap[b]? = some (.map es clock) ∧ es.size = l.length := by
  obtain ⟨⟨es, c, h1, h2⟩, _⟩ := h
  refine ⟨es, c, h1, ?_⟩
  have := congrArg List.length h2
  simpa using this
theorem OpR_len_map {α β : Type} {enc : α → Value} {encv : β → Value} {ok : α → Prop} {T kt vt b : Nat} {l : List (α × β)} {x : Operand} [U : Und P T (.map kt vt)] (h : MapV enc encv ok w b l) (hx : ev env x = some (.map (some b))) (hS : S (.int .i64 l.length) w) :
    OpR P env ⟨dst, .call ⟨.builtin .len, #[x], #[T]⟩, ty, pos, af, gd⟩ w S := by
  obtain ⟨es, c, h1, h2⟩ := h.len
  exact .val (fun _ hm => by simp [execOp, resolve, invoke, builtin, hm.eval hx, Builtin.len_, run_underlying U.h, MapKept.run_getObj_map h1, goInt, Result.andThen, h2]) hS
theorem run_mapUpdate {α β : Type} [DecidableEq α] {enc : α → Value} {encv : β → Value} {ok : α → Prop} {T kt vt b : Nat} {l : List (α × β)} (U : P.underlying T = some (.map kt vt)) (K : KeyE P kt enc ok) (h : MapV enc encv ok w b l) (a : α) (ha : ok a) (v : β) :
    ∃ o, (Instr.mapUpdate T (.map (some b)) (enc a) (encv v)).run P w = .ok () { w with heap := w.heap.setIfInBounds b o } ∧ ∀ w', w'.heap[b]? = some o → MapV enc encv ok w' b (putL l a v) := by
  obtain ⟨⟨es, clock, h1, h2⟩, h3, h4⟩ := h
  obtain ⟨la, hla⟩ := K.key a ha
  have hn : ((putL l a v).map Prod.fst).Nodup := by
    rw [putL_keys]
    split
    · exact h3
    · rename_i hni
      rw [List.nodup_append]
      exact ⟨h3, by simp, fun x hx y hy => by simp only [List.mem_singleton] at hy; subst hy; intro e; subst e; exact hni hx⟩
  have hk : ∀ p ∈ putL l a v, ok p.1 := by
    intro p hp
    have : p.1 ∈ (putL l a v).map Prod.fst := List.mem_map_of_mem hp
    rw [putL_keys] at this
    have key : p.1 ∈ l.map Prod.fst → ok p.1 := fun hq => by obtain ⟨q, hq1, hq2⟩ := List.mem_map.1 hq; rw [← hq2]; exact h4 q hq1
    split at this
    · exact key this
    · rcases List.mem_append.1 this with hq | hq
      · exact key hq
      · simp only [List.mem_singleton] at hq; rw [hq]; exact ha
  have hmem : ∀ (i : Nat) (e : MapEntry), es.toList[i]? = some e → ∃ p, l[i]? = some p ∧ e.key = enc p.1 ∧ e.val = encv p.2 := by
    intro i e he
    have := congrArg (fun l => l[i]?) h2
    simp only [List.getElem?_map, he, Option.map_some] at this
    obtain ⟨p, hp, hpe⟩ := Option.map_eq_some_iff.1 this.symm
    simp only [Prod.mk.injEq] at hpe
    exact ⟨p, hp, hpe.1.symm, hpe.2.symm⟩
  have hall : ∀ e ∈ es.toList, ∃ l, keyOf P kt e.key = some l := by
    intro e he
    obtain ⟨i, hi⟩ := List.mem_iff_getElem?.1 he
    obtain ⟨p, hp, hpe, _⟩ := hmem i e hi
    rw [hpe]
    exact K.key p.1 (h4 p (List.mem_of_getElem? hp))
  rcases K.K.find w hla es.toList hall with ⟨hf, hno⟩ | ⟨j, e, hf, hj, hje⟩
  · refine ⟨.map (es.push { key := enc a, val := encv v, born := clock }) (clock + 1), ?_, fun w' hw' => ⟨⟨_, _, hw', ?_⟩, hn, hk⟩⟩
    · simp only [Instr.mapUpdate, Sem.run_bind, run_underlying U, Result.andThen_ok, MapKept.run_getObj_map h1, K.K.check w false hla, hf, MapKept.run_setObj_map _ h1]
    · have hni : a ∉ l.map Prod.fst := by
        intro hm
        obtain ⟨p, hp, rfl⟩ := List.mem_map.1 hm
        obtain ⟨i, hi⟩ := List.mem_iff_getElem?.1 hp
        have := congrArg (fun l => l[i]?) h2
        simp only [List.getElem?_map, hi, Option.map_some] at this
        obtain ⟨e, he, hee⟩ := Option.map_eq_some_iff.1 this
        simp only [Prod.mk.injEq] at hee
        exact hno e (List.mem_of_getElem? he) hee.1
      unfold putL
      rw [if_neg hni]
      simp [h2]
  · obtain ⟨p, hp, hpe, hpv⟩ := hmem j e hj
    have hpa : p.1 = a := K.inj _ _ (hpe.symm.trans hje)
    have hin : a ∈ l.map Prod.fst := List.mem_map.2 ⟨p, List.mem_of_getElem? hp, hpa⟩
    have hje2 : es[j]? = some e := by simpa using hj
    refine ⟨.map (es.modify j fun e => { e with key := enc a, val := encv v }) clock, ?_, fun w' hw' => ⟨⟨_, _, hw', ?_⟩, hn, hk⟩⟩
    · simp only [Instr.mapUpdate, Sem.run_bind, run_underlying U, Result.andThen_ok, MapKept.run_getObj_map h1, K.K.check w false hla, hf, hje2, Option.map_some, Option.getD_some, hje, K.K.stays w hla, MapKept.run_setObj_map _ h1]
    · unfold putL
      rw [if_pos hin]
      apply List.ext_getElem?
      intro i
      have h2i := congrArg (fun l => l[i]?) h2
      simp only [List.getElem?_map] at h2i
      simp only [List.map_map, List.getElem?_map, Array.getElem?_toList, Array.getElem?_modify, Function.comp_def]
      by_cases hij : j = i
      · subst hij
        rw [if_pos rfl, hje2, hp]
        simp [hpa]
      · rw [if_neg hij]
        rw [Array.getElem?_toList] at h2i
        cases hq : l[i]? with
        | none => rw [hq] at h2i; simpa using h2i
        | some q =>
          rw [hq] at h2i
          have hqa : q.1 ≠ a := by
            intro he
            have e1 : (l.map Prod.fst)[i]? = some a := by simp [hq, he]
            have e2 : (l.map Prod.fst)[j]? = some a := by simp [hp, hpa]
            have hil := (List.getElem?_eq_some_iff.1 e1).1
            exact hij ((List.getElem?_inj (by have := (List.getElem?_eq_some_iff.1 e2).1; exact this) h3).1 (e2.trans e1.symm))
          simp only [Option.map_some, if_neg hqa]
          exact h2i
theorem OpR_mapUpdate {α β : Type} [DecidableEq α] {enc : α → Value} {encv : β → Value} {ok : α → Prop} {T kt vt b : Nat} {l : List (α × β)} {f : HP → List HP} {m x v : Operand} {a : α} {c : β} [U : Und P T (.map kt vt)] (K : KeyE P kt enc ok) (hs : St w0 F w L) [q : MapAt L enc encv ok b l f]
    (hm : ev env m = some (.map (some b))) (hx : ev env x = some (enc a)) (hv : ev env v = some (encv c)) (ha : ok a) :
    OpR P env ⟨dst, .mapUpdate T m x v, ty, pos, af, gd⟩ w (fun _ w' => St w0 F w' (f (MapC enc encv ok b (putL l a c))) ∧ Frm (fun k => k = b) w w') := by
  have hh : MapV enc encv ok w b l := hs.all _ (q.ctx.up (Junk 0)).mem
  obtain ⟨o, h1, h2⟩ := run_mapUpdate U.h K hh a ha c
  obtain ⟨⟨es, cl, hb, _⟩, _⟩ := id hh
  have hlt := (Array.getElem?_eq_some_iff.1 hb).1
  refine .unit (w' := { w with heap := w.heap.setIfInBounds b o }) (fun _ hmt => ?_) ⟨?_, frm_set (b := b) (o' := o) w⟩
  · simp [execOp, hmt.eval hm, hmt.eval hx, hmt.eval hv, h1]
  · exact hs.turn (q.ctx.up _) (frm_set (b := b) (o' := o) w) (h2 _ (by simp [hlt])) (fun k hk => by have hk : k = b := hk; subst hk; exact ⟨by simpa using hlt, .inl rfl⟩)
end
theorem okWide_array {P : Program} {w : World} {r : Reach} {base : Nat} {t e : TypeId} {n : Nat} {v : Value} (ht : P.underlying t = some (.array n e)) (h : Value.okWide P w r base t v) : ∃ cs, v = .agg cs ∧ cs.size = P.cellsOf t := by
  simp only [Value.okWide, ht] at h
  obtain ⟨cs, h1, h2, _⟩ := h
  exact ⟨cs, h1, h2⟩
theorem rep_arr_cons {α : Type} {n : Nat} {d : Ty α} {R : Nat → Prop} {w : World} {cs : List Value} {xs : List α} (h : (tArr (n + 1) d).rep R w cs xs) : ∃ c cs' x xs', cs = c ++ cs' ∧ xs = x :: xs' ∧ d.rep R w c x ∧ (tArr n d).rep R w cs' xs' := by
  obtain ⟨h1, h2, h3⟩ := h
  cases xs with
  | nil => simp at h1
  | cons x xs =>
    refine ⟨cs.take d.sz, cs.drop d.sz, x, xs, (List.take_append_drop _ _).symm, rfl, ?_, ?_, ?_, fun i y hy => ?_⟩
    · have := h3 0 x rfl; simpa using this
    · simpa using h1
    · rw [List.length_drop, h2, Nat.succ_mul]; omega
    · have := h3 (i + 1) y (by simpa using hy)
      rw [List.drop_drop, show d.sz + i * d.sz = (i + 1) * d.sz by rw [Nat.succ_mul]; omega]; exact this
theorem rep_arr_nil {α : Type} {d : Ty α} {R : Nat → Prop} {w : World} {cs : List Value} {xs : List α} (h : (tArr 0 d).rep R w cs xs) : cs = [] ∧ xs = [] := by
  obtain ⟨h1, h2, _⟩ := h
  exact ⟨List.eq_nil_of_length_eq_zero (by simpa using h2), List.eq_nil_of_length_eq_zero h1⟩
end Go.Eng
