/- The texts G27, G28, joined: what of them serves. -/
import Derived.Test.YtcoldgkhlkjjmaaGreatU6
section
namespace Go.Eng
open Go.Proofs
set_option linter.unusedSimpArgs false
set_option linter.unusedVariables false
theorem xI (t : Nat) {P : Program} {f : FuncId} {ro : Option Nat} {n : Nat} {R : Value → World → Prop} {k : List Item} {ds : List Deferred} {env : Env} {w : World} {x y : Code} (h : J P f ro n R (.code (.cond (.tmp t) x y) :: k) ds env w) : J P f ro n R (.code (.cond (.tmp t) x y) :: k) ds env w := h
theorem aj_reg (id : Nat) {P : Program} {f : FuncId} {ro : Option Nat} {n : Nat} {R : Value → World → Prop} {k : List Item} {ds : List Deferred} {env : Env} {w : World} {ops : Array Oper} {dr : Bool} (h : J P f ro n R (.code (.region id ops dr) :: k) ds env w) : J P f ro n R (.code (.region id ops dr) :: k) ds env w := h
abbrev sameF (x y : Ent) : Bool := decide (x.1 = y.1) && (decide (x.2.2 = y.2.2) && decide (x.2.1 = y.2.1))
theorem sameF_eq (x y : Ent) : sameF x y = decide (x = y) := by
  obtain ⟨xa, xb, xc⟩ := x
  obtain ⟨ya, yb, yc⟩ := y
  by_cases h0 : xa = ya <;> by_cases h : xb = yb <;> by_cases h2 : xc = yc <;> simp [h0, h, h2]
def xT (N : List NM) (E : List Ent) (M : List NM) : Bool := decide (N = M) && (if M.length = 0 then decide (E.length = 0) else dJ E && decide (allM E = eX M))
theorem wG {N : List NM} {E : List Ent} (g : GR N) (hc : dJ E = true) (hA : allM E = eX N) : xT N E N = true := by
  have hn : N.length ≠ 0 := by
    intro e
    have := (check_iff.2 ⟨g, hc, hA⟩)
    have h0 : N = [] := List.length_eq_zero_iff.1 e
    subst h0
    exact absurd this (by unfold eR tV; simp)
  unfold xT
  rw [decide_eq_true rfl, if_neg hn, hc, decide_eq_true hA]; rfl
attribute [local irreducible] Hold J JL JD JX JXat OpR OpG Ret RetV Is Blk Row
set_option maxRecDepth 100000
set_option maxHeartbeats 2000000
theorem tX (w : World) (r q : REnt) (x y : Ent) (h1 : mEnt.rel All w r x) (h2 : mEnt.rel All w q y) :
    Ret Tryz.prog 113 #[.agg (cS r).toArray, .agg (cS q).toArray] w fun v w' => v = .bool (sameF x y) ∧ Ext w w' := by
  refine cE (l := [_, _]) Tryz.func113 rfl Tryz.ntmps113 (by simp) ?_
  have hs := St.init w
  have mx : Sl (tInt .u64) All w r.2.1.1 r.2.1.2.1 r.2.1.2.2 x.2.1 := h1.2.1
  have my : Sl (tInt .u64) All w q.2.1.1 q.2.1.2.1 q.2.1.2.2 y.2.1 := h2.2.1
  have e1 : r.1 = x.1 := h1.1
  have f1 : q.1 = y.1 := h2.1
  have e3 : r.2.2 = x.2.2 := h1.2.2
  have f3 : q.2.2 = y.2.2 := h2.2.2
  unfold sameF
  rw [← e3, ← f3, ← e1, ← f1]
  by_cases c0 : r.1 = q.1
  · rw [decide_eq_true c0, Bool.true_and]
    by_cases c : r.2.2 = q.2.2
    · rw [decide_eq_true c, Bool.true_and]
      repeat' (first | ((apply bZ 43; refine cH rfl gb (by exact aF en43 rfl (eU _ r.2.1.1 q.2.1.1 r.2.1.2.1 r.2.1.2.2 q.2.1.2.1 q.2.1.2.2 x.2.1 y.2.1 (mx.st hs) (my.st hs))) rfl rfl ?_; rintro _ _ ⟨rfl, hE⟩; have hs := hs.ext hE; (try simp only [zcc] at hs))) | (apply aT) | ((first | (apply aM) | (apply bO; exact rfl; exact gb)); (first | (apply aR; exact aH rfl aA) | (apply aC; exact aB rfl aA) | (apply aQ; exact aK rfl rfl aA) | (apply aW; exact aU hs rfl rfl aA) | (apply aL; exact aO rfl rfl rfl aA) | (apply bR; exact bL rfl gb rfl aA)); first | (exact rfl; exact rfl) | exact rfl) | (apply bD) | (apply aG) | (apply aP (t := 2); refine JL_o (by apply cI; exact bS hs rfl) rfl rfl ?_; rintro _ _ ⟨b2, rfl, hb2, hs, hE⟩) | (apply aP (t := 3); refine JL_o (by apply cI; exact bS hs rfl) rfl rfl ?_; rintro _ _ ⟨b3, rfl, hb3, hs, hE⟩))
      refine aY Tryz.func113 rfl (.tmp rfl .nil) ⟨rfl, hs.frm.ext⟩
    · rw [decide_eq_false c, Bool.false_and]
      repeat' (first | (apply aT) | ((first | (apply aM) | (apply bO; exact rfl; exact gb)); (first | (apply aR; exact aH rfl aA) | (apply aC; exact aB rfl aA) | (apply aQ; exact aK rfl rfl aA) | (apply aW; exact aU hs rfl rfl aA) | (apply aL; exact aO rfl rfl rfl aA) | (apply bR; first | exact bL rfl gb rfl aA | exact bG rfl gb rfl aA)); first | (exact rfl; exact rfl) | exact rfl) | (apply bD) | (apply aG) | (apply aP (t := 2); refine JL_o (by apply cI; exact bS hs rfl) rfl rfl ?_; rintro _ _ ⟨b2, rfl, hb2, hs, hE⟩) | (apply aP (t := 3); refine JL_o (by apply cI; exact bS hs rfl) rfl rfl ?_; rintro _ _ ⟨b3, rfl, hb3, hs, hE⟩) | (apply cL; (refine eB rfl gb rfl ?_)))
      refine aY Tryz.func113 rfl (.tmp rfl .nil) ⟨rfl, hs.frm.ext⟩
  · rw [decide_eq_false c0, Bool.false_and]
    repeat' (first | (apply aT) | ((apply aM); (first | (apply aR; exact aH rfl aA) | (apply aC; exact aB rfl aA) | (apply aQ; exact aK rfl rfl aA) | (apply aW; exact aU hs rfl rfl aA) | (apply aL; exact aO rfl rfl rfl aA) | (apply bR; exact bG rfl gb rfl aA)); first | (exact rfl; exact rfl) | exact rfl) | (apply bD) | (apply aG) | (apply aP (t := 2); refine JL_o (by apply cI; exact bS hs rfl) rfl rfl ?_; rintro _ _ ⟨b2, rfl, hb2, hs, hE⟩) | (apply aP (t := 3); refine JL_o (by apply cI; exact bS hs rfl) rfl rfl ?_; rintro _ _ ⟨b3, rfl, hb3, hs, hE⟩) | (apply cL; (refine eB rfl gb rfl ?_)))
    refine aY Tryz.func113 rfl (.tmp rfl .nil) ⟨rfl, hs.frm.ext⟩
theorem aA6 (w : World) (a1 a2 : Option Addr) (n1 c1 n2 c2 : Nat) (xs ys : List Ent) (h1 : Sl dEnt All w a1 n1 c1 xs) (h2 : Sl dEnt All w a2 n2 c2 ys) (hn : n1 ≤ 1048576) :
    Ret Tryz.prog 112 #[.slice a1 n1 c1, .slice a2 n2 c2, .func (.func 113) #[] #[]] w fun v w' => v = .bool (decide (xs = ys)) ∧ Ext w w' := by
  refine cE (l := [_, _, _]) Tryz.func112 rfl Tryz.ntmps112 (by simp) ?_
  have hs := St.init w
  obtain ⟨rs, hr, hm⟩ := Sl.raw (D := fZ) h1
  obtain ⟨qs, hq, hmq⟩ := Sl.raw (D := fZ) h2
  have hl := hr.len
  have hl2 := hq.len
  have hle := h1.len
  have hle2 := h2.len
  by_cases hnn : n1 = n2
  · subst hnn
    repeat' (first | (apply aT) | ((apply aM); (first | (apply aR; exact aH rfl aA) | (apply aC; exact aB rfl aA) | (apply aL; exact aO rfl rfl rfl aA) | (apply bM; exact bU rfl aA)); first | (exact rfl; exact rfl) | exact rfl) | (apply bD) | (apply aG) | (apply bA) | (apply bH) | (apply aS; refine bQ rfl ob ?_))
    refine cZ (α := Nat) [(1, _), (2, _), (15, _), (16, _)] (fun k => [(17, .int .i64 k)]) (fun k w' => St w NoF w' [] ∧ k ≤ n1 ∧ xs.take k = ys.take k) (fun k => n1 - k) 0 ⟨hs, by omega, rfl⟩ zss ?_
    rintro k w' ⟨hs1, hk, hG⟩ ih
    by_cases hlt : k < n1
    · obtain ⟨p1, o1', rfl⟩ := hr.sl.addr (by omega)
      obtain ⟨p2, o2', rfl⟩ := hq.sl.addr (by omega)
      have hs : St w NoF w' [] := hs1
      have hx : xs[k]? = some xs[k] := List.getElem?_eq_getElem (by omega)
      have hy : ys[k]? = some ys[k] := List.getElem?_eq_getElem (by omega)
      obtain ⟨x, hxd⟩ : ∃ x, x = xs[k] := ⟨_, rfl⟩
      obtain ⟨y, hyd⟩ : ∃ y, y = ys[k] := ⟨_, rfl⟩
      rw [← hxd] at hx
      rw [← hyd] at hy
      obtain ⟨r, hrx, hrel⟩ := hm.get hx
      obtain ⟨q, hqx, hqel⟩ := hmq.get hy
      have hse := sameF_eq x y
      by_cases hxy : x = y
      · rw [decide_eq_true hxy] at hse
        have hT := fS hx (by rw [hxy]; exact hy) hG
        repeat' (first | ((apply aP (t := 29); refine JL_o (cX rfl rfl (Ret.value (cap := #[]) en113 (tX _ r q x y (mEnt.loc hrel (fun k _ hk => hs.frm.old k hk id)) (mEnt.loc hqel (fun k _ hk => hs.frm.old k hk id))))) rfl rfl ?_; rintro _ _ ⟨rfl, hE⟩; rw [hse]; have hs := hs.ext hE)) | (apply aT) | ((apply aM); (first | (apply aW; first | exact aU hs rfl rfl aA | exact aI hs rfl aA | exact aZ (hr.st hs) hrx rfl rfl aA | exact aZ (hq.st hs) hqx rfl rfl aA) | (apply aR; exact aH rfl aA) | (apply aC; exact aB rfl aA) | (apply cJ; exact bT rfl rfl (by omega) (by first | (simp only [Int.reduceAdd]; exact rfl) | exact rfl) aA) | (apply aL; exact aO rfl rfl rfl aA) | (apply bX; exact bY rfl aA) | (apply aN; exact aJ rfl rfl (by omega) (by omega) aA)); first | (exact rfl; exact rfl) | exact rfl) | (apply bD) | (apply aG) | (apply bA) | (apply bP) | (apply bH) | (apply aP (t := 8); refine JL_o (by apply bB; exact aV hs) rfl rfl ?_; rintro _ _ ⟨b8, rfl, hb8, hs, hE⟩) | (apply aP (t := 9); refine JL_o (by apply bB; exact aV hs) rfl rfl ?_; rintro _ _ ⟨b9, rfl, hb9, hs, hE⟩) | (apply bK; refine JL_u (by apply bE; exact aX hs rfl rfl rfl) rfl ?_; rintro _ _ ⟨hs, hF⟩) | (apply aS; first | refine bF rfl ob ?_ | refine bW rfl gb ?_))
        refine ih (k + 1) _ _ ⟨hs.sel [] (by decide), by omega, hT⟩ (by omega) zss
      · rw [decide_eq_false hxy] at hse
        rw [sC hx hy hxy]
        repeat' (first | ((apply aP (t := 29); refine JL_o (cX rfl rfl (Ret.value (cap := #[]) en113 (tX _ r q x y (mEnt.loc hrel (fun k _ hk => hs.frm.old k hk id)) (mEnt.loc hqel (fun k _ hk => hs.frm.old k hk id))))) rfl rfl ?_; rintro _ _ ⟨rfl, hE⟩; rw [hse]; have hs := hs.ext hE)) | (apply aT) | ((apply aM); (first | (apply aW; first | exact aU hs rfl rfl aA | exact aI hs rfl aA | exact aZ (hr.st hs) hrx rfl rfl aA | exact aZ (hq.st hs) hqx rfl rfl aA) | (apply aR; exact aH rfl aA) | (apply aC; exact aB rfl aA) | (apply aL; exact aO rfl rfl rfl aA) | (apply bX; exact bY rfl aA) | (apply aN; exact aJ rfl rfl (by omega) (by omega) aA)); first | (exact rfl; exact rfl) | exact rfl) | (apply bD) | (apply aG) | (apply bA) | (apply bH) | (apply aP (t := 8); refine JL_o (by apply bB; exact aV hs) rfl rfl ?_; rintro _ _ ⟨b8, rfl, hb8, hs, hE⟩) | (apply aP (t := 9); refine JL_o (by apply bB; exact aV hs) rfl rfl ?_; rintro _ _ ⟨b9, rfl, hb9, hs, hE⟩) | (apply bK; refine JL_u (by apply bE; exact aX hs rfl rfl rfl) rfl ?_; rintro _ _ ⟨hs, hF⟩) | (apply aS; first | refine bF rfl ob ?_ | refine bV rfl gb ?_))
        refine aY Tryz.func112 rfl (.tmp rfl .nil) ⟨rfl, hs.frm.ext⟩
    · have hs : St w NoF w' [] := hs1
      rw [List.take_of_length_le (by omega), List.take_of_length_le (by omega)] at hG
      rw [decide_eq_true hG]
      repeat' (first | (apply aT) | ((apply aM); (first | (apply aC; exact aB rfl aA) | (apply aL; exact aO rfl rfl rfl aA)); first | (exact rfl; exact rfl) | exact rfl) | (apply bD) | (apply aG) | (apply cF; refine cU rfl ?_) | (apply aS; refine bQ rfl ob ?_))
      refine aY Tryz.func112 rfl (.tmp rfl .nil) ⟨rfl, hs.frm.ext⟩
  · rw [decide_eq_false (fun e => hnn (by subst e; omega))]
    repeat' (first | (apply aT) | ((apply aM); (first | (apply aR; exact aH rfl aA) | (apply aC; exact aB rfl aA) | (apply aL; exact aO rfl rfl rfl aA) | (apply bM; exact bU rfl aA)); first | (exact rfl; exact rfl) | exact rfl) | (apply bD) | (apply aG) | (apply aS; refine bF rfl ob ?_))
    refine aY Tryz.func112 rfl (.tmp rfl .nil) ⟨rfl, hs.frm.ext⟩
theorem glsame_r (w : World) (a a2 ab ab2 : Option Addr) (n c n2 c2 m d m2 d2 : Nat) (N M : List NM) (E X : List Ent) (h : Sl fR All w a n c N) (hE0 : Sl dEnt All w a2 n2 c2 E) (h1 : Sl fR All w ab m d M) (hE1 : Sl dEnt All w ab2 m2 d2 X) (hn2 : n2 ≤ 1048576) :
    Ret Tryz.prog 41 #[.agg #[.slice a n c, .slice a2 n2 c2], .agg #[.slice ab m d, .slice ab2 m2 d2]] w fun v w' => v = .bool (decide (N = M) && decide (E = X)) ∧ Ext w w' := by
  refine cE (l := [_, _]) Tryz.func41 rfl Tryz.ntmps41 (by simp) ?_
  have hs := St.init w
  by_cases cN : N = M
  · rw [decide_eq_true cN, Bool.true_and]
    have eN : decide (N = M) = true := decide_eq_true cN
    repeat' (first | ((apply bC 111; refine JL_o (by exact aF yO rfl (nL _ a ab n c m d N M (h.st hs) (h1.st hs))) rfl rfl ?_; rintro _ _ ⟨rfl, hE⟩; rw [eN]; have hs := hs.ext hE; (try simp only [zcc] at hs))) | ((apply bZ 112; refine cH rfl gb (by exact aF en112 rfl (aA6 _ a2 ab2 n2 c2 m2 d2 E X (hE0.st hs) (hE1.st hs) hn2)) rfl rfl ?_; rintro _ _ ⟨rfl, hE⟩; have hs := hs.ext hE; (try simp only [zcc] at hs))) | (apply aT) | ((first | (apply aM) | (apply bO; exact rfl; exact gb)); (first | (apply aR; exact aH rfl aA) | (apply aC; exact aB rfl aA) | (apply aQ; first | exact aK rfl rfl aA | exact bN rfl rfl aA) | (apply aW; exact aU hs rfl rfl aA) | (apply bR; exact bL rfl gb rfl aA)); first | (exact rfl; exact rfl) | exact rfl) | (apply bD) | (apply aG) | (apply aP (t := 2); refine JL_o (by apply cI; exact bS hs rfl) rfl rfl ?_; rintro _ _ ⟨b2, rfl, hb2, hs, hE⟩) | (apply aP (t := 3); refine JL_o (by apply cI; exact bS hs rfl) rfl rfl ?_; rintro _ _ ⟨b3, rfl, hb3, hs, hE⟩))
    refine aY Tryz.func41 rfl (.tmp rfl .nil) ⟨rfl, hs.frm.ext⟩
  · rw [decide_eq_false cN, Bool.false_and]
    have eN : decide (N = M) = false := decide_eq_false cN
    repeat' (first | ((apply bC 111; refine JL_o (by exact aF yO rfl (nL _ a ab n c m d N M (h.st hs) (h1.st hs))) rfl rfl ?_; rintro _ _ ⟨rfl, hE⟩; rw [eN]; have hs := hs.ext hE; (try simp only [zcc] at hs))) | (apply aT) | ((apply aM); (first | (apply aR; exact aH rfl aA) | (apply aC; exact aB rfl aA) | (apply aQ; exact aK rfl rfl aA) | (apply aW; exact aU hs rfl rfl aA) | (apply bR; exact bG rfl gb rfl aA)); first | (exact rfl; exact rfl) | exact rfl) | (apply bD) | (apply aG) | (apply aP (t := 2); refine JL_o (by apply cI; exact bS hs rfl) rfl rfl ?_; rintro _ _ ⟨b2, rfl, hb2, hs, hE⟩) | (apply aP (t := 3); refine JL_o (by apply cI; exact bS hs rfl) rfl rfl ?_; rintro _ _ ⟨b3, rfl, hb3, hs, hE⟩) | (apply cL; (refine eB rfl gb rfl ?_)))
    refine aY Tryz.func41 rfl (.tmp rfl .nil) ⟨rfl, hs.frm.ext⟩
theorem wY (w : World) (a a2 b : Option Addr) (n c n2 c2 m d : Nat) (N M : List NM) (E : List Ent) (h : Sl fR All w a n c N) (hE0 : Sl dEnt All w a2 n2 c2 E) (h1 : Sl fR All w b m d M) (hm1 : m ≤ 1000000) (hn2 : n2 ≤ 1048576) :
    Ret Tryz.prog 40 #[.agg #[.slice a n c, .slice a2 n2 c2], .slice b m d] w fun v w' => v = .bool (xT N E M) ∧ Ext w w' := by
  refine cE (l := [_, _]) Tryz.func40 rfl Tryz.ntmps40 (by simp) ?_
  have hs := St.init w
  have hl := h1.len
  have hl2 := hE0.len
  obtain ⟨rs, hr, hm⟩ := Sl.raw (D := jC) h1
  obtain ⟨re, hre, hme⟩ := Sl.raw (D := fZ) hE0
  have hlr := hr.len
  have hlre := hre.len
  have hreo : ∀ r ∈ re, okE r := (hre.srcF).2.2
  obtain ⟨b2, hcb⟩ : ∃ b, dJ E = b := ⟨_, rfl⟩
  have hrm : qX E = b2 := by rw [pF, hcb]
  unfold xT
  rw [hl, hl2, hcb]
  by_cases cN : N = M
  rotate_left
  · rw [decide_eq_false cN, Bool.false_and]
    have eN : decide (N = M) = false := decide_eq_false cN
    repeat' (first | ((apply bC 111; refine JL_o (by exact aF yO rfl (nL _ a b n c m d N M (h.st hs) (h1.st hs))) rfl rfl ?_; rintro _ _ ⟨rfl, hE⟩; rw [eN]; have hs := hs.ext hE; (try simp only [zcc] at hs))) | (apply aT) | ((apply aM); (first | (apply aR; exact aH rfl aA) | (apply aC; exact aB rfl aA) | (apply aQ; exact aK rfl rfl aA) | (apply aW; exact aU hs rfl rfl aA) | (apply bX; exact bY rfl aA)); first | (exact rfl; exact rfl) | exact rfl) | (apply bD) | (apply aG) | (apply aP (t := 2); refine JL_o (by apply cI; exact bS hs rfl) rfl rfl ?_; rintro _ _ ⟨b2, rfl, hb2, hs, hE⟩) | (apply aS; refine bV rfl gb ?_))
    refine aY Tryz.func40 rfl (.tmp rfl .nil) ⟨rfl, hs.frm.ext⟩
  rw [decide_eq_true cN, Bool.true_and]
  have eN : decide (N = M) = true := decide_eq_true cN
  by_cases hm0 : m = 0
  · subst hm0
    rw [if_pos rfl, show decide (n2 = 0) = decide ((n2 : Int) = 0) by by_cases e : n2 = 0 <;> simp [e]]
    repeat' (first | ((apply bC 111; refine JL_o (by exact aF yO rfl (nL _ a b n c 0 d N M (h.st hs) (h1.st hs))) rfl rfl ?_; rintro _ _ ⟨rfl, hE⟩; rw [eN]; have hs := hs.ext hE; (try simp only [zcc] at hs))) | (apply aT) | ((apply aM); (first | (apply aR; exact aH rfl aA) | (apply aC; exact aB rfl aA) | (apply aQ; first | exact aK rfl rfl aA | exact bN rfl rfl aA) | (apply aW; exact aU hs rfl rfl aA) | (apply aL; exact aO rfl rfl rfl aA) | (apply bX; exact bY rfl aA) | (apply bM; exact bU rfl aA)); first | (exact rfl; exact rfl) | exact rfl) | (apply bD) | (apply aG) | (apply bH) | (apply aP (t := 2); refine JL_o (by apply cI; exact bS hs rfl) rfl rfl ?_; rintro _ _ ⟨b2, rfl, hb2, hs, hE⟩) | (apply aS; first | refine bF rfl ob ?_ | refine bW rfl gb ?_))
    refine aY Tryz.func40 rfl (.tmp rfl .nil) ⟨rfl, hs.frm.ext⟩
  rw [if_neg hm0]
  cases b2 with
  | false =>
    repeat' (first | ((apply bC 111; refine JL_o (by exact aF yO rfl (nL _ a b n c m d N M (h.st hs) (h1.st hs))) rfl rfl ?_; rintro _ _ ⟨rfl, hE⟩; rw [eN]; have hs := hs.ext hE; (try simp only [zcc] at hs))) | ((apply bC 95; refine JL_o (by exact aF en95 rfl (oN _ a2 n2 c2 E (hE0.st hs) hn2)) rfl rfl ?_; rintro _ _ ⟨rfl, hE⟩; rw [hrm]; have hs := hs.ext hE; (try simp only [zcc] at hs))) | (apply aT) | ((apply aM); (first | (apply aR; exact aH rfl aA) | (apply aC; exact aB rfl aA) | (apply aQ; exact aK rfl rfl aA) | (apply aW; first | exact aU hs rfl rfl aA | exact aI hs rfl aA) | (apply aL; exact aO rfl rfl rfl aA) | (apply bX; exact bY rfl aA) | (apply bR; exact bG rfl gb rfl aA) | (apply bM; exact bU rfl aA)); first | (exact rfl; exact rfl) | exact rfl) | (apply bD) | (apply aG) | (apply bH) | (apply aP (t := 2); refine JL_o (by apply cI; exact bS hs rfl) rfl rfl ?_; rintro _ _ ⟨b2, rfl, hb2, hs, hE⟩) | (apply cL; (refine eB rfl gb rfl ?_)) | (apply aS; first | refine bQ rfl ob ?_ | refine bW rfl gb ?_))
    refine aY Tryz.func40 rfl (.tmp rfl .nil) ⟨rfl, hs.frm.ext⟩
  | true =>
    have hml : eW M ≤ 1000000 := by unfold eW; exact Nat.le_trans (List.length_filter_le _ _) (by omega)
    have hal : (allM E).length ≤ 1048576 := by rw [(fB E).length_eq]; exact Nat.le_trans (List.length_filter_le _ _) (by omega)
    repeat' (first | ((apply bC 111; refine JL_o (by exact aF yO rfl (nL _ a b n c m d N M (h.st hs) (h1.st hs))) rfl rfl ?_; rintro _ _ ⟨rfl, hE⟩; rw [eN]; have hs := hs.ext hE; (try simp only [zcc] at hs))) | ((apply bC 95; refine JL_o (by exact aF en95 rfl (oN _ a2 n2 c2 E (hE0.st hs) hn2)) rfl rfl ?_; rintro _ _ ⟨rfl, hE⟩; rw [hrm]; have hs := hs.ext hE; (try simp only [zcc] at hs))) | ((apply bZ 97; refine cH rfl gb (by exact aF en97 rfl (all7_r _ a2 n2 c2 re E (hre.st hs) (hme.st hs) hn2)) rfl rfl ?_; rintro _ _ ⟨zs7, a7, c7, hz7, hp7, rfl, hf⟩; have hs := hs.fresh hf; (try simp only [zcc] at hs))) | ((apply bZ 98; refine cH rfl gb (by exact aF en98 rfl (xA _ b m d rs M (hr.st hs) (hm.st hs) hm1)) rfl rfl ?_; rintro _ _ ⟨zs8, a8, c8, ⟨hz8, hp8⟩, rfl, hf⟩; have hs := hs.fresh hf; (try simp only [zcc] at hs))) | ((apply bZ 96; refine cH rfl gb (by exact aF en96 rfl (zS _ a7 a8 (allM E).length c7 (eW M) c8 (allM E) (eX M) (Sl.to hz7 (Sl.unraw (D := fZ) (tK (hs.row a7 (allM E).length c7) (yX hp7 hreo)) (yY (hme.st hs) hp7))) (Sl.to hz8 (Sl.unraw (D := fZ) (tK (hs.row a8 (eW M) c8) (sE hp8 (by omega))) (nQ hp8 (hm.st hs)))) hal)) rfl rfl ?_; rintro _ _ ⟨rfl, hE⟩; have hs := hs.ext hE; (try simp only [zcc] at hs))) | (apply aT) | ((first | (apply aM) | (apply bO; exact rfl; exact gb)); (first | (apply aR; exact aH rfl aA) | (apply aC; exact aB rfl aA) | (apply aQ; exact aK rfl rfl aA) | (apply aW; first | exact aU hs rfl rfl aA | exact aI hs rfl aA) | (apply aL; exact aO rfl rfl rfl aA) | (apply bX; exact bY rfl aA) | (apply bR; exact bL rfl gb rfl aA) | (apply bM; exact bU rfl aA)); first | (exact rfl; exact rfl) | exact rfl) | (apply bD) | (apply aG) | (apply bH) | (apply aP (t := 2); refine JL_o (by apply cI; exact bS hs rfl) rfl rfl ?_; rintro _ _ ⟨b2, rfl, hb2, hs, hE⟩) | (apply aS; first | refine bQ rfl ob ?_ | refine bW rfl gb ?_))
    refine aY Tryz.func40 rfl (.tmp rfl .nil) ⟨rfl, hs.frm.ext⟩
end Go.Eng
end
section
namespace Go.Eng
open Go.Proofs
set_option linter.unusedSimpArgs false
set_option linter.unusedVariables false
instance rawIdsG : RawTy (tSl (tInt .u64)) tS (xW (tInt .u64)) := inferInstance
theorem slRN {w0 w : World} {F : Nat → Prop} {L : List HP} {a : Option Addr} {n c : Nat} {rs : List RNd} (hs : St w0 F w L) (h1 : TabN a n c rs ∈ L) : Sl dRNd All w a n c rs := (RowV.slF (d := dRNd) (hs.all _ h1) (by decide) (fun _ _ => ⟨trivial, trivial, trivial, trivial⟩)).weak (fun _ _ => trivial)
theorem slRow1 {w0 w : World} {F : Nat → Prop} {L : List HP} {qs : List QN} {q : QN} (hs : St w0 F w L) (h2 : OwnN qs ∈ L) (hok : ∀ q ∈ qs, okN q) (hq : q ∈ qs) : Sl dId All w q.2.1.1.1 q.2.1.1.2.1 q.2.1.1.2.2 q.2.1.2 := (RowV.slF (d := dId) (wK (hs.all _ h2) hq).1 (by decide) (hok q hq).1.2).weak (fun _ _ => trivial)
attribute [local irreducible] Hold J JL JD JX JXat OpR OpG Ret RetV Is Blk Row
set_option maxRecDepth 100000
set_option maxHeartbeats 2000000
theorem graphMay_w (w : World) (a : Option Addr) (n c : Nat) (N : List NM) (a2 : Option Addr) (n2 c2 : Nat) (E : List Ent) (a3 : Option Addr) (n3 c3 : Nat) (xs : List Int) (a4 : Option Addr) (n4 c4 : Nat) (tss : List (List Int)) (h : Sl fR All w a n c N) (hE0 : Sl dEnt All w a2 n2 c2 E) (hx3 : Sl (tInt .i64) All w a3 n3 c3 xs) (ht : Sl (tSl (tInt .u64)) All w a4 n4 c4 tss) :
    Ret Tryz.prog 8 #[.agg #[.slice a n c, .slice a2 n2 c2], .slice a3 n3 c3, .slice a4 n4 c4] w fun v w' => v = .bool true ∧ Ext w w' := by
  refine cE (l := [_, _, _]) Tryz.func8 rfl Tryz.ntmps8 (by simp) ?_
  have hs := St.init w
  obtain ⟨N1, hN1⟩ : ∃ N1, N1 = qP N := ⟨_, rfl⟩
  obtain ⟨E1, hE1⟩ : ∃ E1, E1 = tO E := ⟨_, rfl⟩
  have hT : tiny 0 N1 := by rw [hN1]; exact yA N
  have hsz : szN N1 := hT.sz (by omega)
  have hN30 : N1.length ≤ 30 := hT.1
  have hE128 : E1.length ≤ 128 := by rw [hE1]; exact aAe E
  obtain ⟨rb, hrb⟩ : ∃ b, eR N1 E1 = b := ⟨_, rfl⟩
  obtain ⟨Us, hUd⟩ : ∃ Us, Us = nI N1 E1 := ⟨_, rfl⟩
  obtain ⟨cde, hcd⟩ : ∃ cde, cde = errG N1 E1 := ⟨_, rfl⟩
  repeat' (first | ((apply xI 29; refine uU (γ := Option Addr × Nat) [(1, _), (2, _), (3, _), (7, _), (8, _)] zss (fun g => [(9, .slice g.1 Us.length g.2)]) (fun g w' => St w NoF w' [RowI g.1 Us.length g.2 Us, TabN a5 N1.length c5 (qs.map rawN), OwnN qs, dL a6 E1.length c6 re, Own re E1, Blk b7 (.cells #[.slice a5 N1.length c5, .slice a6 E1.length c6] 57 (0, 0)), Blk b3 (.cells #[.slice a n c, .slice a2 n2 c2] 57 (0, 0))]) (fun RR kk hcont => hold ?_) (hold ?_))) | ((apply bC 30; refine JL_o (by exact aF en30 rfl (aAz _)) rfl rfl ?_; rintro _ _ ⟨rfl, hE⟩; have hs := hs.ext hE; (try simp only [zcc] at hs))) | ((apply bC 31; refine JL_o (by exact aF en31 rfl ((aA0 _ a a2 n c n2 c2 N E (h.st hs) (hE0.st hs)).mono (fun _ _ r => by rw [← hN1, ← hE1] at r; exact r))) rfl rfl ?_; rintro _ _ ⟨qs, re, a5, a6, c5, c6, ⟨hqm, hqo⟩, rfl, hf⟩; have hs := hs.fresh hf; (try simp only [zcc] at hs))) | ((apply bC 32; refine JL_o (by exact aF en32 rfl (xV _ a5 a6 N1.length c5 E1.length c6 N1 E1 (slG hs hqm hqo zmm zmm) (jL (rs := re) hs zmm zmm) (by omega) (by omega) hsz)) rfl rfl ?_; rintro _ _ ⟨rfl, hE⟩; rw [hrb]; have hs := hs.ext hE; (try simp only [zcc] at hs))) | (apply aT) | ((apply aM); (first | (apply aR; exact aH rfl aA) | (apply aC; exact aB rfl aA) | (apply aW; exact aI hs rfl aA) | (apply bX; exact bY rfl aA)); first | (exact rfl; exact rfl) | exact rfl) | (apply bD) | (apply aG) | (apply bH) | (apply aP (t := 3); refine JL_o (by apply cI; exact bS hs rfl) rfl rfl ?_; rintro _ _ ⟨b3, rfl, hb3, hs, hE⟩) | (apply aP (t := 7); refine JL_o (by apply bB; exact aV hs) rfl rfl ?_; rintro _ _ ⟨b7, rfl, hb7, hs, hE⟩) | (apply bK; refine JL_u (by apply bE; exact aX hs rfl rfl rfl) rfl ?_; rintro _ _ ⟨hs, hF⟩) | (apply aS; refine bW rfl gb ?_))
  · refine kR ?_
    cases rb with
    | true =>
      have hUt : Us = oH N1 := by rw [hUd]; unfold nI; rw [hrb]; rfl
      repeat' (first | ((apply bC 53; refine JL_o (by exact aF en53 rfl (zC _ a5 N1.length c5 N1 (slG hs hqm hqo zmm zmm) (by omega))) rfl rfl ?_; rintro _ _ ⟨a7, c7, rfl, hf⟩; rw [← hUt] at hf ⊢; have hs := hs.fresh hf; (try simp only [zcc] at hs))) | (apply aT) | ((apply aM); (first | (apply aC; exact aB rfl aA) | (apply aQ; exact aK rfl rfl aA) | (apply aW; exact aU hs rfl rfl aA)); first | (exact rfl; exact rfl) | exact rfl) | (apply aG) | (apply aS; refine bV rfl gb ?_))
      refine hcont (a7, c7) _ _ (hs.sel [0, 2, 3, 4, 5, 1, 6] (by decide)) zss
    | false =>
      have hUf : Us = [] := by rw [hUd]; unfold nI; rw [hrb]; rfl
      repeat' (first | (apply bH) | (apply aS; refine bW rfl gb ?_))
      have hs := hs.nilRow 3 1
      rw [hUf] at hcont
      refine hcont (none, 0) _ _ (hs.sel [0, 2, 3, 4, 5, 1, 6] (by decide)) zss
  · refine kR ?_
    rintro ⟨a7, c7⟩ w2 hs1
    dsimp only at hs1 ⊢
    have hs : St w NoF w2 [_, _, _, _, _, _, _] := hs1
    repeat' (first | ((apply aj_reg 9; refine uU (γ := Unit) [(1, _), (2, _), (3, _), (7, _), (8, _)] zss (fun _ => [(59, .bool false)]) (fun _ w' => St w NoF w' [TabN a5 N1.length c5 (qs.map rawN), OwnN qs, dL a6 E1.length c6 re, Own re E1, Blk b7 (.cells #[.slice a5 N1.length c5, .slice a6 E1.length c6] 57 (0, 0)), Blk b3 (.cells #[.slice a n c, .slice a2 n2 c2] 57 (0, 0))]) (fun RR kk hcont => hold ?_) (hold ?_))) | ((apply bC 46; refine JL_o (by exact aF en46 rfl (eG _ a5 a6 N1.length c5 E1.length c6 N1 E1 (slG hs hqm hqo zmm zmm) (jL (rs := re) hs zmm zmm) (by omega) hsz)) rfl rfl ?_; rintro _ _ ⟨rfl, hE⟩; rw [← hcd]; have hs := hs.ext hE; (try simp only [zcc] at hs))) | (apply aT) | ((apply aM); (first | (apply aC; exact aB rfl aA) | (apply aW; exact aI hs rfl aA)); first | (exact rfl; exact rfl) | exact rfl) | (apply bD) | (apply aG))
    · refine kR ?_
      have hUU : decide (Us = Us) = true := decide_eq_true rfl
      have hUo : ∀ v ∈ Us, inK .i64 v := fun v hv => by
        rw [hUd] at hv; unfold nI at hv
        split at hv
        · unfold oH uN at hv
          obtain ⟨j, hj, rfl⟩ := List.mem_map.1 hv
          have := List.mem_range.1 (List.mem_filter.1 hj).1
          unfold inK; simp only [IntKind.min, IntKind.max, IntKind.bits, IntKind.signed]; omega
        · cases hv
      cases rb with
      | true =>
        rw [lN hrb] at hcd
        subst hcd
        repeat' (first | ((apply bZ 49; refine cH rfl gb (by exact aF en49 rfl ((sD _ a5 a6 N1.length c5 E1.length c6 N1 E1 (slG hs hqm hqo zmm zmm) (jL (rs := re) hs zmm zmm) (by omega) (by omega) hsz).mono (fun _ _ r => by rw [← hUd] at r; exact r))) rfl rfl ?_; rintro _ _ ⟨a8, c8, rfl, hf⟩; have hs := hs.fresh hf; (try simp only [zcc] at hs))) | ((apply bZ 48; refine cH rfl gb (by exact aF en48 rfl (oT _ a8 a7 Us.length c8 Us.length c7 Us Us ((RowV.sl (hs.row a8 Us.length c8) hUo).weak (fun _ _ => trivial)) ((RowV.sl (hs.row a7 Us.length c7) hUo).weak (fun _ _ => trivial)))) rfl rfl ?_; rintro _ _ ⟨rfl, hE⟩; rw [hUU]; have hs := hs.ext hE; (try simp only [zcc] at hs))) | ((apply bZ 54; refine cH rfl gb (by exact aF en54 rfl (aAy _)) rfl rfl ?_; rintro _ _ ⟨t1, u1, t2, m2, u2, rfl, qs0, es0, rs0, ⟨hq0, ho0⟩, ⟨he0, hA0⟩, ⟨hl0, hm0, hx0⟩, hf⟩; have hs := hs.fresh hf; (try simp only [zcc] at hs))) | ((apply bZ 55; refine cH rfl gb (by exact aF en55 rfl (wP _)) rfl rfl ?_; rintro _ _ ⟨a9, c9, rfl, hE, h9⟩; have hs := hs.ext hE; (try simp only [zcc] at hs))) | ((apply bZ 40; refine cH rfl gb (by exact aF en40 rfl ((wY _ t1 t2 a9 1 u1 m2 u2 1 c9 N00 [newN []] es0 (slG (qs := qs0) hs hq0 ho0 zmm zmm) (jL (rs := rs0) hs zmm zmm) h9 (by omega) hx0).mono (fun _ _ r => by rw [show xT N00 es0 [newN []] = true from wG gr_new he0 hA0] at r; exact r))) rfl rfl ?_; rintro _ _ ⟨rfl, hE⟩; have hs := hs.ext hE; (try simp only [zcc] at hs))) | (apply aT) | ((first | (apply aM) | (apply bO; exact rfl; exact gb)); (first | (apply aR; exact aH rfl aA) | (apply aW; exact aI hs rfl aA) | (apply aL; first | exact aO rfl rfl rfl aA | exact kQ rfl rfl aA) | (apply bX; exact bY rfl aA) | (apply bR; exact bG rfl gb rfl aA)); first | (exact rfl; exact rfl) | exact rfl) | (apply aG) | (apply cL; (refine eB rfl gb rfl ?_)))
        refine hcont () _ _ (hs.sel [6, 7, 8, 9, 10, 11] (by decide)) zss
      | false =>
        rw [gU hrb] at hcd
        subst hcd
        repeat' (first | ((apply bZ 49; refine cH rfl gb (by exact aF en49 rfl ((sD _ a5 a6 N1.length c5 E1.length c6 N1 E1 (slG hs hqm hqo zmm zmm) (jL (rs := re) hs zmm zmm) (by omega) (by omega) hsz).mono (fun _ _ r => by rw [← hUd] at r; exact r))) rfl rfl ?_; rintro _ _ ⟨a8, c8, rfl, hf⟩; have hs := hs.fresh hf; (try simp only [zcc] at hs))) | ((apply bZ 48; refine cH rfl gb (by exact aF en48 rfl (oT _ a8 a7 Us.length c8 Us.length c7 Us Us ((RowV.sl (hs.row a8 Us.length c8) hUo).weak (fun _ _ => trivial)) ((RowV.sl (hs.row a7 Us.length c7) hUo).weak (fun _ _ => trivial)))) rfl rfl ?_; rintro _ _ ⟨rfl, hE⟩; rw [hUU]; have hs := hs.ext hE; (try simp only [zcc] at hs))) | ((apply bZ 54; refine cH rfl gb (by exact aF en54 rfl (aAy _)) rfl rfl ?_; rintro _ _ ⟨t1, u1, t2, m2, u2, rfl, qs0, es0, rs0, ⟨hq0, ho0⟩, ⟨he0, hA0⟩, ⟨hl0, hm0, hx0⟩, hf⟩; have hs := hs.fresh hf; (try simp only [zcc] at hs))) | ((apply bZ 55; refine cH rfl gb (by exact aF en55 rfl (wP _)) rfl rfl ?_; rintro _ _ ⟨a9, c9, rfl, hE, h9⟩; have hs := hs.ext hE; (try simp only [zcc] at hs))) | ((apply bZ 40; refine cH rfl gb (by exact aF en40 rfl ((wY _ t1 t2 a9 1 u1 m2 u2 1 c9 N00 [newN []] es0 (slG (qs := qs0) hs hq0 ho0 zmm zmm) (jL (rs := rs0) hs zmm zmm) h9 (by omega) hx0).mono (fun _ _ r => by rw [show xT N00 es0 [newN []] = true from wG gr_new he0 hA0] at r; exact r))) rfl rfl ?_; rintro _ _ ⟨rfl, hE⟩; have hs := hs.ext hE; (try simp only [zcc] at hs))) | (apply aT) | ((first | (apply aM) | (apply bO; exact rfl; exact gb)); (first | (apply aR; exact aH rfl aA) | (apply aW; exact aI hs rfl aA) | (apply aL; first | exact aO rfl rfl rfl aA | exact kQ rfl rfl aA) | (apply bX; exact bY rfl aA) | (apply bR; first | exact bL rfl gb rfl aA | exact bG rfl gb rfl aA)); first | (exact rfl; exact rfl) | exact rfl) | (apply aG))
        refine hcont () _ _ (hs.sel [6, 7, 8, 9, 10, 11] (by decide)) zss
    · refine kR ?_
      rintro _ w3 hs1
      have hs : St w NoF w3 [_, _, _, _, _, _] := hs1
      repeat' (first | ((apply xJ 0; refine uU (γ := Unit) [(2, _), (3, _), (7, _), (8, _), (60, _), (61, _)] zss (fun _ => []) (fun _ w' => St w NoF w' [TabN a5 N1.length c5 (qs.map rawN), OwnN qs, dL a6 E1.length c6 re, Own re E1, Blk b7 (.cells #[.slice a5 N1.length c5, .slice a6 E1.length c6] 57 (0, 0)), Blk b3 (.cells #[.slice a n c, .slice a2 n2 c2] 57 (0, 0))]) (fun RR kk hcont => hold ?_) (hold ?_))) | (apply aT) | ((apply aM); (first | (apply aR; exact aH rfl aA) | (apply bM; exact bU rfl aA)); first | (exact rfl; exact rfl) | exact rfl) | (apply bD) | (apply aG) | (apply bH) | (apply aS; refine bW rfl gb ?_))
      · refine kR ?_
        have hxl := hx3.len
        have hx63 : n3 ≤ 9223372036854775807 := by have h1 := hx3.le; have h2 := hx3.cap; unfold maxLen at h2; omega
        repeat' (first | (apply bA))
        refine cZ (α := Nat) [(2, _), (3, _), (7, _), (8, _), (60, _), (61, _)] (fun k => [(62, .int .i64 k)]) (fun k w' => St w NoF w' [TabN a5 N1.length c5 (qs.map rawN), OwnN qs, dL a6 E1.length c6 re, Own re E1, Blk b7 (.cells #[.slice a5 N1.length c5, .slice a6 E1.length c6] 57 (0, 0)), Blk b3 (.cells #[.slice a n c, .slice a2 n2 c2] 57 (0, 0))] ∧ k ≤ n3 ∧ k ≤ 8) (fun k => n3 - k) 0 ⟨hs, by omega, by omega⟩ zss ?_
        rintro k w4 ⟨hs1, hk, hk8⟩ ih
        by_cases hlt : k < n3
        · obtain ⟨p, o, rfl⟩ := hx3.sl.addr (by omega)
          have hs : St w NoF w4 [_, _, _, _, _, _] := hs1
          have hx : xs[k]? = some (xs[k]'(by omega)) := List.getElem?_eq_getElem (by omega)
          obtain ⟨x, hxd⟩ : ∃ x, x = xs[k]'(by omega) := ⟨_, rfl⟩
          rw [← hxd] at hx
          have hxi : inK .i64 x := (hx3.srcF).2.2 x (List.mem_of_getElem? hx)
          by_cases h8 : k = 8
          · repeat' (first | (apply aT) | ((apply aM); (first | (apply aW; first | exact aU hs rfl rfl aA | exact aI hs rfl aA | exact bJ (i := k) (j := 0) (hx3.st hs) hx rfl rfl rfl aA) | (apply aR; exact aH rfl aA) | (apply aC; exact aB rfl aA) | (apply aL; exact aO rfl rfl rfl aA) | (apply aN; exact aJ rfl rfl (by omega) (by omega) aA)); first | (exact rfl; exact rfl) | exact rfl) | (apply bD) | (apply aG) | (apply bA) | (apply cF; refine cU rfl ?_) | (apply bH) | (apply aS; refine bF rfl ob ?_))
            refine hcont () _ _ hs zss
          · obtain ⟨Tl, hTl⟩ : ∃ l, l = typL N1 E1 x := ⟨_, rfl⟩
            obtain ⟨tc, htc⟩ : ∃ l, l = typC N1 E1 x := ⟨_, rfl⟩
            have hTT : decide (Tl = Tl) = true := decide_eq_true rfl
            have hTok : ∀ v ∈ Tl, okId v := fun v hv => by
              rw [hTl] at hv; unfold typL at hv
              split at hv
              · next e =>
                unfold typC at e
                split at e
                · split at e
                  · next hi =>
                    obtain ⟨j, y, rfl, hy, _⟩ := isM_true.1 hi
                    rw [dM hy] at hv
                    obtain ⟨q, hq1, hq2⟩ := pH hqm hy
                    have := (hqo q (List.mem_of_getElem? hq1)).1.2
                    rw [← hq2] at hv
                    exact this v hv
                  · cases e
                · cases e
              · cases hv
            repeat' (first | ((apply xI 75; refine uU (γ := Option Addr × Nat × Nat × Int) [(2, _), (3, _), (7, _), (8, _), (13, _), (14, _), (60, _), (61, _), (62, _)] zss (fun g => [(15, .slice g.1 g.2.1 g.2.2.1), (16, .int .i64 g.2.2.2)]) (fun g w' => St w NoF w' [RowU a8 Tl.length Tl.length Tl, TabN a5 N1.length c5 (qs.map rawN), OwnN qs, dL a6 E1.length c6 re, Own re E1, Blk b7 (.cells #[.slice a5 N1.length c5, .slice a6 E1.length c6] 57 (0, 0)), Blk b3 (.cells #[.slice a n c, .slice a2 n2 c2] 57 (0, 0))] ∧ g.2.1 = Tl.length ∧ g.2.2.2 = tc ∧ Sl dId All w' g.1 g.2.1 g.2.2.1 Tl) (fun RR kk hcont => hold ?_) (hold ?_))) | ((apply bC 44; refine JL_o (by exact aF en44 rfl ((gtype_r _ a5 a6 N1.length c5 E1.length c6 N1 E1 x (slG hs hqm hqo zmm zmm) (jL (rs := re) hs zmm zmm) (by omega) hsz hxi).mono (fun _ _ r => by rw [← hTl, ← htc] at r; exact r))) rfl rfl ?_; rintro _ _ ⟨a8, rfl, hf⟩; have hs := hs.fresh hf; (try simp only [zcc] at hs))) | (apply aT) | ((apply aM); (first | (apply aW; first | exact aU hs rfl rfl aA | exact aI hs rfl aA | exact bJ (i := k) (j := 0) (hx3.st hs) hx rfl rfl rfl aA) | (apply aR; exact aH rfl aA) | (apply aC; exact aB rfl aA) | (apply aL; exact aO rfl rfl rfl aA) | (apply cK; exact cA rfl rfl aA) | (apply aN; exact aJ rfl rfl (by omega) (by omega) aA)); first | (exact rfl; exact rfl) | exact rfl) | (apply bD) | (apply aG) | (apply bA) | (apply bH) | (apply aS; first | refine bF rfl ob ?_ | refine bQ rfl ob ?_))
            · refine kR ?_
              cases rb with
              | false =>
                have e1 : tc = 220 := by rw [htc]; unfold typC; rw [hrb]; rfl
                have e2 : Tl = [] := by rw [hTl]; unfold typL; rw [← htc, e1]; rfl
                repeat' (first | (apply bH) | (apply aS; refine bW rfl gb ?_))
                refine hcont (none, 0, 0, 220) _ _ ⟨hs, by rw [e2]; rfl, e1.symm, by rw [e2]; exact slU (hs.nilRow 29 1) (.head _) (fun v hv => by cases hv)⟩ zss
              | true =>
                cases hi : isM N1 x with
                | false =>
                  have e1 : tc = 2 := by rw [htc]; unfold typC; rw [hrb, hi]; rfl
                  have e2 : Tl = [] := by rw [hTl]; unfold typL; rw [← htc, e1]; rfl
                  repeat' (first | ((apply bC 56; refine JL_o (by exact aF en56 rfl (iF _ a5 N1.length c5 N1 x (slG hs hqm hqo zmm zmm) hxi)) rfl rfl ?_; rintro _ _ ⟨rfl, hE⟩; rw [hi]; have hs := hs.ext hE; (try simp only [zcc] at hs))) | (apply aT) | ((apply aM); (first | (apply aR; exact aH rfl aA) | (apply aC; exact aB rfl aA) | (apply aQ; exact aK rfl rfl aA) | (apply aW; exact aU hs rfl rfl aA)); first | (exact rfl; exact rfl) | exact rfl) | (apply bD) | (apply aG) | (apply bH) | (apply aS; first | refine bV rfl gb ?_ | refine bW rfl gb ?_))
                  refine hcont (none, 0, 0, 2) _ _ ⟨hs, by rw [e2]; rfl, e1.symm, by rw [e2]; exact slU (hs.nilRow 29 1) (.head _) (fun v hv => by cases hv)⟩ zss
                | true =>
                  have e1 : tc = 0 := by rw [htc]; unfold typC; rw [hrb, hi]; rfl
                  obtain ⟨j, y, hj, hy, _⟩ := isM_true.1 hi
                  obtain ⟨q, hq1, hq2⟩ := pH hqm hy
                  have hqM := List.mem_of_getElem? hq1
                  have e2 : Tl = q.2.1.2 := by rw [hTl]; unfold typL; rw [← htc, e1, if_pos rfl, hj, dM hy, ← hq2]
                  have e3 : Tl.length = q.2.1.1.2.1 := by rw [e2]; exact (hqo q hqM).1.1.symm
                  have hjl := (List.getElem?_eq_some_iff.1 hy).1
                  have hjx : (x - 1).toNat = j := by omega
                  have hrj : (qs.map rawN)[(x - 1).toNat]? = some (rawN q) := by rw [hjx, List.getElem?_map, hq1]; rfl
                  have hb1 : 1 ≤ x ∧ x ≤ N1.length := by omega
                  obtain ⟨p5, o5, rfl⟩ := (hs.row a5 N1.length c5).some (by omega)
                  have hs : St w NoF _ [_, _, _, _, _, _, _] := hs
                  repeat' (first | ((apply bC 56; refine JL_o (by exact aF en56 rfl (iF _ (some ⟨p5, o5, none⟩) N1.length c5 N1 x (slG hs hqm hqo zmm zmm) hxi)) rfl rfl ?_; rintro _ _ ⟨rfl, hE⟩; rw [hi]; have hs := hs.ext hE; (try simp only [zcc] at hs))) | (apply aT) | ((apply aM); (first | (apply aW; first | exact aU hs rfl rfl aA | exact aI hs rfl aA | exact bJ (i := (x - 1).toNat) (j := 1) (slRN (rs := qs.map rawN) hs zmm) hrj rfl rfl rfl aA) | (apply aR; exact aH rfl aA) | (apply aC; exact aB rfl aA) | (apply aQ; first | exact aK rfl rfl aA | exact bN rfl rfl aA) | (apply dQ; exact dG rfl rfl (by omega) aA) | (apply aN; exact aJ rfl rfl (by omega) (by omega) aA)); first | (exact rfl; exact rfl) | exact rfl) | (apply bD) | (apply aG) | (apply aS; refine bV rfl gb ?_))
                  have hSq := slRow1 (qs := qs) (q := q) hs zmm hqo hqM
                  rw [← e2] at hSq
                  refine hcont (q.2.1.1.1, q.2.1.1.2.1, q.2.1.1.2.2, 0) _ _ ⟨hs, e3.symm, e1.symm, hSq⟩ zss
            · refine kR ?_
              rintro ⟨a9, m9, c9, v9⟩ w5 ⟨hs1, h9m, h9v, h9⟩
              dsimp only at hs1 h9m h9v h9 ⊢
              subst h9m h9v
              have hs : St w NoF w5 [_, _, _, _, _, _, _] := hs1
              repeat' (first | ((apply bZ 43; refine cH rfl gb (by exact aF en43 rfl (eU _ a8 a9 Tl.length Tl.length Tl.length c9 Tl Tl (slU (xs := Tl) hs zmm hTok) h9)) rfl rfl ?_; rintro _ _ ⟨rfl, hE⟩; rw [hTT]; have hs := hs.ext hE; (try simp only [zcc] at hs))) | (apply aT) | ((first | (apply aM) | (apply bO; exact rfl; exact gb)); (first | (apply aR; exact aH rfl aA) | (apply aL; exact aO rfl rfl rfl aA) | (apply bX; exact bY rfl aA) | (apply bR; exact bG rfl gb rfl aA) | (apply bM; exact bU rfl aA)); first | (exact rfl; exact rfl) | exact rfl) | (apply bD) | (apply aG) | (apply bA) | (apply bH) | (apply aS; refine bW rfl gb ?_))
              have hTcap : Tl.length ≤ 9223372036854775807 := by
                have h1 := h9.le
                have h2 := h9.cap
                unfold maxLen at h2
                omega
              refine cZ (α := Nat × List Int) [(2, _), (3, _), (7, _), (8, _), (13, _), (60, _), (61, _), (62, _), (97, _)] (fun g => [(98, .int .i64 g.1)]) (fun g w' => St w NoF w' [RowU a8 Tl.length Tl.length g.2, TabN a5 N1.length c5 (qs.map rawN), OwnN qs, dL a6 E1.length c6 re, Own re E1, Blk b7 (.cells #[.slice a5 N1.length c5, .slice a6 E1.length c6] 57 (0, 0)), Blk b3 (.cells #[.slice a n c, .slice a2 n2 c2] 57 (0, 0))] ∧ g.2.length = Tl.length ∧ g.1 ≤ Tl.length) (fun g => Tl.length - g.1) (0, Tl) ⟨hs, rfl, by dsimp only; omega⟩ zss ?_
              rintro ⟨j, ys⟩ w6 ⟨hs1, hyl, hj⟩ ih2
              dsimp only at hs1 hyl hj ih2 ⊢
              have hs : St w NoF w6 [_, _, _, _, _, _, _] := hs1
              by_cases hjl : j < Tl.length
              · obtain ⟨p8, o8, rfl⟩ := (hs.row a8 Tl.length Tl.length).some (by omega)
                have hs : St w NoF w6 [_, _, _, _, _, _, _] := hs1
                obtain ⟨y, hy⟩ : ∃ y, ys[j]? = some y := ⟨_, List.getElem?_eq_getElem (by omega)⟩
                have hyc : (encL cId ys)[j * 1]? = some (.int .u64 y) := cell_id hy
                have hset : ∀ V : Int, cB (encL cId ys) (j * 1) [.int .u64 V] = encL cId (ys.set j V) := fun V => (jG (d := dId) ys j V (by omega)).symm
                repeat' (first | ((apply bK; refine JL_u (by apply bE; exact dS (b := p8) (o := o8) (off := j * 1) (n := Tl.length) (c := Tl.length) (vs := [.int .u64 (IntKind.wrap .u64 (y + 1))]) hs rfl rfl rfl rfl (by simp [Value.oneCell']) (by show j * 1 + 1 ≤ Tl.length * 1; omega)) rfl ?_; rintro _ _ ⟨hs, hF⟩; rw [hset] at hs)) | (apply aT) | ((apply aM); (first | (apply aW; first | exact aU hs rfl rfl aA | exact fY (b := p8) (o := o8) (off := j * 1) (n := Tl.length) (c := Tl.length) hs rfl hyc aA) | (apply aR; exact aH rfl aA) | (apply aC; exact aB rfl aA) | (apply cJ; first | exact bT rfl rfl (by omega) (by first | (simp only [Int.reduceAdd]; exact rfl) | exact rfl) aA | exact aO rfl rfl rfl aA) | (apply aL; exact aO rfl rfl rfl aA) | (apply aN; exact aJ rfl rfl (by omega) (by omega) aA)); first | (exact rfl; exact rfl) | exact rfl) | (apply bD) | (apply aG) | (apply bA) | (apply bP) | (apply bH) | (apply aS; refine bF rfl ob ?_))
                have hzz : ∃ zs : List Int, zs.length = Tl.length ∧ St w NoF _ [RowU (some ⟨p8, o8, none⟩) Tl.length Tl.length zs, TabN a5 N1.length c5 (qs.map rawN), OwnN qs, dL a6 E1.length c6 re, Own re E1, Blk b7 (.cells #[.slice a5 N1.length c5, .slice a6 E1.length c6] 57 (0, 0)), Blk b3 (.cells #[.slice a n c, .slice a2 n2 c2] 57 (0, 0))] := ⟨_, by rw [List.length_set]; exact hyl, hs⟩
                obtain ⟨zs, hzl, hs⟩ := hzz
                refine ih2 (j + 1, zs) _ _ ⟨hs, hzl, by dsimp only; omega⟩ (by dsimp only; omega) zss
              · repeat' (first | (apply aT) | ((apply aM); (first | (apply aR; exact aH rfl aA) | (apply cJ; exact bT rfl rfl (by omega) (by first | (simp only [Int.reduceAdd]; exact rfl) | exact rfl) aA) | (apply aL; exact aO rfl rfl rfl aA)); first | (exact rfl; exact rfl) | exact rfl) | (apply bD) | (apply aG) | (apply bP) | (apply cF; refine cU rfl ?_) | (apply aS; refine bQ rfl ob ?_))
                refine ih (k + 1) _ _ ⟨hs.sel [1, 2, 3, 4, 5, 6] (by decide), by omega, by omega⟩ (by omega) zss
        · have hs : St w NoF w4 [_, _, _, _, _, _] := hs1
          repeat' (first | (apply aT) | ((apply aM); (apply aL; exact aO rfl rfl rfl aA); first | (exact rfl; exact rfl) | exact rfl) | (apply bD) | (apply aG) | (apply cF; refine cU rfl ?_) | (apply aS; refine bQ rfl ob ?_))
          refine hcont () _ _ hs zss
      · refine kR ?_
        rintro _ w4 hs1
        have hs : St w NoF w4 [_, _, _, _, _, _] := hs1
        obtain ⟨ids, hir, him⟩ := Sl.raw (D := rawIdsG) ht
        have hil := hir.len
        have htl := ht.len
        have hmx : n4 ≤ 9223372036854775807 := by have h1 := ht.le; have h2 := ht.cap; unfold maxLen at h2; omega
        repeat' (first | ((apply xJ 4; refine uU (γ := Unit) [(3, _), (7, _), (8, _), (109, _), (110, _)] zss (fun _ => []) (fun _ w' => St w NoF w' [TabN a5 N1.length c5 (qs.map rawN), OwnN qs, dL a6 E1.length c6 re, Own re E1, Blk b7 (.cells #[.slice a5 N1.length c5, .slice a6 E1.length c6] 57 (0, 0)), Blk b3 (.cells #[.slice a n c, .slice a2 n2 c2] 57 (0, 0))]) (fun RR kk hcont => hold ?_) (hold ?_))) | (apply aT) | ((apply aM); (first | (apply aR; exact aH rfl aA) | (apply bM; exact bU rfl aA)); first | (exact rfl; exact rfl) | exact rfl) | (apply bD) | (apply aG))
        · refine kR ?_
          repeat' (first | (apply bA))
          refine cZ (α := Nat) [(3, _), (7, _), (8, _), (109, _), (110, _)] (fun k => [(111, .int .i64 k)]) (fun k w' => St w NoF w' [TabN a5 N1.length c5 (qs.map rawN), OwnN qs, dL a6 E1.length c6 re, Own re E1, Blk b7 (.cells #[.slice a5 N1.length c5, .slice a6 E1.length c6] 57 (0, 0)), Blk b3 (.cells #[.slice a n c, .slice a2 n2 c2] 57 (0, 0))] ∧ k ≤ n4 ∧ k ≤ 8) (fun k => n4 - k) 0 ⟨hs, by omega, by omega⟩ zss ?_
          rintro k w5 ⟨hs1, hk, hk8⟩ ih
          by_cases hlt : k < n4
          · obtain ⟨p, o, rfl⟩ := hir.sl.addr (by omega)
            have hs : St w NoF w5 [_, _, _, _, _, _] := hs1
            have hx : tss[k]? = some (tss[k]'(by omega)) := List.getElem?_eq_getElem (by omega)
            obtain ⟨t, htd⟩ : ∃ t, t = tss[k]'(by omega) := ⟨_, rfl⟩
            rw [← htd] at hx
            obtain ⟨r, hrx, hrel⟩ := him.get hx
            have mx : Sl (tInt .u64) All w r.1 r.2.1 r.2.2 t := hrel
            by_cases h8 : k = 8
            · repeat' (first | (apply aT) | ((apply aM); (first | (apply aW; first | exact aU hs rfl rfl aA | exact aI hs rfl aA | exact bJ (i := k) (j := 0) (hir.st hs) hrx rfl rfl rfl aA) | (apply aR; exact aH rfl aA) | (apply aC; exact aB rfl aA) | (apply aL; exact aO rfl rfl rfl aA) | (apply aN; exact aJ rfl rfl (by omega) (by omega) aA)); first | (exact rfl; exact rfl) | exact rfl) | (apply bD) | (apply aG) | (apply bA) | (apply cF; refine cU rfl ?_) | (apply bH) | (apply aS; refine bF rfl ob ?_))
              refine hcont () _ _ hs zss
            · obtain ⟨q, hq⟩ : ∃ q, q = min r.2.1 14 := ⟨_, rfl⟩
              have hmcap := mx.le
              have mcut := mx.cutM 14
              rw [← hq] at mcut
              obtain ⟨tt, htt⟩ : ∃ tt, tt = t.take 14 := ⟨_, rfl⟩
              rw [← htt] at mcut
              have htok : ∀ u ∈ tt, okId u := (mcut.srcF).2.2
              obtain ⟨fv, hfv⟩ : ∃ fv, fv = fV N1 tt := ⟨_, rfl⟩
              have hbb : (decide (fv ≠ 0) != decide ((fv : Int) > 0)) = false := by by_cases e : fv = 0 <;> simp [e]; omega
              cases rb with
              | true =>
                have hfg := nR hrb tt
                rw [← hfv] at hfg
                repeat' (first | ((apply bC 24; refine JL_o (by exact aF en24 rfl (kO _ r.1 q r.2.2 tt (mcut.st hs) (by omega))) rfl rfl ?_; rintro _ _ ⟨a8, c8, rfl, hf⟩; have hs := hs.fresh hf; rw [oM] at hs; (try simp only [zcc] at hs))) | ((apply bC 51; refine JL_o (by exact aF en51 rfl ((aA1 _ a5 a6 a8 N1.length c5 E1.length c6 q c8 N1 E1 tt (slG hs hqm hqo zmm zmm) (jL (rs := re) hs zmm zmm) (by omega) hsz (slU (xs := tt) hs zmm htok)).mono (fun _ _ r => by rw [if_pos hrb, hfg] at r; exact r))) rfl rfl ?_; rintro _ _ ⟨rfl, hE⟩; have hs := hs.ext hE; (try simp only [zcc] at hs))) | ((apply bC 57; refine JL_o (by exact aF en57 rfl (lL _ a5 a8 N1.length c5 q c8 N1 tt (slG hs hqm hqo zmm zmm) (slU (xs := tt) hs zmm htok))) rfl rfl ?_; rintro _ _ ⟨rfl, hE⟩; rw [← hfv]; have hs := hs.ext hE; (try simp only [zcc] at hs))) | (apply aT) | ((first | (apply aM) | (apply bO; exact rfl; exact gb)); (first | (apply eA; exact eF (q := q) rfl rfl (by omega) (by omega) aA) | (apply aW; first | exact aU hs rfl rfl aA | exact aI hs rfl aA | exact bJ (i := k) (j := 0) (hir.st hs) hrx rfl rfl rfl aA) | (apply aR; exact aH rfl aA) | (apply aC; exact aB rfl aA) | (apply aQ; exact aK rfl rfl aA) | (apply cJ; exact bT rfl rfl (by omega) (by first | (simp only [Int.reduceAdd]; exact rfl) | exact rfl) aA) | (apply aL; first | exact aO rfl rfl rfl aA | exact kQ rfl rfl aA) | (apply bR; exact bG rfl gb rfl aA) | (apply bM; exact bU rfl aA) | (apply cK; exact cA rfl rfl aA) | (apply mE; exact nX rfl rfl aA) | (apply aN; exact aJ rfl rfl (by omega) (by omega) aA)); first | (exact rfl; exact rfl) | exact rfl) | (apply bD) | (apply aG) | (apply bA) | (apply bP) | (apply bH) | (apply aS; first | refine bF rfl ob ?_ | refine bQ rfl ob ?_ | refine bV rfl gb ?_ | refine bW rfl gb ?_))
                refine ih (k + 1) _ _ ⟨hs.sel [1, 2, 3, 4, 5, 6] (by decide), by omega, by omega⟩ (by omega) zss
              | false =>
                repeat' (first | ((apply bC 24; refine JL_o (by exact aF en24 rfl (kO _ r.1 q r.2.2 tt (mcut.st hs) (by omega))) rfl rfl ?_; rintro _ _ ⟨a8, c8, rfl, hf⟩; have hs := hs.fresh hf; rw [oM] at hs; (try simp only [zcc] at hs))) | ((apply bC 51; refine JL_o (by exact aF en51 rfl ((aA1 _ a5 a6 a8 N1.length c5 E1.length c6 q c8 N1 E1 tt (slG hs hqm hqo zmm zmm) (jL (rs := re) hs zmm zmm) (by omega) hsz (slU (xs := tt) hs zmm htok)).mono (fun _ _ r => by rw [if_neg (by rw [hrb]; decide)] at r; exact r))) rfl rfl ?_; rintro _ _ ⟨rfl, hE⟩; have hs := hs.ext hE; (try simp only [zcc] at hs))) | (apply aT) | ((first | (apply aM) | (apply bO; exact rfl; exact gb)); (first | (apply eA; exact eF (q := q) rfl rfl (by omega) (by omega) aA) | (apply aW; first | exact aU hs rfl rfl aA | exact aI hs rfl aA | exact bJ (i := k) (j := 0) (hir.st hs) hrx rfl rfl rfl aA) | (apply aR; exact aH rfl aA) | (apply aC; exact aB rfl aA) | (apply cJ; exact bT rfl rfl (by omega) (by first | (simp only [Int.reduceAdd]; exact rfl) | exact rfl) aA) | (apply aL; first | exact aO rfl rfl rfl aA | exact kQ rfl rfl aA) | (apply bR; exact bG rfl gb rfl aA) | (apply bM; exact bU rfl aA) | (apply cK; exact cA rfl rfl aA) | (apply mE; exact nX rfl rfl aA) | (apply aN; exact aJ rfl rfl (by omega) (by omega) aA)); first | (exact rfl; exact rfl) | exact rfl) | (apply bD) | (apply aG) | (apply bA) | (apply bP) | (apply bH) | (apply aS; first | refine bF rfl ob ?_ | refine bQ rfl ob ?_ | refine bW rfl gb ?_))
                refine ih (k + 1) _ _ ⟨hs.sel [1, 2, 3, 4, 5, 6] (by decide), by omega, by omega⟩ (by omega) zss
          · have hs : St w NoF w5 [_, _, _, _, _, _] := hs1
            repeat' (first | (apply aT) | ((apply aM); (apply aL; exact aO rfl rfl rfl aA); first | (exact rfl; exact rfl) | exact rfl) | (apply bD) | (apply aG) | (apply cF; refine cU rfl ?_) | (apply aS; refine bQ rfl ob ?_))
            refine hcont () _ _ hs zss
        · refine kR ?_
          rintro _ w5 hs1
          have hs : St w NoF w5 [_, _, _, _, _, _] := hs1
          have hNN : (decide (N1 = N1) && decide (E1 = E1)) = true := by rw [decide_eq_true rfl, decide_eq_true rfl]; rfl
          repeat' (first | ((apply ax_c; apply iL 31; exact rfl; (intro W X hN hs; exact aF en31 rfl ((aA0 _ a a2 n c n2 c2 N E (h.st hs) (hE0.st hs)).mono (fun _ _ r => by rw [← hN1, ← hE1] at r; exact r))); (rintro _ _ _ _ ⟨qs2, re2, a8, a9, c8, c9, ⟨hqm2, hqo2⟩, rfl, hf⟩; first | exact hE | exact Fresh.ext hf); rintro W X _ _ hN hs ⟨qs2, re2, a8, a9, c8, c9, ⟨hqm2, hqo2⟩, rfl, hf⟩; have hs := hs.fresh hf; (try simp only [zcc] at hs); refine JX.at hs ?_)) | ((apply ax_c; apply iL 41; exact rfl; (intro W X hN hs; exact aF en41 rfl (glsame_r _ a5 a6 a8 a9 N1.length c5 E1.length c6 N1.length c8 E1.length c9 N1 N1 E1 E1 (slG hs hqm hqo zmm zmm) (jL (rs := re) hs zmm zmm) (slG (qs := qs2) hs hqm2 hqo2 zmm zmm) (jL (rs := re2) hs zmm zmm) (by omega))); (rintro _ _ _ _ ⟨rfl, hE⟩; first | exact hE | exact Fresh.ext hf); rintro W X _ _ hN hs ⟨rfl, hE⟩; rw [hNN]; have hs := hs.ext hE; (try simp only [zcc] at hs); refine JX.at hs ?_)) | ((apply JX_f; exact rfl; intro W X hs); (first | (apply aC; exact aB rfl aA) | (apply aW; exact aI hs rfl aA)); first | (exact rfl; exact rfl) | exact rfl) | (apply bD) | (apply cW; (refine cR (id := 42) [0, 0, 2, 7, 15] [(0, 0), (1, 0), (2, 1), (3, 1), (4, 0)] [] hs dP (by kernel_rfl) (by kernel_rfl) (by kernel_rfl) (by kernel_rfl) (by kernel_rfl) ?_)) | (refine cV (fun W hs => ?_)) | (apply dC))
          refine aY Tryz.func8 rfl (.tmp rfl .nil) ⟨rfl, hs.frm.ext⟩
end Go.Eng
end
