/- The texts L12, L13, L14, L15, L16, L17, L18, L19, L20, L21, L22, E27, L23, L24, L25, L26, L27, L28, L29, L31, L32, L33, L34, E28, E29, E30, joined: what of them serves. -/
import Derived.Test.YtcoldgkhlkjjmaaGreatW2
import Derived.Lib.AppendZerosOnto
import Derived.Lib.Overlaps
section
namespace Go.Eng
open Go.Proofs
set_option linter.unusedSimpArgs false
set_option linter.unusedVariables false
abbrev jL (r : REnt) : Bool := decide (r.1 = 1)
abbrev okE (p : REnt) : Prop := inK .i64 p.1 ∧ True ∧ inK .i64 p.2.2
theorem zB (a : Option Addr) : a.map (·.add 0) = a := by
  cases a with
  | none => rfl
  | some a => cases a; rfl
theorem fK {rs : List REnt} {j : Nat} {r : REnt} (h : rs[j]? = some r) : (rs.take (j + 1)).filter jL = (rs.take j).filter jL ++ if r.1 = 1 then [r] else [] := by
  rw [List.take_add_one, h, List.filter_append]
  congr 1
  by_cases h1 : r.1 = 1
  · simp [jL, h1]
  · simp [jL, h1]
attribute [local irreducible] Hold J JL JD JX JXat OpR OpG Ret RetV Is Blk Row
set_option maxRecDepth 100000
set_option maxHeartbeats 1000000
theorem idxF_r (w : World) (a : Option Addr) (n c : Nat) (rs : List REnt) (h : Sl eV All w a n c rs) (hn : n ≤ 1048576) :
    Ret Tryz.prog 247 #[.slice a n c, .func (.func 231) #[] #[]] w fun v w' => ((v = .int .i64 (-1) ∧ rs.filter jL = rs) ∨ ∃ (k : Nat) (r : REnt), v = .int .i64 (k : Nat) ∧ rs[k]? = some r ∧ ¬ r.1 = 1 ∧ (rs.take k).filter jL = rs.take k) ∧ Ext w w' := by
  refine bI (l := [_, _]) Tryz.func247 rfl Tryz.ntmps247 (by simp) ?_
  have hs := St.init w
  have hl := h.len
  repeat' (first | (apply aH) | ((apply aC); exact zop; first | (exact rfl; exact rfl) | exact rfl) | (apply aQ) | (apply aB) | (apply aN))
  refine bT (α := Nat) [(0, _), (1, _), (7, _)] (fun k => [(8, .int .i64 k)]) (fun k w' => St w NoF w' [] ∧ k ≤ n ∧ (rs.take k).filter jL = rs.take k) (fun k => n - k) 0 ⟨hs, by omega, rfl⟩ zss ?_
  rintro k w' ⟨hs1, hk, hf⟩ ih
  have hs : St w NoF w' [] := hs1
  by_cases hlt : k < n
  · obtain ⟨p1, o1, rfl⟩ := h.sl.addr (by omega)
    have hx : rs[k]? = some rs[k] := List.getElem?_eq_getElem (by omega)
    obtain ⟨r, hrd⟩ : ∃ r, r = rs[k] := ⟨_, rfl⟩
    rw [← hrd] at hx
    by_cases hr : r.1 = 1
    · have hf2 : (rs.take (k + 1)).filter jL = rs.take (k + 1) := by rw [fK hx, if_pos hr, hf, List.take_add_one, hx]; rfl
      repeat' (first | ((apply aF; refine JL_o (bX rfl rfl (Ret.value (cap := #[]) en231 (rM _ r))) rfl rfl ?_; rintro _ _ ⟨rfl, hE⟩; have hs := hs.ext hE; rw [decide_eq_false (not_not_intro hr)])) | (apply aH) | ((apply aC); (first | (apply aT; exact aO (h.st hs) hx rfl rfl aI) | exact zop); first | (exact rfl; exact rfl) | exact rfl) | (apply aQ) | (apply aB) | (apply aN) | (apply aW) | (apply aV) | (apply aG; first | refine aS rfl ob ?_ | refine bD rfl gb ?_))
      refine ih (k + 1) _ _ ⟨hs, by omega, hf2⟩ (by omega) zss
    · repeat' (first | ((apply aF; refine JL_o (bX rfl rfl (Ret.value (cap := #[]) en231 (rM _ r))) rfl rfl ?_; rintro _ _ ⟨rfl, hE⟩; have hs := hs.ext hE; rw [decide_eq_true hr])) | (apply aH) | ((apply aC); (first | (apply aT; exact aO (h.st hs) hx rfl rfl aI) | exact zop); first | (exact rfl; exact rfl) | exact rfl) | (apply aQ) | (apply aB) | (apply aN) | (apply aV) | (apply aG; first | refine aS rfl ob ?_ | refine bB rfl gb ?_))
      refine aM Tryz.func247 rfl (.tmp rfl .nil) ⟨.inr ⟨k, r, rfl, hx, hr, hf⟩, hs.frm.ext⟩
  · have e : rs.take k = rs := List.take_of_length_le (by omega)
    rw [e] at hf
    repeat' (first | (apply aH) | ((apply aC); exact zop; first | (exact rfl; exact rfl) | exact rfl) | (apply aQ) | (apply aB) | (apply bG; refine bP rfl ?_) | (apply aG; refine aZ rfl ob ?_))
    refine aM Tryz.func247 rfl (.tmp rfl .nil) ⟨.inl ⟨rfl, hf⟩, hs.frm.ext⟩
theorem delF_r (w : World) (a : Option Addr) (n c : Nat) (rs : List REnt) (hh : Held w [Row a n c 139 3 (encL bS rs)]) (hok : ∀ r ∈ rs, okE r) (hn : n ≤ 1048576) :
    Ret Tryz.prog 230 #[.slice a n c, .func (.func 231) #[] #[]] w fun v w' => v = .slice a (rs.filter jL).length c ∧ Turn w [Row a n c 139 3 (encL bS rs)] w' [Row a (rs.filter jL).length c 139 3 (encL bS (rs.filter jL))] := by
  refine bI (l := [_, _]) Tryz.func230 rfl Tryz.ntmps230 (by simp) ?_
  have hs := hh.st
  have hrow := hs.row a n c
  have hlE := hrow.len
  have hlen : rs.length = n := by
    have := eK (d := eV) rs
    rw [hlE] at this
    exact (Nat.eq_of_mul_eq_mul_right (by decide) this).symm
  have hsl : Sl eV All w a n c rs := (RowV.slF (d := eV) hrow (by decide) hok).weak (fun _ _ => trivial)
  have hcap := hrow.2.1
  repeat' (first | ((apply aF (t := 10); refine JL_o (aA en247 rfl (idxF_r _ a n c rs hsl hn)) rfl rfl ?_; rintro _ _ ⟨⟨rfl, hf⟩ | ⟨k, r, rfl, hx, hr, hf⟩, hE⟩ <;> have hs := hs.ext hE <;> (try (have hkn : k < n := by rw [← hlen]; exact (List.getElem?_eq_some_iff.1 hx).1)))) | (apply aH) | ((apply aC); exact zop; first | (exact rfl; exact rfl) | exact rfl) | (apply aQ) | (apply aB) | (apply aN) | (apply aV) | (apply aG; first | refine aS rfl ob ?_ | refine aZ rfl ob ?_))
  · rw [hf, hlen]
    refine aM Tryz.func230 rfl (.tmp rfl .nil) ⟨rfl, St.turned (M := []) hs⟩
  have hf1 : (rs.take (k + 1)).filter jL = rs.take k := by rw [fK hx, if_neg hr, hf, List.append_nil]
  have hs0 : St w (Star [Row a n c 139 3 (encL bS rs)]).foot _ [Row a n c 139 3 (encL bS rs)] := hs
  refine bT (α := Nat × Nat × List REnt) [(0, _), (1, _)] (fun g => [(5, .int .i64 g.1), (6, .int .i64 g.2.1)]) (fun g w' => St w (Star [Row a n c 139 3 (encL bS rs)]).foot w' [Row a n c 139 3 (encL bS g.2.2)] ∧ (g.1 < g.2.1 ∧ g.2.1 ≤ n) ∧ g.2.2.length = n ∧ g.2.2.take g.1 = (rs.take g.2.1).filter jL ∧ g.2.2.drop g.2.1 = rs.drop g.2.1) (fun g => n - g.2.1) (k, k + 1, rs) ⟨hs0, ⟨by dsimp only; omega, by dsimp only; omega⟩, hlen, hf1.symm, rfl⟩ zss ?_
  rintro ⟨i, j, cur⟩ w2 ⟨hs1, ⟨hij, hj⟩, hcl, ht, hd⟩ ih
  dsimp only at hs1 hij hj hcl ht hd ih ⊢
  obtain ⟨b, o, rfl⟩ := (hs1.row a n c).some (by omega)
  have hs : St w (Star [Row (some ⟨b, o, none⟩) n c 139 3 (encL bS rs)]).foot w2 [Row (some ⟨b, o, none⟩) n c 139 3 (encL bS cur)] := hs1
  by_cases hlt : j < n
  · have hx2 : rs[j]? = some rs[j] := List.getElem?_eq_getElem (by omega)
    obtain ⟨r2, hrd⟩ : ∃ r, r = rs[j] := ⟨_, rfl⟩
    rw [← hrd] at hx2
    have hc2 : cur[j]? = some r2 := by
      have : (cur.drop j)[0]? = (rs.drop j)[0]? := by rw [hd]
      rw [List.getElem?_drop, List.getElem?_drop, Nat.add_zero] at this
      rw [this]; exact hx2
    have hld : ∀ (q : Nat) (u : Value), (bS r2)[q]? = some u → (encL bS cur)[j * 3 + q]? = some u := fun q u hq => by
      have hq3 : q < 3 := (List.getElem?_eq_some_iff.1 hq).1
      rw [show (encL bS cur)[j * 3 + q]? = (bS r2)[q]? from dK (d := eV) cur j q r2 hc2 hq3]; exact hq
    have hdj : cur.drop (j + 1) = rs.drop (j + 1) := by
      have : (cur.drop j).drop 1 = (rs.drop j).drop 1 := by rw [hd]
      rwa [List.drop_drop, List.drop_drop] at this
    by_cases hr2 : r2.1 = 1
    · have hft := fK hx2
      rw [if_pos hr2, ← ht] at hft
      have hset : encL bS (cur.set i r2) = bR (encL bS cur) (i * 3) (bS r2) := iS (d := eV) cur i r2 (by omega)
      repeat' (first | ((apply aF (t := 28); refine JL_o (bX rfl rfl (Ret.value (cap := #[]) en231 (rM _ r2))) rfl rfl ?_; rintro _ _ ⟨rfl, hE⟩; have hs := hs.ext hE; rw [decide_eq_false (not_not_intro hr2)])) | ((apply aU; refine JL_u (by apply aP; exact cD (b := b) (o := o) (off := i * 3) (n := n) (c := c) (vs := bS r2) hs rfl rfl rfl rfl (fun u hu => by simp only [List.mem_cons, List.not_mem_nil, or_false] at hu; rcases hu with rfl | rfl | rfl <;> rfl) (by show i * 3 + 3 ≤ n * 3; omega)) rfl ?_; rintro _ _ ⟨hs, hF⟩; rw [← hset] at hs)) | (apply aH) | ((apply aC); (first | (apply aT; exact iH (off := j * 3) (n := n) (c := c) hs rfl rfl hld aI) | exact zop); first | (exact rfl; exact rfl) | exact rfl) | (apply aQ) | (apply aB) | (apply aN) | (apply aW) | (apply aV) | (apply aF (t := 7); refine JL_o (by apply aR; exact aJ hs) rfl rfl ?_; rintro _ _ ⟨b7, rfl, hb7, hs, hE⟩) | (apply aU; refine JL_u (by apply aP; exact aK hs rfl rfl rfl) rfl ?_; rintro _ _ ⟨hs, hF⟩) | (apply aG; first | refine aS rfl ob ?_ | refine bB rfl gb ?_))
      refine ih (i + 1, j + 1, cur.set i r2) _ _ ⟨hs.sel [1] (by decide), ⟨by dsimp only; omega, by dsimp only; omega⟩, by dsimp only; rw [List.length_set]; exact hcl, ?_, ?_⟩ (by dsimp only; omega) zss
      · dsimp only
        rw [hft, List.take_add_one, List.getElem?_set_self (by omega), List.take_set_of_le (Nat.le_refl _)]; rfl
      · dsimp only
        rw [List.drop_set_of_lt (by omega)]; exact hdj
    · have hft := fK hx2
      rw [if_neg hr2, ← ht, List.append_nil] at hft
      repeat' (first | ((apply aF (t := 28); refine JL_o (bX rfl rfl (Ret.value (cap := #[]) en231 (rM _ r2))) rfl rfl ?_; rintro _ _ ⟨rfl, hE⟩; have hs := hs.ext hE; rw [decide_eq_true hr2])) | (apply aH) | ((apply aC); (first | (apply aT; exact iH (off := j * 3) (n := n) (c := c) hs rfl rfl hld aI) | exact zop); first | (exact rfl; exact rfl) | exact rfl) | (apply aQ) | (apply aB) | (apply aN) | (apply aW) | (apply aV) | (apply aF (t := 7); refine JL_o (by apply aR; exact aJ hs) rfl rfl ?_; rintro _ _ ⟨b7, rfl, hb7, hs, hE⟩) | (apply aU; refine JL_u (by apply aP; exact aK hs rfl rfl rfl) rfl ?_; rintro _ _ ⟨hs, hF⟩) | (apply aG; first | refine aS rfl ob ?_ | refine bD rfl gb ?_))
      refine ih (i, j + 1, cur) _ _ ⟨hs.sel [1] (by decide), ⟨by dsimp only; omega, by dsimp only; omega⟩, hcl, hft.symm, hdj⟩ (by dsimp only; omega) zss
  · have hjn : j = n := by omega
    subst hjn
    have htk : rs.take j = rs := List.take_of_length_le (by omega)
    rw [htk] at ht
    have hfl : (rs.filter jL).length = i := by rw [← ht, List.length_take]; omega
    have hcell : ∀ zs, (bR (encL bS cur) (i * 3) zs).take (i * 3) = encL bS (rs.filter jL) := fun zs => by
      have := eK (d := eV) cur
      rw [gX _ _ _ (by rw [this]; show i * 3 ≤ cur.length * 3; omega), ← ht]; exact (iE (d := eV) cur i).symm
    rw [hfl]
    repeat' (first | ((apply aF (t := 38); refine aC (v := .slice (some ⟨b, o + i * 3, none⟩) (j - i) (c - i)) (by apply dA; exact dO (kl := .i64) (kh := .i64) (km := .i64) (a' := some ⟨b, o + i * 3, none⟩) (l := (i : Nat)) (m := c) (h := (j : Nat)) rfl (.inr ⟨_, rfl, rfl⟩) (.inl ⟨rfl, rfl, rfl⟩) (.inl ⟨rfl, rfl⟩) (by omega) (by omega) (by omega) (by omega) (by rw [if_neg (by omega)]; simp [Addr.add]) (by rw [show ((j : Int) - (i : Int)).toNat = j - i by omega, show ((c : Int) - (i : Int)).toNat = c - i by omega]; exact aI)) rfl rfl ?_)) | ((apply aU; refine JL_u (by apply jH; exact lA (a := some ⟨b, o, none⟩) (off := i) (n := j) (c := c) (sz := 3) hs rfl rfl (by decide) (fun _ => by simp [Addr.add]) (by omega)) rfl ?_; rintro _ _ ⟨rfl, ⟨zs, hzl, hs⟩, hF⟩)) | ((apply aF (t := 41); refine aC (v := .slice (some ⟨b, o, none⟩) i c) (by apply dA; exact dO (kl := .i64) (kh := .i64) (km := .i64) (a' := some ⟨b, o, none⟩) (m := c) (h := (i : Nat)) rfl (.inl ⟨rfl, rfl⟩) (.inr ⟨_, rfl, rfl⟩) (.inl ⟨rfl, rfl⟩) (by omega) (by omega) (by omega) (by omega) (by split; rfl; exact zB _) (by rw [Int.sub_zero, Int.sub_zero, Int.toNat_natCast, Int.toNat_natCast]; exact aI)) rfl rfl ?_)) | (apply aH) | ((apply aC); exact zop; first | (exact rfl; exact rfl) | exact rfl) | (apply aQ) | (apply aB) | (apply bG; refine bP rfl ?_) | (apply aG; refine aZ rfl ob ?_))
    have hs := hs.cutRow i c (by omega) (by omega) (Nat.le_refl _)
    rw [hcell] at hs
    refine aM Tryz.func230 rfl (.tmp rfl .nil) ⟨rfl, St.turned (M := []) hs⟩
end Go.Eng
end
section
namespace Go.Eng
open Go.Proofs
set_option linter.unusedSimpArgs false
set_option linter.unusedVariables false
abbrev mX (xs : List Int) : List Value := xs.map (.int .u64)
theorem wZ (xs : List Int) : encL (fun x => [Value.int .u64 x]) xs = mX xs := by
  unfold encL; induction xs with
  | nil => rfl
  | cons x xs ih => rw [List.flatMap_cons, ih]; rfl
def OwnV (w : World) (rs : List REnt) (es : List Ent) : Prop :=
  rs.length = es.length ∧ ∀ (i : Nat) (r : REnt) (x : Ent), rs[i]? = some r → es[i]? = some x →
    (r.1 = x.1 ∧ r.2.2 = x.2.2 ∧ r.2.1.2.1 = x.2.1.length ∧ inK .i64 x.1 ∧ inK .i64 x.2.2) ∧ RowV w r.2.1.1 x.2.1.length r.2.1.2.2 29 1 (mX x.2.1) ∧ ∀ v ∈ x.2.1, inK .u64 v
def ownF (rs : List REnt) : Nat → Prop := fun k => ∃ r ∈ rs, dH r.2.1.1 k
def Own (rs : List REnt) (es : List Ent) : HP := ⟨ownF rs, fun w => OwnV w rs es, fun _ _ h hw => ⟨hw.1, fun i r x hr hx => by
  obtain ⟨h1, h2, h3⟩ := hw.2 i r x hr hx
  exact ⟨h1, h2.loc (fun k hk => h k ⟨r, List.mem_of_getElem? hr, hk⟩), h3⟩⟩⟩
theorem St.nilOwn {w0 w : World} {F : Nat → Prop} {L : List HP} (h : St w0 F w L) : St w0 F w (Own [] [] :: L) :=
  ⟨h.frm, fun d hd => by
      rcases List.mem_cons.1 hd with rfl | hd
      · exact ⟨rfl, fun i r x hr => by simp at hr⟩
      · exact h.all d hd,
    fun d hd k hk => by
      rcases List.mem_cons.1 hd with rfl | hd
      · obtain ⟨r, hr, _⟩ := hk; cases hr
      · exact h.foot d hd k hk,
    List.pairwise_cons.2 ⟨fun d _ k hk => (by obtain ⟨r, hr, _⟩ := hk; cases hr), h.sep⟩⟩
theorem St.pushOwn {w0 w : World} {F : Nat → Prop} {L : List HP} {rs : List REnt} {es : List Ent} {a : Option Addr} {n c : Nat} {t : List Int} (h : St w0 F w (Row a n c 29 1 (mX t) :: Own rs es :: L)) (hn : n = t.length) (s v : Int) (hs : inK .i64 s) (hv : inK .i64 v) (ht : ∀ u ∈ t, inK .u64 u) :
    St w0 F w (Own (rs ++ [(s, (a, n, c), v)]) (es ++ [(s, t, v)]) :: L) := by
  refine h.conv2 (fun k hk => ?_) (fun h1 h2 => ?_)
  · obtain ⟨r, hr, hk⟩ := hk
    rcases List.mem_append.1 hr with hr | hr
    · exact .inr ⟨r, hr, hk⟩
    · rw [List.mem_singleton.1 hr] at hk; exact .inl hk
  · have h1 : RowV w a n c 29 1 (mX t) := h1
    have h2 : OwnV w rs es := h2
    subst hn
    refine ⟨by simp [h2.1], fun i r x hr hx => ?_⟩
    by_cases hi : i < rs.length
    · rw [List.getElem?_append_left hi] at hr
      rw [List.getElem?_append_left (by rw [← h2.1]; exact hi)] at hx
      exact h2.2 i r x hr hx
    · rw [List.getElem?_append_right (by omega)] at hr
      rw [List.getElem?_append_right (by have := h2.1; omega), ← h2.1] at hx
      cases hq : i - rs.length with
      | zero => rw [hq] at hr hx; cases hr; cases hx; exact ⟨⟨rfl, rfl, rfl, hs, hv⟩, h1, ht⟩
      | succ j => rw [hq] at hr; simp at hr
theorem OwnV.mean {w : World} {rs : List REnt} {es : List Ent} (h : OwnV w rs es) : MeanV mEnt (ownF rs) w rs es := ⟨h.1, fun i r x hr hx => by
  obtain ⟨⟨h1, h2, h3, _, _⟩, h4, h5⟩ := h.2 i r x hr hx
  refine ⟨h1, ?_, h2⟩
  show Sl (tInt .u64) _ w r.2.1.1 r.2.1.2.1 r.2.1.2.2 x.2.1
  rw [h3]
  exact (RowV.sl h4 h5).weak (fun k hk => ⟨r, List.mem_of_getElem? hr, hk⟩)⟩
theorem OwnV.ok {w : World} {rs : List REnt} {es : List Ent} (h : OwnV w rs es) : ∀ r ∈ rs, okE r := fun r hr => by
  obtain ⟨i, hi⟩ := List.mem_iff_getElem?.1 hr
  have hl := h.1
  have hlt := (List.getElem?_eq_some_iff.1 hi).1
  obtain ⟨⟨h1, h2, h3, h4, h5⟩, _⟩ := h.2 i r _ hi (List.getElem?_eq_getElem (by omega))
  exact ⟨by rw [h1]; exact h4, trivial, by rw [h2]; exact h5⟩
theorem OwnV.sl {w : World} {a : Option Addr} {n c : Nat} {rs : List REnt} {es : List Ent} (hr : RowV w a n c 139 3 (encL bS rs)) (ho : OwnV w rs es) : Sl dEnt (fun k => dH a k ∨ ownF rs k) w a n c es :=
  Sl.unraw (D := fB) ((RowV.slF (d := eV) hr (by decide) ho.ok).weak (fun k hk => .inl hk)) (ho.mean.weak (fun k hk => .inr hk))
theorem pP (rs : List REnt) (k : Nat) (r : REnt) (q : RS) (hr : rs[k]? = some r) : bR (encL bS rs) (k * 3 + 1) [.slice q.1 q.2.1 q.2.2] = encL bS (rs.set k (r.1, q, r.2.2)) := by
  have hk := (List.getElem?_eq_some_iff.1 hr).1
  have hle := eK (d := eV) rs
  have h1 : encL bS (rs.set k (r.1, q, r.2.2)) = bR (encL bS rs) (k * 3) (bS (r.1, q, r.2.2)) := iS (d := eV) rs k _ hk
  rw [h1]
  have hg : ∀ j, j < 3 → (encL bS rs)[k * 3 + j]? = (bS r)[j]? := fun j hj => dK (d := eV) rs k j r hr hj
  have hle : (encL bS rs).length = rs.length * 3 := hle
  apply List.ext_getElem?
  intro i
  unfold bR
  have e1 : ((encL bS rs).take (k * 3 + 1)).length = k * 3 + 1 := by rw [List.length_take]; omega
  have e2 : ((encL bS rs).take (k * 3)).length = k * 3 := by rw [List.length_take]; omega
  simp only [List.length_cons, List.length_nil]
  by_cases c1 : i < k * 3
  · rw [List.append_assoc, List.append_assoc, List.getElem?_append_left (by omega), List.getElem?_append_left (by omega), List.getElem?_take, List.getElem?_take, if_pos (by omega), if_pos (by omega)]
  · by_cases c2 : i < k * 3 + 3
    · obtain ⟨j, rfl⟩ : ∃ j, i = k * 3 + j := ⟨i - k * 3, by omega⟩
      have hj : j = 0 ∨ j = 1 ∨ j = 2 := by omega
      rw [List.append_assoc, List.append_assoc]
      rw [List.getElem?_append_right (l₁ := (encL bS rs).take (k * 3)) (by omega), e2, Nat.add_sub_cancel_left]
      rcases hj with rfl | rfl | rfl
      · rw [List.getElem?_append_left (by omega), List.getElem?_take, if_pos (by omega), hg 0 (by omega)]; rfl
      · rw [List.getElem?_append_right (by omega), e1, Nat.sub_self]; rfl
      · rw [List.getElem?_append_right (by omega), e1, show k * 3 + 2 - (k * 3 + 1) = 1 by omega]
        rw [List.getElem?_append_right (by simp), List.getElem?_drop]
        rw [show k * 3 + 1 + (0 + 1) + (1 - [Value.slice q.1 q.2.1 q.2.2].length) = k * 3 + 2 by simp, hg 2 (by omega)]; rfl
    · rw [List.getElem?_append_right (by simp; omega), List.getElem?_append_right (by simp; omega), List.getElem?_drop, List.getElem?_drop]
      congr 1
      simp; omega
theorem mC {R : Nat → Prop} {w : World} {a : Option Addr} {n c : Nat} {es : List Ent} (h : Sl dEnt R w a n c es) : ∀ x ∈ es, inK .i64 x.1 ∧ inK .i64 x.2.2 ∧ ∀ v ∈ x.2.1, inK .u64 v := fun x hx => by
  obtain ⟨rs, hr, hm⟩ := Sl.raw (D := fB) h
  obtain ⟨i, hi⟩ := List.mem_iff_getElem?.1 hx
  obtain ⟨r, hr1, e1, e2, e3⟩ := hm.get hi
  obtain ⟨_, _, hok⟩ := hr.srcF
  obtain ⟨o1, _, o3⟩ := hok r (List.mem_of_getElem? hr1)
  obtain ⟨_, _, hov⟩ := Sl.srcF (d := tInt .u64) e2
  have e1 : r.1 = x.1 := e1
  have e3 : r.2.2 = x.2.2 := e3
  rw [e1] at o1; rw [e3] at o3
  exact ⟨o1, o3, hov⟩
theorem mean_ok {R : Nat → Prop} {w : World} {rs : List REnt} {es : List Ent} (hm : MeanV mEnt R w rs es) (h : ∀ x ∈ es, inK .i64 x.1 ∧ inK .i64 x.2.2 ∧ ∀ v ∈ x.2.1, inK .u64 v) : ∀ r ∈ rs, okE r := fun r hr => by
  obtain ⟨i, hi⟩ := List.mem_iff_getElem?.1 hr
  have hl := hm.1
  have hlt := (List.getElem?_eq_some_iff.1 hi).1
  have hx : es[i]? = some (es[i]'(by omega)) := List.getElem?_eq_getElem (by omega)
  obtain ⟨e1, _, e3⟩ := hm.2 i r _ hi hx
  have e1 : r.1 = _ := e1
  have e3 : r.2.2 = _ := e3
  have := h _ (List.mem_of_getElem? hx)
  exact ⟨by rw [e1]; exact this.1, trivial, by rw [e3]; exact this.2.1⟩
abbrev dI (x : Ent) : Bool := decide (x.1 = 1)
theorem MeanV.tail {ρ α : Type} {m : Rel ρ α} {R : Nat → Prop} {w : World} {r : ρ} {x : α} {rs : List ρ} {xs : List α} (h : MeanV m R w (r :: rs) (x :: xs)) : MeanV m R w rs xs ∧ m.rel R w r x :=
  ⟨⟨by have := h.1; simpa using this, fun i r' x' hr hx => h.2 (i + 1) r' x' hr hx⟩, h.2 0 r x rfl rfl⟩
theorem MeanV.cons {ρ α : Type} {m : Rel ρ α} {R : Nat → Prop} {w : World} {r : ρ} {x : α} {rs : List ρ} {xs : List α} (h : MeanV m R w rs xs) (hx : m.rel R w r x) : MeanV m R w (r :: rs) (x :: xs) := MeanV.app (MeanV.one hx) h
theorem pD {R : Nat → Prop} {w : World} : ∀ {rs : List REnt} {es : List Ent}, MeanV mEnt R w rs es → MeanV mEnt R w (rs.filter jL) (es.filter dI)
  | [], [], h => h
  | [], x :: es, h => by have := h.1; simp at this
  | r :: rs, [], h => by have := h.1; simp at this
  | r :: rs, x :: es, h => by
    obtain ⟨h1, h2⟩ := h.tail
    have ih := pD h1
    have e : r.1 = x.1 := h2.1
    by_cases c : r.1 = 1
    · rw [List.filter_cons_of_pos (by simp [jL, c]), List.filter_cons_of_pos (by simp [dI, ← e, c])]
      exact ih.cons h2
    · rw [List.filter_cons_of_neg (by simp [jL, c]), List.filter_cons_of_neg (by simp [dI, ← e, c])]
      exact ih
theorem oU {α : Type} (rs1 rs : List α) (k : Nat) (q : α) (h : rs1.length = k) (hk : k < rs.length) : (rs1 ++ rs.drop k).set k q = (rs1 ++ [q]) ++ rs.drop (k + 1) := by
  rw [List.set_append_right _ _ (by omega), h, Nat.sub_self, List.append_assoc]
  congr 1
  rw [List.drop_eq_getElem_cons hk, List.set_cons_zero]; rfl
attribute [local irreducible] Hold J JL JD JX JXat OpR OpG Ret RetV Is Blk Row
set_option maxRecDepth 100000
set_option maxHeartbeats 1000000
theorem lJ (w : World) (a : Option Addr) (n c : Nat) (xs : List Int) (h : Sl (tInt .u64) All w a n c xs) (hn : n ≤ 4000000000) :
    Ret Tryz.prog 24 #[.slice a n c] w fun v w' => ∃ a' c', v = .slice a' n c' ∧ Fresh w w' [Row a' n c' 29 1 (mX xs)] := by
  obtain ⟨h1, h2, _⟩ := h.srcF
  rw [wZ] at h1
  exact aBw w a n c _ h1 h2 hn
theorem qI (w : World) (a : Option Addr) (n c : Nat) (es : List Ent) (h : Sl dEnt All w a n c es) (hn : n ≤ 1048576) (ht : ∀ x ∈ es, x.2.1.length ≤ 4000000000) :
    Ret Tryz.prog 187 #[.agg #[.slice a n c]] w fun v w' => ∃ es' rs', es'.Perm (es.filter (fun x => decide (x.1 = 1))) ∧ es'.Pairwise (fun x y => 0 ≤ cmpL y.2.1 x.2.1) ∧ ∃ a' c', v = .slice a' es'.length c' ∧ Fresh w w' [Row a' es'.length c' 139 3 (encL bS rs'), Own rs' es'] := by
  refine bI (l := [_]) Tryz.func187 rfl Tryz.ntmps187 (by simp) ?_
  have hs := St.init w
  obtain ⟨rs, hr, hm⟩ := Sl.raw (D := fB) h
  have hok := mC h
  have hle := h.len
  repeat' (first | ((apply aL 228; refine JL_o (by exact aA en228 rfl (sorted_r _ a n c rs es (hr.st hs) (hm.st hs) hn)) rfl rfl ?_; rintro _ _ ⟨zs, hz, hpw, a1, c1, rfl, hf⟩; have hs := hs.fresh hf; obtain ⟨rs1, hrs1⟩ : ∃ rs1, rs1 = zs.map Prod.fst := ⟨_, rfl⟩; obtain ⟨es1, hes1⟩ : ∃ es1, es1 = zs.map Prod.snd := ⟨_, rfl⟩; have hp := perm_snd hz hm.1; have hm1 := hm.of_perm hz; rw [← hes1] at hp hpw hm1; rw [← hrs1] at hs hm1; have hok1 : ∀ x ∈ es1, inK .i64 x.1 ∧ inK .i64 x.2.2 ∧ ∀ v ∈ x.2.1, inK .u64 v := fun x hx => hok x (hp.mem_iff.1 hx); (try simp only [zcc] at hs))) | ((apply aF (t := 9); refine JL_o (aA en230 rfl (delF_r _ a1 n c1 rs1 (St.held (A := [_]) hs) (mean_ok hm1 hok1) hn)) rfl rfl ?_; rintro _ _ ⟨rfl, ht1⟩; have hs := St.take (A := [_]) (A' := [_]) hs ht1)) | (apply aH) | ((apply aC); exact zop; first | (exact rfl; exact rfl) | exact rfl) | (apply aQ) | (apply aB) | (apply aN) | (apply aF (t := 1); refine JL_o (by apply bN; exact bC hs rfl) rfl rfl ?_; rintro _ _ ⟨b1, rfl, hb1, hs, hE⟩))
  have hm2 := pD hm1
  obtain ⟨rs2, hrs2⟩ : ∃ rs2, rs2 = rs1.filter jL := ⟨_, rfl⟩
  obtain ⟨es2, hes2⟩ : ∃ es2, es2 = es1.filter dI := ⟨_, rfl⟩
  rw [← hrs2] at hs hm2
  rw [← hes2] at hm2
  have hl2 := hm2.1
  have hok2 : ∀ x ∈ es2, (inK .i64 x.1 ∧ inK .i64 x.2.2 ∧ ∀ v ∈ x.2.1, inK .u64 v) ∧ x.2.1.length ≤ 4000000000 := fun x hx => by
    have : x ∈ es1 := by rw [hes2] at hx; exact (List.mem_filter.1 hx).1
    exact ⟨hok1 x this, ht x (hp.mem_iff.1 this)⟩
  have hle2 : es2.length ≤ n := by
    rw [hes2]
    refine Nat.le_trans (List.length_filter_le _ _) ?_
    rw [hp.length_eq, hle]
    exact Nat.le_refl _
  have hP2 : es2.Perm (es.filter (fun x => decide (x.1 = 1))) := by rw [hes2]; exact hp.filter _
  have hpw2 : es2.Pairwise (fun x y => 0 ≤ cmpL y.2.1 x.2.1) := by rw [hes2]; exact hpw.sublist List.filter_sublist
  rw [← hrs2] 
  have hs := hs.nilOwn
  refine bT (α := Nat × List REnt) [(3, _), (11, _)] (fun g => [(12, .int .i64 g.1)]) (fun g w' => St w NoF w' [Row a1 rs2.length c1 139 3 (encL bS (g.2 ++ rs2.drop g.1)), Own g.2 (es2.take g.1)] ∧ g.2.length = g.1 ∧ g.1 ≤ rs2.length) (fun g => rs2.length - g.1) (0, []) ⟨hs.sel [1, 0] (by decide), rfl, Nat.zero_le _⟩ zss ?_
  rintro ⟨k, rs3⟩ w2 ⟨hs1, hk3, hk⟩ ih
  dsimp only at hs1 hk3 hk ih ⊢
  by_cases hlt : k < rs2.length
  · obtain ⟨b, o, rfl⟩ := (hs1.row a1 rs2.length c1).some (by omega)
    have hs : St w NoF w2 [Row (some ⟨b, o, none⟩) rs2.length c1 139 3 (encL bS (rs3 ++ rs2.drop k)), Own rs3 (es2.take k)] := hs1
    have hx : es2[k]? = some (es2[k]'(by omega)) := List.getElem?_eq_getElem (by omega)
    obtain ⟨x, hxd⟩ : ∃ x, x = es2[k]'(by omega) := ⟨_, rfl⟩
    rw [← hxd] at hx
    obtain ⟨r, hrx, hrel⟩ := hm2.get hx
    obtain ⟨⟨ok1, ok2, ok3⟩, ok4⟩ := hok2 x (List.mem_of_getElem? hx)
    have e1 : r.1 = x.1 := hrel.1
    have e3 : r.2.2 = x.2.2 := hrel.2.2
    have m2 : Sl (tInt .u64) All w r.2.1.1 r.2.1.2.1 r.2.1.2.2 x.2.1 := hrel.2.1
    have mlen := m2.len
    have hcur : (rs3 ++ rs2.drop k)[k]? = some r := by rw [List.getElem?_append_right (by omega), hk3, Nat.sub_self, List.getElem?_drop, Nat.add_zero]; exact hrx
    have hld : (encL bS (rs3 ++ rs2.drop k))[k * 3 + 1]? = some (.slice r.2.1.1 r.2.1.2.1 r.2.1.2.2) := dK (d := eV) (rs3 ++ rs2.drop k) k 1 r hcur (by decide)
    have htk : es2.take (k + 1) = es2.take k ++ [x] := by rw [List.take_add_one, hx]; rfl
    repeat' (first | ((apply aL 24; refine JL_o (by exact aA en24 rfl (lJ _ r.2.1.1 r.2.1.2.1 r.2.1.2.2 x.2.1 (m2.st hs) (by omega))) rfl rfl ?_; rintro _ _ ⟨a3, c3, rfl, hf3⟩; have hs := hs.fresh hf3; have hset := (pP (rs3 ++ rs2.drop k) k r (a3, r.2.1.2.1, c3) hcur).trans (congrArg (encL bS) (oU rs3 rs2 k (r.1, (a3, r.2.1.2.1, c3), r.2.2) hk3 hlt)); (try simp only [zcc] at hs))) | ((apply aU; refine JL_u (by apply aP; exact cD (b := b) (o := o) (off := k * 3 + 1) (n := rs2.length) (c := c1) (vs := [.slice a3 r.2.1.2.1 c3]) hs rfl rfl rfl rfl (by simp [Value.oneCell']) (by show k * 3 + 1 + 1 ≤ rs2.length * 3; omega)) rfl ?_; rintro _ _ ⟨hs, hF⟩; rw [hset] at hs)) | (apply aH) | ((apply aC); (first | (apply aT; first | exact dG (b := b) (o := o) (off := k * 3 + 1) (n := rs2.length) (c := c1) hs rfl hld aI) | exact zop); first | (exact rfl; exact rfl) | exact rfl) | (apply aQ) | (apply aB) | (apply aN) | (apply aW) | (apply aV) | (apply aG; refine aS rfl ob ?_))
    have hs : St w NoF _ [_, _, _] := hs.sel [0, 2, 1] (by decide)
    have hs := St.pushOwn hs mlen.symm r.1 r.2.2 (by rw [e1]; exact ok1) (by rw [e3]; exact ok2) ok3
    have hx3 : (r.1, x.2.1, r.2.2) = x := by rw [e1, e3]
    rw [hx3, ← htk] at hs
    refine ih (k + 1, rs3 ++ [(r.1, (a3, r.2.1.2.1, c3), r.2.2)]) _ _ ⟨hs.sel [1, 0] (by decide), by simp [hk3], by dsimp only; omega⟩ (by dsimp only; omega) zss
  · have hkn : k = rs2.length := by omega
    subst hkn
    rw [List.drop_length, List.append_nil, List.take_of_length_le (by omega)] at hs1
    have hs : St w NoF w2 [_, _] := hs1
    rw [hl2] at hs ⊢
    repeat' (first | (apply aH) | ((apply aC); exact zop; first | (exact rfl; exact rfl) | exact rfl) | (apply aQ) | (apply aB) | (apply bG; refine bP rfl ?_) | (apply aG; refine aZ rfl ob ?_))
    refine aM Tryz.func187 rfl (.tmp rfl .nil) ⟨es2, rs3, hP2, hpw2, _, _, rfl, hs.out (List.Sublist.refl _)⟩
end Go.Eng
end
section
namespace Go.Eng
set_option linter.unusedSimpArgs false
set_option linter.unusedVariables false
theorem kI (es : List Ent) (t : List Int) (h : Int) : ∀ (f i : Nat), (0 < f → 0 < es.length) → eZ es t h f i = -1 ∨ ∃ q, q < es.length ∧ eZ es t h f i = (q : Int) ∧ (es.getD q e0).1 = 1 ∧ (es.getD q e0).2.1 = t
  | 0, i, _ => .inl rfl
  | f + 1, i, hl => by
    rw [eZ]
    split
    · exact .inl rfl
    · split
      · rename_i h1
        exact .inr ⟨_, jB _ _ (hl (by omega)), rfl, h1.1, h1.2⟩
      · exact kI es t h f (i + 1) (fun _ => hl (by omega))
theorem gE (es : List Ent) (t : List Int) : eU es t = -1 ∨ ∃ (q : Nat) (x : Ent), es[q]? = some x ∧ eU es t = (q : Int) ∧ x.1 = 1 ∧ x.2.1 = t := by
  rcases kI es t (ofM t) es.length 0 (fun h => h) with h | ⟨q, hq, h1, h2, h3⟩
  · exact .inl h
  · have hx : es[q]? = some es[q] := List.getElem?_eq_getElem hq
    rw [cW hx] at h2 h3
    exact .inr ⟨q, _, hx, h1, h2, h3⟩
theorem pB (es : List Ent) (k : Nat) : okK es k = true ↔ ∀ i, i < k → jV es i = true := by
  unfold okK; rw [List.all_eq_true]; simp
theorem gV {es : List Ent} (h : cH es = true) {i : Nat} {x : Ent} (hx : es[i]? = some x) : (x.1 = 1 → dF x.2.1 = true ∧ 0 ≤ x.2.2 ∧ eU es x.2.1 = i) ∧ (x.1 ≠ 1 → x.2.1 = [] ∧ x.2.2 = 0) ∧ 0 ≤ x.1 ∧ x.1 ≤ 2 := by
  unfold cH at h
  rw [Bool.and_eq_true] at h
  have hs := (pB _ _).1 h.2 i (List.getElem?_eq_some_iff.1 hx).1
  have hst : stOk es = true := by have := h.1; unfold pU at this; rw [Bool.and_eq_true] at this; exact this.1
  unfold stOk at hst
  have hb := of_decide_eq_true (List.all_eq_true.1 hst x (List.mem_of_getElem? hx))
  unfold jV at hs
  rw [cW hx] at hs
  refine ⟨fun h1 => ?_, fun h1 => ?_, hb.1, hb.2⟩
  · rw [if_pos h1] at hs
    simp only [Bool.and_eq_true, decide_eq_true_eq] at hs
    exact hs
  · rw [if_neg h1] at hs
    simp only [Bool.and_eq_true, decide_eq_true_eq] at hs
    exact ⟨List.eq_nil_of_length_eq_zero hs.1, hs.2⟩
theorem uT {es : List Ent} (h : cH es = true) {x : Ent} (hx : x ∈ es) : (x.1 = 1 → dF x.2.1 = true ∧ 0 ≤ x.2.2) ∧ (x.1 ≠ 1 → x.2.1 = [] ∧ x.2.2 = 0) ∧ 0 ≤ x.1 ∧ x.1 ≤ 2 := by
  obtain ⟨i, hi⟩ := List.mem_iff_getElem?.1 hx
  obtain ⟨h1, h2, h3⟩ := gV h hi
  exact ⟨fun e => ⟨(h1 e).1, (h1 e).2.1⟩, h2, h3⟩
theorem mS {es : List Ent} (h : cH es = true) {x : Ent} (hx : x ∈ es) : x.2.1.length ≤ 12 := by
  obtain ⟨h1, h2, _⟩ := uT h hx
  by_cases c : x.1 = 1
  · exact (typeB_true.1 (h1 c).1).1
  · rw [(h2 c).1]; simp
def dN (es : List Ent) : Prop := es.Pairwise (fun x y => x.2.1 ≠ y.2.1)
theorem dR {es : List Ent} (h : cH es = true) : dN (es.filter dI) := by
  have h1 : es.Pairwise (fun x y => x.1 = 1 → y.1 = 1 → x.2.1 ≠ y.2.1) := by
    rw [List.pairwise_iff_getElem]
    intro i j hi hj hij e1 e2 e3
    have hx := (gV h (List.getElem?_eq_getElem hi)).1 e1
    have hy := (gV h (List.getElem?_eq_getElem hj)).1 e2
    rw [e3] at hx
    have := hx.2.2.symm.trans hy.2.2
    omega
  have h2 := h1.filter dI
  refine List.Pairwise.imp_of_mem ?_ h2
  intro x y hx hy hxy
  exact hxy (of_decide_eq_true (List.mem_filter.1 hx).2) (of_decide_eq_true (List.mem_filter.1 hy).2)
abbrev iW (l : List Ent) : Prop := l.Pairwise (fun x y => 0 ≤ cmpL y.2.1 x.2.1)
theorem nV {l : List Ent} (h : dN l) {x y : Ent} (hx : x ∈ l) (hy : y ∈ l) (e : x.2.1 = y.2.1) : x = y := by
  obtain ⟨i, hi⟩ := List.mem_iff_getElem?.1 hx
  obtain ⟨j, hj⟩ := List.mem_iff_getElem?.1 hy
  obtain ⟨hi1, hi2⟩ := List.getElem?_eq_some_iff.1 hi
  obtain ⟨hj1, hj2⟩ := List.getElem?_eq_some_iff.1 hj
  unfold dN at h
  rw [List.pairwise_iff_getElem] at h
  have hc : i = j := by
    rcases Nat.lt_trichotomy i j with c | c | c
    · exact absurd (by rw [hi2, hj2]; exact e) (h i j hi1 hj1 c)
    · exact c
    · exact absurd (by rw [hi2, hj2]; exact e.symm) (h j i hj1 hi1 c)
  subst hc
  rw [hi] at hj; exact Option.some.inj hj
theorem nQ {l1 l2 : List Ent} (hp : l1.Perm l2) (hd : dN l1) (h1 : iW l1) (h2 : iW l2) : l1 = l2 := by
  refine List.Perm.eq_of_pairwise (le := fun x y : Ent => 0 ≤ cmpL y.2.1 x.2.1) (fun x y hx hy q1 q2 => ?_) h1 h2 hp
  have hs := fG x.2.1 y.2.1
  exact nV hd hx (hp.mem_iff.2 hy) (nK (by omega))
def jZ (l : List Ent) (e : Ent) : List Ent := l.takeWhile (fun x => decide (¬ cmpL e.2.1 x.2.1 < 0)) ++ e :: l.dropWhile (fun x => decide (¬ cmpL e.2.1 x.2.1 < 0))
theorem mV (l : List Ent) (e : Ent) : (jZ l e).Perm (e :: l) := by
  unfold jZ
  refine List.perm_middle.trans ?_
  rw [List.takeWhile_append_dropWhile]
theorem sQ {a b c : List Int} (h1 : 0 ≤ cmpL b a) (h2 : 0 ≤ cmpL c b) : 0 ≤ cmpL c a := by
  rcases Int.lt_or_le (cmpL c a) 0 with h | h
  · exfalso
    have hs1 := fG a b
    have hs2 := fG b c
    by_cases e : cmpL b a = 0
    · rw [nK e] at h2; omega
    · have := jG (xs := c) (ys := a) (zs := b) h (by omega)
      omega
  · exact h
theorem tI {l : List Ent} (h : iW l) (e : Ent) : iW (jZ l e) := by
  unfold jZ iW
  have hd : ∀ y ∈ l.dropWhile (fun x => decide (¬ cmpL e.2.1 x.2.1 < 0)), cmpL e.2.1 y.2.1 < 0 := by
    intro y hy
    cases hdw : l.dropWhile (fun x => decide (¬ cmpL e.2.1 x.2.1 < 0)) with
    | nil => rw [hdw] at hy; cases hy
    | cons z zs =>
      have hz : cmpL e.2.1 z.2.1 < 0 := by
        have := List.head?_dropWhile_not (fun x : Ent => decide (¬ cmpL e.2.1 x.2.1 < 0)) l
        rw [hdw] at this
        simpa using this
      have hsub : (z :: zs).Sublist l := by rw [← hdw]; exact List.dropWhile_sublist _
      have hpw := h.sublist hsub
      rw [hdw] at hy
      rcases List.mem_cons.1 hy with rfl | hy
      · exact hz
      · have := (List.pairwise_cons.1 hpw).1 y hy
        have hs := fG z.2.1 y.2.1
        by_cases c : cmpL y.2.1 z.2.1 = 0
        · rw [nK c]; exact hz
        · exact jG hz (by omega)
  have ht : ∀ y ∈ l.takeWhile (fun x => decide (¬ cmpL e.2.1 x.2.1 < 0)), 0 ≤ cmpL e.2.1 y.2.1 := by
    intro y hy
    have := List.all_takeWhile (p := fun x : Ent => decide (¬ cmpL e.2.1 x.2.1 < 0)) (l := l)
    have := List.all_eq_true.1 this y hy
    have := of_decide_eq_true this
    omega
  rw [List.pairwise_append]
  refine ⟨h.sublist (List.takeWhile_sublist _), ?_, ?_⟩
  · rw [List.pairwise_cons]
    refine ⟨fun y hy => ?_, h.sublist (List.dropWhile_sublist _)⟩
    have := hd y hy
    have hs := fG e.2.1 y.2.1
    omega
  · intro x hx y hy
    rcases List.mem_cons.1 hy with rfl | hy
    · exact ht x hx
    · have h1 := ht x hx
      have h2 := hd y hy
      have hs := fG e.2.1 y.2.1
      exact sQ h1 (by omega)
def allM (es : List Ent) : List Ent := (es.filter dI).foldl jZ []
theorem lI (xs : List Ent) : ∀ l, iW l → iW (xs.foldl jZ l) ∧ (xs.foldl jZ l).Perm (xs ++ l) := by
  induction xs with
  | nil => exact fun l h => ⟨h, List.Perm.refl _⟩
  | cons x xs ih =>
    intro l h
    obtain ⟨h1, h2⟩ := ih (jZ l x) (tI h x)
    refine ⟨h1, h2.trans ?_⟩
    refine ((mV l x).append_left xs).trans ?_
    exact List.perm_middle
theorem wA (es : List Ent) : iW (allM es) := (lI _ [] List.Pairwise.nil).1
theorem eF (es : List Ent) : (allM es).Perm (es.filter dI) := by
  have := (lI (es.filter dI) [] List.Pairwise.nil).2
  rwa [List.append_nil] at this
theorem kY {es es' : List Ent} (hd : dN (es.filter dI)) (hp : es'.Perm (es.filter dI)) (hs : iW es') : es' = allM es :=
  nQ (hp.trans (eF es).symm) ((hp.pairwise_iff (fun h => Ne.symm h)).2 hd) hs (wA es)
def kC (es : List Ent) (t : List Int) : Int × Bool := if cH es then (if eU es t < 0 then (0, false) else ((es.getD (eU es t).toNat e0).2.2, true)) else (0, false)
def allF (es : List Ent) : List Ent := if cH es then allM es else []
end Go.Eng
end
section
namespace Go.Eng
open Go.Proofs
set_option linter.unusedSimpArgs false
set_option linter.unusedVariables false
abbrev newR (n : Nat) : List REnt := List.replicate n r0
abbrev newE (n : Nat) : List Ent := List.replicate n e0
theorem zc_eq (n : Nat) : (madeCells (Value.agg #[.int .i64 0, .slice none 0 0, .int .i64 0]).cells (n * 3)).toList = encL bS (newR n) := by
  apply List.ext_getElem?
  intro i
  have hl : (encL bS (newR n)).length = n * 3 := by have := eK (d := eV) (newR n); rw [this, List.length_replicate]; rfl
  by_cases hi : i < n * 3
  · have hd : i / 3 < n := by omega
    have hx : (newR n)[i / 3]? = some r0 := by rw [List.getElem?_replicate, if_pos hd]
    have hg : (encL bS (newR n))[i / 3 * 3 + i % 3]? = (bS r0)[i % 3]? := dK (d := eV) (newR n) (i / 3) (i % 3) r0 hx (Nat.mod_lt _ (by decide))
    rw [show i / 3 * 3 + i % 3 = i by omega] at hg
    rw [hg]
    simp only [madeCells, Array.toList_map, Array.toList_range, List.getElem?_map, List.getElem?_range hi, Option.map_some]
    have h3 : i % 3 = 0 ∨ i % 3 = 1 ∨ i % 3 = 2 := by omega
    show some ((#[Value.int .i64 0, .slice none 0 0, .int .i64 0] : Array Value)[i % 3]!) = _
    rcases h3 with h | h | h <;> rw [h] <;> rfl
  · rw [List.getElem?_eq_none (by simp [madeCells]; omega), List.getElem?_eq_none (by omega)]
theorem newOwn (w : World) (n : Nat) : OwnV w (newR n) (newE n) := ⟨by simp, fun i r x hr hx => by
  rw [List.getElem?_replicate] at hr hx
  split at hr
  · rename_i h
    rw [if_pos h] at hx
    cases hr; cases hx
    exact ⟨⟨rfl, rfl, rfl, by unfold inK; decide, by unfold inK; decide⟩, lD w _ _, fun v hv => by cases hv⟩
  · cases hr⟩
theorem St.newOwn {w0 w : World} {F : Nat → Prop} {L : List HP} (h : St w0 F w L) (n : Nat) : St w0 F w (Own (newR n) (newE n) :: L) := by
  have hf : ∀ k, ¬ ownF (newR n) k := fun k ⟨r, hr, hk⟩ => by
    rw [List.eq_of_mem_replicate hr] at hk
    simp [dH] at hk
  exact ⟨h.frm, fun d hd => by
      rcases List.mem_cons.1 hd with rfl | hd
      · exact Go.Eng.newOwn w n
      · exact h.all d hd,
    fun d hd k hk => by
      rcases List.mem_cons.1 hd with rfl | hd
      · exact absurd hk (hf k)
      · exact h.foot d hd k hk,
    List.pairwise_cons.2 ⟨fun d _ k hk => absurd hk (hf k), h.sep⟩⟩
attribute [local irreducible] Hold J JL JD JX JXat OpR OpG Ret RetV Is Blk Row
set_option maxRecDepth 100000
set_option maxHeartbeats 1000000
theorem new_r (w : World) : Ret Tryz.prog 133 #[] w fun v w' => ∃ a, v = .agg #[.slice a 8 8] ∧ Fresh w w' [Row a 8 8 139 3 (encL bS (newR 8)), Own (newR 8) (newE 8)] := by
  refine bI (l := []) Tryz.func133 rfl Tryz.ntmps133 (by simp) ?_
  have hs := St.init w
  repeat' (first | ((apply aF (t := 1); refine JL_o (by apply eP; exact iU (n := 8) hs rfl rfl (by omega) (by omega)) rfl rfl ?_; rintro _ _ ⟨b1, rfl, hb1, hs, hE⟩; have hs := hs.toRow 0 8 8 3 (xs := encL bS (newR 8)) (Nat.le_refl _) (by unfold maxLen; omega) (by simp [madeCells]) (by rw [← zc_eq 8, List.drop_zero, List.take_of_length_le (by simp [madeCells])]))) | (apply aH) | ((apply aC); exact zop; first | (exact rfl; exact rfl) | exact rfl) | (apply aQ) | (apply aB) | (apply aF (t := 0); refine JL_o (by apply aR; exact aJ hs) rfl rfl ?_; rintro _ _ ⟨b0, rfl, hb0, hs, hE⟩) | (apply aU; refine JL_u (by apply aP; exact aK hs rfl rfl rfl) rfl ?_; rintro _ _ ⟨hs, hF⟩))
  have hs : St w NoF _ [_, _, _] := (hs.newOwn 8).sel [1, 0, 2] (by decide)
  refine aM Tryz.func133 rfl (.agg' hs rfl rfl .nil) ⟨_, rfl, hs.out (.cons_cons _ (.cons_cons _ (List.nil_sublist _)))⟩
theorem nU (w : World) (a : Option Addr) (n c : Nat) (es : List Ent) (a2 : Option Addr) (n2 c2 : Nat) (t : List Int) (h : Sl dEnt All w a n c es) (hn : n ≤ 1048576) (h2 : Sl (tInt .u64) All w a2 n2 c2 t) :
    Ret Tryz.prog 119 #[.agg #[.slice a n c], .slice a2 n2 c2] w fun v w' => v = .tuple #[.int .i64 (kC es t).1, .bool (kC es t).2] ∧ Ext w w' := by
  refine bI (l := [_, _]) Tryz.func119 rfl Tryz.ntmps119 (by simp) ?_
  have hs := St.init w
  obtain ⟨rs, hr, hm⟩ := Sl.raw (D := fB) h
  have hl := hr.len
  have hle := h.len
  unfold kC
  by_cases hc : cH es = true
  · rw [if_pos hc]
    rcases gE es t with hp | ⟨q, x, hx, hp, hx1, hx2⟩
    · rw [hp, if_pos (by decide)]
      repeat' (first | ((apply aL 118; refine JL_o (by exact aA lM rfl (eJ _ a n c es (h.st hs) hn)) rfl rfl ?_; rintro _ _ ⟨rfl, hE⟩; rw [if_pos hc]; have hs := hs.ext hE; (try simp only [zcc] at hs))) | ((apply aL 176; refine JL_o (by exact aA uE rfl (kG _ a n c es a2 n2 c2 t (h.st hs) hn (h2.st hs))) rfl rfl ?_; rintro _ _ ⟨rfl, hE⟩; rw [hp]; have hs := hs.ext hE; (try simp only [zcc] at hs))) | (apply aH) | ((apply aC); exact zop; first | (exact rfl; exact rfl) | exact rfl) | (apply aQ) | (apply aB) | (apply aV) | (apply aF (t := 2); refine JL_o (by apply bN; exact bC hs rfl) rfl rfl ?_; rintro _ _ ⟨b2, rfl, hb2, hs, hE⟩) | (apply aG; first | refine aS rfl ob ?_ | refine aZ rfl ob ?_))
      refine aM Tryz.func119 rfl (.tmp rfl (.tmp rfl .nil)) ⟨rfl, hs.frm.ext⟩
    · have hq : q < n := by rw [← hle]; exact (List.getElem?_eq_some_iff.1 hx).1
      obtain ⟨p1, o1, rfl⟩ := hr.sl.addr (by omega)
      obtain ⟨r, hrx, hrel⟩ := hm.get hx
      have e3 : r.2.2 = x.2.2 := hrel.2.2
      rw [hp, if_neg (by omega), Int.toNat_natCast, cW hx, ← e3]
      repeat' (first | ((apply aL 118; refine JL_o (by exact aA lM rfl (eJ _ (some ⟨p1, o1, none⟩) n c es (h.st hs) hn)) rfl rfl ?_; rintro _ _ ⟨rfl, hE⟩; rw [if_pos hc]; have hs := hs.ext hE; (try simp only [zcc] at hs))) | ((apply aL 176; refine JL_o (by exact aA uE rfl (kG _ (some ⟨p1, o1, none⟩) n c es a2 n2 c2 t (h.st hs) hn (h2.st hs))) rfl rfl ?_; rintro _ _ ⟨rfl, hE⟩; rw [hp]; have hs := hs.ext hE; (try simp only [zcc] at hs))) | (apply aH) | ((apply aC); (first | (apply aT; exact aX (i := q) (j := 2) (hr.st hs) hrx rfl rfl rfl aI) | exact zop); first | (exact rfl; exact rfl) | exact rfl) | (apply aQ) | (apply aB) | (apply aV) | (apply aF (t := 2); refine JL_o (by apply bN; exact bC hs rfl) rfl rfl ?_; rintro _ _ ⟨b2, rfl, hb2, hs, hE⟩) | (apply aG; refine aZ rfl ob ?_))
      refine aM Tryz.func119 rfl (.tmp rfl (.tmp rfl .nil)) ⟨rfl, hs.frm.ext⟩
  · rw [if_neg hc]
    repeat' (first | ((apply aL 118; refine JL_o (by exact aA lM rfl (eJ _ a n c es (h.st hs) hn)) rfl rfl ?_; rintro _ _ ⟨rfl, hE⟩; rw [if_neg hc]; have hs := hs.ext hE; (try simp only [zcc] at hs))) | (apply aH) | ((apply aC); exact zop; first | (exact rfl; exact rfl) | exact rfl) | (apply aQ) | (apply aB) | (apply aF (t := 2); refine JL_o (by apply bN; exact bC hs rfl) rfl rfl ?_; rintro _ _ ⟨b2, rfl, hb2, hs, hE⟩) | (apply aG; refine aS rfl ob ?_))
    refine aM Tryz.func119 rfl (.tmp rfl (.tmp rfl .nil)) ⟨rfl, hs.frm.ext⟩
theorem all_r (w : World) (a : Option Addr) (n c : Nat) (es : List Ent) (h : Sl dEnt All w a n c es) (hn : n ≤ 1048576) :
    Ret Tryz.prog 129 #[.agg #[.slice a n c]] w fun v w' => ∃ a' c' rs', v = .slice a' (allF es).length c' ∧ Fresh w w' [Row a' (allF es).length c' 139 3 (encL bS rs'), Own rs' (allF es)] := by
  refine bI (l := [_]) Tryz.func129 rfl Tryz.ntmps129 (by simp) ?_
  have hs := St.init w
  unfold allF
  by_cases hc : cH es = true
  · rw [if_pos hc]
    have hlen := fun x hx => Nat.le_trans (mS hc (x := x) hx) (by decide : 12 ≤ 4000000000)
    repeat' (first | ((apply aL 118; refine JL_o (by exact aA lM rfl (eJ _ a n c es (h.st hs) hn)) rfl rfl ?_; rintro _ _ ⟨rfl, hE⟩; rw [if_pos hc]; have hs := hs.ext hE; (try simp only [zcc] at hs))) | ((apply aL 187; refine JL_o (by exact aA yO rfl (qI _ a n c es (h.st hs) hn hlen)) rfl rfl ?_; rintro _ _ ⟨es', rs', hp, hpw, a', c', rfl, hf⟩; have hs := hs.fresh hf; (try simp only [zcc] at hs))) | (apply aH) | ((apply aC); exact zop; first | (exact rfl; exact rfl) | exact rfl) | (apply aQ) | (apply aB) | (apply aV) | (apply aF (t := 1); refine JL_o (by apply bN; exact bC hs rfl) rfl rfl ?_; rintro _ _ ⟨b1, rfl, hb1, hs, hE⟩) | (apply aG; refine aZ rfl ob ?_))
    have e := kY (dR hc) hp hpw
    subst e
    refine aM Tryz.func129 rfl (.tmp rfl .nil) ⟨_, _, rs', rfl, hs.out (.cons_cons _ (.cons_cons _ (List.nil_sublist _)))⟩
  · rw [if_neg hc]
    repeat' (first | ((apply aL 118; refine JL_o (by exact aA lM rfl (eJ _ a n c es (h.st hs) hn)) rfl rfl ?_; rintro _ _ ⟨rfl, hE⟩; rw [if_neg hc]; have hs := hs.ext hE; (try simp only [zcc] at hs))) | (apply aH) | ((apply aC); exact zop; first | (exact rfl; exact rfl) | exact rfl) | (apply aQ) | (apply aB) | (apply aF (t := 1); refine JL_o (by apply bN; exact bC hs rfl) rfl rfl ?_; rintro _ _ ⟨b1, rfl, hb1, hs, hE⟩) | (apply aG; refine aS rfl ob ?_))
    have hs := hs.nilOwn.nilRow 139 3
    refine aM Tryz.func129 rfl (.tmp rfl .nil) ⟨_, _, [], rfl, hs.out (.cons_cons _ (.cons_cons _ (List.nil_sublist _)))⟩
theorem many_r (w : World) (a : Option Addr) (n c : Nat) (es : List Ent) (h : Sl dEnt All w a n c es) (hn : n ≤ 1048576) :
    Ret Tryz.prog 121 #[.agg #[.slice a n c]] w fun v w' => v = .int .i64 (allF es).length ∧ Ext w w' := by
  refine bI (l := [_]) Tryz.func121 rfl Tryz.ntmps121 (by simp) ?_
  have hs := St.init w
  repeat' (first | ((apply aL 129; refine JL_o (by exact aA en129 rfl (all_r _ a n c es (h.st hs) hn)) rfl rfl ?_; rintro _ _ ⟨a', c', rs', rfl, hf⟩; have hs := hs.fresh hf; (try simp only [zcc] at hs))) | (apply aH) | ((apply aC); exact zop; first | (exact rfl; exact rfl) | exact rfl) | (apply aQ) | (apply aB) | (apply aF (t := 1); refine JL_o (by apply bN; exact bC hs rfl) rfl rfl ?_; rintro _ _ ⟨b1, rfl, hb1, hs, hE⟩))
  refine aM Tryz.func121 rfl (.tmp rfl .nil) ⟨rfl, hs.frm.ext⟩
end Go.Eng
end
section
namespace Go.Eng
open Go.Proofs
set_option linter.unusedSimpArgs false
set_option linter.unusedVariables false
def kP (es : List Ent) (t : List Int) (h : Int) (i : Nat) : Nat → Nat → Bool
  | 0, _ => false
  | f + 1, k =>
    if cV h es.length k = i then decide ((es.getD i e0).1 = 1) && decide ((es.getD i e0).2.1 = t) else
    if (es.getD (cV h es.length k) e0).1 = 0 then false else kP es t h i f (k + 1)
def pN (es : List Ent) (t : List Int) (i : Nat) : Bool := kP es t (ofM t) i es.length 0
theorem yH {es : List Ent} {t : List Int} {h : Int} {i k : Nat} (hk : k < es.length) {q : Nat} (hq : q = cV h es.length k) {x : Ent} (hx : es[q]? = some x) :
    kP es t h i (es.length - k) k = if q = i then (decide (x.1 = 1) && decide (x.2.1 = t)) else if x.1 = 0 then false else kP es t h i (es.length - (k + 1)) (k + 1) := by
  rw [show es.length - k = (es.length - (k + 1)) + 1 by omega, kP, ← hq, cW hx]
  by_cases c : q = i
  · subst c; rw [if_pos rfl, if_pos rfl, cW hx]
  · rw [if_neg c, if_neg c]
theorem kO {es : List Ent} {t : List Int} {h : Int} {i : Nat} : ∀ (f k : Nat), eZ es t h f k = (i : Int) → kP es t h i f k = true
  | 0, k, e => by unfold eZ at e; omega
  | f + 1, k, e => by
    unfold eZ at e
    unfold kP
    by_cases c0 : (es.getD (cV h es.length k) e0).1 = 0
    · rw [if_pos c0] at e; omega
    · rw [if_neg c0] at e
      by_cases c1 : (es.getD (cV h es.length k) e0).1 = 1 ∧ (es.getD (cV h es.length k) e0).2.1 = t
      · rw [if_pos c1] at e
        have e : cV h es.length k = i := by omega
        rw [if_pos e, ← e, c1.1, c1.2]; simp
      · rw [if_neg c1] at e
        by_cases c2 : cV h es.length k = i
        · exfalso
          rcases kI es t h f (k + 1) (fun hf => by
            rcases Nat.eq_zero_or_pos es.length with hz | hz
            · exfalso
              have : es = [] := List.eq_nil_of_length_eq_zero hz
              subst this
              simp at c0
            · exact hz) with hp | ⟨q, hq, hp, h1, h2⟩
          · omega
          · have : q = i := by omega
            subst this
            rw [c2] at c1; exact c1 ⟨h1, h2⟩
        · rw [if_neg c2, if_neg c0]; exact kO f (k + 1) e
theorem kH {es : List Ent} {t : List Int} {h : Int} {i : Nat} (hu : ∀ q, (es.getD q e0).1 = 1 → (es.getD q e0).2.1 = t → q = i) : ∀ (f k : Nat), kP es t h i f k = true → eZ es t h f k = (i : Int)
  | 0, k, e => by unfold kP at e; cases e
  | f + 1, k, e => by
    unfold kP at e
    unfold eZ
    by_cases c2 : cV h es.length k = i
    · rw [if_pos c2] at e
      simp only [Bool.and_eq_true, decide_eq_true_eq] at e
      rw [c2, if_neg (by omega), if_pos e]
    · rw [if_neg c2] at e
      by_cases c0 : (es.getD (cV h es.length k) e0).1 = 0
      · rw [if_pos c0] at e; cases e
      · rw [if_neg c0] at e
        rw [if_neg c0, if_neg (fun c1 => c2 (hu _ c1.1 c1.2))]
        exact kH hu f (k + 1) e
attribute [local irreducible] Hold J JL JD JX JXat OpR OpG Ret RetV Is Blk Row
set_option maxRecDepth 100000
set_option maxHeartbeats 1000000
theorem wX (w : World) (a : Option Addr) (n c : Nat) (es : List Ent) (a2 : Option Addr) (n2 c2 : Nat) (t : List Int) (i : Nat) (h : Sl dEnt All w a n c es) (hn : n ≤ 1048576) (h2 : Sl (tInt .u64) All w a2 n2 c2 t) (hi : i < n) :
    Ret Tryz.prog 168 #[.agg #[.slice a n c], .slice a2 n2 c2, .int .i64 i] w fun v w' => v = .bool (pN es t i) ∧ Ext w w' := by
  refine bI (l := [_, _, _]) Tryz.func168 rfl Tryz.ntmps168 (by simp) ?_
  have hs := St.init w
  obtain ⟨rs, hr, hm⟩ := Sl.raw (D := fB) h
  have hl := hr.len
  have hle := h.len
  have hh := tT t
  obtain ⟨p1, o1, rfl⟩ := hr.sl.addr (by omega)
  have hxi : es[i]? = some es[i] := List.getElem?_eq_getElem (by omega)
  obtain ⟨y, hyd⟩ : ∃ y, y = es[i] := ⟨_, rfl⟩
  rw [← hyd] at hxi
  obtain ⟨ri, hri, hreli⟩ := hm.get hxi
  have ei1 : ri.1 = y.1 := hreli.1
  have mi : Sl (tInt .u64) All w ri.2.1.1 ri.2.1.2.1 ri.2.1.2.2 y.2.1 := hreli.2.1
  repeat' (first | ((apply aL 219; refine JL_o (by exact aA en219 rfl (ofR_r _ a2 n2 c2 t (h2.st hs))) rfl rfl ?_; rintro _ _ ⟨rfl, hE⟩; have hs := hs.ext hE; (try simp only [zcc] at hs))) | (apply aH) | ((apply aC); exact zop; first | (exact rfl; exact rfl) | exact rfl) | (apply aQ) | (apply aB) | (apply aN) | (apply aF (t := 3); refine JL_o (by apply bN; exact bC hs rfl) rfl rfl ?_; rintro _ _ ⟨b3, rfl, hb3, hs, hE⟩))
  refine bT (α := Nat) [(1, _), (2, _), (3, _), (7, _), (14, _)] (fun k => [(15, .int .i64 k)]) (fun k w' => St w NoF w' [Blk b3 (.cells #[.slice (some ⟨p1, o1, none⟩) n c] 55 (0, 0))] ∧ k ≤ n ∧ kP es t (ofM t) i (n - k) k = pN es t i) (fun k => n - k) 0 ⟨hs, by omega, by unfold pN; rw [hle]; rfl⟩ zss ?_
  rintro k w' ⟨hs1, hk, hG⟩ ih
  have hs : St w NoF w' [_] := hs1
  by_cases hlt : k < n
  · obtain ⟨q, hqd⟩ : ∃ q, q = cV (ofM t) n k := ⟨_, rfl⟩
    have hq : q < n := by rw [hqd]; exact jB _ _ (by omega)
    have hx : es[q]? = some es[q] := List.getElem?_eq_getElem (by omega)
    obtain ⟨x, hxd⟩ : ∃ x, x = es[q] := ⟨_, rfl⟩
    rw [← hxd] at hx
    obtain ⟨r, hrx, hrel⟩ := hm.get hx
    have e1 : r.1 = x.1 := hrel.1
    have hst := yH (es := es) (t := t) (h := ofM t) (i := i) (k := k) (by omega) (by rw [hle]; exact hqd) hx
    rw [hle] at hst
    rw [hst] at hG
    by_cases c : q = i
    · rw [if_pos c] at hG
      have hxy : x = y := by rw [c] at hx; rw [hxi] at hx; exact (Option.some.inj hx).symm
      rw [hxy] at hG
      rw [← hG]
      by_cases c1 : ri.1 = 1
      · rw [decide_eq_true (by omega : y.1 = 1), Bool.true_and]
        repeat' (first | ((apply aL 220; refine JL_o (by exact aA en220 rfl (oD _ (ofM t) n k hh ⟨by omega, by omega⟩)) rfl rfl ?_; rintro _ _ ⟨rfl, hE⟩; rw [← hqd]; have hs := hs.ext hE; (try simp only [zcc] at hs))) | ((apply bE 134; refine bM rfl gb (by exact aA lQ rfl (fN _ ri.2.1.1 a2 ri.2.1.2.1 ri.2.1.2.2 n2 c2 y.2.1 t (mi.st hs) (h2.st hs))) rfl rfl ?_; rintro _ _ ⟨rfl, hE⟩; have hs := hs.ext hE; (try simp only [zcc] at hs))) | (apply aH) | ((first | (apply aC) | (apply bA; exact rfl; exact gb)); (first | (apply aT; first | exact aX (i := i) (j := 0) (hr.st hs) hri rfl rfl rfl aI | exact aX (i := i) (j := 1) (hr.st hs) hri rfl rfl rfl aI) | exact zop); first | (exact rfl; exact rfl) | exact rfl) | (apply aQ) | (apply aB) | (apply aN) | (apply aV) | (apply aG; refine aS rfl ob ?_))
        refine aM Tryz.func168 rfl (.tmp rfl .nil) ⟨rfl, hs.frm.ext⟩
      · rw [decide_eq_false (by omega : ¬ y.1 = 1), Bool.false_and]
        repeat' (first | ((apply aL 220; refine JL_o (by exact aA en220 rfl (oD _ (ofM t) n k hh ⟨by omega, by omega⟩)) rfl rfl ?_; rintro _ _ ⟨rfl, hE⟩; rw [← hqd]; have hs := hs.ext hE; (try simp only [zcc] at hs))) | (apply aH) | ((apply aC); (first | (apply aT; first | exact aX (i := i) (j := 0) (hr.st hs) hri rfl rfl rfl aI | exact aX (i := i) (j := 1) (hr.st hs) hri rfl rfl rfl aI) | exact zop); first | (exact rfl; exact rfl) | exact rfl) | (apply aQ) | (apply aB) | (apply aN) | (apply aV) | (apply bK; (refine cY rfl gb rfl ?_)) | (apply aG; refine aS rfl ob ?_))
        refine aM Tryz.func168 rfl (.tmp rfl .nil) ⟨rfl, hs.frm.ext⟩
    · rw [if_neg c] at hG
      by_cases c0 : r.1 = 0
      · rw [if_pos (by omega)] at hG
        rw [← hG]
        repeat' (first | ((apply aL 220; refine JL_o (by exact aA en220 rfl (oD _ (ofM t) n k hh ⟨by omega, by omega⟩)) rfl rfl ?_; rintro _ _ ⟨rfl, hE⟩; rw [← hqd]; have hs := hs.ext hE; (try simp only [zcc] at hs))) | (apply aH) | ((apply aC); (first | (apply aT; exact aX (i := q) (j := 0) (hr.st hs) hrx rfl rfl rfl aI) | exact zop); first | (exact rfl; exact rfl) | exact rfl) | (apply aQ) | (apply aB) | (apply aN) | (apply aV) | (apply aG; first | refine aS rfl ob ?_ | refine aZ rfl ob ?_))
        refine aM Tryz.func168 rfl (.tmp rfl .nil) ⟨rfl, hs.frm.ext⟩
      · rw [if_neg (by omega)] at hG
        repeat' (first | ((apply aL 220; refine JL_o (by exact aA en220 rfl (oD _ (ofM t) n k hh ⟨by omega, by omega⟩)) rfl rfl ?_; rintro _ _ ⟨rfl, hE⟩; rw [← hqd]; have hs := hs.ext hE; (try simp only [zcc] at hs))) | (apply aH) | ((apply aC); (first | (apply aT; exact aX (i := q) (j := 0) (hr.st hs) hrx rfl rfl rfl aI) | exact zop); first | (exact rfl; exact rfl) | exact rfl) | (apply aQ) | (apply aB) | (apply aN) | (apply aW) | (apply aV) | (apply aG; first | refine aS rfl ob ?_ | refine aZ rfl ob ?_))
        refine ih (k + 1) _ _ ⟨hs, by omega, hG⟩ (by omega) zss
  · have hkn : k = n := by omega
    rw [hkn, Nat.sub_self] at hG
    rw [← hG]
    repeat' (first | (apply aH) | ((apply aC); exact zop; first | (exact rfl; exact rfl) | exact rfl) | (apply aQ) | (apply aB) | (apply bG; refine bP rfl ?_) | (apply aG; refine aZ rfl ob ?_))
    refine aM Tryz.func168 rfl (.tmp rfl .nil) ⟨rfl, hs.frm.ext⟩
end Go.Eng
end
section
namespace Go.Eng
open Go.Proofs
set_option linter.unusedSimpArgs false
set_option linter.unusedVariables false
def nY (es : List Ent) (i : Nat) : Bool :=
  if (es.getD i e0).1 = 0 ∨ (es.getD i e0).1 = 2 then decide ((es.getD i e0).2.1.length = 0) && decide ((es.getD i e0).2.2 = 0) else
  if (es.getD i e0).1 = 1 then dF (es.getD i e0).2.1 && (decide (0 ≤ (es.getD i e0).2.2) && (pN es (es.getD i e0).2.1 i && (List.range i).all (fun j => !(decide ((es.getD j e0).1 = 1) && decide ((es.getD i e0).2.1 = (es.getD j e0).2.1))))) else false
def okR (es : List Ent) (k : Nat) : Bool := (List.range k).all (nY es)
def cntN (es : List Ent) (k : Nat) : Nat := ((es.take k).filter (fun x => decide (x.1 ≠ 0))).length
def powB (n : Nat) : Bool := decide (8 ≤ n) && decide (iand (n : Int) ((n : Int) - 1) = 0)
def qN (es : List Ent) : Bool := powB es.length && (okR es es.length && (decide (4 * cntN es es.length ≤ 3 * es.length) && decide (cntN es es.length ≤ 4000)))
theorem okR_succ (es : List Ent) (k : Nat) : okR es (k + 1) = (okR es k && nY es k) := by
  unfold okR; rw [List.range_succ, List.all_append]; simp
theorem aAm {es : List Ent} {k n : Nat} (hk : k < n) (h : nY es k = false) : okR es n = false := by
  unfold okR; rw [List.all_eq_false]; exact ⟨k, List.mem_range.2 hk, by simp [h]⟩
theorem aBs {es : List Ent} {k : Nat} {x : Ent} (h : es[k]? = some x) : cntN es (k + 1) = cntN es k + if x.1 = 0 then 0 else 1 := by
  unfold cntN
  rw [List.take_add_one, h, List.filter_append, List.length_append]
  congr 1
  by_cases h0 : x.1 = 0
  · simp [h0]
  · simp [h0]
theorem aBt (es : List Ent) (k : Nat) : cntN es k ≤ k := by
  unfold cntN
  refine Nat.le_trans (List.length_filter_le _ _) ?_
  simp; omega
theorem rX (n : Nat) : powB n = true ↔ ∃ j, n = 8 * 2 ^ j := by
  unfold powB
  rw [Bool.and_eq_true, decide_eq_true_eq, decide_eq_true_eq]
  have hi : ∀ h : 8 ≤ n, iand (n : Int) ((n : Int) - 1) = ((n &&& n - 1 : Nat) : Int) := fun h => by
    unfold iand
    rw [Int.toNat_natCast, show ((n : Int) - 1).toNat = n - 1 by omega]
  constructor
  · rintro ⟨h8, h⟩
    rw [hi h8] at h
    have h : n &&& n - 1 = 0 := by omega
    obtain ⟨k, hk⟩ := (Nat.and_sub_one_eq_zero_iff_isPowerOfTwo (by omega)).1 h
    have hk3 : 3 ≤ k := by
      rcases Nat.lt_or_ge k 3 with c | c
      · have : (2 : Nat) ^ k ≤ 2 ^ 2 := Nat.pow_le_pow_right (by decide) (by omega)
        omega
      · exact c
    exact ⟨k - 3, by rw [hk, show k = 3 + (k - 3) by omega, Nat.pow_add]; simp⟩
  · rintro ⟨j, rfl⟩
    have hp : 0 < 2 ^ j := Nat.pow_pos (by decide)
    have h8 : 8 ≤ 8 * 2 ^ j := by omega
    refine ⟨h8, ?_⟩
    unfold iand
    rw [Int.toNat_natCast, show (((8 * 2 ^ j : Nat) : Int) - 1).toNat = 8 * 2 ^ j - 1 by omega]
    have : 8 * 2 ^ j &&& 8 * 2 ^ j - 1 = 0 := (Nat.and_sub_one_eq_zero_iff_isPowerOfTwo (by omega)).2 ⟨3 + j, by rw [Nat.pow_add]⟩
    rw [this]; rfl
theorem powB_dbl {n N j : Nat} (hN : N = 8 * 2 ^ j) (hlo : j = 0 ∨ 8 * 2 ^ (j - 1) < n) (hhi : n ≤ N) : powB n = decide (n = N) := by
  by_cases h : n = N
  · rw [decide_eq_true h]; exact (rX n).2 ⟨j, by rw [h, hN]⟩
  · rw [decide_eq_false h]
    cases hp : powB n with
    | false => rfl
    | true =>
      exfalso
      obtain ⟨i, hi⟩ := (rX n).1 hp
      rcases Nat.lt_trichotomy i j with c | c | c
      · have : (2 : Nat) ^ i ≤ 2 ^ (j - 1) := Nat.pow_le_pow_right (by decide) (by omega)
        rcases hlo with h0 | h0
        · omega
        · omega
      · subst c; omega
      · have : (2 : Nat) ^ (j + 1) ≤ 2 ^ i := Nat.pow_le_pow_right (by decide) (by omega)
        rw [Nat.pow_succ] at this
        have hp : 0 < 2 ^ j := Nat.pow_pos (by decide)
        omega
attribute [local irreducible] Hold J JL JD JX JXat OpR OpG Ret RetV Is Blk Row
set_option maxRecDepth 100000
set_option maxHeartbeats 1000000
theorem oC (w : World) (a : Option Addr) (n c : Nat) (es : List Ent) (h : Sl dEnt All w a n c es) (hn : n ≤ 1048576) :
    Ret Tryz.prog 95 #[.agg #[.slice a n c]] w fun v w' => v = .bool (qN es) ∧ Ext w w' := by
  refine bI (l := [_]) Tryz.func95 rfl Tryz.ntmps95 (by simp) ?_
  have hs := St.init w
  obtain ⟨rs, hr, hm⟩ := Sl.raw (D := fB) h
  have hl := hr.len
  have hle := h.len
  have hcap := h.le
  repeat' (first | (apply aH) | ((apply aC); exact zop; first | (exact rfl; exact rfl) | exact rfl) | (apply aQ) | (apply aB) | (apply aN) | (apply aF (t := 1); refine JL_o (by apply bN; exact bC hs rfl) rfl rfl ?_; rintro _ _ ⟨b1, rfl, hb1, hs, hE⟩))
  refine bT (α := Nat × Nat) [(1, _)] (fun g => [(3, .int .i64 g.1)]) (fun g w' => St w NoF w' [Blk b1 (.cells #[.slice a n c] 55 (0, 0))] ∧ g.1 = 8 * 2 ^ g.2 ∧ (g.2 = 0 ∨ 8 * 2 ^ (g.2 - 1) < n)) (fun g => n - g.1) (8, 0) ⟨hs, rfl, .inl rfl⟩ zss ?_
  rintro ⟨N, j⟩ w' ⟨hs1, hN, hlo⟩ ih
  dsimp only at hN hlo ih ⊢
  have hs : St w NoF w' [_] := hs1
  have hN8 : 8 ≤ N := by have hp : 0 < 2 ^ j := Nat.pow_pos (by decide); omega
  by_cases hlt : N < n
  · repeat' (first | (apply aH) | ((apply aC); (first | (apply cI; exact jU rfl rfl (by omega) aI) | exact zop); first | (exact rfl; exact rfl) | exact rfl) | (apply aQ) | (apply aB) | (apply aN) | (apply aW) | (apply aV) | (apply aG; refine aS rfl ob ?_))
    have e : (2 : Int) * (N : Int) = ((2 * N : Nat) : Int) := by omega
    refine ih (2 * N, j + 1) _ _ ⟨hs, by dsimp only; rw [hN, Nat.pow_succ]; omega, .inr (by dsimp only; rw [Nat.add_sub_cancel, ← hN]; exact hlt)⟩ (by dsimp only; omega) (by rw [e]; repeat' (first | exact trivial | exact rfl | apply And.intro))
  have hpw := powB_dbl (n := n) hN hlo (by omega)
  unfold qN
  rw [hle, hpw]
  by_cases hnN : n = N
  · rw [decide_eq_true hnN, Bool.true_and]
    repeat' (first | (apply aH) | ((apply aC); exact zop; first | (exact rfl; exact rfl) | exact rfl) | (apply aQ) | (apply aB) | (apply aN) | (apply bG; refine bP rfl ?_) | (apply aV) | (apply aG; refine aZ rfl ob ?_))
    refine bT (α := Nat) [(1, _), (3, _), (22, _), (23, _)] (fun k => [(4, .int .i64 (cntN es k)), (24, .int .i64 k)]) (fun k w' => St w NoF w' [Blk b1 (.cells #[.slice a n c] 55 (0, 0))] ∧ k ≤ n ∧ okR es k = true) (fun k => n - k) 0 ⟨hs, by omega, rfl⟩ zss ?_
    rintro k w2 ⟨hs1, hk, hok⟩ ih
    have hs : St w NoF w2 [_] := hs1
    have hck := aBt es k
    by_cases hlt : k < n
    · obtain ⟨p, o, rfl⟩ := hr.sl.addr (by omega)
      have hx : es[k]? = some es[k] := List.getElem?_eq_getElem (by omega)
      obtain ⟨x, hxd⟩ : ∃ x, x = es[k] := ⟨_, rfl⟩
      rw [← hxd] at hx
      obtain ⟨r, hrx, hrel⟩ := hm.get hx
      have e1 : r.1 = x.1 := hrel.1
      have e3 : r.2.2 = x.2.2 := hrel.2.2
      have m2 : Sl (tInt .u64) All w r.2.1.1 r.2.1.2.1 r.2.1.2.2 x.2.1 := hrel.2.1
      have htn := m2.len
      have hsl : nY es k = if x.1 = 0 ∨ x.1 = 2 then decide (x.2.1.length = 0) && decide (x.2.2 = 0) else if x.1 = 1 then dF x.2.1 && (decide (0 ≤ x.2.2) && (pN es x.2.1 k && (List.range k).all (fun j => !(decide ((es.getD j e0).1 = 1) && decide (x.2.1 = (es.getD j e0).2.1))))) else false := by unfold nY; rw [cW hx]
      have hcs := aBs hx
      have hbad : nY es k = false → (okR es n && (decide (4 * cntN es n ≤ 3 * n) && decide (cntN es n ≤ 4000))) = false := fun hf => by rw [aAm hlt hf, Bool.false_and]
      have hgood : nY es k = true → okR es (k + 1) = true := fun hf => by rw [okR_succ, hok, hf]; rfl
      by_cases s0 : r.1 = 0
      · rw [if_pos (.inl (by omega))] at hsl
        rw [if_pos (by omega), Nat.add_zero] at hcs
        by_cases q1 : r.2.1.2.1 = 0
        · by_cases q2 : r.2.2 = 0
          · have hg := hgood (by rw [hsl, decide_eq_true (by omega), decide_eq_true (by omega)]; rfl)
            repeat' (first | (apply aH) | ((first | (apply aC) | (apply bA; exact rfl; exact gb)); (first | (apply aT; exact aO (hr.st hs) hrx rfl rfl aI) | exact zop); first | (exact rfl; exact rfl) | exact rfl) | (apply aQ) | (apply aB) | (apply aN) | (apply aW) | (apply aV) | (apply aF (t := 6); refine JL_o (by apply aR; exact aJ hs) rfl rfl ?_; rintro _ _ ⟨b6, rfl, hb6, hs, hE⟩) | (apply aU; refine JL_u (by apply aP; exact aK hs rfl rfl rfl) rfl ?_; rintro _ _ ⟨hs, hF⟩) | (apply aG; first | refine aS rfl ob ?_ | refine aZ rfl ob ?_))
            refine ih (k + 1) _ _ ⟨hs.sel [1] (by decide), by omega, hg⟩ (by omega) (by rw [hcs]; repeat' (first | exact trivial | exact rfl | apply And.intro))
          · rw [hbad (by rw [hsl, decide_eq_false (by omega : ¬ x.2.2 = 0), Bool.and_false])]
            repeat' (first | (apply aH) | ((first | (apply aC) | (apply bA; exact rfl; exact gb)); (first | (apply aT; exact aO (hr.st hs) hrx rfl rfl aI) | exact zop); first | (exact rfl; exact rfl) | exact rfl) | (apply aQ) | (apply aB) | (apply aN) | (apply aV) | (apply aF (t := 6); refine JL_o (by apply aR; exact aJ hs) rfl rfl ?_; rintro _ _ ⟨b6, rfl, hb6, hs, hE⟩) | (apply aU; refine JL_u (by apply aP; exact aK hs rfl rfl rfl) rfl ?_; rintro _ _ ⟨hs, hF⟩) | (apply aG; refine aS rfl ob ?_))
            refine aM Tryz.func95 rfl (.tmp rfl .nil) ⟨rfl, hs.frm.ext⟩
        · rw [hbad (by rw [hsl, decide_eq_false (by omega : ¬ x.2.1.length = 0), Bool.false_and])]
          have q1' : r.2.1.2.1 > 0 := by omega
          repeat' (first | (apply aH) | ((apply aC); (first | (apply aT; exact aO (hr.st hs) hrx rfl rfl aI) | exact zop); first | (exact rfl; exact rfl) | exact rfl) | (apply aQ) | (apply aB) | (apply aN) | (apply aV) | (apply aF (t := 6); refine JL_o (by apply aR; exact aJ hs) rfl rfl ?_; rintro _ _ ⟨b6, rfl, hb6, hs, hE⟩) | (apply aU; refine JL_u (by apply aP; exact aK hs rfl rfl rfl) rfl ?_; rintro _ _ ⟨hs, hF⟩) | (apply bK; (refine cY rfl gb rfl ?_)) | (apply aG; first | refine aS rfl ob ?_ | refine bB rfl gb ?_))
          refine aM Tryz.func95 rfl (.tmp rfl .nil) ⟨rfl, hs.frm.ext⟩
      by_cases s2 : r.1 = 2
      · rw [if_pos (.inr (by omega))] at hsl
        rw [if_neg (by omega)] at hcs
        by_cases q1 : r.2.1.2.1 = 0
        · by_cases q2 : r.2.2 = 0
          · have hg := hgood (by rw [hsl, decide_eq_true (by omega), decide_eq_true (by omega)]; rfl)
            repeat' (first | (apply aH) | ((first | (apply aC) | (apply bA; exact rfl; exact gb)); (first | (apply aT; exact aO (hr.st hs) hrx rfl rfl aI) | exact zop); first | (exact rfl; exact rfl) | exact rfl) | (apply aQ) | (apply aB) | (apply aN) | (apply aW) | (apply aV) | (apply aF (t := 6); refine JL_o (by apply aR; exact aJ hs) rfl rfl ?_; rintro _ _ ⟨b6, rfl, hb6, hs, hE⟩) | (apply aU; refine JL_u (by apply aP; exact aK hs rfl rfl rfl) rfl ?_; rintro _ _ ⟨hs, hF⟩) | (apply aG; first | refine aS rfl ob ?_ | refine aZ rfl ob ?_))
            refine ih (k + 1) _ _ ⟨hs.sel [1] (by decide), by omega, hg⟩ (by omega) (by rw [hcs]; repeat' (first | exact trivial | exact rfl | apply And.intro))
          · rw [hbad (by rw [hsl, decide_eq_false (by omega : ¬ x.2.2 = 0), Bool.and_false])]
            repeat' (first | (apply aH) | ((first | (apply aC) | (apply bA; exact rfl; exact gb)); (first | (apply aT; exact aO (hr.st hs) hrx rfl rfl aI) | exact zop); first | (exact rfl; exact rfl) | exact rfl) | (apply aQ) | (apply aB) | (apply aN) | (apply aV) | (apply aF (t := 6); refine JL_o (by apply aR; exact aJ hs) rfl rfl ?_; rintro _ _ ⟨b6, rfl, hb6, hs, hE⟩) | (apply aU; refine JL_u (by apply aP; exact aK hs rfl rfl rfl) rfl ?_; rintro _ _ ⟨hs, hF⟩) | (apply aG; first | refine aS rfl ob ?_ | refine aZ rfl ob ?_))
            refine aM Tryz.func95 rfl (.tmp rfl .nil) ⟨rfl, hs.frm.ext⟩
        · rw [hbad (by rw [hsl, decide_eq_false (by omega : ¬ x.2.1.length = 0), Bool.false_and])]
          have q1' : r.2.1.2.1 > 0 := by omega
          repeat' (first | (apply aH) | ((apply aC); (first | (apply aT; exact aO (hr.st hs) hrx rfl rfl aI) | exact zop); first | (exact rfl; exact rfl) | exact rfl) | (apply aQ) | (apply aB) | (apply aN) | (apply aV) | (apply aF (t := 6); refine JL_o (by apply aR; exact aJ hs) rfl rfl ?_; rintro _ _ ⟨b6, rfl, hb6, hs, hE⟩) | (apply aU; refine JL_u (by apply aP; exact aK hs rfl rfl rfl) rfl ?_; rintro _ _ ⟨hs, hF⟩) | (apply bK; (refine cY rfl gb rfl ?_)) | (apply aG; first | refine aS rfl ob ?_ | refine aZ rfl ob ?_ | refine bB rfl gb ?_))
          refine aM Tryz.func95 rfl (.tmp rfl .nil) ⟨rfl, hs.frm.ext⟩
      rw [if_neg (by omega)] at hsl
      rw [if_neg (by omega)] at hcs
      by_cases s1 : r.1 = 1
      · rw [if_pos (by omega)] at hsl
        cases ht : dF x.2.1 with
        | false =>
          rw [hbad (by rw [hsl, ht]; rfl)]
          repeat' (first | ((apply aL 26; refine JL_o (by exact aA en26 rfl (eQ _ r.2.1.1 r.2.1.2.1 r.2.1.2.2 x.2.1 (m2.st hs))) rfl rfl ?_; rintro _ _ ⟨rfl, hE⟩; rw [ht]; have hs := hs.ext hE; (try simp only [zcc] at hs))) | (apply aH) | ((apply aC); (first | (apply aT; exact aO (hr.st hs) hrx rfl rfl aI) | exact zop); first | (exact rfl; exact rfl) | exact rfl) | (apply aQ) | (apply aB) | (apply aN) | (apply aV) | (apply aF (t := 6); refine JL_o (by apply aR; exact aJ hs) rfl rfl ?_; rintro _ _ ⟨b6, rfl, hb6, hs, hE⟩) | (apply aU; refine JL_u (by apply aP; exact aK hs rfl rfl rfl) rfl ?_; rintro _ _ ⟨hs, hF⟩) | (apply bK; (refine cY rfl gb rfl ?_)) | (apply aG; first | refine aS rfl ob ?_ | refine aZ rfl ob ?_ | refine bB rfl gb ?_))
          refine aM Tryz.func95 rfl (.tmp rfl .nil) ⟨rfl, hs.frm.ext⟩
        | true =>
          rw [ht, Bool.true_and] at hsl
          by_cases q2 : 0 ≤ r.2.2
          · rw [decide_eq_true (by omega), Bool.true_and] at hsl
            have q2' : ¬ r.2.2 < 0 := by omega
            cases hfo : pN es x.2.1 k with
            | false =>
              rw [hbad (by rw [hsl, hfo]; rfl)]
              repeat' (first | ((apply aL 26; refine JL_o (by exact aA en26 rfl (eQ _ r.2.1.1 r.2.1.2.1 r.2.1.2.2 x.2.1 (m2.st hs))) rfl rfl ?_; rintro _ _ ⟨rfl, hE⟩; rw [ht]; have hs := hs.ext hE; (try simp only [zcc] at hs))) | ((apply bE 168; refine bM rfl gb (by exact aA en168 rfl (wX _ (some ⟨p, o, none⟩) n c es r.2.1.1 r.2.1.2.1 r.2.1.2.2 x.2.1 k (h.st hs) hn (m2.st hs) hlt)) rfl rfl ?_; rintro _ _ ⟨rfl, hE⟩; rw [hfo]; have hs := hs.ext hE; (try simp only [zcc] at hs))) | (apply aH) | ((first | (apply aC) | (apply bA; exact rfl; exact gb)); (first | (apply aT; exact aO (hr.st hs) hrx rfl rfl aI) | exact zop); first | (exact rfl; exact rfl) | exact rfl) | (apply aQ) | (apply aB) | (apply aN) | (apply aV) | (apply aF (t := 6); refine JL_o (by apply aR; exact aJ hs) rfl rfl ?_; rintro _ _ ⟨b6, rfl, hb6, hs, hE⟩) | (apply aU; refine JL_u (by apply aP; exact aK hs rfl rfl rfl) rfl ?_; rintro _ _ ⟨hs, hF⟩) | (apply aG; first | refine aS rfl ob ?_ | refine aZ rfl ob ?_ | refine bB rfl gb ?_))
              refine aM Tryz.func95 rfl (.tmp rfl .nil) ⟨rfl, hs.frm.ext⟩
            | true =>
              rw [hfo, Bool.true_and] at hsl
              repeat' (first | ((apply aL 26; refine JL_o (by exact aA en26 rfl (eQ _ r.2.1.1 r.2.1.2.1 r.2.1.2.2 x.2.1 (m2.st hs))) rfl rfl ?_; rintro _ _ ⟨rfl, hE⟩; rw [ht]; have hs := hs.ext hE; (try simp only [zcc] at hs))) | ((apply bE 168; refine bM rfl gb (by exact aA en168 rfl (wX _ (some ⟨p, o, none⟩) n c es r.2.1.1 r.2.1.2.1 r.2.1.2.2 x.2.1 k (h.st hs) hn (m2.st hs) hlt)) rfl rfl ?_; rintro _ _ ⟨rfl, hE⟩; rw [hfo]; have hs := hs.ext hE; (try simp only [zcc] at hs))) | ((apply aF (t := 65); refine aC (v := .slice (some ⟨p, o, none⟩) k c) (by apply dA; exact dO (kl := .i64) (kh := .i64) (km := .i64) (a' := some ⟨p, o, none⟩) (m := c) (h := (k : Nat)) rfl (.inl ⟨rfl, rfl⟩) (.inr ⟨_, rfl, rfl⟩) (.inl ⟨rfl, rfl⟩) (by omega) (by omega) (by omega) (by omega) (by split; rfl; exact zB _) (by rw [Int.sub_zero, Int.sub_zero, Int.toNat_natCast, Int.toNat_natCast]; exact aI)) rfl rfl ?_)) | (apply aH) | ((first | (apply aC) | (apply bA; exact rfl; exact gb)); (first | (apply aT; exact aO (hr.st hs) hrx rfl rfl aI) | exact zop); first | (exact rfl; exact rfl) | exact rfl) | (apply aQ) | (apply aB) | (apply aN) | (apply aV) | (apply aF (t := 6); refine JL_o (by apply aR; exact aJ hs) rfl rfl ?_; rintro _ _ ⟨b6, rfl, hb6, hs, hE⟩) | (apply aU; refine JL_u (by apply aP; exact aK hs rfl rfl rfl) rfl ?_; rintro _ _ ⟨hs, hF⟩) | (apply aG; first | refine aS rfl ob ?_ | refine aZ rfl ob ?_ | refine bD rfl gb ?_))
              obtain ⟨W2, hW2⟩ : ∃ W2 : Bool, W2 = (List.range k).all (fun j => !(decide ((es.getD j e0).1 = 1) && decide (x.2.1 = (es.getD j e0).2.1))) := ⟨_, rfl⟩
              rw [← hW2] at hsl
              refine bT (α := Nat) [(1, _), (3, _), (4, _), (6, _), (22, _), (23, _), (24, _), (65, _), (66, _)] (fun j => [(67, .int .i64 j)]) (fun j w' => St w NoF w' [Blk b6 (.cells #[.int .i64 r.1, .slice r.2.1.1 r.2.1.2.1 r.2.1.2.2, .int .i64 r.2.2] 139 (0, 0)), Blk b1 (.cells #[.slice (some ⟨p, o, none⟩) n c] 55 (0, 0))] ∧ j ≤ k ∧ ∀ q, q < j → ¬ ((es.getD q e0).1 = 1 ∧ x.2.1 = (es.getD q e0).2.1)) (fun j => k - j) 0 ⟨hs, by omega, fun q hq => by omega⟩ zss ?_
              rintro j w3 ⟨hs1, hj, hno⟩ ih2
              have hs : St w NoF w3 [_, _] := hs1
              by_cases hjk : j < k
              · have hy : es[j]? = some es[j] := List.getElem?_eq_getElem (by omega)
                obtain ⟨y, hyd⟩ : ∃ y, y = es[j] := ⟨_, rfl⟩
                rw [← hyd] at hy
                obtain ⟨ry, hry, hrely⟩ := hm.get hy
                have f1 : ry.1 = y.1 := hrely.1
                have my : Sl (tInt .u64) All w ry.2.1.1 ry.2.1.2.1 ry.2.1.2.2 y.2.1 := hrely.2.1
                by_cases g1 : ry.1 = 1
                · by_cases g2 : x.2.1 = y.2.1
                  · have hW : W2 = false := by
                      rw [hW2, List.all_eq_false]
                      exact ⟨j, List.mem_range.2 hjk, by rw [cW hy, decide_eq_true (by omega : y.1 = 1), decide_eq_true g2]; decide⟩
                    rw [hbad (by rw [hsl, hW])]
                    repeat' (first | ((apply bE 134; refine bM rfl gb (by exact aA lQ rfl (fN _ r.2.1.1 ry.2.1.1 r.2.1.2.1 r.2.1.2.2 ry.2.1.2.1 ry.2.1.2.2 x.2.1 y.2.1 (m2.st hs) (my.st hs))) rfl rfl ?_; rintro _ _ ⟨rfl, hE⟩; rw [decide_eq_true g2]; have hs := hs.ext hE; (try simp only [zcc] at hs))) | (apply aH) | ((first | (apply aC) | (apply bA; exact rfl; exact gb)); (first | (apply aT; exact aO (hr.st hs) hry rfl rfl aI) | exact zop); first | (exact rfl; exact rfl) | exact rfl) | (apply aQ) | (apply aB) | (apply aN) | (apply aV) | (apply aF (t := 8); refine JL_o (by apply aR; exact aJ hs) rfl rfl ?_; rintro _ _ ⟨b8, rfl, hb8, hs, hE⟩) | (apply aU; refine JL_u (by apply aP; exact aK hs rfl rfl rfl) rfl ?_; rintro _ _ ⟨hs, hF⟩) | (apply aG; first | refine aS rfl ob ?_ | refine bB rfl gb ?_))
                    refine aM Tryz.func95 rfl (.tmp rfl .nil) ⟨rfl, hs.frm.ext⟩
                  · repeat' (first | ((apply bE 134; refine bM rfl gb (by exact aA lQ rfl (fN _ r.2.1.1 ry.2.1.1 r.2.1.2.1 r.2.1.2.2 ry.2.1.2.1 ry.2.1.2.2 x.2.1 y.2.1 (m2.st hs) (my.st hs))) rfl rfl ?_; rintro _ _ ⟨rfl, hE⟩; rw [decide_eq_false g2]; have hs := hs.ext hE; (try simp only [zcc] at hs))) | (apply aH) | ((first | (apply aC) | (apply bA; exact rfl; exact gb)); (first | (apply aT; exact aO (hr.st hs) hry rfl rfl aI) | exact zop); first | (exact rfl; exact rfl) | exact rfl) | (apply aQ) | (apply aB) | (apply aN) | (apply aW) | (apply aV) | (apply aF (t := 8); refine JL_o (by apply aR; exact aJ hs) rfl rfl ?_; rintro _ _ ⟨b8, rfl, hb8, hs, hE⟩) | (apply aU; refine JL_u (by apply aP; exact aK hs rfl rfl rfl) rfl ?_; rintro _ _ ⟨hs, hF⟩) | (apply aG; first | refine aS rfl ob ?_ | refine bD rfl gb ?_))
                    refine ih2 (j + 1) _ _ ⟨hs.sel [1, 2] (by decide), by omega, fun q hq => ?_⟩ (by omega) zss
                    rcases Nat.lt_or_ge q j with c | c
                    · exact hno q c
                    · have : q = j := by omega
                      subst this; rw [cW hy]; exact fun z => g2 z.2
                · repeat' (first | (apply aH) | ((apply aC); (first | (apply aT; exact aO (hr.st hs) hry rfl rfl aI) | exact zop); first | (exact rfl; exact rfl) | exact rfl) | (apply aQ) | (apply aB) | (apply aN) | (apply aW) | (apply aV) | (apply aF (t := 8); refine JL_o (by apply aR; exact aJ hs) rfl rfl ?_; rintro _ _ ⟨b8, rfl, hb8, hs, hE⟩) | (apply aU; refine JL_u (by apply aP; exact aK hs rfl rfl rfl) rfl ?_; rintro _ _ ⟨hs, hF⟩) | (apply bK; (refine cY rfl gb rfl ?_)) | (apply aG; first | refine aS rfl ob ?_ | refine bD rfl gb ?_))
                  refine ih2 (j + 1) _ _ ⟨hs.sel [1, 2] (by decide), by omega, fun q hq => ?_⟩ (by omega) zss
                  rcases Nat.lt_or_ge q j with c | c
                  · exact hno q c
                  · have : q = j := by omega
                    subst this; rw [cW hy]; exact fun z => g1 (by omega)
              · have hjk : j = k := by omega
                subst hjk
                have hW : W2 = true := by
                  rw [hW2, List.all_eq_true]
                  intro q hq
                  have := hno q (List.mem_range.1 hq)
                  by_cases c1 : (es.getD q e0).1 = 1
                  · rw [decide_eq_false (fun z => this ⟨c1, z⟩)]; simp
                  · rw [decide_eq_false c1]; rfl
                have hg := hgood (by rw [hsl, hW])
                repeat' (first | (apply aH) | ((apply aC); exact zop; first | (exact rfl; exact rfl) | exact rfl) | (apply aQ) | (apply aB) | (apply aW) | (apply bG; refine bP rfl ?_) | (apply aG; first | refine aS rfl ob ?_ | refine aZ rfl ob ?_))
                refine ih (j + 1) _ _ ⟨hs.sel [1] (by decide), by omega, hg⟩ (by omega) (by rw [hcs]; repeat' (first | exact trivial | exact rfl | apply And.intro))
          · rw [hbad (by rw [hsl, decide_eq_false (by omega)]; rfl)]
            have q2' : r.2.2 < 0 := by omega
            repeat' (first | ((apply aL 26; refine JL_o (by exact aA en26 rfl (eQ _ r.2.1.1 r.2.1.2.1 r.2.1.2.2 x.2.1 (m2.st hs))) rfl rfl ?_; rintro _ _ ⟨rfl, hE⟩; rw [ht]; have hs := hs.ext hE; (try simp only [zcc] at hs))) | (apply aH) | ((first | (apply aC) | (apply bA; exact rfl; exact gb)); (first | (apply aT; exact aO (hr.st hs) hrx rfl rfl aI) | exact zop); first | (exact rfl; exact rfl) | exact rfl) | (apply aQ) | (apply aB) | (apply aN) | (apply aV) | (apply aF (t := 6); refine JL_o (by apply aR; exact aJ hs) rfl rfl ?_; rintro _ _ ⟨b6, rfl, hb6, hs, hE⟩) | (apply aU; refine JL_u (by apply aP; exact aK hs rfl rfl rfl) rfl ?_; rintro _ _ ⟨hs, hF⟩) | (apply bK; (refine cY rfl gb rfl ?_)) | (apply aG; first | refine aS rfl ob ?_ | refine aZ rfl ob ?_ | refine bB rfl gb ?_))
            refine aM Tryz.func95 rfl (.tmp rfl .nil) ⟨rfl, hs.frm.ext⟩
      · rw [if_neg (by omega)] at hsl
        rw [hbad hsl]
        repeat' (first | (apply aH) | ((apply aC); (first | (apply aT; exact aO (hr.st hs) hrx rfl rfl aI) | exact zop); first | (exact rfl; exact rfl) | exact rfl) | (apply aQ) | (apply aB) | (apply aN) | (apply aV) | (apply aF (t := 6); refine JL_o (by apply aR; exact aJ hs) rfl rfl ?_; rintro _ _ ⟨b6, rfl, hb6, hs, hE⟩) | (apply aU; refine JL_u (by apply aP; exact aK hs rfl rfl rfl) rfl ?_; rintro _ _ ⟨hs, hF⟩) | (apply aG; first | refine aS rfl ob ?_ | refine aZ rfl ob ?_))
        refine aM Tryz.func95 rfl (.tmp rfl .nil) ⟨rfl, hs.frm.ext⟩
    · have hkn : k = n := by omega
      rw [hkn] at hok ⊢
      rw [hok, Bool.true_and]
      have hcn := aBt es n
      by_cases p4 : 4 * cntN es n ≤ 3 * n
      · by_cases p5 : cntN es n ≤ 4000
        · rw [decide_eq_true p4, decide_eq_true p5]
          repeat' (first | (apply aH) | ((first | (apply aC) | (apply bA; exact rfl; exact gb)); (first | (apply cI; exact jU rfl rfl (by omega) aI) | exact zop); first | (exact rfl; exact rfl) | exact rfl) | (apply aQ) | (apply aB) | (apply bG; refine bP rfl ?_) | (apply aG; refine aZ rfl ob ?_))
          refine aM Tryz.func95 rfl (.tmp rfl .nil) ⟨congrArg Value.bool (decide_eq_true (by omega)), hs.frm.ext⟩
        · rw [decide_eq_true p4, decide_eq_false p5]
          repeat' (first | (apply aH) | ((first | (apply aC) | (apply bA; exact rfl; exact gb)); (first | (apply cI; exact jU rfl rfl (by omega) aI) | exact zop); first | (exact rfl; exact rfl) | exact rfl) | (apply aQ) | (apply aB) | (apply bG; refine bP rfl ?_) | (apply aG; refine aZ rfl ob ?_))
          refine aM Tryz.func95 rfl (.tmp rfl .nil) ⟨congrArg Value.bool (decide_eq_false (by omega)), hs.frm.ext⟩
      · rw [decide_eq_false p4]
        repeat' (first | (apply aH) | ((apply aC); (first | (apply cI; exact jU rfl rfl (by omega) aI) | exact zop); first | (exact rfl; exact rfl) | exact rfl) | (apply aQ) | (apply aB) | (apply bG; refine bP rfl ?_) | (apply bK; (refine cY rfl gb rfl ?_)) | (apply aG; refine aZ rfl ob ?_))
        refine aM Tryz.func95 rfl (.tmp rfl .nil) ⟨rfl, hs.frm.ext⟩
  · rw [decide_eq_false hnN, Bool.false_and]
    repeat' (first | (apply aH) | ((apply aC); exact zop; first | (exact rfl; exact rfl) | exact rfl) | (apply aQ) | (apply aB) | (apply bG; refine bP rfl ?_) | (apply aG; first | refine aS rfl ob ?_ | refine aZ rfl ob ?_))
    refine aM Tryz.func95 rfl (.tmp rfl .nil) ⟨rfl, hs.frm.ext⟩
end Go.Eng
end
section
namespace Go.Eng
set_option linter.unusedSimpArgs false
set_option linter.unusedVariables false
theorem okR_iff (es : List Ent) (k : Nat) : okR es k = true ↔ ∀ i, i < k → nY es i = true := by
  unfold okR; rw [List.all_eq_true]; simp
theorem uJ : ∀ (es : List Ent), stOk es = true → (es.filter (fun x => decide (x.1 ≠ 0))).length = lW es
  | [], _ => rfl
  | x :: es, h => by
    unfold stOk at h
    rw [List.all_cons, Bool.and_eq_true, decide_eq_true_eq] at h
    have ih := uJ es h.2
    have hx := h.1
    unfold lW cnt at ih ⊢
    have h3 : x.1 = 0 ∨ x.1 = 1 ∨ x.1 = 2 := by omega
    rcases h3 with e | e | e <;> simp [e] at ih ⊢ <;> omega
theorem oV (es : List Ent) : qN es = cH es := by
  have key : okR es es.length = true ↔ stOk es = true ∧ okK es es.length = true := by
    rw [okR_iff, pB]
    constructor
    · intro h
      have hst : ∀ (i : Nat) (x : Ent), es[i]? = some x → (x.1 = 0 ∨ x.1 = 1 ∨ x.1 = 2) := by
        intro i x hx
        have hs := h i (List.getElem?_eq_some_iff.1 hx).1
        unfold nY at hs
        rw [cW hx] at hs
        by_cases c : x.1 = 0 ∨ x.1 = 2
        · omega
        · rw [if_neg c] at hs
          by_cases c1 : x.1 = 1
          · omega
          · rw [if_neg c1] at hs; cases hs
      have hdup : ∀ (i j : Nat) (x y : Ent), j < i → es[i]? = some x → es[j]? = some y → x.1 = 1 → y.1 = 1 → x.2.1 ≠ y.2.1 := by
        intro i j x y hji hx hy hx1 hy1 e
        have hs := h i (List.getElem?_eq_some_iff.1 hx).1
        unfold nY at hs
        rw [cW hx, if_neg (by omega), if_pos hx1] at hs
        simp only [Bool.and_eq_true] at hs
        have := List.all_eq_true.1 hs.2.2.2 j (List.mem_range.2 hji)
        rw [cW hy, decide_eq_true hy1, decide_eq_true e] at this
        cases this
      refine ⟨?_, fun i hi => ?_⟩
      · unfold stOk
        rw [List.all_eq_true]
        intro x hx
        obtain ⟨i, hi⟩ := List.mem_iff_getElem?.1 hx
        have := hst i x hi
        exact decide_eq_true (by omega)
      · have hx : es[i]? = some es[i] := List.getElem?_eq_getElem hi
        obtain ⟨x, hxd⟩ : ∃ x, x = es[i] := ⟨_, rfl⟩
        rw [← hxd] at hx
        have hs := h i hi
        unfold nY at hs
        unfold jV
        rw [cW hx] at hs ⊢
        by_cases c1 : x.1 = 1
        · rw [if_neg (by omega), if_pos c1] at hs
          rw [if_pos c1]
          simp only [Bool.and_eq_true, decide_eq_true_eq] at hs ⊢
          obtain ⟨h1, h2, h3, _⟩ := hs
          refine ⟨h1, h2, ?_⟩
          refine kH (fun q hq1 hq2 => ?_) _ _ h3
          by_cases hql : q < es.length
          · have hy : es[q]? = some es[q] := List.getElem?_eq_getElem hql
            rw [cW hy] at hq1 hq2
            rcases Nat.lt_trichotomy q i with c | c | c
            · exact absurd hq2.symm (hdup i q _ _ c hx hy c1 hq1)
            · exact c
            · exact absurd hq2 (hdup q i _ _ c hy hx hq1 c1)
          · exfalso
            have hy : es[q]? = none := List.getElem?_eq_none (by omega)
            rw [List.getD_eq_getElem?_getD, hy] at hq1
            exact absurd hq1 (by decide)
        · rw [if_neg c1]
          have h3 := hst i x hx
          rw [if_pos (by omega)] at hs
          exact hs
    · rintro ⟨hst, h⟩ i hi
      have hx : es[i]? = some es[i] := List.getElem?_eq_getElem hi
      obtain ⟨x, hxd⟩ : ∃ x, x = es[i] := ⟨_, rfl⟩
      rw [← hxd] at hx
      have hs := h i hi
      have hb := of_decide_eq_true (List.all_eq_true.1 hst x (List.mem_of_getElem? hx))
      unfold jV at hs
      unfold nY
      rw [cW hx] at hs ⊢
      by_cases c1 : x.1 = 1
      · rw [if_pos c1] at hs
        rw [if_neg (by omega), if_pos c1]
        simp only [Bool.and_eq_true, decide_eq_true_eq] at hs
        obtain ⟨h1, h2, h3⟩ := hs
        rw [h1, decide_eq_true h2, Bool.true_and, Bool.true_and]
        have hf : pN es x.2.1 i = true := kO _ _ h3
        rw [hf, Bool.true_and, List.all_eq_true]
        intro j hj
        have hji := List.mem_range.1 hj
        have hy : es[j]? = some (es[j]'(by omega)) := List.getElem?_eq_getElem (by omega)
        rw [cW hy]
        by_cases d1 : (es[j]'(by omega)).1 = 1
        · by_cases d2 : x.2.1 = (es[j]'(by omega)).2.1
          · exfalso
            have hs2 := h j (by omega)
            unfold jV at hs2
            rw [cW hy, if_pos d1] at hs2
            simp only [Bool.and_eq_true, decide_eq_true_eq] at hs2
            rw [← d2] at hs2
            have := h3.symm.trans hs2.2.2
            omega
          · rw [decide_eq_false d2]; simp
        · rw [decide_eq_false d1]; rfl
      · rw [if_neg c1] at hs
        rw [if_pos (by omega)]
        exact hs
  have hpow : powB es.length = (decide (8 ≤ es.length) && decide (iand (es.length : Int) ((es.length : Int) - 1) = 0)) := rfl
  unfold qN cH pU
  by_cases hst : stOk es = true
  · have hc : cntN es es.length = lW es := by
      unfold cntN; rw [List.take_length]; exact uJ es hst
    have ho : okR es es.length = okK es es.length := by
      rw [Bool.eq_iff_iff, key]
      exact ⟨fun h => h.2, fun h => ⟨hst, h⟩⟩
    rw [hpow, hc, ho, hst, Bool.true_and]
    cases decide (8 ≤ es.length) <;> cases decide (iand (es.length : Int) ((es.length : Int) - 1) = 0) <;> cases okK es es.length <;> cases decide (4 * lW es ≤ 3 * es.length) <;> cases decide (lW es ≤ 4000) <;> rfl
  · have hst' : stOk es = false := by simpa using hst
    have ho : okR es es.length = false := by
      cases h : okR es es.length with
      | false => rfl
      | true => exact absurd (key.1 h).1 hst
    rw [hst', ho]; simp
end Go.Eng
end
section
namespace Go.Eng
open Go.Proofs
set_option linter.unusedSimpArgs false
set_option linter.unusedVariables false
abbrev ZE := REnt × Ent
theorem kV (zs : List ZE) (p : ZE) : encL bS (zs.map Prod.fst) ++ bS p.1 = encL bS ((zs ++ [p]).map Prod.fst) := by
  rw [List.map_append, fL]; simp [encL]
theorem MeanV.of_all {R : Nat → Prop} {w : World} {zs : List ZE} (h : ∀ p ∈ zs, mEnt.rel R w p.1 p.2) : MeanV mEnt R w (zs.map Prod.fst) (zs.map Prod.snd) := by
  refine ⟨by simp, fun i c x hc hx => ?_⟩
  rw [List.getElem?_map] at hc hx
  obtain ⟨p, hp, rfl⟩ := Option.map_eq_some_iff.1 hc
  rw [hp] at hx
  cases hx
  exact h p (List.mem_of_getElem? hp)
theorem jM {w : World} {b e : Nat} {r : REnt} {fz : Nat × Nat} (h : w.heap[b]? = some (.cells #[.int .i64 r.1, .slice r.2.1.1 r.2.1.2.1 r.2.1.2.2, .int .i64 r.2.2] e fz)) : Src w (some ⟨b, 0, none⟩) 1 3 (bS r) := by
  refine ⟨rfl, fun h => (nomatch h), fun u hu => ?_, fun b' o hb j u hj => ?_⟩
  · simp only [List.mem_cons, List.not_mem_nil, or_false] at hu
    rcases hu with rfl | rfl | rfl <;> rfl
  · cases hb
    exact cA h (by rw [Nat.zero_add]; exact hj)
theorem withM_at {es : List Ent} {e x : Ent} {k : Nat} (h : ∀ y ∈ es.take k, ¬ cmpL e.2.1 y.2.1 < 0) (hx : es[k]? = some x) (hc : cmpL e.2.1 x.2.1 < 0) : jZ es e = es.take k ++ e :: es.drop k := by
  have hk := (List.getElem?_eq_some_iff.1 hx).1
  have hd : es.drop k = x :: es.drop (k + 1) := by
    rw [List.drop_eq_getElem_cons hk, (List.getElem?_eq_some_iff.1 hx).2]
  have hp : ∀ y ∈ es.take k, (fun x : Ent => decide (¬ cmpL e.2.1 x.2.1 < 0)) y = true := fun y hy => decide_eq_true (h y hy)
  have e1 : es.takeWhile (fun x => decide (¬ cmpL e.2.1 x.2.1 < 0)) = es.take k := by
    conv => lhs; rw [← List.take_append_drop k es]
    rw [List.takeWhile_append_of_pos hp, hd, List.takeWhile_cons_of_neg (by simpa using hc), List.append_nil]
  have e2 : es.dropWhile (fun x => decide (¬ cmpL e.2.1 x.2.1 < 0)) = es.drop k := by
    conv => lhs; rw [← List.take_append_drop k es]
    rw [List.dropWhile_append_of_pos hp, hd, List.dropWhile_cons_of_neg (by simpa using hc)]
  unfold jZ; rw [e1, e2]
theorem zM {es : List Ent} {e : Ent} (h : ∀ y ∈ es, ¬ cmpL e.2.1 y.2.1 < 0) : jZ es e = es ++ [e] := by
  have hp : ∀ y ∈ es, (fun x : Ent => decide (¬ cmpL e.2.1 x.2.1 < 0)) y = true := fun y hy => decide_eq_true (h y hy)
  have e1 := List.takeWhile_append_of_pos (l₂ := []) hp
  have e2 := List.dropWhile_append_of_pos (l₂ := []) hp
  rw [List.append_nil] at e1 e2
  unfold jZ; rw [e1, e2]; simp
theorem vB {rs : List REnt} {es : List Ent} {k : Nat} {r : REnt} {x : Ent} (hr : rs[k]? = some r) (hx : es[k]? = some x) : (r, x) ∈ rs.zip es := by
  refine List.mem_of_getElem? (i := k) ?_
  rw [List.getElem?_zip_eq_some]; exact ⟨hr, hx⟩
attribute [local irreducible] Hold J JL JD JX JXat OpR OpG Ret RetV Is Blk Row
set_option maxRecDepth 100000
set_option maxHeartbeats 1000000
theorem zL (w : World) (a : Option Addr) (n c : Nat) (rs : List REnt) (es : List Ent) (re : REnt) (e : Ent) (hr : Sl eV All w a n c rs) (hm : MeanV mEnt All w rs es) (he : mEnt.rel All w re e) (hn : n ≤ 1048576) :
    Ret Tryz.prog 169 #[.slice a n c, .agg (bS re).toArray] w fun v w' => ∃ (zs : List ZE) (a' : Option Addr) (c' : Nat), zs.map Prod.snd = jZ es e ∧ (∀ p ∈ zs, p ∈ rs.zip es ∨ p = (re, e)) ∧ v = .slice a' (n + 1) c' ∧ Fresh w w' [Row a' (n + 1) c' 139 3 (encL bS (zs.map Prod.fst))] := by
  refine bI (l := [_, _]) Tryz.func169 rfl Tryz.ntmps169 (by simp) ?_
  have hs := St.init w
  have hl := hr.len
  have hle : es.length = n := by rw [← hm.1]; exact hl
  have me : Sl (tInt .u64) All w re.2.1.1 re.2.1.2.1 re.2.1.2.2 e.2.1 := he.2.1
  repeat' (first | (apply aH) | ((apply aC); exact zop; first | (exact rfl; exact rfl) | exact rfl) | (apply aQ) | (apply aB) | (apply aN) | (apply aF (t := 3); refine JL_o (by apply bN; exact bC hs rfl) rfl rfl ?_; rintro _ _ ⟨b3, rfl, hb3, hs, hE⟩))
  have hs := hs.nilRow 139 3
  refine bT (α := Nat × Bool × List ZE × Nat × Option Addr × Nat) [(3, _), (9, _), (10, _)] (fun g => [(5, .slice g.2.2.2.2.1 g.2.2.2.1 g.2.2.2.2.2), (6, .bool g.2.1), (11, .int .i64 g.1)])
    (fun g w' => St w NoF w' [Row g.2.2.2.2.1 g.2.2.2.1 g.2.2.2.2.2 139 3 (encL bS (g.2.2.1.map Prod.fst)), Blk b3 (.cells #[.int .i64 re.1, .slice re.2.1.1 re.2.1.2.1 re.2.1.2.2, .int .i64 re.2.2] 139 (0, 0))] ∧ g.1 ≤ n ∧ (∀ p ∈ g.2.2.1, p ∈ rs.zip es ∨ p = (re, e)) ∧
      ((g.2.1 = false ∧ g.2.2.2.1 = g.1 ∧ g.2.2.1.map Prod.snd = es.take g.1 ∧ ∀ x ∈ es.take g.1, ¬ cmpL e.2.1 x.2.1 < 0) ∨ (g.2.1 = true ∧ g.2.2.2.1 = g.1 + 1 ∧ g.2.2.1.map Prod.snd ++ es.drop g.1 = jZ es e)))
    (fun g => n - g.1) (0, false, [], 0, none, 0) ⟨hs, by dsimp only; omega, (fun p hp => (by cases hp)), .inl ⟨rfl, rfl, rfl, (fun x hx => (by cases hx))⟩⟩ zss ?_
  rintro ⟨k, put, zs, m, a', c'⟩ w2 ⟨hs1, hk, hz, hP⟩ ih
  dsimp only at hs1 hk hz hP ih ⊢
  have hs : St w NoF w2 [_, _] := hs1
  by_cases hlt : k < n
  · obtain ⟨p, o, rfl⟩ := hr.sl.addr (by omega)
    have hx : es[k]? = some (es[k]'(by omega)) := List.getElem?_eq_getElem (by omega)
    obtain ⟨x, hxd⟩ : ∃ x, x = es[k]'(by omega) := ⟨_, rfl⟩
    rw [← hxd] at hx
    obtain ⟨r, hrx, hrel⟩ := hm.get hx
    have mx : Sl (tInt .u64) All w r.2.1.1 r.2.1.2.1 r.2.1.2.2 x.2.1 := hrel.2.1
    have hzx : (r, x) ∈ rs.zip es := vB hrx hx
    have hdr : es.drop k = x :: es.drop (k + 1) := by
      rw [List.drop_eq_getElem_cons (by omega), ← hxd]
    have htk : es.take (k + 1) = es.take k ++ [x] := by rw [List.take_add_one, hx]; rfl
    rcases hP with ⟨rfl, hmk, hmap, hno⟩ | ⟨rfl, hmk, hmap⟩
    · by_cases hc : cmpL e.2.1 x.2.1 < 0
      · have hw := withM_at hno hx hc
        have hcc := kV zs (re, e)
        have hcc2 := kV (zs ++ [(re, e)]) (r, x)
        repeat' (first | ((apply bE 221; refine bM rfl gb (by exact aA en221 rfl (rC _ re.2.1.1 r.2.1.1 re.2.1.2.1 re.2.1.2.2 r.2.1.2.1 r.2.1.2.2 e.2.1 x.2.1 (me.st hs) (mx.st hs))) rfl rfl ?_; rintro _ _ ⟨rfl, hE⟩; have hs := hs.ext hE; (try simp only [zcc] at hs))) | ((apply aF (t := 28); refine JL_o (by apply bW; exact cF (xs := encL bS (zs.map Prod.fst)) (news := bS re) hs rfl rfl (jM (hs.blk (b := b27))) cJ rfl (by omega) (by unfold maxLen; omega)) rfl rfl ?_; rintro _ _ ⟨a3, c3, rfl, hs, hF, hnil⟩; rw [show encL bS (zs.map Prod.fst) ++ bS re = encL bS ((zs ++ [(re, e)]).map Prod.fst) from hcc] at hs)) | ((apply aF (t := 32); refine JL_o (by apply bW; exact cF (xs := encL bS ((zs ++ [(re, e)]).map Prod.fst)) (news := bS r) hs rfl rfl (jM (hs.blk (b := b31))) cJ rfl (by omega) (by unfold maxLen; omega)) rfl rfl ?_; rintro _ _ ⟨a4, c4, rfl, hs, hF, hnil⟩; rw [show encL bS ((zs ++ [(re, e)]).map Prod.fst) ++ bS r = encL bS (((zs ++ [(re, e)]) ++ [(r, x)]).map Prod.fst) from hcc2] at hs)) | (apply aH) | ((first | (apply aC) | (apply bA; exact rfl; exact gb)); (first | (apply aT; exact aO (hr.st hs) hrx rfl rfl aI) | exact zop); first | (exact rfl; exact rfl) | exact rfl) | (apply aQ) | (apply aB) | (apply aN) | (apply aW) | (apply aV) | (apply aF (t := 8); refine JL_o (by apply aR; exact aJ hs) rfl rfl ?_; rintro _ _ ⟨b8, rfl, hb8, hs, hE⟩) | (apply aF (t := 27); refine JL_o (by apply bJ; exact bF hs rfl (by omega) rfl) rfl rfl ?_; rintro _ _ ⟨b27, rfl, hb27, hs, hE⟩) | (apply aF (t := 31); refine JL_o (by apply bJ; exact bF hs rfl (by omega) rfl) rfl rfl ?_; rintro _ _ ⟨b31, rfl, hb31, hs, hE⟩) | (apply aU; refine JL_u (by apply aP; exact aK hs rfl rfl rfl) rfl ?_; rintro _ _ ⟨hs, hF⟩) | (apply aG; refine aS rfl ob ?_))
        refine ih (k + 1, true, (zs ++ [(re, e)]) ++ [(r, x)], m + 1 + 1, a4, c4) _ _ ⟨hs.sel [3, 4] (by decide), by dsimp only; omega, ?_, .inr ⟨rfl, by dsimp only; omega, ?_⟩⟩ (by dsimp only; omega) zss
        · intro p hp
          rcases List.mem_append.1 hp with hp | hp
          · rcases List.mem_append.1 hp with hp | hp
            · exact hz p hp
            · exact .inr (List.mem_singleton.1 hp)
          · rw [List.mem_singleton.1 hp]; exact .inl hzx
        · dsimp only
          rw [hw, List.map_append, List.map_append, hmap, hdr]; simp
      · have hcc := kV zs (r, x)
        repeat' (first | ((apply bE 221; refine bM rfl gb (by exact aA en221 rfl (rC _ re.2.1.1 r.2.1.1 re.2.1.2.1 re.2.1.2.2 r.2.1.2.1 r.2.1.2.2 e.2.1 x.2.1 (me.st hs) (mx.st hs))) rfl rfl ?_; rintro _ _ ⟨rfl, hE⟩; have hs := hs.ext hE; (try simp only [zcc] at hs))) | ((apply aF (t := 32); refine JL_o (by apply bW; exact cF (xs := encL bS (zs.map Prod.fst)) (news := bS r) hs rfl rfl (jM (hs.blk (b := b31))) cJ rfl (by omega) (by unfold maxLen; omega)) rfl rfl ?_; rintro _ _ ⟨a4, c4, rfl, hs, hF, hnil⟩; rw [show encL bS (zs.map Prod.fst) ++ bS r = encL bS ((zs ++ [(r, x)]).map Prod.fst) from hcc] at hs)) | (apply aH) | ((first | (apply aC) | (apply bA; exact rfl; exact gb)); (first | (apply aT; exact aO (hr.st hs) hrx rfl rfl aI) | exact zop); first | (exact rfl; exact rfl) | exact rfl) | (apply aQ) | (apply aB) | (apply aN) | (apply aW) | (apply aV) | (apply aF (t := 8); refine JL_o (by apply aR; exact aJ hs) rfl rfl ?_; rintro _ _ ⟨b8, rfl, hb8, hs, hE⟩) | (apply aF (t := 31); refine JL_o (by apply bJ; exact bF hs rfl (by omega) rfl) rfl rfl ?_; rintro _ _ ⟨b31, rfl, hb31, hs, hE⟩) | (apply aU; refine JL_u (by apply aP; exact aK hs rfl rfl rfl) rfl ?_; rintro _ _ ⟨hs, hF⟩) | (apply aG; first | refine aS rfl ob ?_ | refine aZ rfl ob ?_))
        refine ih (k + 1, false, zs ++ [(r, x)], m + 1, a4, c4) _ _ ⟨hs.sel [2, 3] (by decide), by dsimp only; omega, ?_, .inl ⟨rfl, by dsimp only; omega, ?_, ?_⟩⟩ (by dsimp only; omega) zss
        · intro p hp
          rcases List.mem_append.1 hp with hp | hp
          · exact hz p hp
          · rw [List.mem_singleton.1 hp]; exact .inl hzx
        · dsimp only
          rw [List.map_append, hmap, htk]; rfl
        · dsimp only
          intro y hy
          rw [htk] at hy
          rcases List.mem_append.1 hy with hy | hy
          · exact hno y hy
          · rw [List.mem_singleton.1 hy]; exact hc
    · have hcc := kV zs (r, x)
      repeat' (first | ((apply aF (t := 32); refine JL_o (by apply bW; exact cF (xs := encL bS (zs.map Prod.fst)) (news := bS r) hs rfl rfl (jM (hs.blk (b := b31))) cJ rfl (by omega) (by unfold maxLen; omega)) rfl rfl ?_; rintro _ _ ⟨a4, c4, rfl, hs, hF, hnil⟩; rw [show encL bS (zs.map Prod.fst) ++ bS r = encL bS ((zs ++ [(r, x)]).map Prod.fst) from hcc] at hs)) | (apply aH) | ((apply aC); (first | (apply aT; exact aO (hr.st hs) hrx rfl rfl aI) | exact zop); first | (exact rfl; exact rfl) | exact rfl) | (apply aQ) | (apply aB) | (apply aN) | (apply aW) | (apply aV) | (apply aF (t := 8); refine JL_o (by apply aR; exact aJ hs) rfl rfl ?_; rintro _ _ ⟨b8, rfl, hb8, hs, hE⟩) | (apply aF (t := 31); refine JL_o (by apply bJ; exact bF hs rfl (by omega) rfl) rfl rfl ?_; rintro _ _ ⟨b31, rfl, hb31, hs, hE⟩) | (apply aU; refine JL_u (by apply aP; exact aK hs rfl rfl rfl) rfl ?_; rintro _ _ ⟨hs, hF⟩) | (apply bK; (refine cY rfl gb rfl ?_)) | (apply aG; first | refine aS rfl ob ?_ | refine bD rfl gb ?_))
      refine ih (k + 1, true, zs ++ [(r, x)], m + 1, a4, c4) _ _ ⟨hs.sel [2, 3] (by decide), by dsimp only; omega, ?_, .inr ⟨rfl, by dsimp only; omega, ?_⟩⟩ (by dsimp only; omega) zss
      · intro p hp
        rcases List.mem_append.1 hp with hp | hp
        · exact hz p hp
        · rw [List.mem_singleton.1 hp]; exact .inl hzx
      · dsimp only
        rw [← hmap, hdr, List.map_append]; simp
  · have hkn : k = n := by omega
    subst hkn
    rcases hP with ⟨rfl, hmk, hmap, hno⟩ | ⟨rfl, hmk, hmap⟩
    · rw [List.take_of_length_le (by omega)] at hmap hno
      have hw := zM hno
      have hcc := kV zs (re, e)
      subst hmk
      repeat' (first | ((apply aF (t := 39); refine JL_o (by apply bW; exact cF (xs := encL bS (zs.map Prod.fst)) (news := bS re) hs rfl rfl (jM (hs.blk (b := b38))) cJ rfl (by omega) (by unfold maxLen; omega)) rfl rfl ?_; rintro _ _ ⟨a3, c3, rfl, hs, hF, hnil⟩; rw [show encL bS (zs.map Prod.fst) ++ bS re = encL bS ((zs ++ [(re, e)]).map Prod.fst) from hcc] at hs)) | (apply aH) | ((apply aC); exact zop; first | (exact rfl; exact rfl) | exact rfl) | (apply aQ) | (apply aB) | (apply bG; refine bP rfl ?_) | (apply aF (t := 38); refine JL_o (by apply bJ; exact bF hs rfl (by omega) rfl) rfl rfl ?_; rintro _ _ ⟨b38, rfl, hb38, hs, hE⟩) | (apply aG; first | refine aZ rfl ob ?_ | refine bB rfl gb ?_))
      have hs : St w NoF _ [_, _, _] := hs.sel [1, 0, 2] (by decide)
      refine aM Tryz.func169 rfl (.tmp rfl .nil) ⟨zs ++ [(re, e)], _, _, ?_, ?_, rfl, hs.out (.cons_cons _ (List.nil_sublist _))⟩
      · rw [hw, List.map_append, hmap]; rfl
      · intro p hp
        rcases List.mem_append.1 hp with hp | hp
        · exact hz p hp
        · exact .inr (List.mem_singleton.1 hp)
    · rw [List.drop_of_length_le (by omega), List.append_nil] at hmap
      subst hmk
      repeat' (first | (apply aH) | ((apply aC); exact zop; first | (exact rfl; exact rfl) | exact rfl) | (apply aQ) | (apply aB) | (apply bG; refine bP rfl ?_) | (apply aV) | (apply aG; first | refine aZ rfl ob ?_ | refine bD rfl gb ?_))
      refine aM Tryz.func169 rfl (.tmp rfl .nil) ⟨zs, _, _, hmap, hz, rfl, hs.out (.cons_cons _ (List.nil_sublist _))⟩
end Go.Eng
end
section
namespace Go.Eng
open Go.Proofs
set_option linter.unusedSimpArgs false
set_option linter.unusedVariables false
def allK (es : List Ent) (k : Nat) : List Ent := ((es.take k).filter dI).foldl jZ []
theorem aB5 {es : List Ent} {k : Nat} {x : Ent} (hx : es[k]? = some x) : allK es (k + 1) = if x.1 = 1 then jZ (allK es k) x else allK es k := by
  unfold allK
  rw [List.take_add_one, hx, List.filter_append, List.foldl_append]
  by_cases h : x.1 = 1
  · rw [if_pos h]; simp [dI, h]
  · rw [if_neg h]; simp [dI, h]
theorem allK_end (es : List Ent) {k : Nat} (h : es.length ≤ k) : allK es k = allM es := by unfold allK allM; rw [List.take_of_length_le h]
theorem zK {R : Nat → Prop} {w : World} {rs : List REnt} {es : List Ent} {zs : List ZE} (h : MeanV mEnt R w rs es) (hz : ∀ p ∈ zs, p ∈ rs.zip es) : MeanV mEnt R w (zs.map Prod.fst) (zs.map Prod.snd) := .of_all (fun p hp => h.zip p (hz p hp))
theorem zJ {rs : List REnt} {es : List Ent} {zs : List ZE} (hz : ∀ p ∈ zs, p ∈ rs.zip es) (h : ∀ r ∈ rs, okE r) : ∀ r ∈ zs.map Prod.fst, okE r := fun r hr => by
  obtain ⟨p, hp, rfl⟩ := List.mem_map.1 hr
  exact h _ (List.of_mem_zip (hz p hp)).1
theorem tM {w : World} {a : Option Addr} {n c e : Nat} {rs : List REnt} (h : RowV w a n c e 3 (encL bS rs)) (hok : ∀ r ∈ rs, okE r) : Sl eV All w a n c rs := (RowV.slF (d := eV) h (by decide) hok).weak (fun _ _ => trivial)
attribute [local irreducible] Hold J JL JD JX JXat OpR OpG Ret RetV Is Blk Row
set_option maxRecDepth 100000
set_option maxHeartbeats 1000000
theorem all7_r (w : World) (a : Option Addr) (n c : Nat) (rs : List REnt) (es : List Ent) (hr : Sl eV All w a n c rs) (hm : MeanV mEnt All w rs es) (hn : n ≤ 1048576) :
    Ret Tryz.prog 97 #[.agg #[.slice a n c]] w fun v w' => ∃ (zs : List ZE) (a' : Option Addr) (c' : Nat), zs.map Prod.snd = allM es ∧ (∀ p ∈ zs, p ∈ rs.zip es) ∧ v = .slice a' (allM es).length c' ∧ Fresh w w' [Row a' (allM es).length c' 139 3 (encL bS (zs.map Prod.fst))] := by
  refine bI (l := [_]) Tryz.func97 rfl Tryz.ntmps97 (by simp) ?_
  have hs := St.init w
  have hl := hr.len
  have hle : es.length = n := by rw [← hm.1]; exact hl
  obtain ⟨_, _, hokr⟩ := hr.srcF
  repeat' (first | (apply aH) | ((apply aC); exact zop; first | (exact rfl; exact rfl) | exact rfl) | (apply aQ) | (apply aB) | (apply aN) | (apply aF (t := 1); refine JL_o (by apply bN; exact bC hs rfl) rfl rfl ?_; rintro _ _ ⟨b1, rfl, hb1, hs, hE⟩))
  have hs := hs.nilRow 139 3
  refine bT (α := Nat × List ZE × Nat × Option Addr × Nat) [(7, _), (8, _)] (fun g => [(3, .slice g.2.2.2.1 g.2.2.1 g.2.2.2.2), (9, .int .i64 g.1)])
    (fun g w' => St w NoF w' [Row g.2.2.2.1 g.2.2.1 g.2.2.2.2 139 3 (encL bS (g.2.1.map Prod.fst))] ∧ g.1 ≤ n ∧ (∀ p ∈ g.2.1, p ∈ rs.zip es) ∧ g.2.1.map Prod.snd = allK es g.1 ∧ g.2.2.1 = g.2.1.length ∧ g.2.1.length ≤ g.1)
    (fun g => n - g.1) (0, [], 0, none, 0) ⟨hs.sel [0] (by decide), by dsimp only; omega, (fun p hp => (by cases hp)), rfl, rfl, Nat.le_refl _⟩ zss ?_
  rintro ⟨k, zs, m, a', c'⟩ w2 ⟨hs1, hk, hz, hmap, hml, hmk⟩ ih
  dsimp only at hs1 hk hz hmap hml hmk ih ⊢
  by_cases hlt : k < n
  · obtain ⟨p, o, rfl⟩ := hr.sl.addr (by omega)
    have hs : St w NoF w2 [_] := hs1
    have hx : es[k]? = some (es[k]'(by omega)) := List.getElem?_eq_getElem (by omega)
    obtain ⟨x, hxd⟩ : ∃ x, x = es[k]'(by omega) := ⟨_, rfl⟩
    rw [← hxd] at hx
    obtain ⟨r, hrx, hrel⟩ := hm.get hx
    have e1 : r.1 = x.1 := hrel.1
    have hzx : (r, x) ∈ rs.zip es := vB hrx hx
    have hak := aB5 hx
    by_cases h1 : r.1 = 1
    · rw [if_pos (by omega)] at hak
      repeat' (first | ((apply aL 169; refine JL_o (by exact aA en169 rfl (zL _ a' m c' (zs.map Prod.fst) (zs.map Prod.snd) r x (tM (hs.row a' m c') (zJ hz hokr)) (zK (hm.st hs) hz) ((hm.st hs).zip _ hzx) (by omega))) rfl rfl ?_; rintro _ _ ⟨zs3, a3, c3, hw3, hz3, rfl, hf⟩; have hs := hs.fresh hf; (try simp only [zcc] at hs))) | (apply aH) | ((apply aC); (first | (apply aT; exact aO (hr.st hs) hrx rfl rfl aI) | exact zop); first | (exact rfl; exact rfl) | exact rfl) | (apply aQ) | (apply aB) | (apply aN) | (apply aW) | (apply aV) | (apply aF (t := 5); refine JL_o (by apply aR; exact aJ hs) rfl rfl ?_; rintro _ _ ⟨b5, rfl, hb5, hs, hE⟩) | (apply aU; refine JL_u (by apply aP; exact aK hs rfl rfl rfl) rfl ?_; rintro _ _ ⟨hs, hF⟩) | (apply aG; refine aS rfl ob ?_))
      have hmap3 : zs3.map Prod.snd = allK es (k + 1) := by rw [hw3, hmap, hak]
      have hlen3 : zs3.length = m + 1 := by
        have h2 := (mV (zs.map Prod.snd) x).length_eq
        rw [← hw3] at h2
        simp at h2; omega
      refine ih (k + 1, zs3, m + 1, a3, c3) _ _ ⟨hs.sel [0] (by decide), by dsimp only; omega, ?_, hmap3, hlen3.symm, by dsimp only; omega⟩ (by dsimp only; omega) zss
      intro q hq
      rcases hz3 q hq with h | h
      · obtain ⟨i, hi⟩ := List.mem_iff_getElem?.1 h
        rw [List.getElem?_zip_eq_some, List.getElem?_map, List.getElem?_map] at hi
        obtain ⟨u, hu, hu1⟩ := Option.map_eq_some_iff.1 hi.1
        obtain ⟨v, hv, hv1⟩ := Option.map_eq_some_iff.1 hi.2
        rw [hu] at hv
        cases hv
        have : q = u := by rw [← Prod.eta q, ← hu1, ← hv1]
        rw [this]; exact hz u (List.mem_of_getElem? hu)
      · rw [h]; exact hzx
    · rw [if_neg (by omega)] at hak
      repeat' (first | (apply aH) | ((apply aC); (first | (apply aT; exact aO (hr.st hs) hrx rfl rfl aI) | exact zop); first | (exact rfl; exact rfl) | exact rfl) | (apply aQ) | (apply aB) | (apply aN) | (apply aW) | (apply aV) | (apply aF (t := 5); refine JL_o (by apply aR; exact aJ hs) rfl rfl ?_; rintro _ _ ⟨b5, rfl, hb5, hs, hE⟩) | (apply aU; refine JL_u (by apply aP; exact aK hs rfl rfl rfl) rfl ?_; rintro _ _ ⟨hs, hF⟩) | (apply aG; first | refine aS rfl ob ?_ | refine aZ rfl ob ?_))
      refine ih (k + 1, zs, m, a', c') _ _ ⟨hs.sel [1] (by decide), by dsimp only; omega, hz, hmap.trans hak.symm, hml, by dsimp only; omega⟩ (by dsimp only; omega) zss
  · have hs : St w NoF w2 [_] := hs1
    rw [allK_end es (by omega)] at hmap
    have hll : (allM es).length = m := by rw [← hmap, List.length_map, hml]
    repeat' (first | (apply aH) | ((apply aC); exact zop; first | (exact rfl; exact rfl) | exact rfl) | (apply aQ) | (apply aB) | (apply bG; refine bP rfl ?_) | (apply aG; refine aZ rfl ob ?_))
    rw [hll]
    refine aM Tryz.func97 rfl (.tmp rfl .nil) ⟨zs, _, _, hmap, hz, rfl, hs.out (.cons_cons _ (List.nil_sublist _))⟩
end Go.Eng
end
section
namespace Go.Eng
open Go.Proofs
set_option linter.unusedSimpArgs false
set_option linter.unusedVariables false
theorem sH {xs ys : List Ent} {k : Nat} {x y : Ent} (hx : xs[k]? = some x) (hy : ys[k]? = some y) (h : x ≠ y) : decide (xs = ys) = false := by
  refine decide_eq_false (fun e => ?_)
  subst e
  rw [hx] at hy
  exact h (Option.some.inj hy)
attribute [local irreducible] Hold J JL JD JX JXat OpR OpG Ret RetV Is Blk Row
set_option maxRecDepth 100000
set_option maxHeartbeats 1000000
theorem aAb (w : World) (a1 a2 : Option Addr) (n1 c1 n2 c2 : Nat) (xs ys : List Ent) (h1 : Sl dEnt All w a1 n1 c1 xs) (h2 : Sl dEnt All w a2 n2 c2 ys) (hn : n1 ≤ 1048576) :
    Ret Tryz.prog 96 #[.slice a1 n1 c1, .slice a2 n2 c2] w fun v w' => v = .bool (decide (xs = ys)) ∧ Ext w w' := by
  refine bI (l := [_, _]) Tryz.func96 rfl Tryz.ntmps96 (by simp) ?_
  have hs := St.init w
  obtain ⟨rs, hr, hm⟩ := Sl.raw (D := fB) h1
  obtain ⟨qs, hq, hmq⟩ := Sl.raw (D := fB) h2
  have hl := hr.len
  have hl2 := hq.len
  have hle := h1.len
  have hle2 := h2.len
  by_cases hnn : n1 = n2
  · subst hnn
    repeat' (first | (apply aH) | ((apply aC); exact zop; first | (exact rfl; exact rfl) | exact rfl) | (apply aQ) | (apply aB) | (apply aN) | (apply aV) | (apply aG; refine aZ rfl ob ?_))
    refine bT (α := Nat) [(1, _), (12, _), (13, _)] (fun k => [(14, .int .i64 k)]) (fun k w' => St w NoF w' [] ∧ k ≤ n1 ∧ xs.take k = ys.take k) (fun k => n1 - k) 0 ⟨hs, by omega, rfl⟩ zss ?_
    rintro k w' ⟨hs1, hk, hG⟩ ih
    by_cases hlt : k < n1
    · obtain ⟨p1, o1, rfl⟩ := hr.sl.addr (by omega)
      obtain ⟨p2, o2, rfl⟩ := hq.sl.addr (by omega)
      have hs : St w NoF w' [] := hs1
      have hx : xs[k]? = some xs[k] := List.getElem?_eq_getElem (by omega)
      have hy : ys[k]? = some ys[k] := List.getElem?_eq_getElem (by omega)
      obtain ⟨x, hxd⟩ : ∃ x, x = xs[k] := ⟨_, rfl⟩
      obtain ⟨y, hyd⟩ : ∃ y, y = ys[k] := ⟨_, rfl⟩
      rw [← hxd] at hx
      rw [← hyd] at hy
      obtain ⟨r, hrx, hrel⟩ := hm.get hx
      obtain ⟨q, hqx, hqel⟩ := hmq.get hy
      have e1 : r.1 = x.1 := hrel.1
      have e3 : r.2.2 = x.2.2 := hrel.2.2
      have mx : Sl (tInt .u64) All w r.2.1.1 r.2.1.2.1 r.2.1.2.2 x.2.1 := hrel.2.1
      have f1 : q.1 = y.1 := hqel.1
      have f3 : q.2.2 = y.2.2 := hqel.2.2
      have my : Sl (tInt .u64) All w q.2.1.1 q.2.1.2.1 q.2.1.2.2 y.2.1 := hqel.2.1
      by_cases g1 : r.1 = q.1
      · by_cases g3 : r.2.2 = q.2.2
        · by_cases g2 : x.2.1 = y.2.1
          · have hxy : x = y := by
              have a1 : x.1 = y.1 := by omega
              have a3 : x.2.2 = y.2.2 := by omega
              obtain ⟨xa, xb, xc⟩ := x
              obtain ⟨ya, yb, yc⟩ := y
              simp only at a1 a3 g2
              rw [a1, g2, a3]
            have hT := eY hx (by rw [hxy]; exact hy) hG
            repeat' (first | ((apply ax_c; apply bY 134; exact rfl; exact rfl; exact gb; (intro W X hN hs; exact aA lQ rfl (fN _ r.2.1.1 q.2.1.1 r.2.1.2.1 r.2.1.2.2 q.2.1.2.1 q.2.1.2.2 x.2.1 y.2.1 (mx.st hs) (my.st hs))); (rintro _ _ _ _ ⟨rfl, hE⟩; first | exact hE | exact Fresh.ext hf); rintro W X _ _ hN hs ⟨rfl, hE⟩; rw [decide_eq_true g2]; have hs := hs.ext hE; (try simp only [zcc] at hs); refine JX.at hs ?_)) | (apply aH) | ((first | (apply aC) | (apply JX_f; exact rfl; intro W X hs) | (apply dB; exact rfl; exact rfl; exact gb; intro W X hs)); (first | (apply aT; first | exact aO (hr.st hs) hrx rfl rfl aI | exact aX (i := k) (j := 0) (hq.st hs) hqx rfl rfl rfl aI | exact aX (i := k) (j := 2) (hq.st hs) hqx rfl rfl rfl aI | exact aX (i := k) (j := 1) (hq.st hs) hqx rfl rfl rfl aI) | exact zop); first | (exact rfl; exact rfl) | exact rfl) | (apply aQ) | (apply aB) | (apply aN) | (apply aW) | (apply aV) | (apply aF (t := 6); refine JL_o (by apply aR; exact aJ hs) rfl rfl ?_; rintro _ _ ⟨b6, rfl, hb6, hs, hE⟩) | (apply aU; refine JL_u (by apply aP; exact aK hs rfl rfl rfl) rfl ?_; rintro _ _ ⟨hs, hF⟩) | (apply aG; first | refine aS rfl ob ?_ | refine bD rfl gb ?_) | (apply bV; (refine bQ (id := 6) [0, 1, 0, 0, 12, 28, 60, 127, 255, 511, 1023, 511, 511, 6655, 14847, 31231, 65535, 131071, 262143, 524287, 1048575, 524287, 524287, 6815743, 15204351, 31981567, 67108863, 134217727, 268435455] [(0, 0), (1, 0), (2, 0), (3, 0), (4, 0), (5, 0), (6, 0), (7, 0), (8, 0), (9, 0), (10, 0), (11, 0), (12, 0), (13, 0), (14, 0), (15, 0), (16, 0), (17, 0), (18, 0), (19, 0), (20, 0), (21, 0), (22, 0), (23, 0), (24, 0), (25, 0), (26, 1), (27, 0), (28, 0)] [] hs cQ (by kernel_rfl) (by kernel_rfl) (by kernel_rfl) (by kernel_rfl) (by kernel_rfl) ?_)) | (refine bU (fun W hs => ?_)) | (apply cB))
            refine ih (k + 1) _ _ ⟨hs.sel [] (by decide), by omega, hT⟩ (by omega) zss
          · rw [sH hx hy (fun e => g2 (by rw [e]))]
            repeat' (first | ((apply ax_c; apply bY 134; exact rfl; exact rfl; exact gb; (intro W X hN hs; exact aA lQ rfl (fN _ r.2.1.1 q.2.1.1 r.2.1.2.1 r.2.1.2.2 q.2.1.2.1 q.2.1.2.2 x.2.1 y.2.1 (mx.st hs) (my.st hs))); (rintro _ _ _ _ ⟨rfl, hE⟩; first | exact hE | exact Fresh.ext hf); rintro W X _ _ hN hs ⟨rfl, hE⟩; rw [decide_eq_false g2]; have hs := hs.ext hE; (try simp only [zcc] at hs); refine JX.at hs ?_)) | (apply aH) | ((first | (apply aC) | (apply JX_f; exact rfl; intro W X hs) | (apply dB; exact rfl; exact rfl; exact gb; intro W X hs)); (first | (apply aT; first | exact aO (hr.st hs) hrx rfl rfl aI | exact aX (i := k) (j := 0) (hq.st hs) hqx rfl rfl rfl aI | exact aX (i := k) (j := 2) (hq.st hs) hqx rfl rfl rfl aI | exact aX (i := k) (j := 1) (hq.st hs) hqx rfl rfl rfl aI) | exact zop); first | (exact rfl; exact rfl) | exact rfl) | (apply aQ) | (apply aB) | (apply aN) | (apply aV) | (apply aF (t := 6); refine JL_o (by apply aR; exact aJ hs) rfl rfl ?_; rintro _ _ ⟨b6, rfl, hb6, hs, hE⟩) | (apply aU; refine JL_u (by apply aP; exact aK hs rfl rfl rfl) rfl ?_; rintro _ _ ⟨hs, hF⟩) | (apply aG; first | refine aS rfl ob ?_ | refine bB rfl gb ?_) | (apply bV; (refine bQ (id := 6) [0, 1, 0, 0, 12, 28, 60, 127, 255, 511, 1023, 511, 511, 6655, 14847, 31231, 65535, 131071, 262143, 524287, 1048575, 524287, 524287, 6815743, 15204351, 31981567, 67108863, 134217727, 268435455] [(0, 0), (1, 0), (2, 0), (3, 0), (4, 0), (5, 0), (6, 0), (7, 0), (8, 0), (9, 0), (10, 0), (11, 0), (12, 0), (13, 0), (14, 0), (15, 0), (16, 0), (17, 0), (18, 0), (19, 0), (20, 0), (21, 0), (22, 0), (23, 0), (24, 0), (25, 0), (26, 1), (27, 0), (28, 0)] [] hs cQ (by kernel_rfl) (by kernel_rfl) (by kernel_rfl) (by kernel_rfl) (by kernel_rfl) ?_)) | (refine bU (fun W hs => ?_)) | (apply cB))
            refine aM Tryz.func96 rfl (.tmp rfl .nil) ⟨rfl, hs.frm.ext⟩
        · rw [sH hx hy (fun e => g3 (by rw [e3, f3, e]))]
          repeat' (first | (apply aH) | ((first | (apply aC) | (apply JX_f; exact rfl; intro W X hs) | (apply dB; exact rfl; exact rfl; exact gb; intro W X hs)); (first | (apply aT; first | exact aO (hr.st hs) hrx rfl rfl aI | exact aX (i := k) (j := 0) (hq.st hs) hqx rfl rfl rfl aI | exact aX (i := k) (j := 2) (hq.st hs) hqx rfl rfl rfl aI | exact aX (i := k) (j := 1) (hq.st hs) hqx rfl rfl rfl aI) | exact zop); first | (exact rfl; exact rfl) | exact rfl) | (apply aQ) | (apply aB) | (apply aN) | (apply aV) | (apply aF (t := 6); refine JL_o (by apply aR; exact aJ hs) rfl rfl ?_; rintro _ _ ⟨b6, rfl, hb6, hs, hE⟩) | (apply aU; refine JL_u (by apply aP; exact aK hs rfl rfl rfl) rfl ?_; rintro _ _ ⟨hs, hF⟩) | (apply aG; first | refine aS rfl ob ?_ | refine bB rfl gb ?_) | (apply bV; (refine bQ (id := 6) [0, 1, 0, 0, 12, 28, 60, 127, 255, 511, 1023, 511, 511, 6655, 14847, 31231, 65535, 131071, 262143, 524287, 1048575, 524287, 524287, 6815743, 15204351, 31981567, 67108863, 134217727, 268435455] [(0, 0), (1, 0), (2, 0), (3, 0), (4, 0), (5, 0), (6, 0), (7, 0), (8, 0), (9, 0), (10, 0), (11, 0), (12, 0), (13, 0), (14, 0), (15, 0), (16, 0), (17, 0), (18, 0), (19, 0), (20, 0), (21, 0), (22, 0), (23, 0), (24, 0), (25, 0), (26, 1), (27, 0), (28, 0)] [] hs cQ (by kernel_rfl) (by kernel_rfl) (by kernel_rfl) (by kernel_rfl) (by kernel_rfl) ?_)) | (refine bU (fun W hs => ?_)) | (refine cM rfl rfl gb rfl ?_) | (refine cU rfl rfl gb rfl ?_) | (apply cB))
          refine aM Tryz.func96 rfl (.tmp rfl .nil) ⟨rfl, hs.frm.ext⟩
      · rw [sH hx hy (fun e => g1 (by rw [e1, f1, e]))]
        repeat' (first | (apply aH) | ((first | (apply aC) | (apply JX_f; exact rfl; intro W X hs)); (first | (apply aT; first | exact aO (hr.st hs) hrx rfl rfl aI | exact aX (i := k) (j := 0) (hq.st hs) hqx rfl rfl rfl aI | exact aX (i := k) (j := 2) (hq.st hs) hqx rfl rfl rfl aI | exact aX (i := k) (j := 1) (hq.st hs) hqx rfl rfl rfl aI) | exact zop); first | (exact rfl; exact rfl) | exact rfl) | (apply aQ) | (apply aB) | (apply aN) | (apply aV) | (apply aF (t := 6); refine JL_o (by apply aR; exact aJ hs) rfl rfl ?_; rintro _ _ ⟨b6, rfl, hb6, hs, hE⟩) | (apply aU; refine JL_u (by apply aP; exact aK hs rfl rfl rfl) rfl ?_; rintro _ _ ⟨hs, hF⟩) | (apply aG; first | refine aS rfl ob ?_ | refine bB rfl gb ?_) | (apply bV; (refine bQ (id := 6) [0, 1, 0, 0, 12, 28, 60, 127, 255, 511, 1023, 511, 511, 6655, 14847, 31231, 65535, 131071, 262143, 524287, 1048575, 524287, 524287, 6815743, 15204351, 31981567, 67108863, 134217727, 268435455] [(0, 0), (1, 0), (2, 0), (3, 0), (4, 0), (5, 0), (6, 0), (7, 0), (8, 0), (9, 0), (10, 0), (11, 0), (12, 0), (13, 0), (14, 0), (15, 0), (16, 0), (17, 0), (18, 0), (19, 0), (20, 0), (21, 0), (22, 0), (23, 0), (24, 0), (25, 0), (26, 1), (27, 0), (28, 0)] [] hs cQ (by kernel_rfl) (by kernel_rfl) (by kernel_rfl) (by kernel_rfl) (by kernel_rfl) ?_)) | (refine bU (fun W hs => ?_)) | (refine cM rfl rfl gb rfl ?_) | (refine cU rfl rfl gb rfl ?_) | (apply cB))
        refine aM Tryz.func96 rfl (.tmp rfl .nil) ⟨rfl, hs.frm.ext⟩
    · have hs : St w NoF w' [] := hs1
      rw [List.take_of_length_le (by omega), List.take_of_length_le (by omega)] at hG
      rw [decide_eq_true hG]
      repeat' (first | (apply aH) | ((apply aC); exact zop; first | (exact rfl; exact rfl) | exact rfl) | (apply aQ) | (apply aB) | (apply bG; refine bP rfl ?_) | (apply aG; refine aZ rfl ob ?_))
      refine aM Tryz.func96 rfl (.tmp rfl .nil) ⟨rfl, hs.frm.ext⟩
  · rw [decide_eq_false (fun e => hnn (by subst e; omega))]
    repeat' (first | (apply aH) | ((apply aC); exact zop; first | (exact rfl; exact rfl) | exact rfl) | (apply aQ) | (apply aB) | (apply aG; refine aS rfl ob ?_))
    refine aM Tryz.func96 rfl (.tmp rfl .nil) ⟨rfl, hs.frm.ext⟩
end Go.Eng
end
section
namespace Go.Eng
set_option linter.unusedSimpArgs false
set_option linter.unusedVariables false
def pM (es : List Ent) (h : Int) : Nat → Nat → Option Nat
  | 0, _ => none
  | f + 1, k => if (es.getD (cV h es.length k) e0).1 = 0 then some (cV h es.length k) else pM es h f (k + 1)
def vN (es : List Ent) (h : Int) : Option Nat := pM es h es.length 0
def insE (es : List Ent) (e : Ent) : List Ent := match vN es (ofM e.2.1) with | some q => es.set q e | none => es
theorem qV {es : List Ent} {h : Int} {q : Nat} : ∀ (f k : Nat), pM es h f k = some q → ∃ j, k ≤ j ∧ j < k + f ∧ q = cV h es.length j ∧ (es.getD q e0).1 = 0 ∧ ∀ i, k ≤ i → i < j → (es.getD (cV h es.length i) e0).1 ≠ 0
  | 0, k, e => by unfold pM at e; cases e
  | f + 1, k, e => by
    unfold pM at e
    by_cases c : (es.getD (cV h es.length k) e0).1 = 0
    · rw [if_pos c] at e
      cases e
      exact ⟨k, Nat.le_refl _, by omega, rfl, c, fun i h1 h2 => by omega⟩
    · rw [if_neg c] at e
      obtain ⟨j, h1, h2, h3, h4, h5⟩ := qV f (k + 1) e
      refine ⟨j, by omega, by omega, h3, h4, fun i hi hij => ?_⟩
      by_cases hik : i = k
      · rw [hik]; exact c
      · exact h5 i (by omega) hij
theorem qW {es : List Ent} {h : Int} : ∀ (f k : Nat), pM es h f k = none → ∀ i, k ≤ i → i < k + f → (es.getD (cV h es.length i) e0).1 ≠ 0
  | 0, k, e, i, h1, h2 => by omega
  | f + 1, k, e, i, h1, h2 => by
    unfold pM at e
    by_cases c : (es.getD (cV h es.length k) e0).1 = 0
    · rw [if_pos c] at e; cases e
    · rw [if_neg c] at e
      by_cases hik : i = k
      · rw [hik]; exact c
      · exact qW f (k + 1) e i (by omega) (by omega)
theorem aAj (h : Int) {m q : Nat} (hq : q < m) : ∃ k, k < m ∧ cV h m k = q := by
  have hm : h.toNat % m < m := Nat.mod_lt _ (by omega)
  refine ⟨(q + m - h.toNat % m) % m, Nat.mod_lt _ (by omega), ?_⟩
  unfold cV
  rw [Nat.mod_mod, Nat.add_mod_mod, show h.toNat % m + (q + m - h.toNat % m) = q + m by omega, Nat.add_mod_right, Nat.mod_eq_of_lt hq]
theorem jS {es : List Ent} {q s : Nat} {e : Ent} (h : s ≠ q) : (es.set q e).getD s e0 = es.getD s e0 := by
  rw [List.getD_eq_getElem?_getD, List.getD_eq_getElem?_getD, List.getElem?_set_ne (by omega)]
theorem jT {es : List Ent} {q : Nat} {e : Ent} (h : q < es.length) : (es.set q e).getD q e0 = e := by
  rw [List.getD_eq_getElem?_getD, List.getElem?_set_self h]; rfl
theorem qQ {es : List Ent} {t : List Int} {h : Int} {q : Nat} {e : Ent} (hq : (es.getD q e0).1 = 0) {i : Nat} : ∀ (f k : Nat), eZ es t h f k = (i : Int) → eZ (es.set q e) t h f k = (i : Int)
  | 0, k, w => by unfold eZ at w; omega
  | f + 1, k, w => by
    unfold eZ at w ⊢
    rw [List.length_set]
    by_cases c : (es.getD (cV h es.length k) e0).1 = 0
    · rw [if_pos c] at w; omega
    · have hne : cV h es.length k ≠ q := fun z => c (by rw [z]; exact hq)
      rw [jS hne, if_neg c]
      rw [if_neg c] at w
      split
      · rename_i c2; rw [if_pos c2] at w; exact w
      · rename_i c2; rw [if_neg c2] at w; exact qQ hq f (k + 1) w
theorem oY {es : List Ent} {t : List Int} {h : Int} {j : Nat} : ∀ (f k : Nat), k ≤ j → j < k + f → (∀ i, k ≤ i → i < j → (es.getD (cV h es.length i) e0).1 ≠ 0 ∧ ¬ ((es.getD (cV h es.length i) e0).1 = 1 ∧ (es.getD (cV h es.length i) e0).2.1 = t)) → (es.getD (cV h es.length j) e0).1 = 1 → (es.getD (cV h es.length j) e0).2.1 = t → eZ es t h f k = (cV h es.length j : Nat)
  | 0, k, h1, h2, _, _, _ => by omega
  | f + 1, k, h1, h2, hn, hj1, hj2 => by
    unfold eZ
    by_cases c : k = j
    · subst c
      rw [if_neg (by omega), if_pos ⟨hj1, hj2⟩]
    · obtain ⟨n1, n2⟩ := hn k (Nat.le_refl _) (by omega)
      rw [if_neg n1, if_neg n2]
      exact oY f (k + 1) (by omega) (by omega) (fun i hi hij => hn i (by omega) hij) hj1 hj2
theorem yK {es : List Ent} {q : Nat} {x e : Ent} (hx : es[q]? = some x) (hx1 : x.1 ≠ 1) (he : e.1 = 1) : ((es.set q e).filter dI).Perm (es.filter dI ++ [e]) := by
  have hq := (List.getElem?_eq_some_iff.1 hx).1
  have h1 : es = es.take q ++ x :: es.drop (q + 1) := by
    conv => lhs; rw [← List.take_append_drop q es, List.drop_eq_getElem_cons hq, (List.getElem?_eq_some_iff.1 hx).2]
  have h2 : es.set q e = es.take q ++ e :: es.drop (q + 1) := by
    rw [List.set_eq_take_append_cons_drop, if_pos hq]
  rw [h2]
  conv => rhs; rw [h1]
  rw [List.filter_append, List.filter_append, List.filter_cons_of_pos (by simp [dI, he]), List.filter_cons_of_neg (by simp [dI, hx1])]
  refine List.perm_middle.trans ?_
  exact (List.perm_append_comm (l₁ := [e])).trans (List.Perm.refl _)
structure Lay (many : Nat) (done es : List Ent) : Prop where
  len : es.length = many
  el : ∀ x ∈ es, x = e0 ∨ x.1 = 1
  perm : (es.filter dI).Perm done
  at_ : ∀ (i : Nat) (x : Ent), es[i]? = some x → x.1 = 1 → eU es x.2.1 = (i : Int)
theorem Lay.start (many : Nat) : Lay many [] (List.replicate many e0) :=
  ⟨by simp, fun x hx => .inl (List.eq_of_mem_replicate hx), by
    rw [List.filter_eq_nil_iff.2 (fun x hx => by rw [List.eq_of_mem_replicate hx]; decide)], fun i x hx h1 => by
    have := List.eq_of_mem_replicate (List.mem_of_getElem? hx)
    rw [this] at h1; exact absurd h1 (by decide)⟩
theorem Lay.free {many : Nat} {done es : List Ent} (h : Lay many done es) (hlt : done.length < many) (g : Int) : ∃ q, vN es g = some q := by
  cases hf : vN es g with
  | some q => exact ⟨q, rfl⟩
  | none =>
    exfalso
    have hall : ∀ x ∈ es, x.1 ≠ 0 := by
      intro x hx
      obtain ⟨q, hq⟩ := List.mem_iff_getElem?.1 hx
      obtain ⟨k, hk, hp⟩ := aAj g (m := es.length) (List.getElem?_eq_some_iff.1 hq).1
      have := qW _ _ hf k (Nat.zero_le _) (by omega)
      rw [hp, cW hq] at this
      exact this
    have hfe : es.filter dI = es := List.filter_eq_self.2 (fun x hx => by
      rcases h.el x hx with rfl | h1
      · exact absurd rfl (hall _ hx)
      · exact decide_eq_true h1)
    have := h.perm.length_eq
    rw [hfe, h.len] at this
    omega
theorem Lay.step {many : Nat} {done es : List Ent} (h : Lay many done es) {e : Ent} (he : e.1 = 1) (hd : ∀ y ∈ done, y.2.1 ≠ e.2.1) (hlt : done.length < many) :
    ∃ q, vN es (ofM e.2.1) = some q ∧ insE es e = es.set q e ∧ Lay many (done ++ [e]) (es.set q e) := by
  obtain ⟨q, hq⟩ := h.free hlt (ofM e.2.1)
  refine ⟨q, hq, by unfold insE; rw [hq], ?_⟩
  obtain ⟨j, _, hj, hqj, hq0, hbef⟩ := qV _ _ hq
  have hlen := h.len
  have hql : q < es.length := by rw [hqj]; exact jB _ _ (by omega)
  have hx : es[q]? = some es[q] := List.getElem?_eq_getElem hql
  have hx0 : es[q].1 = 0 := by rw [← cW hx]; exact hq0
  have hnew : eU (es.set q e) e.2.1 = (q : Int) := by
    unfold eU
    rw [List.length_set]
    have := oY (es := es.set q e) (t := e.2.1) (h := ofM e.2.1) (j := j) es.length 0 (Nat.zero_le _) hj (fun i hi hij => ?_) ?_ ?_
    · rw [this, List.length_set, ← hqj]
    · rw [List.length_set]
      have hb := hbef i hi hij
      have hne : cV (ofM e.2.1) es.length i ≠ q := fun z => hb (by rw [z]; exact hq0)
      rw [jS hne]
      refine ⟨hb, fun z => ?_⟩
      have hsl : cV (ofM e.2.1) es.length i < es.length := jB _ _ (by omega)
      have hy : es[cV (ofM e.2.1) es.length i]? = some (es[cV (ofM e.2.1) es.length i]'hsl) := List.getElem?_eq_getElem hsl
      rw [cW hy] at z
      refine hd _ (h.perm.mem_iff.1 (List.mem_filter.2 ⟨List.mem_of_getElem? hy, decide_eq_true z.1⟩)) z.2
    · rw [List.length_set, ← hqj, jT hql]; exact he
    · rw [List.length_set, ← hqj, jT hql]
  refine ⟨by rw [List.length_set]; exact hlen, fun x hx' => ?_, ?_, fun i x hi h1 => ?_⟩
  · rcases List.mem_or_eq_of_mem_set hx' with hm | rfl
    · exact h.el x hm
    · exact .inr he
  · exact (yK hx (by omega) he).trans (h.perm.append_right [e])
  · rw [List.getElem?_set] at hi
    split at hi
    · rename_i hqi
      subst hqi
      try rw [if_pos hql] at hi
      cases hi
      exact hnew
    · have := h.at_ i x hi h1
      unfold eU at this ⊢
      rw [List.length_set]
      exact qQ hq0 _ _ this
theorem Lay.check {many : Nat} {done es : List Ent} (h : Lay many done es) (hp : powB many = true) (hok : ∀ x ∈ done, dF x.2.1 = true ∧ 0 ≤ x.2.2) (h4 : 4 * done.length ≤ 3 * many) (h5 : done.length ≤ 4000) : cH es = true := by
  have h01 : ∀ x ∈ es, x.1 = 0 ∨ x.1 = 1 := fun x hx => by
    rcases h.el x hx with rfl | h1
    · exact .inl rfl
    · exact .inr h1
  have hst : stOk es = true := by
    unfold stOk; rw [List.all_eq_true]
    exact fun x hx => decide_eq_true (by have := h01 x hx; omega)
  have htk : lW es = done.length := by
    unfold lW cnt
    have e2 : es.filter (fun x => decide (x.1 = 2)) = [] := List.filter_eq_nil_iff.2 (fun x hx => by have := h01 x hx; simp; omega)
    rw [e2, List.length_nil, Nat.add_zero]
    exact h.perm.length_eq
  unfold powB at hp
  rw [Bool.and_eq_true, decide_eq_true_eq, decide_eq_true_eq] at hp
  unfold cH pU
  rw [htk, hst, h.len, decide_eq_true hp.1, decide_eq_true hp.2, decide_eq_true h4, decide_eq_true h5]
  rw [Bool.true_and, Bool.true_and, Bool.true_and, Bool.true_and, Bool.true_and, pB]
  intro i hi
  have hx : es[i]? = some (es[i]'(by rw [h.len]; exact hi)) := List.getElem?_eq_getElem _
  obtain ⟨x, hxd⟩ : ∃ x, x = es[i]'(by rw [h.len]; exact hi) := ⟨_, rfl⟩
  rw [← hxd] at hx
  have hmem := List.mem_of_getElem? hx
  unfold jV
  rw [cW hx]
  by_cases c : x.1 = 1
  · rw [if_pos c]
    obtain ⟨o1, o2⟩ := hok x (h.perm.mem_iff.1 (List.mem_filter.2 ⟨hmem, decide_eq_true c⟩))
    rw [o1, decide_eq_true o2, decide_eq_true (h.at_ i x hx c)]; rfl
  · rw [if_neg c]
    rcases h.el x hmem with rfl | h1
    · decide
    · exact absurd h1 c
end Go.Eng
end
section
namespace Go.Eng
open Go.RowKit
set_option linter.unusedVariables false
set_option linter.unusedSimpArgs false
def IterG (P : Program) (fv : Value) (N : Nat) (X : Nat → List Value → List HP → Prop) (wr : World) (Kp : Nat → Prop) (G : List HP → Prop) : Prop :=
  ∀ y C Cs w c, sU P y N X C Cs w c → (∀ k, Kp k → w.heap[k]? = wr.heap[k]? ∧ ¬ (Star c).foot k) → (∀ i c, C i c → G c) → C 0 c → Held w c →
    RetV P fv #[y] w (fun _ w' => ∃ c', (C N c' ∨ Cs c') ∧ Turn w c w' c')
section
variable {P : Program} {f : FuncId} {ro : Option Nat} {n : Nat} {R : Value → World → Prop} {k : List Item} {ds : List Deferred} {env : Env} {w0 w : World} {F : Nat → Prop} {A L : List HP}
theorem J_rangeG {G : List HP → Prop} {fop : Operand} {ps : List Tmp} {asg body : Code} {fv : Value} {N : Nat} {X : Nat → List Value → List HP → Prop} {wr : World} {Kp : Nat → Prop} (hs : St w0 F w (A ++ L)) (hf : ev env fop = some fv) (hfv : IsFun P fv) (it : IterG P fv N X wr Kp G)
    (C : Nat → List HP → Prop) (Cs : Code → List HP → Prop) (hG : ∀ l o i A1, C i A1 → G (Blk l o :: A1)) (h0 : C 0 A) (hKp : ∀ k, Kp k → w.heap[k]? = wr.heap[k]? ∧ ¬ (Star A).foot k ∧ k < w.heap.size) (hps : ∀ t ∈ ps, t < n) (hX : ∀ i vals cx, X i vals cx → vals.length = ps.length)
    (hbody : ∀ l D tm i w1 A1 cx vals, w.heap.size ≤ D → D < l → i < N → C i A1 → X i vals cx → Held w1 (Blk l (rec_ .ready none f tm ps.toArray asg body D) :: (A1 ++ cx)) → (∀ k, k < w.heap.size → ¬ (Star A).foot k → w1.heap[k]? = w.heap[k]?) →
      J P f (some l) n (uV C Cs l D tm f ps.toArray asg body i w1 (Blk l (rec_ .ready none f tm ps.toArray asg body D) :: (A1 ++ cx))) [.code asg, .beginRound, .code body] [] (tQ ps vals env) w1)
    (hdone : ∀ w2 D A2, C N A2 → St w0 F w2 (Blk D (.deferred (some [])) :: (A2 ++ L)) → J P f none n R k (⟨.collected D, #[]⟩ :: ds) env w2)
    (hstop : ∀ w2 D A2 j, Cs j A2 → St w0 F w2 (Blk D (.deferred (some [])) :: (A2 ++ L)) → J P f none n R (.code j :: k) (⟨.collected D, #[]⟩ :: ds) env w2) :
    J P f none n R (.code (.rangeFunc fop ps.toArray asg body) :: k) ds env w := by
  intro tmps cs hn hm
  -- entering
  obtain ⟨D, hD⟩ : ∃ D, w.heap.size = D := ⟨_, rfl⟩
  let w1 : World := w.alloc (.deferred (some []))
  let w2 : World := w1.alloc (rec_ .ready none f tmps ps.toArray asg body D)
  have hf1 := Fresh.alloc w (.deferred (some []))
  have hf2 := Fresh.alloc w1 (rec_ .ready none f tmps ps.toArray asg body D)
  have hs1 : w1.heap.size = D + 1 := by simp [w1, hD]
  rw [hD] at hf1
  rw [hs1] at hf2
  have hst : St w0 F w2 (Blk (D + 1) (rec_ .ready none f tmps ps.toArray asg body D) :: (A ++ (Blk D (.deferred (some [])) :: L))) := by
    have := ((hs.fresh hf1).fresh hf2)
    exact this.perm (List.Perm.cons _ (by simpa using (List.perm_middle (l₁ := A) (a := Blk D (.deferred (some []))) (l₂ := L)).symm))
  have he : (Instr.enterLoop (base f none).fn tmps ps.toArray asg body (base f none).roundOf).run P w = .ok (D + 1, [⟨.collected D, #[]⟩]) w2 := by
    simp only [Instr.enterLoop, base, newObj, Sem.run_bind, Sem.run, Result.andThen_ok, Sem.run_pure, hD]
    congr 1
    congr 1
  have hsz2 : w2.heap.size = D + 2 := by simp [w2, hs1]
  have hw2 : ∀ k, k < w.heap.size → w2.heap[k]? = w.heap[k]? := fun k hk => by
    rw [hf2.ext.block k (by rw [hs1]; omega), hf1.ext.block k hk]
  -- the function is called
  obtain ⟨c0, hc0⟩ : ∃ c0 : List HP, c0 = Blk (D + 1) (rec_ .ready none f tmps ps.toArray asg body D) :: A := ⟨_, rfl⟩
  have hheld : Held w2 c0 := by rw [hc0]; exact St.held (L := Blk D (.deferred (some [])) :: L) hst
  have hstar : ∀ k, k < w.heap.size → (Star c0).foot k → (Star A).foot k := fun k hk ⟨c, hc, hck⟩ => by
    rw [hc0] at hc
    rcases List.mem_cons.1 hc with rfl | hc
    · simp only [Blk] at hck; omega
    · exact ⟨c, hc, hck⟩
  have hy : sU P (.func (.yield (D + 1)) #[] #[]) N X (fun i c => ∃ A1, c = Blk (D + 1) (rec_ .ready none f tmps ps.toArray asg body D) :: A1 ∧ C i A1)
      (fun c => ∃ j A1, c = Blk (D + 1) (rec_ .done (some j) f tmps ps.toArray asg body D) :: A1 ∧ Cs j A1) w2 c0 := by
    rintro i w3 vals cx c hi ⟨A1, rfl, hC⟩ hXi hh hF
    have hl : w3.heap[D + 1]? = some (rec_ .ready none f tmps ps.toArray asg body D) := hh.1.1 _ (List.mem_append_left _ List.mem_cons_self)
    have hlen := hX i vals cx hXi
    refine ⟨⟨.fn (.yield (D + 1)) #[], vals.toArray⟩, .round (D + 1) f ((ps.zip vals).foldl (fun (tm : Array Value) (x : Tmp × Value) => tm.setIfInBounds x.1 x.2) tmps) asg body, w3, ?_, ?_, ?_⟩
    · simp [Deferred.ofValue]
    · simp only [invoke, Instr.yield, Instr.getLoop, getObj, Sem.run_bind, Sem.run, hl, rec_, Result.andThen_ok, Sem.run_pure, List.size_toArray, hlen, ne_eq, not_true_eq_false, if_false]
      congr 2
      simp
    · intro cf cs'
      obtain ⟨hsz, hmt⟩ := nR ps vals tmps env hn hps hm hlen.symm
      have hJ := hbody (D + 1) D tmps i w3 A1 cx vals (by omega) (by omega) hi hC hXi hh (fun k hk hnA => by
        rw [hF.old k (by rw [hsz2]; omega) (fun hc => hnA (hstar k hk hc)), hw2 k hk])
      obtain ⟨v, w', fr, w'', hR, hst', hfin⟩ := hJ _ (cf :: cs') hsz hmt
      refine ⟨v, w', ?_, hst'.trans (hfin cf cs' rfl)⟩
      rcases hR with ⟨rfl, A', hA', ht⟩ | ⟨rfl, j, A', hA', ht⟩
      · exact ⟨_, .inl ⟨rfl, A', rfl, hA'⟩, ht⟩
      · exact ⟨_, .inr ⟨rfl, j, A', rfl, hA'⟩, ht⟩
  obtain ⟨d, nx, w3, hres, hinv, hnx⟩ := it (.func (.yield (D + 1)) #[] #[]) _ _ w2 c0 hy (fun k hk => by
    obtain ⟨h1, h2, h3⟩ := hKp k hk
    exact ⟨by rw [hw2 k h3]; exact h1, fun hc => h2 (hstar k h3 hc)⟩) (fun i c => by rintro ⟨A1, rfl, hC⟩; exact hG _ _ i A1 hC) ⟨A, hc0, h0⟩ hheld
  have hresolve : (resolve (Act.eval ⟨tmps, ds⟩) (rangeCall fop (D + 1)) 0).run P w2 = .ok d w2 := by
    have e : Act.eval ⟨tmps, ds⟩ fop = fv := hm.eval hf
    simp only [resolve, e]
    have e2 : (#[Operand.const (.func (.yield (D + 1)) #[] #[])] : Array Operand).map (Act.eval ⟨tmps, ds⟩) = #[.func (.yield (D + 1)) #[] #[]] := by simp [Act.eval]
    rw [e2]; exact hres
  -- what lies behind it
  have after : ∀ v w4 c', ((∃ A1, c' = Blk (D + 1) (rec_ .ready none f tmps ps.toArray asg body D) :: A1 ∧ C N A1) ∨ ∃ j A1, c' = Blk (D + 1) (rec_ .done (some j) f tmps ps.toArray asg body D) :: A1 ∧ Cs j A1) → Turn w2 c0 w4 c' →
      ∃ v' w' fr w'', R v' w' ∧ Steps P (lone (((base f none).atR ⟨tmps, ⟨.collected D, #[]⟩ :: ds⟩ (.inRangeFunc (D + 1) :: k)).finish v) cs w4) (lone fr cs w'') ∧ Fin P f none fr cs w'' v' w' := by
    intro v w4 c' hc' ht
    rw [finish_atR_inRangeFunc]
    have hst4 : St w0 F w4 (c' ++ (Blk D (.deferred (some [])) :: L)) := by
      refine St.take (A := c0) ?_ ht
      rw [hc0]; exact hst
    rcases hc' with ⟨A1, rfl, hC⟩ | ⟨j, A1, rfl, hC⟩
    · have hl : w4.heap[D + 1]? = some (rec_ .ready none f tmps ps.toArray asg body D) := hst4.all (Blk (D + 1) (rec_ .ready none f tmps ps.toArray asg body D)) (by simp)
      have hend : (Instr.endLoop (D + 1)).run P w4 = .ok none { w4 with heap := w4.heap.setIfInBounds (D + 1) (rec_ .exhausted none f tmps ps.toArray asg body D) } := by
        have hb : (LoopState.ready == LoopState.busy) = false := rfl
        simp [Instr.endLoop, Instr.getLoop, getObj, setObj, Sem.run, hl, rec_]
      have hst5 := hst4.set (b := D + 1) (o := rec_ .ready none f tmps ps.toArray asg body D) (o' := rec_ .exhausted none f tmps ps.toArray asg body D) (L' := Blk (D + 1) (rec_ .exhausted none f tmps ps.toArray asg body D) :: (A1 ++ (Blk D (.deferred (some [])) :: L))) (u := ⟨Up.head _ _ _⟩)
      have hst6 : St w0 F _ (Blk D (.deferred (some [])) :: (A1 ++ L)) := (hst5.sub (M := A1 ++ (Blk D (.deferred (some [])) :: L)) (List.sublist_cons_self _ _)).perm List.perm_middle
      obtain ⟨v', w', fr, w'', hR, hs', hfin⟩ := hdone _ D A1 hC hst6 tmps cs hn hm
      exact ⟨v', w', fr, w'', hR, .head (stepR_endRangeFunc hend) hs', hfin⟩
    · have hl : w4.heap[D + 1]? = some (rec_ .done (some j) f tmps ps.toArray asg body D) := hst4.all (Blk (D + 1) (rec_ .done (some j) f tmps ps.toArray asg body D)) (by simp)
      have hend : (Instr.endLoop (D + 1)).run P w4 = .ok (some j) { w4 with heap := w4.heap.setIfInBounds (D + 1) (rec_ .exhausted (some j) f tmps ps.toArray asg body D) } := by
        simp [Instr.endLoop, Instr.getLoop, getObj, setObj, Sem.run, hl, rec_]
      have hst5 := hst4.set (b := D + 1) (o := rec_ .done (some j) f tmps ps.toArray asg body D) (o' := rec_ .exhausted (some j) f tmps ps.toArray asg body D) (L' := Blk (D + 1) (rec_ .exhausted (some j) f tmps ps.toArray asg body D) :: (A1 ++ (Blk D (.deferred (some [])) :: L))) (u := ⟨Up.head _ _ _⟩)
      have hst6 : St w0 F _ (Blk D (.deferred (some [])) :: (A1 ++ L)) := (hst5.sub (M := A1 ++ (Blk D (.deferred (some [])) :: L)) (List.sublist_cons_self _ _)).perm List.perm_middle
      obtain ⟨v', w', fr, w'', hR, hs', hfin⟩ := hstop _ D A1 j hC hst6 tmps cs hn hm
      exact ⟨v', w', fr, w'', hR, .head (stepR_endRangeFunc hend) hs', hfin⟩
  obtain ⟨g0, cap, rfl, hen⟩ := hfv
  have hnx' : ∃ g as_, nx = .enter g as_ ∧ w3 = w2 := by
    simp only [Deferred.ofValue, Sem.run_pure, Result.ok.injEq] at hres
    obtain ⟨rfl, -⟩ := hres
    simp only [invoke] at hinv
    rw [hen] at hinv
    injection hinv with h1 h2
    exact ⟨_, _, h1.symm, h2.symm⟩
  cases nx with
  | enter g as_ =>
    obtain ⟨v, w4, fr1, ⟨c', hc', ht⟩, hst1, hfn, hlv⟩ := hnx ((base f none).atR ⟨tmps, ⟨.collected D, #[]⟩ :: ds⟩ (.inRangeFunc (D + 1) :: k) :: cs)
    obtain ⟨v', w', fr, w'', hR, hs', hfin⟩ := after v w4 c' hc' ht
    exact ⟨v', w', fr, w'', hR, .head (stepR_rangeFunc he hresolve hinv) (hst1.trans (.head (step_leave_returned hlv) hs')), hfin⟩
  | _ => obtain ⟨_, _, h, _⟩ := hnx'; cases h
end
end Go.Eng
end
section
namespace Go.Eng
open Go.Proofs
set_option linter.unusedSimpArgs false
set_option linter.unusedVariables false
abbrev bZ (a : Option Addr) (n c : Nat) (rs : List REnt) : HP := Row a n c 139 3 (encL bS rs)
theorem tabSl {W : World} {a : Option Addr} {n c : Nat} {rs : List REnt} (h : (bZ a n c rs).holds W) (hok : ∀ r ∈ rs, okE r) : Sl eV All W a n c rs := tM h hok
def turnKG (bt bl : Nat) (a2 : Option Addr) (n2 : Nat) (k : Nat) : Prop := k = bt ∨ k = bl ∨ (dH a2 k ∧ 0 < n2)
theorem aBa {es : List Ent} {h : Int} {k : Nat} (hk : k < es.length) {q : Nat} (hq : q = cV h es.length k) {x : Ent} (hx : es[q]? = some x) :
    pM es h (es.length - k) k = if x.1 = 0 then some q else pM es h (es.length - (k + 1)) (k + 1) := by
  rw [show es.length - k = (es.length - (k + 1)) + 1 by omega, pM, ← hq, cW hx]
attribute [local irreducible] Hold J JL JD JX JXat OpR OpG Ret RetV Is Blk Row
set_option maxRecDepth 100000
set_option maxHeartbeats 1000000
theorem vE (wr : World) (bt bl : Nat) (a2 : Option Addr) (n2 c2 : Nat) (t : List Int) (a : Option Addr) (n c : Nat) (rs : List REnt) (h2 : Sl (tInt .u64) (fun k => dH a2 k ∧ 0 < n2) wr a2 n2 c2 t) (hl : rs.length = n) (hok : ∀ r ∈ rs, okE r) (hn : n ≤ 1048576)
    (hbt : wr.heap[bt]? = some (.cells #[.slice a2 n2 c2] 43 (0, 0))) (hbl : wr.heap[bl]? = some (.cells #[.slice a n c] 55 (0, 0))) :
    IterG Tryz.prog (.func (.func 243) #[] #[ptr bt, ptr bl]) n (turnX rs (ofM t)) wr (turnKG bt bl a2 n2) (fun cc => bZ a n c rs ∈ cc) := by
  intro y C Cs w c0 hy hK hGd h0 hheld
  refine RetV.closure (avs := [_]) (cap := [_, _]) en243 ?_
  refine bI (l := [_, _, _]) Tryz.func243 rfl Tryz.ntmps243 (by simp) ?_
  have hs := hheld.st
  have htw := (hK bt (.inl rfl)).1.trans hbt
  have htF := (hK bt (.inl rfl)).2
  have hlw := (hK bl (.inr (.inl rfl))).1.trans hbl
  have hlF := (hK bl (.inr (.inl rfl))).2
  have hh := tT t
  have h2w : ∀ {W : World} {L : List HP}, St w (Star c0).foot W L → Sl (tInt .u64) All W a2 n2 c2 t := fun hs => (h2.loc (fun k hk hlt => hs.keepK (hK k (.inr (.inr hk))).1 (hK k (.inr (.inr hk))).2 hlt)).weak (fun _ _ => trivial)
  repeat' (first | ((apply aL 244; refine JL_o (by exact aA en244 rfl (hof_r _ a2 n2 c2 t (h2w hs))) rfl rfl ?_; rintro _ _ ⟨rfl, hE⟩; have hs := hs.ext hE; (try simp only [zcc] at hs))) | (apply aH) | ((apply aC); (first | (apply aT; first | exact bL (hs.keep_cell (cA (off := 0) htw rfl) htF) rfl aI | exact bL (hs.keep_cell (cA (off := 0) hlw rfl) hlF) rfl aI) | exact zop); first | (exact rfl; exact rfl) | exact rfl) | (apply aQ) | (apply aB) | (apply aN))
  refine bT (α := Nat × List HP) [(0, _), (2, _), (4, _), (12, _)] (fun g => [(13, .int .i64 g.1)]) (fun g w' => St w (Star c0).foot w' g.2 ∧ C g.1 g.2 ∧ g.1 ≤ n) (fun g => n - g.1) (0, c0) ⟨hs, h0, by omega⟩ zss ?_
  rintro ⟨k, ck⟩ w' ⟨hs, hC, hk⟩ ih
  dsimp only at hs hC hk ih ⊢
  have hmem : bZ a n c rs ∈ ck := hGd _ _ hC
  have hrw : ∀ {W : World}, St w (Star c0).foot W ck → Sl eV All W a n c rs := fun hs => tabSl (hs.all _ hmem) hok
  by_cases hlt : k < n
  · obtain ⟨p1, o1, rfl⟩ := (hrw hs).sl.addr (by omega)
    obtain ⟨q, hqd⟩ : ∃ q, q = cV (ofM t) n k := ⟨_, rfl⟩
    have hq : q < n := by rw [hqd]; exact jB _ _ (by omega)
    have hx : rs[q]? = some rs[q] := List.getElem?_eq_getElem (by omega)
    obtain ⟨r, hrd⟩ : ∃ r, r = rs[q] := ⟨_, rfl⟩
    rw [← hrd] at hx
    have hX : turnX rs (ofM t) k [.int .i64 (q : Nat), .agg (bS r).toArray] [] := ⟨r, by rw [hl, ← hqd]; exact hx, by rw [hl, ← hqd], rfl⟩
    repeat' (first | ((apply aL 245; refine JL_o (by exact aA en245 rfl (aAi _ (ofM t) n k hh ⟨by omega, by omega⟩)) rfl rfl ?_; rintro _ _ ⟨rfl, hE⟩; rw [← hqd]; have hs := hs.ext hE; (try simp only [zcc] at hs))) | ((apply bK; have hs2 : St w (Star c0).foot _ ((ck ++ []) ++ []) := (by simpa using hs); refine bM (t := 35) rfl gb (bX rfl rfl (hy k _ [_, _] _ ck hlt hC hX hs2.held hs2.frm)) rfl rfl ?_; rintro _ _ ⟨c', ⟨rfl, hC'⟩ | ⟨rfl, hC'⟩, ht⟩ <;> have hs : St w (Star c0).foot _ c' := (hs2.take ht).sub (List.sublist_append_left _ _))) | (apply aH) | ((first | (apply aC) | (apply bA; exact rfl; exact gb)); (first | (apply aT; first | exact bL (hs.keep_cell (cA (off := 0) hlw rfl) hlF) rfl aI | exact aO (hrw hs) hx rfl rfl aI) | exact zop); first | (exact rfl; exact rfl) | exact rfl) | (apply aQ) | (apply aB) | (apply aN) | (apply aW) | (apply aV) | (apply aG; first | refine aS rfl ob ?_ | refine bB rfl gb ?_ | refine bD rfl gb ?_))
    · refine ih (k + 1, c') _ _ ⟨hs, hC', by dsimp only; omega⟩ (by dsimp only; omega) zss
    · refine aM Tryz.func243 rfl .nil ⟨c', .inr hC', St.turned (M := []) (by simpa using hs)⟩
  · have hkn : k = n := by omega
    subst hkn
    repeat' (first | (apply aH) | ((apply aC); exact zop; first | (exact rfl; exact rfl) | exact rfl) | (apply aQ) | (apply aB) | (apply bG; refine bP rfl ?_) | (apply aG; refine aZ rfl ob ?_))
    refine eI Tryz.func243 rfl .nil ⟨ck, .inl hC, St.turned (M := []) (by simpa using hs)⟩
end Go.Eng
end
section
namespace Go.Eng
open Go.Proofs
set_option linter.unusedSimpArgs false
set_option linter.unusedVariables false
theorem aBz {b k : Nat} {o : Obj} (h : (Blk b o).foot k) : k = b := h
theorem tab_foot {a : Option Addr} {n c : Nat} {rs : List REnt} {k : Nat} (h : dH a k) : (Star [bZ a n c rs]).foot k := ⟨_, .head _, h⟩
theorem oR {a : Option Addr} {n c : Nat} {rs : List REnt} {k : Nat} (h : (Star [bZ a n c rs]).foot k) : dH a k := by
  obtain ⟨c, hc, hk⟩ := h
  rw [List.mem_singleton.1 hc] at hk; exact hk
theorem tab_set {a : Option Addr} {n c : Nat} {rs : List REnt} {q : Nat} (r : REnt) (h : q < rs.length) : Row a n c 139 3 (bR (encL bS rs) (q * 3) (bS r)) = bZ a n c (rs.set q r) := by
  unfold bZ
  rw [show encL bS (rs.set q r) = bR (encL bS rs) (q * 3) (bS r) from iS (d := eV) rs q r h]
attribute [local irreducible] Hold J JL JD JX JXat OpR OpG Ret RetV Is Blk Row
set_option maxRecDepth 100000
set_option maxHeartbeats 1000000
theorem laid1_r (w : World) (b : Nat) (a : Option Addr) (n c : Nat) (rs : List REnt) (es : List Ent) (r : REnt) (x : Ent) (q : Nat) (hb : w.heap[b]? = some (.cells #[.slice a n c] 55 (0, 0))) (hh0 : Held w [bZ a n c rs]) (hbF : ¬ dH a b) (hlen : rs.length = n) (hle : es.length = n) (hok : ∀ r ∈ rs, okE r)
    (hst : ∀ (i : Nat) (u : REnt) (v : Ent), rs[i]? = some u → es[i]? = some v → u.1 = v.1) (hm : Sl (tInt .u64) (fun k => dH r.2.1.1 k ∧ 0 < r.2.1.2.1) w r.2.1.1 r.2.1.2.1 r.2.1.2.2 x.2.1) (hsep : ∀ k, dH r.2.1.1 k ∧ 0 < r.2.1.2.1 → ¬ dH a k) (hn : n ≤ 1048576) (hfree : vN es (ofM x.2.1) = some q) :
    Ret Tryz.prog 232 #[.agg (bS r).toArray, ptr b] w fun _ w' => Turn w [bZ a n c rs] w' [bZ a n c (rs.set q r)] := by
  refine bI (l := [_, _]) Tryz.func232 rfl Tryz.ntmps232 (by simp) ?_
  have hn0 : 0 < n := by
    rcases Nat.eq_zero_or_pos n with h | h
    · exfalso
      unfold vN at hfree
      rw [hle, h] at hfree
      cases hfree
    · exact h
  obtain ⟨p, o, rfl⟩ := (tabSl (hh0.1.1 _ (.head _)) hok).sl.addr hn0
  have hs := hh0.st
  have hbF' : ¬ (Star [bZ (some ⟨p, o, none⟩) n c rs]).foot b := fun h => hbF (oR h)
  have hsl := tabSl (hh0.1.1 _ (.head _)) hok
  have hmw : ∀ {W : World} {L : List HP}, St w (Star [bZ (some ⟨p, o, none⟩) n c rs]).foot W L → Sl (tInt .u64) (fun k => dH r.2.1.1 k ∧ 0 < r.2.1.2.1) W r.2.1.1 r.2.1.2.1 r.2.1.2.2 x.2.1 := fun hs => hm.loc (fun k hk hlt => hs.frm.old k hlt (fun h => hsep k hk (oR h)))
  repeat' (first | ((apply aL 226; refine JL_o (by exact aA en226 rfl (zP _ (some ⟨p, o, none⟩) r.2.1.1 n c r.2.1.2.1 r.2.1.2.2)) rfl rfl ?_; rintro _ _ ⟨bt, bl, rfl, hf⟩; have hs := hs.fresh hf; (try simp only [zcc] at hs))) | (apply aH) | ((apply aC); (first | (apply aT; first | exact sW hs (hs.keep hb hbF') rfl aI | exact fI (s := 1) (vs := [.slice (some ⟨p, o, none⟩) n c]) rfl (fun j v hj => hs.keep_cell (cA hb (by simpa using hj)) hbF') rfl aI) | exact zop); first | (exact rfl; exact rfl) | exact rfl) | (apply aQ) | (apply aB) | (apply aN) | (apply aF (t := 2); refine JL_o (by apply bN; exact bC hs rfl) rfl rfl ?_; rintro _ _ ⟨b2, rfl, hb2, hs, hE⟩))
  have hbt := hs.blk (b := bt)
  have hbl := hs.blk (b := bl)
  have hlt1 := hs.lt (b := bt)
  have hlt2 := hs.lt (b := bl)
  have hs0 : St w (Star [bZ (some ⟨p, o, none⟩) n c rs]).foot _ ([bZ (some ⟨p, o, none⟩) n c rs, Blk b2 (.cells (bS r).toArray 139 (0, 0))] ++ [Blk bt _, Blk bl _]) := hs.sel [3, 2, 0, 1] (by decide)
  have hbA : ¬ (Star [bZ (some ⟨p, o, none⟩) n c rs, Blk b2 (.cells (bS r).toArray 139 (0, 0))]).foot b := by
    rintro ⟨d, hd, hdk⟩
    rcases (hs0.foot d (List.mem_append_left _ hd) b hdk).2 with h | h
    · exact hbF' h
    · have := (Array.getElem?_eq_some_iff.1 hb).1
      omega
  refine J_rangeG (ps := [9, 10]) hs0 rfl ⟨243, #[ptr bt, ptr bl], rfl, en243⟩ (vE _ bt bl r.2.1.1 r.2.1.2.1 r.2.1.2.2 x.2.1 (some ⟨p, o, none⟩) n c rs (hmw hs0) hlen hok hn hbt hbl)
    (fun k A => A = [bZ (some ⟨p, o, none⟩) n c rs, Blk b2 (.cells (bS r).toArray 139 (0, 0))] ∧ pM es (ofM x.2.1) (n - k) k = some q)
    (fun j A => j = .ret ∧ A = [bZ (some ⟨p, o, none⟩) n c (rs.set q r), Blk b2 (.cells (bS r).toArray 139 (0, 0))]) (fun l o i A1 hC => by rw [hC.1]; exact .tail _ (.head _)) ⟨rfl, by unfold vN at hfree; rw [hle] at hfree; exact hfree⟩ ?_ (by decide) ?_ ?_ ?_ ?_
  · rintro k (rfl | rfl | hk)
    · exact ⟨rfl, fun hf => hs0.sepA (.head _) hf (fM _ _), hlt1⟩
    · exact ⟨rfl, fun hf => hs0.sepA (.tail _ (.head _)) hf (fM _ _), hlt2⟩
    · have h1 := Sl.below (d := tInt .u64) (by decide) hm k hk
      refine ⟨rfl, fun ⟨d, hd, hdk⟩ => ?_, Nat.lt_of_lt_of_le h1 hs0.frm.size⟩
      rcases (hs0.foot d (List.mem_append_left _ hd) k hdk).2 with h | h
      · exact hsep k hk (oR h)
      · omega
  · rintro i vals cx ⟨_, _, rfl, _⟩; rfl
  · rintro l D tm k w1 A1 cx vals hD hDl hk ⟨rfl, hG⟩ ⟨r2, hrq, rfl, rfl⟩ hh hold
    have hs : St _ _ _ [_, _, _] := hh.st
    have hsz := hs0.frm.size
    have hll := hs.lt (b := l)
    rw [hlen] at hrq
    obtain ⟨s, hsd⟩ : ∃ s, s = cV (ofM x.2.1) n k := ⟨_, rfl⟩
    rw [hlen, ← hsd]
    rw [← hsd] at hrq
    have hsl' : s < n := by rw [← hlen]; exact (List.getElem?_eq_some_iff.1 hrq).1
    have hx : es[s]? = some es[s] := List.getElem?_eq_getElem (by omega)
    obtain ⟨y, hyd⟩ : ∃ y, y = es[s] := ⟨_, rfl⟩
    rw [← hyd] at hx
    have e1 := hst s r2 y hrq hx
    have hfs := aBa (es := es) (h := ofM x.2.1) (k := k) (by omega) (by rw [hle]; exact hsd) hx
    rw [hle] at hfs
    rw [hfs] at hG
    have hw1b : w1.heap[b]? = some (.cells #[.slice (some ⟨p, o, none⟩) n c] 55 (0, 0)) := by
      rw [hold b (Nat.lt_of_lt_of_le (Array.getElem?_eq_some_iff.1 hb).1 hs0.frm.size) hbA]
      exact hs0.keep hb hbF'
    have hbl' : ∀ ob : Obj, ¬ (Star [Blk l ob, bZ (some ⟨p, o, none⟩) n c rs, Blk b2 (.cells (bS r).toArray 139 (0, 0))]).foot b := by
      rintro ob ⟨d, hd, hdk⟩
      rcases List.mem_cons.1 hd with rfl | hd
      · have hdk : b = l := aBz hdk
        have := (Array.getElem?_eq_some_iff.1 hb).1
        omega
      · exact hbA ⟨d, hd, hdk⟩
    by_cases c0 : r2.1 = 0
    · rw [if_pos (by omega)] at hG
      have hqs : s = q := Option.some.inj hG
      subst hqs
      have hts := tab_set (a := some ⟨p, o, none⟩) (n := n) (c := c) (rs := rs) (q := s) r (by omega)
      repeat' (first | ((refine eG hs (fun w2 hs => ?_))) | ((apply aU; refine JL_u (by apply aP; exact cD (b := p) (o := o) (off := s * 3) (n := n) (c := c) (vs := bS r) hs rfl rfl rfl rfl (fun u hu => by simp only [List.mem_cons, List.not_mem_nil, or_false] at hu; rcases hu with rfl | rfl | rfl <;> rfl) (by show s * 3 + 3 ≤ n * 3; omega)) rfl ?_; rintro _ _ ⟨hs, hF⟩; rw [hts] at hs)) | (apply aH) | ((apply aC); (first | (apply aT; exact bL (hs.keep_cell (cA (off := 0) hw1b rfl) (hbl' _)) rfl aI) | exact zop); first | (exact rfl; exact rfl) | exact rfl) | (apply aQ) | (apply aB) | (apply aN) | (apply aF (t := 4); refine JL_o (by apply aR; exact aJ hs) rfl rfl ?_; rintro _ _ ⟨b4, rfl, hb4, hs, hE⟩) | (apply aU; refine JL_u (by apply aP; exact aK hs rfl rfl rfl) rfl ?_; rintro _ _ ⟨hs, hF⟩) | (apply aG; refine aS rfl ob ?_))
      have hs : St _ _ _ [_, _, _] := hs.sel [1, 2, 3] (by decide)
      refine rE hs (fun w3 hs => .inr ⟨rfl, .ret, _, ⟨rfl, rfl⟩, St.turned (M := []) hs⟩)
    · rw [if_neg (by omega)] at hG
      repeat' (first | ((refine eG hs (fun w2 hs => ?_))) | (apply aH) | ((apply aC); exact zop; first | (exact rfl; exact rfl) | exact rfl) | (apply aQ) | (apply aB) | (apply aN) | (apply aW) | (apply aV) | (apply aF (t := 4); refine JL_o (by apply aR; exact aJ hs) rfl rfl ?_; rintro _ _ ⟨b4, rfl, hb4, hs, hE⟩) | (apply aU; refine JL_u (by apply aP; exact aK hs rfl rfl rfl) rfl ?_; rintro _ _ ⟨hs, hF⟩) | (apply aG; refine aZ rfl ob ?_))
      have hs : St _ _ _ [_, _, _] := hs.sel [1, 2, 3] (by decide)
      refine jI hs (fun w3 hs => .inl ⟨rfl, _, ⟨rfl, hG⟩, St.turned (M := []) hs⟩)
  · rintro w2 D A2 ⟨rfl, hG⟩ hs
    rw [Nat.sub_self] at hG
    cases hG
  · rintro w2 D A2 j ⟨rfl, rfl⟩ hs
    have hs : St w (Star [bZ (some ⟨p, o, none⟩) n c rs]).foot _ [_, _, _, _, _] := hs
    refine pZ (lS hs (fun w3 hs => pX Tryz.func232 rfl .nil (St.turned (M := [_, _, _]) hs)))
end Go.Eng
end
section
namespace Go.Eng
open Go.Proofs
set_option linter.unusedSimpArgs false
set_option linter.unusedVariables false
abbrev OfZ (rs0 : List REnt) (es0 : List Ent) (zs : List ZE) : Prop := ∀ p ∈ zs, p ∈ rs0.zip es0 ∨ p = (r0, e0)
theorem ofZ_ok {rs0 : List REnt} {es0 : List Ent} {zs : List ZE} (h : OfZ rs0 es0 zs) (hok : ∀ r ∈ rs0, okE r) : ∀ r ∈ zs.map Prod.fst, okE r := fun r hr => by
  obtain ⟨p, hp, rfl⟩ := List.mem_map.1 hr
  rcases h p hp with h | rfl
  · exact hok _ (List.of_mem_zip h).1
  · exact ⟨by unfold inK; decide, trivial, by unfold inK; decide⟩
theorem ofZ_st {R : Nat → Prop} {w : World} {rs0 : List REnt} {es0 : List Ent} {zs : List ZE} (h : OfZ rs0 es0 zs) (hm : MeanV mEnt R w rs0 es0) : ∀ (i : Nat) (u : REnt) (v : Ent), (zs.map Prod.fst)[i]? = some u → (zs.map Prod.snd)[i]? = some v → u.1 = v.1 := by
  intro i u v hu hv
  rw [List.getElem?_map] at hu hv
  obtain ⟨p, hp, rfl⟩ := Option.map_eq_some_iff.1 hu
  rw [hp] at hv
  cases hv
  rcases h p (List.mem_of_getElem? hp) with h | rfl
  · exact (hm.zip p h).1
  · rfl
theorem sM {es : List Ent} (h : dN es) {k : Nat} {x : Ent} (hx : es[k]? = some x) : ∀ y ∈ es.take k, y.2.1 ≠ x.2.1 := by
  intro y hy
  obtain ⟨i, hi⟩ := List.mem_iff_getElem?.1 hy
  rw [List.getElem?_take] at hi
  split at hi
  · rename_i hik
    obtain ⟨hk1, hk2⟩ := List.getElem?_eq_some_iff.1 hx
    obtain ⟨hi1, hi2⟩ := List.getElem?_eq_some_iff.1 hi
    unfold dN at h
    rw [List.pairwise_iff_getElem] at h
    have := h i k hi1 hk1 hik
    rwa [hi2, hk2] at this
  · cases hi
theorem zA {b o k : Nat} (h : dH (some ⟨b, o, none⟩) k) : k = b := by simpa [dH, eq_comm] using h
attribute [local irreducible] Hold J JL JD JX JXat OpR OpG Ret RetV Is Blk Row
set_option maxRecDepth 100000
set_option maxHeartbeats 1000000
theorem laid_r (w : World) (a0 : Option Addr) (m0 c0 : Nat) (rs0 : List REnt) (es0 : List Ent) (many : Nat) (hr : Sl eV All w a0 m0 c0 rs0) (hm : MeanV mEnt All w rs0 es0) (h1 : ∀ x ∈ es0, x.1 = 1) (hd : dN es0) (hlt : m0 < many) (hn : many ≤ 1048576) :
    Ret Tryz.prog 188 #[.slice a0 m0 c0, .int .i64 many] w fun v w' => ∃ (zs : List ZE) (a : Option Addr), Lay many es0 (zs.map Prod.snd) ∧ OfZ rs0 es0 zs ∧ v = .agg #[.slice a many many] ∧ Fresh w w' [bZ a many many (zs.map Prod.fst)] := by
  refine bI (l := [_, _]) Tryz.func188 rfl Tryz.ntmps188 (by simp) ?_
  have hs := St.init w
  have hl := hr.len
  have hle : es0.length = m0 := by rw [← hm.1]; exact hl
  obtain ⟨_, _, hokr⟩ := hr.srcF
  repeat' (first | ((apply aF (t := 10); refine JL_o (by apply eP; exact iU (n := many) hs rfl rfl (by omega) (by omega)) rfl rfl ?_; rintro _ _ ⟨b10, rfl, hb10, hs, hE⟩; have hs := hs.toRow 0 many many 3 (xs := encL bS (newR many)) (Nat.le_refl _) (by unfold maxLen; omega) (by simp [madeCells]) (by rw [← zc_eq many, List.drop_zero, List.take_of_length_le (by simp [madeCells])]))) | (apply aH) | ((apply aC); exact zop; first | (exact rfl; exact rfl) | exact rfl) | (apply aQ) | (apply aB) | (apply aN) | (apply aF (t := 4); refine JL_o (by apply aR; exact aJ hs) rfl rfl ?_; rintro _ _ ⟨b4, rfl, hb4, hs, hE⟩) | (apply aF (t := 5); refine JL_o (by apply aR; exact aJ hs) rfl rfl ?_; rintro _ _ ⟨b5, rfl, hb5, hs, hE⟩) | (apply aU; refine JL_u (by apply aP; exact aK hs rfl rfl rfl) rfl ?_; rintro _ _ ⟨hs, hF⟩))
  have hs0 : St w NoF _ [_, _, _] := hs.sel [1, 0, 2] (by decide)
  have hgb : w.heap.size ≤ b10 := ((hs0.foot _ (.head _) b10 (wL rfl)).2).resolve_left id
  obtain ⟨ta, hta⟩ : ∃ ta : Option Addr, ta = some ⟨b10, 0, none⟩ := ⟨_, rfl⟩
  have hgt : ∀ k, dH ta k → w.heap.size ≤ k := fun k hk => by rw [hta] at hk; rw [zA hk]; exact hgb
  rw [← hta] at hs0
  have hz0 : (List.replicate many (r0, e0)).map Prod.fst = newR many := by rw [List.map_replicate]
  have hz1 : (List.replicate many (r0, e0)).map Prod.snd = newE many := by rw [List.map_replicate]
  refine bT (α := Nat × List ZE) [(4, _), (5, _), (6, _), (13, _), (14, _)] (fun g => [(15, .int .i64 g.1)])
    (fun g w' => St w NoF w' [bZ ta many many (g.2.map Prod.fst), Blk b5 (.cells #[.slice ta many many] 55 (0, 0)), Blk b4 (.cells #[.slice none 0 0] 55 (0, 0))] ∧ g.1 ≤ m0 ∧ OfZ rs0 es0 g.2 ∧ Lay many (es0.take g.1) (g.2.map Prod.snd))
    (fun g => m0 - g.1) (0, List.replicate many (r0, e0)) ⟨by dsimp only; rw [hz0]; exact hs0, by dsimp only; omega, fun p hp => .inr (List.eq_of_mem_replicate hp), by dsimp only; rw [hz1]; exact Lay.start many⟩ zss ?_
  rintro ⟨k, zs⟩ w2 ⟨hs1, hk, hz, hL⟩ ih
  dsimp only at hs1 hk hz hL ih ⊢
  by_cases hkm : k < m0
  · obtain ⟨p, o, rfl⟩ := hr.sl.addr (by omega)
    have hs : St w NoF w2 [_, _, _] := hs1
    have hx : es0[k]? = some (es0[k]'(by omega)) := List.getElem?_eq_getElem (by omega)
    obtain ⟨x, hxd⟩ : ∃ x, x = es0[k]'(by omega) := ⟨_, rfl⟩
    rw [← hxd] at hx
    obtain ⟨r, hrx, hrel⟩ := hm.get hx
    have mx : Sl (tInt .u64) All w r.2.1.1 r.2.1.2.1 r.2.1.2.2 x.2.1 := hrel.2.1
    have htk : es0.take (k + 1) = es0.take k ++ [x] := by rw [List.take_add_one, hx]; rfl
    obtain ⟨q, hq, _, hL2⟩ := hL.step (e := x) (h1 x (List.mem_of_getElem? hx)) (sM hd hx) (by rw [List.length_take]; omega)
    rw [← htk] at hL2
    have hlz : (zs.map Prod.snd).length = many := hL.len
    have hlz1 : (zs.map Prod.fst).length = many := by rw [List.length_map] at hlz ⊢; exact hlz
    have e1 : (zs.map Prod.fst).set q r = (zs.set q (r, x)).map Prod.fst := by rw [List.map_set]
    have e2 : (zs.map Prod.snd).set q x = (zs.set q (r, x)).map Prod.snd := by rw [List.map_set]
    rw [e2] at hL2
    repeat' (first | ((apply aF (t := 21); have hs2 : St w NoF _ ([bZ ta many many (zs.map Prod.fst)] ++ [Blk b8 _, Blk b5 (.cells #[.slice ta many many] 55 (0, 0)), Blk b4 _]) := hs.sel [1, 0, 2, 3] (by decide); refine JL_o (bX rfl rfl (Ret.value (cap := #[ptr b5]) en232 (laid1_r _ b5 ta many many (zs.map Prod.fst) (zs.map Prod.snd) r x q (hs.blk (b := b5)) (St.held (A := [_]) hs2) (fun hf => hs2.sepA (A := [_]) (.tail _ (.head _)) (tab_foot hf) (fM _ _)) hlz1 hlz (ofZ_ok hz hokr) (ofZ_st hz hm) (mx.st hs2).foc (fun k hk hf => by have h1 := Sl.below (d := tInt .u64) (by decide) mx k hk; have h2 := hgt k hf; omega) hn hq))) rfl rfl ?_; rintro _ _ ht; have hs : St w NoF _ [_, _, _, _] := St.take (A := [_]) (A' := [_]) hs2 ht; clear ht hs2)) | (apply aH) | ((apply aC); (first | (apply aT; exact aO (hr.st hs) hrx rfl rfl aI) | exact zop); first | (exact rfl; exact rfl) | exact rfl) | (apply aQ) | (apply aB) | (apply aN) | (apply aW) | (apply aV) | (apply aF (t := 8); refine JL_o (by apply aR; exact aJ hs) rfl rfl ?_; rintro _ _ ⟨b8, rfl, hb8, hs, hE⟩) | (apply aU; refine JL_u (by apply aP; exact aK hs rfl rfl rfl) rfl ?_; rintro _ _ ⟨hs, hF⟩) | (apply aG; refine aS rfl ob ?_))
    rw [e1] at hs
    refine ih (k + 1, zs.set q (r, x)) _ _ ⟨hs.sel [0, 2, 3] (by decide), by dsimp only; omega, ?_, hL2⟩ (by dsimp only; omega) zss
    intro p hp
    rcases List.mem_or_eq_of_mem_set hp with hp | rfl
    · exact hz p hp
    · exact .inl (vB hrx hx)
  · have hs : St w NoF w2 [_, _, _] := hs1
    rw [List.take_of_length_le (by omega)] at hL
    repeat' (first | (apply aH) | ((apply aC); exact zop; first | (exact rfl; exact rfl) | exact rfl) | (apply aQ) | (apply aB) | (apply bG; refine bP rfl ?_) | (apply aU; refine JL_u (by apply aP; exact aK hs rfl rfl rfl) rfl ?_; rintro _ _ ⟨hs, hF⟩) | (apply aG; refine aZ rfl ob ?_))
    refine aM Tryz.func188 rfl (.agg' hs rfl rfl .nil) ⟨zs, ta, hL, hz, rfl, hs.out (.cons_cons _ (List.nil_sublist _))⟩
end Go.Eng
end
section
namespace Go.Eng
open Go.Proofs
set_option linter.unusedSimpArgs false
set_option linter.unusedVariables false
theorem St.ownZ {w0 w : World} {F : Nat → Prop} {L : List HP} {rs : List REnt} {es : List Ent} {zs : List ZE} (h : St w0 F w (Own rs es :: L)) (hz : OfZ rs es zs) : St w0 F w (Own (zs.map Prod.fst) (zs.map Prod.snd) :: L) := by
  refine h.conv (fun k hk => ?_) (fun hh => ?_)
  · obtain ⟨r, hr, hk⟩ := hk
    obtain ⟨p, hp, rfl⟩ := List.mem_map.1 hr
    rcases hz p hp with h | rfl
    · exact ⟨p.1, (List.of_mem_zip h).1, hk⟩
    · simp [dH] at hk
  · have hh : OwnV w rs es := hh
    refine ⟨by simp, fun i r x hr hx => ?_⟩
    rw [List.getElem?_map] at hr hx
    obtain ⟨p, hp, rfl⟩ := Option.map_eq_some_iff.1 hr
    rw [hp] at hx
    cases hx
    rcases hz p (List.mem_of_getElem? hp) with h | rfl
    · obtain ⟨j, hj⟩ := List.mem_iff_getElem?.1 h
      rw [List.getElem?_zip_eq_some] at hj
      exact hh.2 j _ _ hj.1 hj.2
    · exact ⟨⟨rfl, rfl, rfl, by unfold inK; decide, by unfold inK; decide⟩, lD w _ _, fun v hv => by cases hv⟩
theorem St.ownV {w0 w : World} {F : Nat → Prop} {L : List HP} {rs : List REnt} {es : List Ent} (h : St w0 F w L) (hm : Own rs es ∈ L) : OwnV w rs es := h.all _ hm
def putE (es : List Ent) (t : List Int) (v : Int) : Int := if cH es then (if dF t then (if v < 0 then 2 else if 0 ≤ eU es t then 5 else if (allM es).length = 4000 then 6 else 0) else 130) else 170
theorem yB {es : List Ent} {t : List Int} (hc : cH es = true) (h : ¬ 0 ≤ eU es t) : ∀ y ∈ es.filter dI, y.2.1 ≠ t := by
  intro y hy e
  obtain ⟨h1, h2⟩ := List.mem_filter.1 hy
  obtain ⟨i, hi⟩ := List.mem_iff_getElem?.1 h1
  have := ((gV hc hi).1 (of_decide_eq_true h2)).2.2
  rw [e] at this
  omega
theorem sN {l : List Ent} {e : Ent} (h : dN l) (he : ∀ y ∈ l, y.2.1 ≠ e.2.1) : dN (l ++ [e]) := by
  unfold dN at *
  rw [List.pairwise_append]
  exact ⟨h, List.pairwise_singleton _ _, fun a ha b hb => by rw [List.mem_singleton.1 hb]; exact he a ha⟩
theorem sT {es : List Ent} (hc : cH es = true) : dN (allM es) := ((eF es).symm.pairwise_iff (fun h => Ne.symm h)).1 (dR hc)
theorem allM_mem {es : List Ent} {x : Ent} (h : x ∈ allM es) : x ∈ es ∧ x.1 = 1 := by
  have := (eF es).mem_iff.1 h
  obtain ⟨h1, h2⟩ := List.mem_filter.1 this
  exact ⟨h1, of_decide_eq_true h2⟩
theorem aB4 {es : List Ent} (hc : cH es = true) : (allM es).length ≤ 4000 := by
  rw [(eF es).length_eq]
  unfold cH at hc
  rw [Bool.and_eq_true] at hc
  have := hc.1
  unfold pU at this
  simp only [Bool.and_eq_true, decide_eq_true_eq] at this
  obtain ⟨_, _, _, _, h⟩ := this
  unfold lW cnt at h
  have e : es.filter dI = es.filter (fun x => decide (x.1 = 1)) := rfl
  rw [e]; omega
attribute [local irreducible] Hold J JL JD JX JXat OpR OpG Ret RetV Is Blk Row
set_option maxRecDepth 100000
set_option maxHeartbeats 1000000
theorem put_r (w : World) (a : Option Addr) (n c : Nat) (es : List Ent) (a2 : Option Addr) (n2 c2 : Nat) (t : List Int) (v : Int) (h : Sl dEnt All w a n c es) (hn : n ≤ 1048576) (h2 : Sl (tInt .u64) All w a2 n2 c2 t) (hv : inK .i64 v) :
    Ret Tryz.prog 132 #[.agg #[.slice a n c], .slice a2 n2 c2, .int .i64 v] w fun u w' => (putE es t v ≠ 0 ∧ u = .tuple #[.agg #[.slice none 0 0], .int .i64 (putE es t v)] ∧ Ext w w') ∨
      (putE es t v = 0 ∧ ∃ (es' : List Ent) (rs' : List REnt) (a' : Option Addr), (cH es' = true ∧ (es'.filter dI).Perm (allM es ++ [(1, t, v)]) ∧ es'.length ≤ 1048576) ∧ u = .tuple #[.agg #[.slice a' es'.length es'.length], .int .i64 0] ∧ Fresh w w' [bZ a' es'.length es'.length rs', Own rs' es']) := by
  refine bI (l := [_, _, _]) Tryz.func132 rfl Tryz.ntmps132 (by simp) ?_
  have hs := St.init w
  unfold putE
  have hl2 := h2.len
  by_cases hc : cH es = true
  · rw [if_pos hc]
    have hlen := fun x hx => Nat.le_trans (mS hc (x := x) hx) (by decide : 12 ≤ 4000000000)
    have hal := aB4 hc
    by_cases ht : dF t = true
    · rw [if_pos ht]
      by_cases hv0 : v < 0
      · rw [if_pos hv0]
        repeat' (first | ((apply aL 118; refine JL_o (by exact aA lM rfl (eJ _ a n c es (h.st hs) hn)) rfl rfl ?_; rintro _ _ ⟨rfl, hE⟩; rw [if_pos hc]; have hs := hs.ext hE; (try simp only [zcc] at hs))) | ((apply aL 187; refine JL_o (by exact aA yO rfl (qI _ a n c es (h.st hs) hn hlen)) rfl rfl ?_; rintro _ _ ⟨es1, rs1, hp, hpw, a1, c1, rfl, hf⟩; have hs := hs.fresh hf; (try simp only [zcc] at hs))) | ((apply aL 59; refine JL_o (by exact aA en59 rfl (dC _ a2 n2 c2 t (h2.st hs))) rfl rfl ?_; rintro _ _ ⟨rfl, hE⟩; rw [ht]; have hs := hs.ext hE; (try simp only [zcc] at hs))) | (apply aH) | ((apply aC); exact zop; first | (exact rfl; exact rfl) | exact rfl) | (apply aQ) | (apply aB) | (apply aN) | (apply aV) | (apply aF (t := 3); refine JL_o (by apply bN; exact bC hs rfl) rfl rfl ?_; rintro _ _ ⟨b3, rfl, hb3, hs, hE⟩) | (apply aF (t := 6); refine JL_o (by apply aR; exact aJ hs) rfl rfl ?_; rintro _ _ ⟨b6, rfl, hb6, hs, hE⟩) | (apply aU; refine JL_u (by apply aP; exact aK hs rfl rfl rfl) rfl ?_; rintro _ _ ⟨hs, hF⟩) | (apply aG; first | refine aS rfl ob ?_ | refine aZ rfl ob ?_ | refine bD rfl gb ?_))
        refine aM Tryz.func132 rfl (.agg' hs rfl rfl (.tmp rfl .nil)) (.inl ⟨by decide, rfl, hs.frm.ext⟩)
      · rw [if_neg hv0]
        by_cases hpl : 0 ≤ eU es t
        · rw [if_pos hpl]
          repeat' (first | ((apply aL 118; refine JL_o (by exact aA lM rfl (eJ _ a n c es (h.st hs) hn)) rfl rfl ?_; rintro _ _ ⟨rfl, hE⟩; rw [if_pos hc]; have hs := hs.ext hE; (try simp only [zcc] at hs))) | ((apply aL 187; refine JL_o (by exact aA yO rfl (qI _ a n c es (h.st hs) hn hlen)) rfl rfl ?_; rintro _ _ ⟨es1, rs1, hp, hpw, a1, c1, rfl, hf⟩; have hs := hs.fresh hf; (try simp only [zcc] at hs))) | ((apply aL 59; refine JL_o (by exact aA en59 rfl (dC _ a2 n2 c2 t (h2.st hs))) rfl rfl ?_; rintro _ _ ⟨rfl, hE⟩; rw [ht]; have hs := hs.ext hE; (try simp only [zcc] at hs))) | ((apply aL 176; refine JL_o (by exact aA uE rfl (kG _ a n c es a2 n2 c2 t (h.st hs) hn (h2.st hs))) rfl rfl ?_; rintro _ _ ⟨rfl, hE⟩; have hs := hs.ext hE; (try simp only [zcc] at hs))) | (apply aH) | ((apply aC); exact zop; first | (exact rfl; exact rfl) | exact rfl) | (apply aQ) | (apply aB) | (apply aN) | (apply aV) | (apply aF (t := 3); refine JL_o (by apply bN; exact bC hs rfl) rfl rfl ?_; rintro _ _ ⟨b3, rfl, hb3, hs, hE⟩) | (apply aF (t := 6); refine JL_o (by apply aR; exact aJ hs) rfl rfl ?_; rintro _ _ ⟨b6, rfl, hb6, hs, hE⟩) | (apply aU; refine JL_u (by apply aP; exact aK hs rfl rfl rfl) rfl ?_; rintro _ _ ⟨hs, hF⟩) | (apply aG; first | refine aS rfl ob ?_ | refine aZ rfl ob ?_ | refine bD rfl gb ?_))
          refine aM Tryz.func132 rfl (.agg' hs rfl rfl (.tmp rfl .nil)) (.inl ⟨by decide, rfl, hs.frm.ext⟩)
        · rw [if_neg hpl]
          by_cases h4 : (allM es).length = 4000
          · rw [if_pos h4]
            repeat' (first | ((apply aL 118; refine JL_o (by exact aA lM rfl (eJ _ a n c es (h.st hs) hn)) rfl rfl ?_; rintro _ _ ⟨rfl, hE⟩; rw [if_pos hc]; have hs := hs.ext hE; (try simp only [zcc] at hs))) | ((apply aL 187; refine JL_o (by exact aA yO rfl (qI _ a n c es (h.st hs) hn hlen)) rfl rfl ?_; rintro _ _ ⟨es1, rs1, hp, hpw, a1, c1, rfl, hf⟩; have hs := hs.fresh hf; have he1 : es1.length = 4000 := by rw [kY (dR hc) hp hpw]; exact h4; (try simp only [zcc] at hs))) | ((apply aL 59; refine JL_o (by exact aA en59 rfl (dC _ a2 n2 c2 t (h2.st hs))) rfl rfl ?_; rintro _ _ ⟨rfl, hE⟩; rw [ht]; have hs := hs.ext hE; (try simp only [zcc] at hs))) | ((apply aL 176; refine JL_o (by exact aA uE rfl (kG _ a n c es a2 n2 c2 t (h.st hs) hn (h2.st hs))) rfl rfl ?_; rintro _ _ ⟨rfl, hE⟩; have hs := hs.ext hE; (try simp only [zcc] at hs))) | (apply aH) | ((apply aC); exact zop; first | (exact rfl; exact rfl) | exact rfl) | (apply aQ) | (apply aB) | (apply aN) | (apply aV) | (apply aF (t := 3); refine JL_o (by apply bN; exact bC hs rfl) rfl rfl ?_; rintro _ _ ⟨b3, rfl, hb3, hs, hE⟩) | (apply aF (t := 6); refine JL_o (by apply aR; exact aJ hs) rfl rfl ?_; rintro _ _ ⟨b6, rfl, hb6, hs, hE⟩) | (apply aU; refine JL_u (by apply aP; exact aK hs rfl rfl rfl) rfl ?_; rintro _ _ ⟨hs, hF⟩) | (apply aG; first | refine aS rfl ob ?_ | refine aZ rfl ob ?_ | refine bD rfl gb ?_))
            refine aM Tryz.func132 rfl (.agg' hs rfl rfl (.tmp rfl .nil)) (.inl ⟨by decide, rfl, hs.frm.ext⟩)
          · rw [if_neg h4]
            obtain ⟨al, hald⟩ : ∃ al, al = allM es := ⟨_, rfl⟩
            rw [← hald] at hal h4
            have ht64 : ∀ u ∈ t, inK .u64 u := (h2.srcF).2.2
            have h12 := (typeB_true.1 ht).1
            repeat' (first | ((apply aL 118; refine JL_o (by exact aA lM rfl (eJ _ a n c es (h.st hs) hn)) rfl rfl ?_; rintro _ _ ⟨rfl, hE⟩; rw [if_pos hc]; have hs := hs.ext hE; (try simp only [zcc] at hs))) | ((apply aL 187; refine JL_o (by exact aA yO rfl (qI _ a n c es (h.st hs) hn hlen)) rfl rfl ?_; rintro _ _ ⟨es1, rs1, hp, hpw, a1, c1, rfl, hf⟩; have hs := hs.fresh hf; have he1 := kY (dR hc) hp hpw; rw [← hald] at he1; subst he1; (try simp only [zcc] at hs))) | ((apply aL 59; refine JL_o (by exact aA en59 rfl (dC _ a2 n2 c2 t (h2.st hs))) rfl rfl ?_; rintro _ _ ⟨rfl, hE⟩; rw [ht]; have hs := hs.ext hE; (try simp only [zcc] at hs))) | ((apply aL 176; refine JL_o (by exact aA uE rfl (kG _ a n c es a2 n2 c2 t (h.st hs) hn (h2.st hs))) rfl rfl ?_; rintro _ _ ⟨rfl, hE⟩; have hs := hs.ext hE; (try simp only [zcc] at hs))) | ((apply aL 24; refine JL_o (by exact aA en24 rfl (lJ _ a2 n2 c2 t (h2.st hs) (by omega))) rfl rfl ?_; rintro _ _ ⟨a3, c3, rfl, hf3⟩; have hs := hs.fresh hf3; (try simp only [zcc] at hs))) | ((apply aF (t := 45); refine JL_o (by apply bW; exact cF (xs := encL bS rs1) (news := bS (1, (a3, n2, c3), v)) hs rfl rfl (jM (r := (1, (a3, n2, c3), v)) (hs.blk (b := b44))) cJ rfl (by omega) (by unfold maxLen; omega)) rfl rfl ?_; rintro _ _ ⟨a4, c4, rfl, hs, hF, hnil⟩)) | (apply aH) | ((apply aC); exact zop; first | (exact rfl; exact rfl) | exact rfl) | (apply aQ) | (apply aB) | (apply aN) | (apply aW) | (apply aV) | (apply aF (t := 3); refine JL_o (by apply bN; exact bC hs rfl) rfl rfl ?_; rintro _ _ ⟨b3, rfl, hb3, hs, hE⟩) | (apply aF (t := 6); refine JL_o (by apply aR; exact aJ hs) rfl rfl ?_; rintro _ _ ⟨b6, rfl, hb6, hs, hE⟩) | (apply aF (t := 44); refine JL_o (by apply bJ; exact bF hs rfl (by omega) rfl) rfl rfl ?_; rintro _ _ ⟨b44, rfl, hb44, hs, hE⟩) | (apply aG; first | refine aZ rfl ob ?_ | refine bD rfl gb ?_))
            have hcc : encL bS rs1 ++ bS (1, (a3, n2, c3), v) = encL bS (rs1 ++ [(1, (a3, n2, c3), v)]) := by rw [fL]; simp [encL]
            rw [show encL bS rs1 ++ bS (1, (a3, n2, c3), v) = encL bS (rs1 ++ [(1, (a3, n2, c3), v)]) from hcc] at hs
            have hs : St w NoF _ [_, _, _, _] := hs.sel [1, 3, 2, 4] (by decide)
            have hs := St.pushOwn hs hl2.symm 1 v (by unfold inK; decide) hv ht64
            obtain ⟨rs2, hrs2⟩ : ∃ rs2, rs2 = rs1 ++ [((1 : Int), (a3, n2, c3), v)] := ⟨_, rfl⟩
            obtain ⟨es2, hes2⟩ : ∃ es2 : List Ent, es2 = es1 ++ [(1, t, v)] := ⟨_, rfl⟩
            have hl3 : es2.length = es1.length + 1 := by rw [hes2]; simp
            rw [← hrs2, ← hes2, ← hl3] at hs
            have hs : St w NoF _ [Own rs2 es2, bZ a4 es2.length c4 rs2, Blk b6 (.cells #[.slice none 0 0] 55 (0, 0))] := hs
            have hd2 : dN es2 := by
              rw [hes2]
              have hdd := sT hc
              rw [← hald] at hdd
              refine sN hdd (fun y hy => ?_)
              rw [hald] at hy
              exact yB hc hpl y ((eF es).mem_iff.1 hy)
            have hok2 : ∀ x ∈ es2, x.1 = 1 ∧ dF x.2.1 = true ∧ 0 ≤ x.2.2 := by
              intro x hx
              rw [hes2] at hx
              rcases List.mem_append.1 hx with hx | hx
              · rw [hald] at hx
                obtain ⟨m1, m2⟩ := allM_mem hx
                obtain ⟨q1, q2⟩ := (uT hc m1).1 m2
                exact ⟨m2, q1, q2⟩
              · rw [List.mem_singleton.1 hx]; exact ⟨rfl, ht, by show 0 ≤ v; omega⟩
            refine bT (α := Nat × Nat) [(6, _), (9, _)] (fun g => [(10, .int .i64 g.1)]) (fun g w' => St w NoF w' [Own rs2 es2, bZ a4 es2.length c4 rs2, Blk b6 (.cells #[.slice none 0 0] 55 (0, 0))] ∧ g.1 = 8 * 2 ^ g.2 ∧ (g.2 = 0 ∨ g.1 ≤ 4 * es2.length)) (fun g => 4 * es2.length - g.1) (8, 0) ⟨hs, rfl, .inl rfl⟩ (by rw [← hl3]; repeat' (first | exact trivial | exact rfl | apply And.intro)) ?_
            rintro ⟨N, j⟩ w2 ⟨hs1, hN, hlo⟩ ih
            dsimp only at hN hlo ih ⊢
            have hs : St w NoF w2 [_, _, _] := hs1
            have hN8 : 8 ≤ N := by have hp : 0 < 2 ^ j := Nat.pow_pos (by decide); omega
            have hNb : N ≤ 100000 := by
              rcases hlo with h | h
              · subst h; omega
              · omega
            by_cases hlt : 2 * N < 4 * es2.length
            · repeat' (first | (apply aH) | ((apply aC); (first | (apply cI; exact jU rfl rfl (by omega) aI) | exact zop); first | (exact rfl; exact rfl) | exact rfl) | (apply aQ) | (apply aB) | (apply aN) | (apply aW) | (apply aV) | (apply aG; refine aS rfl ob ?_))
              have e : (N : Int) * 2 = ((N * 2 : Nat) : Int) := by omega
              refine ih (N * 2, j + 1) _ _ ⟨hs, by dsimp only; rw [hN, Nat.pow_succ]; omega, .inr (by dsimp only; omega)⟩ (by dsimp only; omega) (by rw [e]; repeat' (first | exact trivial | exact rfl | apply And.intro))
            · have ho := St.ownV hs (.head _)
              repeat' (first | ((apply aL 188; refine JL_o (by exact aA en188 rfl (laid_r _ a4 es2.length c4 rs2 es2 N (tM (hs.row a4 es2.length c4) ho.ok) ((St.ownV hs (.head _)).mean.weak (fun _ _ => trivial)) (fun x hx => (hok2 x hx).1) hd2 (by omega) (by omega))) rfl rfl ?_; rintro _ _ ⟨zs, ta, hL, hz, rfl, hf4⟩; have hs := hs.fresh hf4; (try simp only [zcc] at hs))) | (apply aH) | ((apply aC); (first | (apply cI; exact jU rfl rfl (by omega) aI) | exact zop); first | (exact rfl; exact rfl) | exact rfl) | (apply aQ) | (apply aB) | (apply bG; refine bP rfl ?_) | (apply aU; refine JL_u (by apply aP; exact aK hs rfl rfl rfl) rfl ?_; rintro _ _ ⟨hs, hF⟩) | (apply aG; refine aZ rfl ob ?_))
              have hs : St w NoF _ [Own rs2 es2, bZ ta N N (zs.map Prod.fst), Blk b6 _, bZ a4 es2.length c4 rs2] := hs.sel [1, 0, 3, 2] (by decide)
              have hs := St.ownZ hs hz
              have hs : St w NoF _ [bZ ta N N (zs.map Prod.fst), Own (zs.map Prod.fst) (zs.map Prod.snd), Blk b6 _, bZ a4 es2.length c4 rs2] := hs.sel [1, 0, 2, 3] (by decide)
              have hlz := hL.len
              have hpw : powB N = true := (rX N).2 ⟨j, hN⟩
              have hck := hL.check hpw (fun x hx => (hok2 x hx).2) (by omega) (by omega)
              have hp2 := hL.perm
              rw [hes2, hald] at hp2
              obtain ⟨es3, hes3⟩ : ∃ es3, es3 = zs.map Prod.snd := ⟨_, rfl⟩
              rw [← hes3] at hs hlz hck hp2
              rw [← hlz] at hs ⊢
              refine aM Tryz.func132 rfl (.agg' hs rfl rfl (.tmp rfl .nil)) (.inr ⟨rfl, es3, zs.map Prod.fst, ta, ⟨hck, hp2, by omega⟩, rfl, hs.out (.cons_cons _ (.cons_cons _ (List.nil_sublist _)))⟩)
    · have ht : dF t = false := by simpa using ht
      rw [if_neg (by rw [ht]; decide)]
      repeat' (first | ((apply aL 118; refine JL_o (by exact aA lM rfl (eJ _ a n c es (h.st hs) hn)) rfl rfl ?_; rintro _ _ ⟨rfl, hE⟩; rw [if_pos hc]; have hs := hs.ext hE; (try simp only [zcc] at hs))) | ((apply aL 187; refine JL_o (by exact aA yO rfl (qI _ a n c es (h.st hs) hn hlen)) rfl rfl ?_; rintro _ _ ⟨es1, rs1, hp, hpw, a1, c1, rfl, hf⟩; have hs := hs.fresh hf; (try simp only [zcc] at hs))) | ((apply aL 59; refine JL_o (by exact aA en59 rfl (dC _ a2 n2 c2 t (h2.st hs))) rfl rfl ?_; rintro _ _ ⟨rfl, hE⟩; rw [ht]; have hs := hs.ext hE; (try simp only [zcc] at hs))) | (apply aH) | ((apply aC); exact zop; first | (exact rfl; exact rfl) | exact rfl) | (apply aQ) | (apply aB) | (apply aN) | (apply aV) | (apply aF (t := 3); refine JL_o (by apply bN; exact bC hs rfl) rfl rfl ?_; rintro _ _ ⟨b3, rfl, hb3, hs, hE⟩) | (apply aF (t := 6); refine JL_o (by apply aR; exact aJ hs) rfl rfl ?_; rintro _ _ ⟨b6, rfl, hb6, hs, hE⟩) | (apply aU; refine JL_u (by apply aP; exact aK hs rfl rfl rfl) rfl ?_; rintro _ _ ⟨hs, hF⟩) | (apply aG; first | refine aZ rfl ob ?_ | refine bB rfl gb ?_))
      refine aM Tryz.func132 rfl (.agg' hs rfl rfl (.tmp rfl .nil)) (.inl ⟨by decide, rfl, hs.frm.ext⟩)
  · rw [if_neg hc]
    repeat' (first | ((apply aL 118; refine JL_o (by exact aA lM rfl (eJ _ a n c es (h.st hs) hn)) rfl rfl ?_; rintro _ _ ⟨rfl, hE⟩; rw [if_neg hc]; have hs := hs.ext hE; (try simp only [zcc] at hs))) | (apply aH) | ((apply aC); exact zop; first | (exact rfl; exact rfl) | exact rfl) | (apply aQ) | (apply aB) | (apply aF (t := 3); refine JL_o (by apply bN; exact bC hs rfl) rfl rfl ?_; rintro _ _ ⟨b3, rfl, hb3, hs, hE⟩) | (apply aF (t := 6); refine JL_o (by apply aR; exact aJ hs) rfl rfl ?_; rintro _ _ ⟨b6, rfl, hb6, hs, hE⟩) | (apply aU; refine JL_u (by apply aP; exact aK hs rfl rfl rfl) rfl ?_; rintro _ _ ⟨hs, hF⟩) | (apply aG; refine aS rfl ob ?_))
    refine aM Tryz.func132 rfl (.agg' hs rfl rfl (.tmp rfl .nil)) (.inl ⟨by decide, rfl, hs.frm.ext⟩)
end Go.Eng
end
section
namespace Go.Eng
open Go.Proofs Go.RowKit
set_option linter.unusedSimpArgs false
set_option linter.unusedVariables false
theorem Sl.cut {α : Type} {d : Ty α} {R : Nat → Prop} {w : World} {a : Option Addr} {n c : Nat} {xs : List α} (h : Sl d R w a n c xs) (m : Nat) (hm : m ≤ n) : Sl d R w a m c (xs.take m) := by
  obtain ⟨h1, h2, h3, s⟩ := h
  have hl := s.len
  refine ⟨by omega, h2, h3, ⟨by rw [List.length_take]; omega, fun ha => by have := s.nil ha; omega, fun hp => s.plain (by omega), fun b o ha hp => s.reg b o ha (by omega), fun i x hx => ?_⟩⟩
  rw [List.getElem?_take] at hx
  split at hx
  · exact s.el i x hx
  · cases hx
def cutE (x : Ent) : Ent := (x.1, x.2.1.take 14, x.2.2)
attribute [local irreducible] Hold J JL JD JX JXat OpR OpG Ret RetV Is Blk Row
set_option maxRecDepth 100000
set_option maxHeartbeats 1000000
end Go.Eng
end
section
namespace Go.Eng
open Go.Proofs
set_option linter.unusedSimpArgs false
set_option linter.unusedVariables false
theorem aBx : cH (newE 8) = true := by decide
theorem aB2 : allM (newE 8) = [] := by decide
theorem aAh {es : List Ent} {t : List Int} {v : Int} (hc : cH es = true) (ht : dF t = true) (hv : 0 ≤ v) (hp : ∀ y ∈ es.filter dI, y.2.1 ≠ t) (hl : (allM es).length ≠ 4000) : putE es t v = 0 := by
  unfold putE
  rw [if_pos hc, if_pos ht, if_neg (by omega)]
  rcases gE es t with h | ⟨q, x, hx, _, h1, h2⟩
  · rw [h, if_neg (by decide), if_neg hl]
  · exact absurd h2 (hp x (List.mem_filter.2 ⟨List.mem_of_getElem? hx, decide_eq_true h1⟩))
theorem tP {es : List Ent} (hc : cH es = true) {x : Ent} (hx : x ∈ es.filter dI) : ∃ i : Nat, eU es x.2.1 = (i : Int) ∧ es[i]? = some x := by
  obtain ⟨h1, h2⟩ := List.mem_filter.1 hx
  obtain ⟨i, hi⟩ := List.mem_iff_getElem?.1 h1
  exact ⟨i, ((gV hc hi).1 (of_decide_eq_true h2)).2.2, hi⟩
theorem find_mem {es : List Ent} (hc : cH es = true) {x : Ent} (hx : x ∈ es.filter dI) : kC es x.2.1 = (x.2.2, true) := by
  obtain ⟨i, h1, h2⟩ := tP hc hx
  unfold kC
  rw [if_pos hc, h1, if_neg (by omega), Int.toNat_natCast, cW h2]
theorem eM {w0 w : World} {F : Nat → Prop} {L : List HP} {a : Option Addr} {n c : Nat} {rs : List REnt} {es : List Ent} (hs : St w0 F w L) (h1 : bZ a n c rs ∈ L) (h2 : Own rs es ∈ L) : Sl dEnt All w a n c es := (OwnV.sl (by exact hs.all _ h1) (by exact hs.all _ h2)).weak (fun _ _ => trivial)
theorem tw0 : dF [] = true := by decide
attribute [local irreducible] Hold J JL JD JX JXat OpR OpG Ret RetV Is Blk Row
set_option maxRecDepth 100000
set_option maxHeartbeats 1000000
theorem aAf (w : World) (a : Option Addr) (n c : Nat) (es : List Ent) (a2 : Option Addr) (n2 c2 : Nat) (t : List Int) (v : Int) (h : Sl dEnt All w a n c es) (hn : n ≤ 1048576) (h2 : Sl (tInt .u64) All w a2 n2 c2 t) (hv : inK .i64 v) (hp : putE es t v = 0) :
    Ret Tryz.prog 132 #[.agg #[.slice a n c], .slice a2 n2 c2, .int .i64 v] w fun u w' => ∃ (es' : List Ent) (rs' : List REnt) (a' : Option Addr), (cH es' = true ∧ (es'.filter dI).Perm (allM es ++ [(1, t, v)]) ∧ es'.length ≤ 1048576) ∧ u = .tuple #[.agg #[.slice a' es'.length es'.length], .int .i64 0] ∧ Fresh w w' [bZ a' es'.length es'.length rs', Own rs' es'] :=
  (put_r w a n c es a2 n2 c2 t v h hn h2 hv).mono fun u w' hh => by
    rcases hh with ⟨h1, _⟩ | ⟨_, h2⟩
    · exact absurd hp h1
    · exact h2
theorem put_bad (w : World) (a : Option Addr) (n c : Nat) (es : List Ent) (a2 : Option Addr) (n2 c2 : Nat) (t : List Int) (v : Int) (h : Sl dEnt All w a n c es) (hn : n ≤ 1048576) (h2 : Sl (tInt .u64) All w a2 n2 c2 t) (hv : inK .i64 v) (hp : putE es t v ≠ 0) :
    Ret Tryz.prog 132 #[.agg #[.slice a n c], .slice a2 n2 c2, .int .i64 v] w fun u w' => u = .tuple #[.agg #[.slice none 0 0], .int .i64 (putE es t v)] ∧ Ext w w' :=
  (put_r w a n c es a2 n2 c2 t v h hn h2 hv).mono fun u w' hh => by
    rcases hh with ⟨_, h1⟩ | ⟨h1, _⟩
    · exact h1
    · exact absurd h1 hp
end Go.Eng
end
section
namespace Go.Eng
open Go.Proofs Go.RowKit
set_option linter.unusedSimpArgs false
set_option linter.unusedVariables false
section
variable {P : Program} {env : Env} {w0 w : World} {F : Nat → Prop} {L : List HP} {dst : Option Tmp} {ty : TypeId} {pos : String} {af : Array Edge} {gd : Option (Nat × Bool)}
end
end Go.Eng
end
section
namespace Go.Eng
open Go.Proofs
set_option linter.unusedSimpArgs false
set_option linter.unusedVariables false
theorem allF_le (es : List Ent) : (allF es).length ≤ 4000 := by
  unfold allF
  by_cases h : cH es = true
  · rw [if_pos h]; exact aB4 h
  · rw [if_neg h]; simp
abbrev gone : Ent := (2, [], 0)
theorem lO {es : List Ent} {t : List Int} {h : Int} {p : Nat} {x : Ent} (hx : es[p]? = some x) (hx1 : x.1 = 1) (hxt : x.2.1 ≠ t) : ∀ (f k : Nat), eZ (es.set p gone) t h f k = eZ es t h f k
  | 0, k => rfl
  | f + 1, k => by
    unfold eZ
    rw [List.length_set]
    by_cases c : cV h es.length k = p
    · rw [c, jT (List.getElem?_eq_some_iff.1 hx).1, cW hx]
      rw [if_neg (show ¬ gone.1 = 0 by decide), if_neg (fun z => absurd z.1 (by decide)), if_neg (by omega), if_neg (fun z => hxt z.2)]
      exact lO hx hx1 hxt f (k + 1)
    · rw [jS c, lO hx hx1 hxt f (k + 1)]
theorem vQ {es : List Ent} {p : Nat} {x : Ent} (hx : es[p]? = some x) (hx1 : x.1 = 1) : (es.filter dI).Perm (x :: (es.set p gone).filter dI) := by
  have hq := (List.getElem?_eq_some_iff.1 hx).1
  have h1 : es = es.take p ++ x :: es.drop (p + 1) := by
    conv => lhs; rw [← List.take_append_drop p es, List.drop_eq_getElem_cons hq, (List.getElem?_eq_some_iff.1 hx).2]
  have h2 : es.set p gone = es.take p ++ gone :: es.drop (p + 1) := by
    rw [List.set_eq_take_append_cons_drop, if_pos hq]
  rw [h2]
  conv => lhs; rw [h1]
  rw [List.filter_append, List.filter_append, List.filter_cons_of_pos (by simp [dI, hx1]), List.filter_cons_of_neg (by decide)]
  exact List.perm_middle
theorem aBr {es : List Ent} {p : Nat} {x y : Ent} (hx : es[p]? = some x) (s : Int) : cnt (es.set p y) s + (if x.1 = s then 1 else 0) = cnt es s + (if y.1 = s then 1 else 0) := by
  have hq := (List.getElem?_eq_some_iff.1 hx).1
  have h1 : es = es.take p ++ x :: es.drop (p + 1) := by
    conv => lhs; rw [← List.take_append_drop p es, List.drop_eq_getElem_cons hq, (List.getElem?_eq_some_iff.1 hx).2]
  have h2 : es.set p y = es.take p ++ y :: es.drop (p + 1) := by
    rw [List.set_eq_take_append_cons_drop, if_pos hq]
  unfold cnt
  rw [h2]
  conv => rhs; rw [h1]
  rw [List.filter_append, List.filter_append, List.length_append, List.length_append, List.filter_cons, List.filter_cons]
  by_cases c1 : x.1 = s <;> by_cases c2 : y.1 = s <;> simp [c1, c2] <;> omega
theorem nL {es : List Ent} (hc : cH es = true) {p : Nat} {x : Ent} (hx : es[p]? = some x) (hx1 : x.1 = 1) : cH (es.set p gone) = true := by
  have hp := (List.getElem?_eq_some_iff.1 hx).1
  have hc' := hc
  unfold cH pU at hc'
  simp only [Bool.and_eq_true, decide_eq_true_eq] at hc'
  obtain ⟨⟨h1, h2, h3, h4, h5⟩, h6⟩ := hc'
  have htk : lW (es.set p gone) = lW es := by
    have a1 := aBr (y := gone) hx 1
    have a2 := aBr (y := gone) hx 2
    rw [if_pos hx1, if_neg (by decide)] at a1
    rw [if_neg (by omega), if_pos rfl] at a2
    unfold lW; omega
  have hst : stOk (es.set p gone) = true := by
    unfold stOk at h1 ⊢
    rw [List.all_eq_true] at h1 ⊢
    intro y hy
    rcases List.mem_or_eq_of_mem_set hy with hm | rfl
    · exact h1 y hm
    · decide
  unfold cH pU
  rw [hst, htk, List.length_set, decide_eq_true h2, decide_eq_true h3, decide_eq_true h4, decide_eq_true h5, Bool.true_and, Bool.true_and, Bool.true_and, Bool.true_and, Bool.true_and, pB]
  intro i hi
  by_cases c : i = p
  · subst c
    unfold jV
    rw [jT hi, if_neg (show ¬ gone.1 = 1 by decide)]
    decide
  · have hy : es[i]? = some es[i] := List.getElem?_eq_getElem hi
    obtain ⟨y, hyd⟩ : ∃ y, y = es[i] := ⟨_, rfl⟩
    rw [← hyd] at hy
    have hs := (pB _ _).1 h6 i hi
    unfold jV at hs ⊢
    rw [jS c, cW hy]
    rw [cW hy] at hs
    by_cases c1 : y.1 = 1
    · rw [if_pos c1] at hs ⊢
      simp only [Bool.and_eq_true, decide_eq_true_eq] at hs ⊢
      refine ⟨hs.1, hs.2.1, ?_⟩
      have hne : x.2.1 ≠ y.2.1 := fun e => by
        have hxp := ((gV hc hx).1 hx1).2.2
        rw [e] at hxp
        have := hs.2.2.symm.trans hxp
        omega
      unfold eU
      rw [List.length_set, lO hx hx1 hne]
      exact hs.2.2
    · rw [if_neg c1] at hs ⊢
      exact hs
end Go.Eng
end
section
namespace Go.Eng
open Go.Proofs
set_option linter.unusedSimpArgs false
set_option linter.unusedVariables false
attribute [local irreducible] Hold J JL JD JX JXat OpR OpG Ret RetV Is Blk Row
set_option maxRecDepth 100000
set_option maxHeartbeats 1000000
theorem cloneE_r (w : World) (a : Option Addr) (n c : Nat) (rs : List REnt) (h : Sl eV All w a n c rs) (hn : n ≤ 1048576) :
    Ret Tryz.prog 177 #[.slice a n c] w fun v w' => ∃ a' c', v = .slice a' n c' ∧ Fresh w w' [bZ a' n c' rs] := by
  refine bI (l := [_]) Tryz.func177 rfl Tryz.ntmps177 (by simp) ?_
  have hs := St.init w
  obtain ⟨hsrc, hpl, _⟩ := h.srcF
  have hl := h.len
  cases a with
  | none =>
    have hn0 := hsrc.2.1 rfl
    subst hn0
    have : rs = [] := List.eq_nil_of_length_eq_zero (by omega)
    subst this
    repeat' (first | (apply aH) | ((apply aC); exact zop; first | (exact rfl; exact rfl) | exact rfl) | (apply aQ) | (apply aB) | (apply aG; refine bB rfl gb ?_))
    have hs := hs.nilRow 139 3
    refine aM Tryz.func177 rfl (.tmp rfl .nil) ⟨_, _, rfl, hs.out (List.Sublist.refl _)⟩
  | some ad =>
    repeat' (first | ((apply aF; refine JL_o (by apply bJ; exact bF hs rfl (by omega) rfl) rfl rfl ?_; rintro _ _ ⟨b, rfl, hb, hs, hE⟩; have hs := hs.toRow 0 0 0 3 (xs := []) (Nat.le_refl _) (by unfold maxLen; omega) (by simp) rfl)) | ((apply aF; refine JL_o (by apply bW; exact cF hs rfl rfl (Src.st hsrc hs) hpl rfl (by omega) (by unfold maxLen; omega)) rfl rfl ?_; rintro _ _ ⟨a2, c2, rfl, hs, hF, hnil⟩; rw [Nat.zero_add] at hs ⊢; rw [List.nil_append] at hs)) | (apply aH) | ((apply aC); exact zop; first | (exact rfl; exact rfl) | exact rfl) | (apply aQ) | (apply aB) | (apply aV) | (apply aG; refine bD rfl gb ?_))
    refine aM Tryz.func177 rfl (.tmp rfl .nil) ⟨_, _, rfl, hs.out (.cons_cons _ (List.nil_sublist _))⟩
end Go.Eng
end
section
namespace Go.Eng
open Go.Proofs
set_option linter.unusedSimpArgs false
set_option linter.unusedVariables false
theorem St.ownSet {w0 w : World} {F : Nat → Prop} {L : List HP} {rs : List REnt} {es : List Ent} (h : St w0 F w (Own rs es :: L)) (p : Nat) : St w0 F w (Own (rs.set p (2, (none, 0, 0), 0)) (es.set p gone) :: L) := by
  refine h.conv (fun k hk => ?_) (fun hh => ?_)
  · obtain ⟨r, hr, hk⟩ := hk
    rcases List.mem_or_eq_of_mem_set hr with hm | rfl
    · exact ⟨r, hm, hk⟩
    · simp [dH] at hk
  · have hh : OwnV w rs es := hh
    refine ⟨by rw [List.length_set, List.length_set]; exact hh.1, fun i r x hr hx => ?_⟩
    rw [List.getElem?_set] at hr hx
    by_cases c : p = i
    · subst c
      rw [if_pos rfl] at hr hx
      have hl := hh.1
      by_cases c2 : p < rs.length
      · rw [if_pos c2] at hr
        rw [if_pos (by omega)] at hx
        cases hr; cases hx
        exact ⟨⟨rfl, rfl, rfl, by unfold inK; decide, by unfold inK; decide⟩, lD w _ _, fun v hv => by cases hv⟩
      · rw [if_neg c2] at hr; cases hr
    · rw [if_neg c] at hr hx
      exact hh.2 i r x hr hx
def uI (es : List Ent) (t : List Int) : Int := if cH es then (if eU es t < 0 then 4 else 0) else 170
attribute [local irreducible] Hold J JL JD JX JXat OpR OpG Ret RetV Is Blk Row
set_option maxRecDepth 100000
set_option maxHeartbeats 1000000
theorem drop_r (w : World) (a : Option Addr) (n c : Nat) (es : List Ent) (a2 : Option Addr) (n2 c2 : Nat) (t : List Int) (h : Sl dEnt All w a n c es) (hn : n ≤ 1048576) (h2 : Sl (tInt .u64) All w a2 n2 c2 t) :
    Ret Tryz.prog 106 #[.agg #[.slice a n c], .slice a2 n2 c2] w fun u w' => (uI es t ≠ 0 ∧ u = .tuple #[.agg #[.slice none 0 0], .int .i64 (uI es t)] ∧ Ext w w') ∨
      (uI es t = 0 ∧ ∃ (p : Nat) (x : Ent) (rs' : List REnt) (a' : Option Addr) (c' : Nat), (es[p]? = some x ∧ x.1 = 1 ∧ x.2.1 = t) ∧ u = .tuple #[.agg #[.slice a' n c'], .int .i64 0] ∧ Fresh w w' [bZ a' n c' rs', Own rs' (es.set p gone)]) := by
  refine bI (l := [_, _]) Tryz.func106 rfl Tryz.ntmps106 (by simp) ?_
  have hs := St.init w
  unfold uI
  by_cases hc : cH es = true
  · rw [if_pos hc]
    rcases gE es t with hp | ⟨p, xp, hxp, hp, hxp1, hxp2⟩
    · rw [hp, if_pos (by decide)]
      repeat' (first | ((apply aL 118; refine JL_o (by exact aA lM rfl (eJ _ a n c es (h.st hs) hn)) rfl rfl ?_; rintro _ _ ⟨rfl, hE⟩; rw [if_pos hc]; have hs := hs.ext hE; (try simp only [zcc] at hs))) | ((apply aL 176; refine JL_o (by exact aA uE rfl (kG _ a n c es a2 n2 c2 t (h.st hs) hn (h2.st hs))) rfl rfl ?_; rintro _ _ ⟨rfl, hE⟩; rw [hp]; have hs := hs.ext hE; (try simp only [zcc] at hs))) | (apply aH) | ((apply aC); exact zop; first | (exact rfl; exact rfl) | exact rfl) | (apply aQ) | (apply aB) | (apply aV) | (apply aF (t := 2); refine JL_o (by apply bN; exact bC hs rfl) rfl rfl ?_; rintro _ _ ⟨b2, rfl, hb2, hs, hE⟩) | (apply aF (t := 4); refine JL_o (by apply aR; exact aJ hs) rfl rfl ?_; rintro _ _ ⟨b4, rfl, hb4, hs, hE⟩) | (apply aU; refine JL_u (by apply aP; exact aK hs rfl rfl rfl) rfl ?_; rintro _ _ ⟨hs, hF⟩) | (apply aG; first | refine aS rfl ob ?_ | refine aZ rfl ob ?_))
      refine aM Tryz.func106 rfl (.agg' hs rfl rfl (.tmp rfl .nil)) (.inl ⟨by decide, rfl, hs.frm.ext⟩)
    rw [hp, if_neg (by omega)]
    have ht := fun x hx => Nat.le_trans (mS hc (x := x) hx) (by decide : 12 ≤ 4000000000)
    obtain ⟨rs, hr, hm⟩ := Sl.raw (D := fB) h
    have hl := hr.len
    have hle := h.len
    have hok := mC h
    have hpn : p < n := by rw [← hle]; exact (List.getElem?_eq_some_iff.1 hxp).1
    repeat' (first | ((apply aL 118; refine JL_o (by exact aA lM rfl (eJ _ a n c es (h.st hs) hn)) rfl rfl ?_; rintro _ _ ⟨rfl, hE⟩; rw [if_pos hc]; have hs := hs.ext hE; (try simp only [zcc] at hs))) | ((apply aL 176; refine JL_o (by exact aA uE rfl (kG _ a n c es a2 n2 c2 t (h.st hs) hn (h2.st hs))) rfl rfl ?_; rintro _ _ ⟨rfl, hE⟩; rw [hp]; have hs := hs.ext hE; (try simp only [zcc] at hs))) | ((apply aL 177; refine JL_o (by exact aA en177 rfl (cloneE_r _ a n c rs (hr.st hs) hn)) rfl rfl ?_; rintro _ _ ⟨a1, c1, rfl, hf⟩; have hs := hs.fresh hf; (try simp only [zcc] at hs))) | (apply aH) | ((apply aC); exact zop; first | (exact rfl; exact rfl) | exact rfl) | (apply aQ) | (apply aB) | (apply aN) | (apply aV) | (apply aF (t := 2); refine JL_o (by apply bN; exact bC hs rfl) rfl rfl ?_; rintro _ _ ⟨b2, rfl, hb2, hs, hE⟩) | (apply aF (t := 4); refine JL_o (by apply aR; exact aJ hs) rfl rfl ?_; rintro _ _ ⟨b4, rfl, hb4, hs, hE⟩) | (apply aF (t := 8); refine JL_o (by apply aR; exact aJ hs) rfl rfl ?_; rintro _ _ ⟨b8, rfl, hb8, hs, hE⟩) | (apply aU; refine JL_u (by apply aP; exact aK hs rfl rfl rfl) rfl ?_; rintro _ _ ⟨hs, hF⟩) | (apply aG; refine aZ rfl ob ?_))
    have hs := hs.nilOwn
    refine bT (α := Nat × List REnt) [(4, _), (7, _), (8, _), (28, _), (29, _)] (fun g => [(30, .int .i64 g.1)]) (fun g w' => St w NoF w' [bZ a1 n c1 (g.2 ++ rs.drop g.1), Own g.2 (es.take g.1), Blk b8 (.cells #[.slice a1 n c1] 55 (0, 0)), Blk b4 (.cells #[.slice none 0 0] 55 (0, 0))] ∧ g.2.length = g.1 ∧ g.1 ≤ n) (fun g => n - g.1) (0, []) ⟨hs.sel [2, 0, 1, 3] (by decide), rfl, Nat.zero_le _⟩ zss ?_
    rintro ⟨k, rs3⟩ w2 ⟨hs1, hk3, hk⟩ ih
    dsimp only at hs1 hk3 hk ih ⊢
    by_cases hlt : k < n
    · obtain ⟨b, o, rfl⟩ := (hs1.row a1 n c1).some (by omega)
      have hs : St w NoF w2 [_, _, _, _] := hs1
      have hx : es[k]? = some (es[k]'(by omega)) := List.getElem?_eq_getElem (by omega)
      obtain ⟨x, hxd⟩ : ∃ x, x = es[k]'(by omega) := ⟨_, rfl⟩
      rw [← hxd] at hx
      obtain ⟨r, hrx, hrel⟩ := hm.get hx
      obtain ⟨ok1, ok2, ok3⟩ := hok x (List.mem_of_getElem? hx)
      have ok4 := ht x (List.mem_of_getElem? hx)
      have e1 : r.1 = x.1 := hrel.1
      have e3 : r.2.2 = x.2.2 := hrel.2.2
      have m2 : Sl (tInt .u64) All w r.2.1.1 r.2.1.2.1 r.2.1.2.2 x.2.1 := hrel.2.1
      have mlen := m2.len
      have hcur : (rs3 ++ rs.drop k)[k]? = some r := by rw [List.getElem?_append_right (by omega), hk3, Nat.sub_self, List.getElem?_drop, Nat.add_zero]; exact hrx
      have hld : ∀ (q : Nat) (u : Value), (bS r)[q]? = some u → (encL bS (rs3 ++ rs.drop k))[k * 3 + q]? = some u := fun q u hq => by
        have hq3 : q < 3 := (List.getElem?_eq_some_iff.1 hq).1
        rw [show (encL bS (rs3 ++ rs.drop k))[k * 3 + q]? = (bS r)[q]? from dK (d := eV) (rs3 ++ rs.drop k) k q r hcur hq3]; exact hq
      have htk : es.take (k + 1) = es.take k ++ [x] := by rw [List.take_add_one, hx]; rfl
      repeat' (first | ((apply ax_c; apply gG 24; exact rfl; (intro W X hN hs; exact aA en24 rfl (lJ _ r.2.1.1 r.2.1.2.1 r.2.1.2.2 x.2.1 (m2.st hs) (by omega))); (rintro _ _ _ _ ⟨a3, c3, rfl, hf⟩; first | exact hE | exact Fresh.ext hf); rintro W X _ _ hN hs ⟨a3, c3, rfl, hf⟩; have hs := hs.fresh hf; (try simp only [zcc] at hs); refine JX.at hs ?_)) | ((apply aU; have hset := (pP (rs3 ++ rs.drop k) k r (a3, r.2.1.2.1, c3) hcur).trans (congrArg (encL bS) (oU rs3 rs k (r.1, (a3, r.2.1.2.1, c3), r.2.2) hk3 (by omega))); refine JL_u (by apply aP; exact cD (b := b) (o := o) (off := k * 3 + 1) (n := n) (c := c1) (vs := [.slice a3 r.2.1.2.1 c3]) hs rfl rfl rfl rfl (by simp [Value.oneCell']) (by show k * 3 + 1 + 1 ≤ n * 3; omega)) rfl ?_; rintro _ _ ⟨hs, hF⟩; rw [hset] at hs)) | (apply aH) | ((first | (apply aC) | (apply JX_f; exact rfl; intro W X hs)); (first | (apply aT; exact iH (b := b) (o := o) (off := k * 3) (n := n) (c := c1) hs rfl rfl hld aI) | exact zop); first | (exact rfl; exact rfl) | exact rfl) | (apply aQ) | (apply aB) | (apply aN) | (apply aW) | (apply aV) | (apply aF (t := 10); refine JL_o (by apply aR; exact aJ hs) rfl rfl ?_; rintro _ _ ⟨b10, rfl, hb10, hs, hE⟩) | (apply aU; refine JL_u (by apply aP; exact aK hs rfl rfl rfl) rfl ?_; rintro _ _ ⟨hs, hF⟩) | (apply aG; refine aS rfl ob ?_) | (apply bV; (refine bQ (id := 11) [0, 1, 0, 0, 8, 24, 63, 127, 255] [(0, 0), (1, 0), (2, 0), (3, 0), (4, 0), (5, 1), (6, 0), (7, 0)] [8] hs cQ (by kernel_rfl) (by kernel_rfl) (by kernel_rfl) (by kernel_rfl) (by kernel_rfl) ?_)) | (refine bU (fun W hs => ?_)) | (apply eS; case' hos => (simp only [List.map_cons, List.map_nil, List.getElem?_toArray, List.getElem?_cons_succ, List.getElem?_cons_zero]; repeat' (first | exact fS | apply eR))))
      have hs : St w NoF _ [Row a3 r.2.1.2.1 c3 29 1 (mX x.2.1), Own rs3 (es.take k), bZ (some ⟨b, o, none⟩) n c1 (rs3 ++ [(r.1, (a3, r.2.1.2.1, c3), r.2.2)] ++ rs.drop (k + 1)), Blk b8 _, Blk b4 _] := hs.sel [0, 3, 2, 4, 5] (by decide)
      have hs := St.pushOwn hs mlen.symm r.1 r.2.2 (by rw [e1]; exact ok1) (by rw [e3]; exact ok2) ok3
      have hx3 : (r.1, x.2.1, r.2.2) = x := by rw [e1, e3]
      rw [hx3, ← htk] at hs
      refine ih (k + 1, rs3 ++ [(r.1, (a3, r.2.1.2.1, c3), r.2.2)]) _ _ ⟨hs.sel [1, 0, 2, 3] (by decide), by simp [hk3], by dsimp only; omega⟩ (by dsimp only; omega) zss
    · have hkn : k = n := by omega
      rw [hkn, List.drop_of_length_le (by omega), List.append_nil, List.take_of_length_le (by omega)] at hs1
      obtain ⟨b, o, rfl⟩ := (hs1.row a1 n c1).some (by omega)
      have hs : St w NoF w2 [_, _, _, _] := hs1
      have hset : encL bS (rs3.set p (2, (none, 0, 0), 0)) = bR (encL bS rs3) (p * 3) (bS (2, (none, 0, 0), 0)) := iS (d := eV) rs3 p _ (by omega)
      repeat' (first | ((apply aU; refine JL_u (by apply aP; exact cD (b := b) (o := o) (off := p * 3) (n := n) (c := c1) (vs := bS (2, (none, 0, 0), 0)) hs rfl rfl rfl rfl (fun u hu => by simp only [List.mem_cons, List.not_mem_nil, or_false] at hu; rcases hu with rfl | rfl | rfl <;> rfl) (by show p * 3 + 3 ≤ n * 3; omega)) rfl ?_; rintro _ _ ⟨hs, hF⟩; rw [← hset] at hs)) | (apply aH) | ((apply aC); exact zop; first | (exact rfl; exact rfl) | exact rfl) | (apply aQ) | (apply aB) | (apply bG; refine bP rfl ?_) | (apply aU; refine JL_u (by apply aP; exact aK hs rfl rfl rfl) rfl ?_; rintro _ _ ⟨hs, hF⟩) | (apply aG; refine aZ rfl ob ?_))
      have hs : St w NoF _ [Own rs3 es, bZ (some ⟨b, o, none⟩) n c1 (rs3.set p (2, (none, 0, 0), 0)), Blk b8 _, Blk b4 _] := hs.sel [1, 0, 2, 3] (by decide)
      have hs := St.ownSet hs p
      have hs : St w NoF _ [bZ (some ⟨b, o, none⟩) n c1 (rs3.set p (2, (none, 0, 0), 0)), Own (rs3.set p (2, (none, 0, 0), 0)) (es.set p gone), Blk b8 _, Blk b4 _] := hs.sel [1, 0, 2, 3] (by decide)
      refine aM Tryz.func106 rfl (.agg' hs rfl rfl (.tmp rfl .nil)) (.inr ⟨rfl, p, xp, _, _, _, ⟨hxp, hxp1, hxp2⟩, rfl, hs.out (.cons_cons _ (.cons_cons _ (List.nil_sublist _)))⟩)
  · rw [if_neg hc]
    repeat' (first | ((apply aL 118; refine JL_o (by exact aA lM rfl (eJ _ a n c es (h.st hs) hn)) rfl rfl ?_; rintro _ _ ⟨rfl, hE⟩; rw [if_neg hc]; have hs := hs.ext hE; (try simp only [zcc] at hs))) | (apply aH) | ((apply aC); exact zop; first | (exact rfl; exact rfl) | exact rfl) | (apply aQ) | (apply aB) | (apply aF (t := 2); refine JL_o (by apply bN; exact bC hs rfl) rfl rfl ?_; rintro _ _ ⟨b2, rfl, hb2, hs, hE⟩) | (apply aF (t := 4); refine JL_o (by apply aR; exact aJ hs) rfl rfl ?_; rintro _ _ ⟨b4, rfl, hb4, hs, hE⟩) | (apply aU; refine JL_u (by apply aP; exact aK hs rfl rfl rfl) rfl ?_; rintro _ _ ⟨hs, hF⟩) | (apply aG; refine aS rfl ob ?_))
    refine aM Tryz.func106 rfl (.agg' hs rfl rfl (.tmp rfl .nil)) (.inl ⟨by decide, rfl, hs.frm.ext⟩)
end Go.Eng
end
section
namespace Go.Eng
open Go.Proofs
set_option linter.unusedSimpArgs false
set_option linter.unusedVariables false
attribute [local irreducible] Hold J JL JD JX JXat OpR OpG Ret RetV Is Blk Row
set_option maxRecDepth 100000
set_option maxHeartbeats 1000000
end Go.Eng
end
section
namespace Go.Eng
open Go.RowKit
section
variable {P : Program} {f : FuncId} {ro : Option Nat} {n : Nat} {R : Value → World → Prop} {k : List Item} {ds : List Deferred} {env env0 : Env} {w0 w w' : World} {F : Nat → Prop}
variable {ops : Array Oper} {T : List Nat} {X Z : Nat → Prop} {N0 : Nat} {C0 : List HP} {D D' : List (Nat × Value)} {τ : List Nat}
variable {A : List AE} {σ : List (Nat × Nat)} {C : List HP}
variable {op : Op} {ty : TypeId} {pos : String} {af : Array Edge}
theorem JX_cu {i : Nat} {S : World → HP → Value → World → Prop} (ho : ops[i]? = some ⟨none, op, ty, pos, af, none⟩) (h : ∀ W X, N0 ≤ W.heap.size → St w0 F W (X :: C) → OpR P env ⟨none, op, ty, pos, af, none⟩ W (S W X)) (hS : ∀ W X v w', S W X v w' → Rl Z W w') (hnd : cG op = true)
    (hk : ∀ W X v w', N0 ≤ W.heap.size → St w0 F W (X :: C) → S W X v w' → JXat P f ro n R ops T w0 F Z N0 C0 A σ τ ((i, v) :: D) env0 k ds env w' X) : JX P f ro n R ops T w0 F Z N0 C0 A ((i, 1) :: σ) τ D env0 k ds env C :=
  qA ho hnd (fun W X hN hs => iV rfl (h W X hN hs)) hS hk
end
end Go.Eng
end
section
namespace Go.Eng
open Go.RowKit
set_option linter.unusedVariables false
section
variable {P : Program} {env : Env} {w0 w : World} {F : Nat → Prop} {L : List HP} {dst : Option Tmp} {ty : TypeId} {pos : String} {af : Array Edge} {gd : Option (Nat × Bool)} {S : Value → World → Prop}
theorem RetV.ext {g : FuncId} {args : Array Value} {v : Value} (h : (callFunc g args).run P w = .ok (.value v) w) (hS : S v w) : RetV P (.func (.func g) #[] #[]) args w S :=
  ⟨{ target := .fn (.func g) #[], args := args }, .value v, w, by simp [Deferred.ofValue], by simp only [invoke, Array.append_empty]; exact h, hS⟩
theorem St.growRow {a : Option Addr} {n c e sz : Nat} {xs : List Value} (h : St w0 F w (Row a n c e sz xs :: L)) (m : Nat) (hm : n ≤ m) (hmc : m ≤ c) : ∃ ys, ys.length = (m - n) * sz ∧ St w0 F w (Row a m c e sz (xs ++ ys) :: L) := by
  obtain ⟨h1, h2, h3, h4⟩ : RowV w a n c e sz xs := h.all _ List.mem_cons_self
  rcases h4 with ⟨rfl, hc⟩ | ⟨g, o, cur, rfl, hg, hsz, ht⟩
  · have hn : n = 0 := by omega
    have hm0 : m = 0 := by omega
    subst hn hm0 hc
    exact ⟨[], by simp, by rw [List.append_nil]; exact h⟩
  · have hmsz : m * sz ≤ c * sz := Nat.mul_le_mul_right _ hmc
    have hnsz : n * sz ≤ m * sz := Nat.mul_le_mul_right _ hm
    have e1 : (cur.toList.drop o).take (m * sz) = xs ++ ((cur.toList.drop o).drop (n * sz)).take ((m - n) * sz) := by
      rw [← ht, Nat.sub_mul, ← List.take_add, show n * sz + (m * sz - n * sz) = m * sz by omega]
    refine ⟨((cur.toList.drop o).drop (n * sz)).take ((m - n) * sz), ?_, h.conv (fun k hk => hk) (fun _ => ?_)⟩
    · rw [List.length_take, List.length_drop, List.length_drop, Array.length_toList, Nat.sub_mul]
      omega
    · refine ⟨?_, hmc, h3, .inr ⟨g, o, cur, rfl, hg, hsz, e1⟩⟩
      rw [← e1, List.length_take, List.length_drop, Array.length_toList]
      omega
theorem RowV.srcDrop {a : Option Addr} {n c e sz : Nat} {xs : List Value} (h : RowV w a n c e sz xs) (i m : Nat) {zs : List Value} (hzs : (xs.drop (i * sz)).take (m * sz) = zs) (h1 : ∀ u ∈ zs, u.oneCell' = true) (hi : i + m ≤ n) (hm : 0 < m) : Src w (a.map (·.add (i * sz))) m sz zs := by
  subst hzs
  have hl := h.1
  refine ⟨?_, fun ha => ?_, h1, fun b o ha j u hj => ?_⟩
  · rw [List.length_take, List.length_drop, hl]
    have : (i + m) * sz ≤ n * sz := Nat.mul_le_mul_right _ hi
    rw [Nat.add_mul] at this
    omega
  · obtain ⟨b, o, rfl⟩ := h.some (by omega)
    cases ha
  · obtain ⟨b', o', rfl⟩ := h.some (by omega)
    simp only [Option.map_some, Option.some.injEq, dV] at ha
    cases ha
    rw [List.getElem?_take] at hj
    split at hj
    · rw [List.getElem?_drop] at hj
      have := h.cells rfl hj
      rw [Nat.add_assoc]; exact this
    · cases hj
theorem wD {t tn e : Nat} {kn kq : IntKind} {sz by_ : Nat} {z : Value} {a : Option Addr} {n c i k : Nat} {xs : List Value} {x y : Operand} {f : HP → List HP} [U : Und P t (.slice e)] [U' : Und P tn (.int kn)] [Z : Sz P e sz] [B : Byt P e by_] [Zr : Zer P e z]
    (hs : St w0 F w L) (hx : ev env x = some (.slice a i c)) (hy : ev env y = some (.int kq k)) [r : RowAt L a n c e sz xs f] (hi : i ≤ n) (hk : 0 < k) (hz0 : 0 < sz) (hg : c < i + k) (hz : z.cells.size = sz) (hb : (i + k) * by_ ≤ 140737488355328) (h63 : i + k ≤ maxLen) :
    OpR P env ⟨dst, .call ⟨.builtin .append, #[x, y], #[t, tn]⟩, ty, pos, af, gd⟩ w (fun v w' => ∃ b c' zs, v = .slice (some ⟨b, 0, none⟩) (i + k) c' ∧ zs.length = k * sz ∧ St w0 F w' (Row (some ⟨b, 0, none⟩) (i + k) c' e sz (xs.take (i * sz) ++ zs) :: L) ∧ Ext w w') := by
  obtain ⟨inf, hinf, hi1, hi2, hi3⟩ := pJ (P := P) (e := e) (sz := sz) (by_ := by_) (z := z)
  have hrow := hs.row a n c
  obtain ⟨hl, hnc, hcm, hcase⟩ := id hrow
  have hlx : (xs.take (i * sz)).length = i * sz := by
    have : i * sz ≤ n * sz := Nat.mul_le_mul_right _ hi
    rw [List.length_take]; omega
  have hold : (Builtin.firstCells inf.size i (.slice a i c)).run P w.drew = .ok (xs.take (i * sz)).toArray w.drew := by
    rw [hi1]
    rcases hcase with ⟨rfl, hc0⟩ | ⟨g, o, cur, rfl, hgg, hsz, ht⟩
    · have hn0 : n = 0 := by omega
      have hi0 : i = 0 := by omega
      subst hn0 hi0
      rw [Nat.zero_mul, List.take_zero]
      exact run_firstCells_none w.drew sz 0 0 c
    · exact run_firstCells_some w.drew sz i ⟨g, o, none⟩ i c (xs.take (i * sz)) hlx (fun j v hj => by
        rw [dV]
        rw [List.getElem?_take] at hj
        split at hj
        · exact RowV.cells hrow rfl hj
        · cases hj)
  have h := Lib.run_append_grow_zeros w t tn ty e inf z kq kn U.h U'.h hinf hi3 a i c (xs.take (i * sz)) hold k hk (by rw [hi1]; exact hz0) hg (by unfold maxLen at h63; omega)
    (by rw [hi2]; have : k * by_ ≤ (i + k) * by_ := Nat.mul_le_mul_right _ (by omega); omega) (growslice_fits hg (by rw [hi2]; exact hb))
  have hge := grownCap_ge w (i + k) c e
  have hcm' : grownCap w (i + k) c e ≤ maxLen := grownCap_le_maxLen w (i + k) c e h63
  have hzc : (Builtin.zeroCells z.cells k).toList.length = k * sz := by rw [Array.length_toList, size_zeroCells, hz]
  have hF : Fresh w (w.drew.alloc (.cells ((xs.take (i * sz)).toArray ++ Builtin.zeroCells z.cells k ++ Builtin.zeroCells z.cells (grownCap w (i + k) c e - (i + k))) e)) [Row (some ⟨w.heap.size, 0, none⟩) (i + k) (grownCap w (i + k) c e) e sz (xs.take (i * sz) ++ (Builtin.zeroCells z.cells k).toList)] := by
    refine ⟨⟨rfl, rfl, rfl, by simp, fun k hk => (by first | exact heap_alloc_old w.drew _ hk | exact heap_alloc_old w.drew _ _ hk), Nat.le_succ _⟩, fun d hd => ?_, fun d hd k hk => ?_, List.pairwise_singleton _ _⟩
    · rw [List.mem_singleton.1 hd]
      refine ⟨by rw [List.length_append, hlx, hzc, Nat.add_mul], hge, hcm', .inr ⟨w.heap.size, 0, _, rfl, heap_alloc_new w.drew _, ?_, ?_⟩⟩
      · simp only [Array.size_append, List.size_toArray, size_zeroCells, hz, hlx, Nat.zero_add, ← Nat.add_mul]
        apply Nat.le_of_eq
        congr 1
        omega
      · simp only [Array.toList_append, List.drop_zero]
        have : (i + k) * sz = (xs.take (i * sz) ++ (Builtin.zeroCells z.cells k).toList).length := by rw [List.length_append, hlx, hzc, Nat.add_mul]
        rw [this]
        exact List.take_left
    · rw [List.mem_singleton.1 hd] at hk
      have hk : w.heap.size = k := by simpa [Row, dH] using hk
      subst hk
      exact ⟨Nat.le_refl _, by simp⟩
  obtain ⟨W', hW'⟩ : ∃ W', W' = w.drew.alloc (.cells ((xs.take (i * sz)).toArray ++ Builtin.zeroCells z.cells k ++ Builtin.zeroCells z.cells (grownCap w (i + k) c e - (i + k))) e) := ⟨_, rfl⟩
  rw [← hW'] at h hF
  refine .val (w' := W') (v := .slice (some ⟨w.heap.size, 0, none⟩) (i + k) (grownCap w (i + k) c e)) (fun _ hm => by simp [execOp, resolve, invoke, builtin, hm.eval hx, hm.eval hy, h]) ?_
  have hs2 := hs.fresh hF
  rw [List.singleton_append] at hs2
  exact ⟨w.heap.size, _, _, rfl, hzc, hs2, hF.ext⟩
theorem lR {t t' e e' : Nat} {sz by_ : Nat} {z : Value} {a ax : Option Addr} {n c m cx : Nat} {xs news : List Value} {x y : Operand} {f : HP → List HP} [U : Und P t (.slice e)] [U' : Und P t' (.slice e')] [Z : Sz P e sz] [B : Byt P e by_] [Zr : Zer P e z]
    (hs : St w0 F w L) (hx : ev env x = some (.slice a n c)) (hy : ev env y = some (.slice ax m cx)) [r : RowAt L a n c e sz xs f] (hsrc : Src w ax m sz news) (hp : 0 < m → iF ax) (hroom : n + m ≤ c) :
    OpR P env ⟨dst, .call ⟨.builtin .append, #[x, y], #[t, t']⟩, ty, pos, af, gd⟩ w (fun v w' => v = .slice a (n + m) c ∧ St w0 F w' (f (Row a (n + m) c e sz (xs ++ news))) ∧ Frm (dH a) w w') := by
  obtain ⟨inf, hi, hi1, hi2, hi3⟩ := pJ (P := P) (e := e) (sz := sz) (by_ := by_) (z := z)
  have hfx := dW (P := P) (l := m) (c := cx) hsrc hp
  obtain ⟨hl, hnc, hcm, hcase⟩ := hs.row a n c
  have hlx := hsrc.1
  rcases hcase with ⟨rfl, hc0⟩ | ⟨g, o, cur, rfl, hg, hsz, ht⟩
  · have hm0 : m = 0 := by omega
    have hn0 : n = 0 := by omega
    subst hm0 hn0 hc0
    have hn : news = [] := List.eq_nil_of_length_eq_zero (by simpa using hlx)
    subst hn
    have hx0 : xs = [] := List.eq_nil_of_length_eq_zero (by simpa using hl)
    subst hx0
    refine .val (w' := w) (v := .slice none 0 0) (fun _ hm => by simp [execOp, resolve, invoke, builtin, hm.eval hx, hm.eval hy, Builtin.append_, run_underlying U.h, run_underlying U'.h, sizeOf, typeInfo, hi, hi1, Builtin.lenOf, hfx]) ⟨rfl, ?_, ⟨rfl, rfl, rfl, Nat.le_refl _, fun _ _ _ => rfl, Nat.le_refl _⟩⟩
    exact hs.turn (r.ctx.up _) (Ext.refl w |>.frm _) (lD w e sz) (fun k hk => by simp [Row, dH] at hk)
  · have hfit : o + n * sz + news.length ≤ cur.size := by
      have : (n + m) * sz ≤ c * sz := Nat.mul_le_mul_right _ hroom
      rw [hlx]; rw [Nat.add_mul] at this; omega
    have hst := run_storeCells_at P g (o + n * sz) e news 0 cur w hg (by simpa using hfit) hsrc.2.2.1
    simp only [Nat.add_zero] at hst
    have hrun : (Builtin.append_ #[t, t'] ty #[.slice (some ⟨g, o, none⟩) n c, .slice ax m cx]).run P w = .ok (.slice (some ⟨g, o, none⟩) (n + m) c) (w.setRow g (cur.toList.take (o + n * sz) ++ news ++ cur.toList.drop (o + n * sz + news.length)).toArray) := by
      simp [Builtin.append_, run_underlying U.h, run_underlying U'.h, sizeOf, typeInfo, hi, hi1, Builtin.lenOf, hroom, hfx, dV, hst]
    rw [kD hg] at hrun
    have hlt : g < w.heap.size := (Array.getElem?_eq_some_iff.1 hg).1
    obtain ⟨W', hW'⟩ : ∃ W' : World, W' = { w with heap := w.heap.setIfInBounds g (.cells (cur.toList.take (o + n * sz) ++ news ++ cur.toList.drop (o + n * sz + news.length)).toArray e (0, 0)) } := ⟨_, rfl⟩
    rw [← hW'] at hrun
    refine .val (w' := W') (v := .slice (some ⟨g, o, none⟩) (n + m) c) (fun _ hm => by simp [execOp, resolve, invoke, builtin, hm.eval hx, hm.eval hy, hrun]) ?_
    have hF : Frm (Row (some ⟨g, o, none⟩) n c e sz xs).foot w W' := by subst hW'; exact ⟨rfl, rfl, rfl, by simp, fun k hk hf => by
      have : g ≠ k := fun e => hf (by simp [Row, dH, e])
      simp [Array.getElem?_setIfInBounds_ne this], Nat.le_refl _⟩
    subst hW'
    refine ⟨rfl, hs.turn (r.ctx.up _) hF ⟨by rw [List.length_append, hl, hlx, Nat.add_mul], hroom, hcm, .inr ⟨g, o, _, rfl, by simp [hlt]; rfl, ?_, ?_⟩⟩ (fun k hk => ⟨?_, .inl hk⟩), hF⟩
    · simp only [List.size_toArray, List.length_append, List.length_take, List.length_drop, Array.length_toList]
      omega
    · have hle : o + n * sz ≤ cur.size := by omega
      have e1 : cur.toList.take (o + n * sz) = cur.toList.take o ++ xs := by
        rw [← ht, List.take_add]
      have ho : o ≤ cur.toList.length := by simp; omega
      simp only [e1, List.append_assoc]
      rw [List.drop_append_of_le_length (by simp; omega), List.drop_of_length_le (by simp; omega), List.nil_append, ← List.append_assoc]
      have : (n + m) * sz = (xs ++ news).length := by rw [List.length_append, hl, hlx, Nat.add_mul]
      rw [this]
      exact List.take_left
    · have hk : g = k := by simpa [Row, dH] using hk
      subst hk; simpa using hlt
theorem aB9 {T e n c : Nat} {a : Option Addr} {x : Operand} [U : Und P T (.slice e)] (hx : ev env x = some (.slice a n c)) (hS : S (.int .i64 c) w) : OpR P env ⟨dst, .call ⟨.builtin .cap, #[x], #[T]⟩, ty, pos, af, gd⟩ w S :=
  .val (fun _ hm => by simp [execOp, resolve, invoke, builtin, hm.eval hx, Builtin.cap_, run_underlying U.h, goInt]) hS
theorem xG {a : Array Operand} {T : Array TypeId} (h : OpR P env ⟨dst, .call ⟨.builtin .cap, a, T⟩, ty, pos, af, gd⟩ w S) : OpR P env ⟨dst, .call ⟨.builtin .cap, a, T⟩, ty, pos, af, gd⟩ w S := h
theorem fP {t e sz n c q b o : Nat} {l : Int} {x y : Operand} [U : Und P t (.slice e)] [Z : Sz P e sz] (hx : ev env x = some (.slice (some ⟨b, o, none⟩) n c)) (hy : ev env y = some (.int .i64 l)) (hl : l = (q : Int)) (hq : q ≤ n) (hc : n ≤ c) (hqc : q < c) (hS : S (.slice (some ⟨b, o + q * sz, none⟩) (n - q) (c - q)) w) :
    OpR P env ⟨dst, .slice t x (some y) none none, ty, pos, af, gd⟩ w S := by
  subst hl
  refine dO (kl := .i64) (kh := .i64) (km := .i64) (a' := some ⟨b, o + q * sz, none⟩) (l := (q : Nat)) (m := c) (h := (n : Nat)) hx (.inr ⟨_, rfl, hy⟩) (.inl ⟨rfl, rfl, rfl⟩) (.inl ⟨rfl, rfl⟩) (by omega) (by omega) (by omega) (by omega) (by rw [if_neg (by omega)]; simp [dV]) ?_
  rw [show ((n : Int) - (q : Int)).toNat = n - q by omega, show ((c : Int) - (q : Int)).toNat = c - q by omega]
  exact hS
theorem dL {t e sz n c q : Nat} {a : Option Addr} {l : Int} {x y : Operand} [U : Und P t (.slice e)] [Z : Sz P e sz] (hx : ev env x = some (.slice a n c)) (hy : ev env y = some (.int .i64 l)) (hl : l = (q : Int)) (hq : q ≤ c) (hS : S (.slice a q c) w) :
    OpR P env ⟨dst, .slice t x none (some y) none, ty, pos, af, gd⟩ w S := by
  subst hl
  refine dO (kl := .i64) (kh := .i64) (km := .i64) (a' := a) (m := c) (h := (q : Nat)) hx (.inl ⟨rfl, rfl⟩) (.inr ⟨_, rfl, hy⟩) (.inl ⟨rfl, rfl⟩) (by omega) (by omega) (by omega) (by omega) ?_ ?_
  · split
    · rfl
    · rw [show Int.toNat 0 * sz = 0 by simp]
      cases a with
      | none => rfl
      | some a => cases a; rfl
  · rw [Int.sub_zero, Int.sub_zero, Int.toNat_natCast, Int.toNat_natCast]
    exact hS
theorem xR {A zs U D : List Value} {p q : Nat} (hp : A.length = p) (hu : U.length = 2) (hq : q = p + 2) (hz : zs.length = D.length + 2) : bR (bR (A ++ zs) p U) q D = A ++ U ++ D := by
  subst hp hq
  have e1 : bR (A ++ zs) A.length U = A ++ U ++ zs.drop 2 := by
    unfold bR
    rw [List.take_left, hu, ← List.drop_drop, List.drop_left]
  rw [e1]
  unfold bR
  have e2 : A.length + 2 = (A ++ U).length := by rw [List.length_append, hu]
  rw [e2, List.take_left, ← List.drop_drop, List.drop_left, List.drop_of_length_le (by rw [List.length_drop]; omega), List.append_nil]
theorem tK {X ys U : List Value} {p q : Nat} (hp : p ≤ X.length) (hu : U.length = 2) (hq : q = p + 2) (hy : ys.length = 2) : bR (bR (X ++ ys) q (X.drop p)) p U = X.take p ++ U ++ X.drop p := by
  subst hq
  have e1 : bR (X ++ ys) (p + 2) (X.drop p) = (X ++ ys).take (p + 2) ++ X.drop p := by
    unfold bR
    rw [List.drop_of_length_le (l := X ++ ys) (by rw [List.length_append, List.length_drop]; omega), List.append_nil]
  rw [e1]
  unfold bR
  have hl : ((X ++ ys).take (p + 2)).length = p + 2 := by rw [List.length_take, List.length_append]; omega
  rw [List.take_append_of_le_length (by omega), List.take_take, Nat.min_eq_left (by omega), List.take_append_of_le_length hp, hu, List.drop_append_of_le_length (by omega), List.drop_of_length_le (l := (X ++ ys).take (p + 2)) (by omega), List.nil_append]
end
end Go.Eng
end
section
namespace Go.Eng
open Go.RowKit
section
variable {P : Program} {env : Env} {w0 w w' : World} {F : Nat → Prop} {L L' : List HP} {dst : Option Tmp} {ty : TypeId} {pos : String} {af : Array Edge} {gd : Option (Nat × Bool)} {S : Value → World → Prop}
theorem wE {t t' e e' : Nat} {sz by_ : Nat} {z : Value} {a ax : Option Addr} {n c m cx : Nat} {xs news : List Value} {x y : Operand} [U : Und P t (.slice e)] [U' : Und P t' (.slice e')] [Z : Sz P e sz] [B : Byt P e by_] [Zr : Zer P e z]
    (hs : St w0 F w L) (hx : ev env x = some (.slice a n c)) (hy : ev env y = some (.slice ax m cx)) (hbs : Src w a n sz xs) (hbp : 0 < n → iF a) (hsrc : Src w ax m sz news) (hp : 0 < m → iF ax) (hg : c < n + m) (hz : z.cells.size = sz) (hb : (n + m) * by_ ≤ 140737488355328) (h63 : n + m ≤ maxLen) :
    OpR P env ⟨dst, .call ⟨.builtin .append, #[x, y], #[t, t']⟩, ty, pos, af, gd⟩ w (fun v w' => ∃ b c', v = .slice (some ⟨b, 0, none⟩) (n + m) c' ∧ St w0 F w' (Row (some ⟨b, 0, none⟩) (n + m) c' e sz (xs ++ news) :: L) ∧ Ext w w') := by
  obtain ⟨i, hi, hi1, hi2, hi3⟩ := pJ (P := P) (e := e) (sz := sz) (by_ := by_) (z := z)
  have hl := hbs.1
  have hlx := hsrc.1
  have hsrc1 : (Builtin.lenOf (.slice ax m cx)).run P w = .ok m w := rfl
  have hroom : ¬ n + m ≤ c := by omega
  have h48 : Builtin.nextslicecap (n + m) c * i.bytes ≤ 281474976710656 := growslice_fits hg (by rw [hi2]; exact hb)
  have h63' : ¬ (9223372036854775807 < (n : Int) + m) := by simp only [maxLen] at h63; omega
  have mv : ∀ {A : Option Addr} {N : Nat} {V : List Value} (w' : World), w'.heap = w.heap → Src w A N sz V → Src w' A N sz V := fun w' hw' h => ⟨h.1, h.2.1, h.2.2.1, fun b o hbo j u hj => by
    have := h.2.2.2 b o hbo j u hj
    simpa [World.cell?, hw'] using this⟩
  have hrun : (Builtin.append_ #[t, t'] ty #[.slice a n c, .slice ax m cx]).run P w = .ok (.slice (some ⟨w.heap.size, 0, none⟩) (n + m) (grownCap w (n + m) c e))
      (w.drew.alloc (.cells (xs.toArray ++ news.toArray ++ Builtin.zeroCells z.cells (grownCap w (n + m) c e - (n + m))) e)) := by
    have q1 := dW (P := P) (l := n) (c := c) (mv w.drew rfl hbs) hbp
    have q2 := dW (P := P) (l := m) (c := cx) (mv w.drew rfl hsrc) hp
    have hnb : ¬ (Builtin.nextslicecap (n + m) c * i.bytes > 2 ^ 48) := by omega
    simp [Builtin.append_, run_underlying U.h, run_underlying U'.h, sizeOf, typeInfo, zeroValue, hi, hi1, hi3, Builtin.lenOf, hroom, hnb, h63', Question.forced, q1, q2, newRow, grownCap]
    rw [← Array.append_assoc]; simp only [List.append_toArray]
  have hge := grownCap_ge w (n + m) c e
  have hcm' : grownCap w (n + m) c e ≤ maxLen := grownCap_le_maxLen w (n + m) c e h63
  have hF : Fresh w (w.drew.alloc (.cells (xs.toArray ++ news.toArray ++ Builtin.zeroCells z.cells (grownCap w (n + m) c e - (n + m))) e)) [Row (some ⟨w.heap.size, 0, none⟩) (n + m) (grownCap w (n + m) c e) e sz (xs ++ news)] := by
    refine ⟨⟨rfl, rfl, rfl, by simp, fun k hk => (by first | exact heap_alloc_old w.drew _ hk | exact heap_alloc_old w.drew _ _ hk), Nat.le_succ _⟩, fun d hd => ?_, fun d hd k hk => ?_, List.pairwise_singleton _ _⟩
    · rw [List.mem_singleton.1 hd]
      refine ⟨by rw [List.length_append, hl, hlx, Nat.add_mul], hge, hcm', .inr ⟨w.heap.size, 0, _, rfl, heap_alloc_new w.drew _, ?_, ?_⟩⟩
      · simp only [Array.size_append, List.size_toArray, size_zeroCells, hz, hl, hlx, Nat.zero_add, ← Nat.add_mul]
        apply Nat.le_of_eq
        congr 1
        omega
      · simp only [Array.toList_append, List.drop_zero]
        have : (n + m) * sz = (xs ++ news).length := by rw [List.length_append, hl, hlx, Nat.add_mul]
        rw [this]
        exact List.take_left
    · rw [List.mem_singleton.1 hd] at hk
      have hk : w.heap.size = k := by simpa [Row, dH] using hk
      subst hk
      exact ⟨Nat.le_refl _, by simp⟩
  obtain ⟨W', hW'⟩ : ∃ W', W' = w.drew.alloc (.cells (xs.toArray ++ news.toArray ++ Builtin.zeroCells z.cells (grownCap w (n + m) c e - (n + m))) e) := ⟨_, rfl⟩
  rw [← hW'] at hrun hF
  refine .val (w' := W') (v := .slice (some ⟨w.heap.size, 0, none⟩) (n + m) (grownCap w (n + m) c e)) (fun _ hm => by simp [execOp, resolve, invoke, builtin, hm.eval hx, hm.eval hy, hrun]) ?_
  have hs2 := hs.fresh hF
  rw [List.singleton_append] at hs2
  exact ⟨w.heap.size, _, rfl, hs2, hF.ext⟩
end
end Go.Eng
end
