/- The texts D31, D32, joined. -/
import Derived.Test.YthencidlkacpdaaDoorY3
/- Record: a table whose rows are all taken. -/
namespace Go.Eng
open Go.Proofs
set_option linter.unusedSimpArgs false
set_option linter.unusedVariables false
theorem atM_pos {xs : List Sp} {n : Nat} (h : 1 ≤ n) : atM xs (n : Int) = gt xs (n - 1) := by
  have := atM_gt xs (n - 1)
  rwa [show n - 1 + 1 = n by omega] at this
structure Packed (r : List Sp) (T : Int) (l : List Nat) : Prop where
  right : RightV r
  pos : 0 < T
  nd : l.Nodup
  ge : ∀ (m : Nat) (h : m < l.length), 1 ≤ l[m]
  at_ : ∀ (m : Nat) (h : m < l.length), gt r (l[m] - 1) = (T, (m : Int))
  all : ∀ k, (gt r k).1 = T → k + 1 ∈ l
theorem packed_rows {r : List Sp} {T : Int} {l : List Nat} (h : Packed r T l) : rowsF r T = l := by
  have hr := rightV_iff.2 h.right
  have ht : T ≠ 0 := by have := h.pos; omega
  have hm : rowsF r T = rowsM r T := by unfold rowsF; rw [if_pos hr]
  rw [hm]
  refine (rows_eq hr ((List.perm_ext_iff_of_nodup h.nd (tabG_nodup r T)).2 fun a => ?_) ?_).symm
  · rw [mem_tabG_iff ht]
    constructor
    · intro ha
      obtain ⟨m, hm, rfl⟩ := List.mem_iff_getElem.1 ha
      have h1 := h.ge m hm
      have h2 := h.at_ m hm
      refine ⟨⟨h1, ?_⟩, by rw [atM_pos h1, h2]⟩
      by_cases hl : l[m] - 1 < r.length
      · omega
      · rw [gt_ge (by omega)] at h2
        exact absurd (congrArg Prod.fst h2) (by show ¬ (0 : Int) = T; omega)
    · rintro ⟨⟨h1, _⟩, h2⟩
      rw [atM_pos h1] at h2
      have := h.all (a - 1) h2
      rwa [show a - 1 + 1 = a by omega] at this
  · rw [List.pairwise_iff_getElem]
    intro i j hi hj hij
    rw [atM_pos (h.ge i hi), atM_pos (h.ge j hj), h.at_ i hi, h.at_ j hj]
    show (i : Int) ≤ j; omega
structure RowsI (ys : List Sp) (T : Int) (l : List Nat) : Prop where
  right : RightV ys
  pos : 0 < T
  nd : l.Nodup
  tab : ∀ (m : Nat) (h : m < l.length), 1 ≤ l[m] ∧ (gt ys (l[m] - 1)).1 = T ∧ (m : Int) ≤ (gt ys (l[m] - 1)).2
  inc : ∀ (m m' : Nat) (h : m < l.length) (h' : m' < l.length), m < m' → (gt ys (l[m] - 1)).2 < (gt ys (l[m'] - 1)).2
  all : ∀ k, (gt ys k).1 = T → k + 1 ∈ l
theorem rowsI {ys : List Sp} {T : Int} (hr : rightB ys = true) (hT : 0 < T) : RowsI ys T (rowsF ys T) := by
  have hV := rightV_iff.1 hr
  have hp := rowsF_perm hr (t := T) (by omega)
  have hge : ∀ (m : Nat) (h : m < (rowsF ys T).length), 1 ≤ (rowsF ys T)[m] := fun m h => (mem_tabG (hp.mem_iff.1 (List.getElem_mem h))).1.1
  have hinc : ∀ (m m' : Nat) (h : m < (rowsF ys T).length) (h' : m' < (rowsF ys T).length), m < m' → (gt ys ((rowsF ys T)[m] - 1)).2 < (gt ys ((rowsF ys T)[m'] - 1)).2 := fun m m' h h' hm => by
    have := List.pairwise_iff_getElem.1 (rowsF_strict (xs := ys) (t := T)) m m' h h' hm
    rwa [atM_pos (hge m h), atM_pos (hge m' h')] at this
  have h1 : ∀ (m : Nat) (h : m < (rowsF ys T).length), (gt ys ((rowsF ys T)[m] - 1)).1 = T := fun m h => by
    have := (mem_tabG (hp.mem_iff.1 (List.getElem_mem h))).2.1
    rwa [atM_pos (hge m h)] at this
  refine ⟨hV, hT, hp.nodup_iff.2 (tabG_nodup ys T), fun m h => ⟨hge m h, h1 m h, ?_⟩, hinc, fun k hk => ?_⟩
  · induction m with
    | zero =>
      have hs := (hV.pos (k := (rowsF ys T)[0] - 1) (fun e => by have := h1 0 h; rw [e] at this; simp at this; omega)).1
      unfold spotB at hs; rw [decide_eq_true_eq] at hs
      show (0 : Int) ≤ _; omega
    | succ m ih =>
      have := ih (by omega)
      have := hinc m (m + 1) (by omega) h (by omega)
      omega
  · refine hp.mem_iff.2 ((mem_tabG_iff (by omega)).2 ⟨⟨by omega, ?_⟩, by rw [atM_pos (by omega)]; exact hk⟩)
    by_cases hl : k < ys.length
    · omega
    · rw [gt_ge (by omega)] at hk; simp at hk; omega
structure PackI (ys : List Sp) (T : Int) (l : List Nat) (j : Nat) (r : List Sp) : Prop where
  right : RightV r
  at_ : ∀ (m : Nat) (h : m < l.length), m < j → gt r (l[m] - 1) = (T, (m : Int))
  off : ∀ k, k + 1 ∉ l.take j → gt r k = gt ys k
theorem doesM_0 {xs zs : List Sp} (h : rightB xs = true) : doesM xs 0 zs = (trimM nwB zs, 0) := by unfold doesM; rw [if_pos h, if_pos rfl]
structure StepF (ys : List Sp) (T : Int) (l : List Nat) (j : Nat) (r : List Sp) (n : Nat) (d r' : List Sp) : Prop where
  e1 : (doesM r (dropE r (n : Int)) (dropY r (n : Int))).1 = d
  e1b : (doesM r (dropE r (n : Int)) (dropY r (n : Int))).2 = 0
  e2 : (doesM d (putE d (n : Int) (T, (j : Int))) (putY d (n : Int) (T, (j : Int)))).1 = r'
  e2b : (doesM d (putE d (n : Int) (T, (j : Int))) (putY d (n : Int) (T, (j : Int)))).2 = 0
  next : PackI ys T l (j + 1) r'
  rd : RightV d
theorem mem_take_get {l : List Nat} {j : Nat} {a : Nat} : a ∈ l.take j ↔ ∃ m, ∃ h : m < l.length, m < j ∧ l[m] = a := by
  constructor
  · intro h
    obtain ⟨m, hm, rfl⟩ := List.mem_iff_getElem.1 h
    have : m < min j l.length := by simpa using hm
    exact ⟨m, by omega, by omega, by simp⟩
  · rintro ⟨m, h, hm, rfl⟩
    exact List.mem_iff_getElem.2 ⟨m, by simp; omega, by simp⟩
theorem pack_step {ys : List Sp} {T : Int} {l : List Nat} {j : Nat} {r : List Sp} (hI : RowsI ys T l) (hp : PackI ys T l j r) {n : Nat} (hj : l[j]? = some n) :
    StepF ys T l j r n (trimM nwB (putM r n (0, 0))) (trimM nwB (putM (trimM nwB (putM r n (0, 0))) n (T, (j : Int)))) := by
  obtain ⟨hjl, rfl⟩ := List.getElem?_eq_some_iff.1 hj
  obtain ⟨t1, t2, t3⟩ := hI.tab j hjl
  have hT := hI.pos
  have inj : ∀ {a b : Nat} (ha : a < l.length) (hb : b < l.length), l[a] = l[b] → a = b := fun ha hb h => (List.getElem_inj hI.nd).1 h
  have hnt : l[j] - 1 + 1 ∉ l.take j := fun h => by
    obtain ⟨m, hm, hmj, he⟩ := mem_take_get.1 h
    have := inj hm hjl (by omega)
    omega
  have hgn : gt r (l[j] - 1) = gt ys (l[j] - 1) := hp.off _ hnt
  have n0 : gt ys (l[j] - 1) ≠ (0, 0) := fun e => by rw [e] at t2; simp at t2; omega
  have hsp := (hI.right.pos n0).1
  have hlen : l[j] - 1 < r.length := by
    by_cases h : l[j] - 1 < r.length
    · exact h
    · exact absurd (hgn.symm.trans (gt_ge (by omega))) n0
  have hrl := hp.right.len
  obtain ⟨d, hd⟩ : ∃ d, d = trimM nwB (putM r l[j] (0, 0)) := ⟨_, rfl⟩
  rw [← hd]
  have hgd : ∀ k, gt d k = if k + 1 = l[j] then (0, 0) else gt r k := fun k => by rw [hd, gt_trim, gt_put t1]
  have hRd : RightV d := by rw [hd]; exact rightV_put hp.right (by omega) (by decide) (fun h => by simp at h)
  have hrr := rightV_iff.2 hp.right
  have hrd := rightV_iff.2 hRd
  have hsT : spotB (T, (j : Int)) = true := by
    unfold spotB at hsp ⊢
    rw [decide_eq_true_eq] at hsp ⊢
    rw [t2] at hsp
    refine ⟨⟨hsp.1.1, ?_⟩, ?_⟩
    · show (0 : Int) ≤ j; omega
    · show (j : Int) ≤ _; omega
  have hfree : ∀ k, k + 1 ≠ l[j] → gt d k ≠ (T, (j : Int)) := fun k hk he => by
    rw [hgd, if_neg hk] at he
    by_cases hm : k + 1 ∈ l.take j
    · obtain ⟨m, hm, hmj, hme⟩ := mem_take_get.1 hm
      have := hp.at_ m hm hmj
      rw [show l[m] - 1 = k by omega, he] at this
      have := congrArg Prod.snd this
      simp at this; omega
    · rw [hp.off k hm] at he
      have hin := hI.all k (by rw [he])
      obtain ⟨m, hm2, hme⟩ := List.mem_iff_getElem.1 hin
      have hmj : ¬ m < j := fun h => hm (mem_take_get.2 ⟨m, hm2, h, hme⟩)
      have hne : m ≠ j := fun h => hk (by subst h; exact hme.symm)
      have := hI.inc j m hjl hm2 (by omega)
      rw [show l[m] - 1 = k by omega, he] at this
      have h2 : ((T, (j : Int)) : Sp).2 = j := rfl
      omega
  have n1 : ((T, (j : Int)) : Sp) ≠ (0, 0) := fun e => by have := congrArg Prod.fst e; simp at this; omega
  have hwd : whoM d (T, (j : Int)) = 0 := by
    rcases whoM_or d (T, (j : Int)) with ⟨h2, _⟩ | ⟨k, _, h2, _⟩
    · exact h2
    · exfalso
      by_cases hk : k + 1 = l[j]
      · rw [hgd, if_pos hk] at h2; exact n1 h2.symm
      · exact hfree k hk h2
  have ha : atM r ((l[j] : Nat) : Int) = gt ys (l[j] - 1) := by rw [atM_pos t1, hgn]
  have hz : ¬ ((gt ys (l[j] - 1)).1 = 0 ∧ (gt ys (l[j] - 1)).2 = 0) := fun h => n0 (Prod.ext h.1 h.2)
  have hde : dropE r ((l[j] : Nat) : Int) = 0 := by unfold dropE; rw [ha, if_neg hz]
  have hdy : dropY r ((l[j] : Nat) : Int) = putM r l[j] (0, 0) := by unfold dropY; rw [ha, if_neg hz, Int.toNat_natCast]
  have hpb : ¬ pBad ((l[j] : Nat) : Int) (T, (j : Int)) := by
    unfold pBad
    rintro (h2 | h2 | h2)
    · omega
    · omega
    · rw [hsT] at h2; cases h2
  have hpe : putE d ((l[j] : Nat) : Int) (T, (j : Int)) = 0 := by unfold putE; rw [if_neg hpb, if_neg (by rw [hwd]; simp)]
  have hpy : putY d ((l[j] : Nat) : Int) (T, (j : Int)) = putM d l[j] (T, (j : Int)) := by unfold putY; rw [if_neg hpb, if_neg (by rw [hwd]; simp), Int.toNat_natCast]
  refine ⟨by rw [hde, hdy, doesM_0 hrr, hd], by rw [hde, doesM_0 hrr], by rw [hpe, hpy, doesM_0 hrd], by rw [hpe, doesM_0 hrd], ⟨?_, fun m hm hmj => ?_, fun k hk => ?_⟩, hRd⟩
  · exact rightV_put hRd (by omega) (spotB_iff.1 hsT).1 (fun _ => hfree)
  · rw [gt_trim, gt_put t1]
    by_cases hmj2 : m = j
    · subst hmj2; rw [if_pos (by omega)]
    · have hne : l[m] ≠ l[j] := fun h => hmj2 (inj hm hjl h)
      have := (hI.tab m hm).1
      rw [if_neg (by omega), hgd, if_neg (by omega)]
      exact hp.at_ m hm (by omega)
  · rw [gt_trim, gt_put t1]
    have h1 : k + 1 ≠ l[j] := fun h => hk (mem_take_get.2 ⟨j, hjl, by omega, h.symm⟩)
    rw [if_neg h1, hgd, if_neg h1]
    exact hp.off k (fun h => hk (by
      obtain ⟨m, hm, hmj, he⟩ := mem_take_get.1 h
      exact mem_take_get.2 ⟨m, hm, by omega, he⟩))
theorem pack_done {ys : List Sp} {T : Int} {l : List Nat} {r : List Sp} (hI : RowsI ys T l) (hp : PackI ys T l l.length r) : Packed r T l := by
  refine ⟨hp.right, hI.pos, hI.nd, fun m h => (hI.tab m h).1, fun m h => hp.at_ m h h, fun k hk => ?_⟩
  by_cases h : k + 1 ∈ l
  · exact h
  · have h1 := hp.off k (by rwa [List.take_length])
    rw [h1] at hk
    exact hI.all k hk
structure SwapF (r : List Sp) (T : Int) (l : List Nat) (i : Nat) (n : List Sp) (l' : List Nat) : Prop where
  e1 : (doesM r (swE r (i : Int) ((l.length : Int) - 1)) (swY r (i : Int) ((l.length : Int) - 1))).1 = n
  e1b : (doesM r (swE r (i : Int) ((l.length : Int) - 1)) (swY r (i : Int) ((l.length : Int) - 1))).2 = 0
  pk : Packed n T l'
theorem pack_swap {r : List Sp} {T : Int} {l : List Nat} (h : Packed r T l) {p i e : Nat} (hp : l[p]? = some i) (he : l[l.length - 1]? = some e) :
    SwapF r T l i (trimM nwB (putM (putM r e (T, (p : Int))) i (0, 0))) ((l.set p e).take (l.length - 1)) := by
  obtain ⟨hpl, hpi⟩ := List.getElem?_eq_some_iff.1 hp
  obtain ⟨hel, hee⟩ := List.getElem?_eq_some_iff.1 he
  have hT := h.pos
  have hi1 : 1 ≤ i := by rw [← hpi]; exact h.ge p hpl
  have he1 : 1 ≤ e := by rw [← hee]; exact h.ge _ hel
  have gi : gt r (i - 1) = (T, (p : Int)) := by rw [← hpi]; exact h.at_ p hpl
  have ge : gt r (e - 1) = (T, ((l.length - 1 : Nat) : Int)) := by rw [← hee]; exact h.at_ _ hel
  have inj : ∀ {a b : Nat} (ha : a < l.length) (hb : b < l.length), l[a] = l[b] → a = b := fun ha hb hh => (List.getElem_inj h.nd).1 hh
  have hrr := rightV_iff.2 h.right
  have hlen := h.right.len
  have n0 : ∀ {m : Nat}, ((T, (m : Int)) : Sp) ≠ (0, 0) := fun e => by have := congrArg Prod.fst e; simp at this; omega
  have hil : i - 1 < r.length := by
    by_cases hh : i - 1 < r.length
    · exact hh
    · exact absurd (gi.symm.trans (gt_ge (by omega))) n0
  have hell : e - 1 < r.length := by
    by_cases hh : e - 1 < r.length
    · exact hh
    · exact absurd (ge.symm.trans (gt_ge (by omega))) n0
  have cast : ((l.length : Int) - 1) = ((l.length - 1 : Nat) : Int) := by omega
  have hwho : whoM r (T, (l.length : Int) - 1) = e := by
    rw [cast, whoM_at h.right ge hT]; omega
  have hany : ¬ r.any (aboveB (T, (p : Int)) ((l.length : Int) - 1)) = true := by
    rw [List.any_eq_true]
    rintro ⟨y, hy, hab⟩
    obtain ⟨k, hk⟩ := List.mem_iff_getElem?.1 hy
    unfold aboveB at hab
    simp only [Bool.and_eq_true, decide_eq_true_eq] at hab
    have hgk := gt_some hk
    have hin := h.all k (by rw [hgk]; exact hab.1)
    obtain ⟨m, hm, hme⟩ := List.mem_iff_getElem.1 hin
    have hat := h.at_ m hm
    rw [show l[m] - 1 = k by omega, hgk] at hat
    rw [hat] at hab
    have : ((T, (m : Int)) : Sp).2 = m := rfl
    omega
  have ha : atM r (i : Int) = (T, (p : Int)) := by rw [atM_pos hi1, gi]
  have hz : ¬ (T = 0 ∧ (p : Int) = 0) := by omega
  have hsE : swE r (i : Int) ((l.length : Int) - 1) = 0 := by
    unfold swE
    rw [ha, if_neg hz, if_neg]
    rintro (h1 | h1)
    · rw [hwho] at h1; omega
    · exact hany h1
  have hsY : swY r (i : Int) ((l.length : Int) - 1) = putM (putM r e (T, (p : Int))) i (0, 0) := by
    unfold swY
    rw [ha, if_neg hz, if_neg, hwho, Int.toNat_natCast]
    rintro (h1 | h1)
    · rw [hwho] at h1; omega
    · exact hany h1
  obtain ⟨n, hn⟩ : ∃ n, n = trimM nwB (putM (putM r e (T, (p : Int))) i (0, 0)) := ⟨_, rfl⟩
  have hgn : ∀ k, gt n k = if k + 1 = i then (0, 0) else if k + 1 = e then (T, (p : Int)) else gt r k := fun k => by rw [hn, gt_trim, gt_put hi1, gt_put he1]
  have hsT : spotR (T, (p : Int)) = true := by rw [← gi]; exact h.right.spot _
  have hRn : RightV n := by
    have hR1 := rightV_put h.right (i := i) (s := (0, 0)) (by omega) (by decide) (fun h => by simp at h)
    by_cases hei : e = i
    · have : n = trimM nwB (putM r i (0, 0)) := gt_ext (by rw [hn]; exact trimd_trim _) (trimd_trim _) (fun k => by
        rw [hgn, gt_trim, gt_put hi1]
        by_cases hk : k + 1 = i
        · rw [if_pos hk, if_pos hk]
        · rw [if_neg hk, if_neg hk, if_neg (by omega)])
      rw [this]; exact hR1
    · have : n = trimM nwB (putM (trimM nwB (putM r i (0, 0))) e (T, (p : Int))) := gt_ext (by rw [hn]; exact trimd_trim _) (trimd_trim _) (fun k => by
        rw [hgn, gt_trim, gt_put he1, gt_trim, gt_put hi1]
        by_cases hk : k + 1 = i
        · rw [if_pos hk, if_neg (by omega), if_pos hk]
        · rw [if_neg hk, if_neg hk])
      rw [this]
      refine rightV_put hR1 (by omega) hsT (fun _ k hk hkk => ?_)
      rw [gt_trim, gt_put hi1] at hkk
      by_cases hk2 : k + 1 = i
      · rw [if_pos hk2] at hkk; exact n0 hkk.symm
      · rw [if_neg hk2] at hkk
        have := h.right.inj k (i - 1) (by rw [hkk]; exact hT) (by rw [hkk, gi])
        omega
  rw [← hn]
  have hset : ∀ m (hm : m < ((l.set p e).take (l.length - 1)).length), ((l.set p e).take (l.length - 1))[m] = if p = m then e else l[m]'(by simp at hm; omega) := fun m hm => by
    rw [List.getElem_take, List.getElem_set]
  have hlt : ((l.set p e).take (l.length - 1)).length = l.length - 1 := by simp
  refine ⟨by rw [hsE, hsY, doesM_0 hrr, hn], by rw [hsE, doesM_0 hrr], ⟨hRn, hT, ?_, fun m hm => ?_, fun m hm => ?_, fun k hk => ?_⟩⟩
  · rw [List.nodup_iff_pairwise_ne, List.pairwise_iff_getElem]
    intro a b ha hb hab
    rw [hset a ha, hset b hb]
    rw [hlt] at ha hb
    have ha2 : a < l.length := by omega
    have hb2 : b < l.length := by omega
    by_cases h1 : p = a
    · rw [if_pos h1, if_neg (by omega)]; intro h2; have := inj hel hb2 (hee.trans h2); omega
    · rw [if_neg h1]
      by_cases h2 : p = b
      · rw [if_pos h2]; intro h3; have := inj ha2 hel (h3.trans hee.symm); omega
      · rw [if_neg h2]; intro h3; have := inj ha2 hb2 h3; omega
  · rw [hset m hm]
    split
    · exact he1
    · exact h.ge _ _
  · rw [hset m hm]
    rw [hlt] at hm
    by_cases h1 : p = m
    · have hei : e ≠ i := fun hh => by have := inj hpl hel (by rw [hpi, hee, hh]); omega
      rw [if_pos h1, hgn, if_neg (by omega), if_pos (by omega), h1]
    · rw [if_neg h1]
      have h2 : l[m] ≠ i := fun hh => h1 (inj (b := m) hpl (by omega) (hpi.trans hh.symm))
      have h3 : l[m] ≠ e := fun hh => by have := inj (a := m) (by omega) hel (hh.trans hee.symm); omega
      have := h.ge m (by omega)
      rw [hgn, if_neg (by omega), if_neg (by omega)]
      exact h.at_ m (by omega)
  · rw [hgn] at hk
    by_cases h1 : k + 1 = i
    · rw [if_pos h1] at hk; exact absurd hk (by show ¬ (0 : Int) = T; omega)
    · rw [if_neg h1] at hk
      by_cases h2 : k + 1 = e
      · have hei : p ≠ l.length - 1 := fun hh => by
          have : i = e := by rw [← hpi, ← hee]; congr 1
          omega
        refine List.mem_iff_getElem.2 ⟨p, by rw [hlt]; omega, ?_⟩
        rw [hset p (by rw [hlt]; omega), if_pos rfl, h2]
      · rw [if_neg h2] at hk
        obtain ⟨m, hm, hme⟩ := List.mem_iff_getElem.1 (h.all k hk)
        have h3 : m ≠ p := fun hh => by
          have : i = k + 1 := by rw [← hpi, ← hme]; congr 1; exact hh.symm
          omega
        have h4 : m ≠ l.length - 1 := fun hh => by
          have : e = k + 1 := by rw [← hee, ← hme]; congr 1; exact hh.symm
          omega
        refine List.mem_iff_getElem.2 ⟨m, by rw [hlt]; omega, ?_⟩
        rw [hset m (by rw [hlt]; omega), if_neg (fun hh => h3 hh.symm), hme]
end Go.Eng
/- RecordSwaps: in a table whose rows are all taken Swap leaves them all taken, but for the last one. -/
namespace Go.Eng
open Go.Proofs
set_option linter.unusedSimpArgs false
set_option linter.unusedVariables false
theorem inKN {k : Nat} (h : k ≤ 1048580) : inK .i64 (k : Int) := by unfold inK; simp only [IntKind.min, IntKind.max, IntKind.bits, IntKind.signed]; simp; omega
theorem inKI {x : Int} (h : 0 ≤ x) (h2 : x ≤ 1048580) : inK .i64 x := by have := inKN (k := x.toNat) (by omega); rwa [show ((x.toNat : Nat) : Int) = x by omega] at this
theorem RightV.ok {r : List Sp} (h : RightV r) : ∀ s ∈ r, okS s := fun s hs => by
  obtain ⟨k, hk⟩ := List.mem_iff_getElem?.1 hs
  have := h.spot k
  rw [gt_some hk] at this
  unfold spotR at this; rw [decide_eq_true_eq] at this
  exact ⟨inKI (by omega) (by omega), inKI (by omega) (by omega)⟩
theorem idxM_at {l : List Nat} (hn : l.Nodup) {p i : Nat} (h : l[p]? = some i) : idxM (enL l) (i : Int) = p := by
  obtain ⟨hp, rfl⟩ := List.getElem?_eq_some_iff.1 h
  have hx : (enL l)[p]? = some (l[p] : Int) := by simp [enL, hp]
  unfold idxM
  rw [findIdx_first hx (by simp) (fun y hy => ?_)]
  obtain ⟨m, hm, he⟩ := List.mem_iff_getElem.1 hy
  have hm2 : m < min p l.length := by simpa [enL] using hm
  refine decide_eq_false (fun h2 => ?_)
  have h3 : ((l[m]'(by omega) : Nat) : Int) = y := by rw [← he]; simp [enL]
  have := (List.getElem_inj hn (h₀ := (by omega : m < l.length)) (h₁ := hp)).1 (by omega)
  omega
theorem slL {w : World} {a : Option Addr} {n c : Nat} {l : List Nat} (hk : ∀ i ∈ l, i ≤ 1048578) (h : RowV w a n c 3 1 ((enL l).map (.int .i64))) : Sl (tInt .i64) All w a n c (enL l) := (RowV.sl h (inK_enL hk)).weak (fun _ _ => trivial)
theorem Packed.le {r : List Sp} {T : Int} {l : List Nat} (h : Packed r T l) : ∀ i ∈ l, i ≤ 1048578 := fun i hi => by
  obtain ⟨m, hm, rfl⟩ := List.mem_iff_getElem.1 hi
  have h1 := h.at_ m hm
  have := h.right.len
  have := h.pos
  by_cases hl : l[m] - 1 < r.length
  · omega
  · rw [gt_ge (by omega)] at h1
    have := congrArg Prod.fst h1
    simp at this; omega
attribute [local irreducible] Hold J JL JD JX JXat OpR OpG Ret RetV Is Blk Row MapC
set_option maxRecDepth 100000
set_option maxHeartbeats 1000000
theorem recordSwaps_w (w : World) (hG : Gz w) (a : Option Addr) (n c : Nat) (xs : List Sp) (i : Int) (h : Sl dSp All w a n c xs) (hi : inK .i64 i) :
    Ret Tryd.prog 6 #[.agg #[.slice a n c], .int .i64 i] w fun v w' => v = .bool true ∧ Ext w w' := by
  refine Ret_of (l := [_, _]) Tryd.func6 rfl Tryd.ntmps6 (by simp) ?_
  have hs := St.init w
  obtain ⟨ys, hys⟩ : ∃ ys, ys = xs.take 40 := ⟨_, rfl⟩
  have hyl : ys.length ≤ 40 := by rw [hys]; exact take40 xs
  have hok : ∀ s ∈ ys, okS s := fun s hs => by
    rw [hys] at hs
    obtain ⟨j, hj⟩ := List.mem_iff_getElem?.1 (List.mem_of_mem_take hs); exact h.okSp hj
  obtain ⟨s, hsd⟩ : ∃ s, s = atF ys i := ⟨_, rfl⟩
  by_cases hz : s.1 = 0 ∧ s.2 = 0
  · have hnk : (!decide (¬ (s.1 = 0 ∧ s.2 = 0))) = true := by simp [hz]
    repeat' (first
      | ((apply al_call 8; refine JL_o (by exact OpR_callF en8 rfl (wakes_r _ (hG.st hs))) rfl rfl ?_; rintro _ _ ⟨rfl, hE⟩; have hs := hs.ext hE; (try simp only [List.cons_append, List.nil_append] at hs)))
      | ((apply al_call 9; refine JL_o (by exact OpR_callF en9 rfl (own_r _ a n c xs (h.st hs))) rfl rfl ?_; rintro _ _ ⟨ac, cc, rfl, hf⟩; rw [← hys] at hf ⊢; have hs := hs.fresh hf; (try simp only [List.cons_append, List.nil_append] at hs)))
      | ((apply al_call 14; refine JL_o (by exact OpR_callF en14 rfl (At_r _ (hG.st hs) ac ys.length cc ys i (RowV.sp (hs.row ac ys.length cc) hok) hi)) rfl rfl ?_; rintro _ _ ⟨rfl, hE⟩; rw [← hsd]; have hs := hs.ext hE; (try simp only [List.cons_append, List.nil_append] at hs)))
      | (apply JL_nil)
      | ((apply JL_pure); (first
      | (apply as_move; exact OpR_move rfl is_rfl)
      | (apply as_assign; exact OpR_assign rfl is_rfl)
      | (apply as_load; exact OpR_load_agg' hs rfl is_rfl)
      | (apply as_unOp; exact OpR_not rfl is_rfl)
      | (apply as_extract; exact OpR_extract rfl rfl is_rfl)); first | (exact rfl; exact rfl) | exact rfl)
      | (apply J_seq)
      | (apply J_region)
      | (apply J_skip)
      | (apply al_none (t := 2); refine JL_o (by apply as_box; exact OpR_box' hs rfl) rfl rfl ?_; rintro _ _ ⟨b2, rfl, hb2, hs, hE⟩)
      | (apply al_none (t := 5); refine JL_o (by apply as_alloc; exact OpR_alloc' hs) rfl rfl ?_; rintro _ _ ⟨b5, rfl, hb5, hs, hE⟩)
      | (apply al_none (t := 6); refine JL_o (by apply as_alloc; exact OpR_alloc' hs) rfl rfl ?_; rintro _ _ ⟨b6, rfl, hb6, hs, hE⟩)
      | (apply al_unit; refine JL_u (by apply as_store; exact OpR_store' hs rfl rfl rfl) rfl ?_; rintro _ _ ⟨hs, hF⟩)
      | (apply aj_cond; first | refine J_cond_t rfl (by first | assumption | rfl | exact decide_eq_true (by first | assumption | omega) | exact decide_eq_false (by first | assumption | omega)) ?_ | refine J_cond_f rfl (by first | assumption | rfl | exact decide_eq_true (by first | assumption | omega) | exact decide_eq_false (by first | assumption | omega)) ?_))
    refine J_leave Tryd.func6 rfl (.tmp rfl .nil) ⟨rfl, hs.frm.ext⟩
  · have hnk : (!decide (¬ (s.1 = 0 ∧ s.2 = 0))) = false := by simp [hz]
    have n0 : s ≠ (0, 0) := fun e => hz ⟨by rw [e], by rw [e]⟩
    have hry : rightB ys = true := by
      cases hb : rightB ys with
      | true => rfl
      | false => unfold atF at hsd; rw [hb] at hsd; exact absurd hsd n0
    have ha : atM ys i = s := by rw [hsd]; unfold atF; rw [if_pos hry]
    obtain ⟨q, rfl, hgq⟩ := (atM_or ys i).resolve_left (fun h1 => n0 (ha.symm.trans h1.2))
    rw [ha] at hgq
    have hV := rightV_iff.1 hry
    have hT := (hV.pos (k := q) (by rw [← hgq]; exact n0)).2
    rw [← hgq] at hT
    have hI := rowsI hry hT
    obtain ⟨l, hld⟩ : ∃ l, l = rowsF ys s.1 := ⟨_, rfl⟩
    rw [← hld] at hI
    have hll : l.length ≤ ys.length := by rw [hld]; exact rowsF_len ys s.1
    obtain ⟨p, hp⟩ := List.mem_iff_getElem?.1 (hI.all q (by rw [← hgq]))
    have hpl := (List.getElem?_eq_some_iff.1 hp).1
    obtain ⟨e, he⟩ : ∃ e, l[l.length - 1]? = some e := ⟨_, List.getElem?_eq_getElem (by omega)⟩
    have hlk : ∀ m ∈ l, m ≤ 1048578 := fun m hm => (mem_rowsF (hld ▸ hm)).1.2
    have hst : (s.1, s.2) = s := rfl
    repeat' (first
      | ((apply al_call 8; refine JL_o (by exact OpR_callF en8 rfl (wakes_r _ (hG.st hs))) rfl rfl ?_; rintro _ _ ⟨rfl, hE⟩; have hs := hs.ext hE; (try simp only [List.cons_append, List.nil_append] at hs)))
      | ((apply al_call 9; refine JL_o (by exact OpR_callF en9 rfl (own_r _ a n c xs (h.st hs))) rfl rfl ?_; rintro _ _ ⟨ac, cc, rfl, hf⟩; rw [← hys] at hf ⊢; have hs := hs.fresh hf; (try simp only [List.cons_append, List.nil_append] at hs)))
      | ((apply al_call 14; refine JL_o (by exact OpR_callF en14 rfl (At_r _ (hG.st hs) ac ys.length cc ys ((q + 1 : Nat) : Int) (RowV.sp (hs.row ac ys.length cc) hok) hi)) rfl rfl ?_; rintro _ _ ⟨rfl, hE⟩; rw [← hsd]; have hs := hs.ext hE; (try simp only [List.cons_append, List.nil_append] at hs)))
      | ((apply al_call 15; refine JL_o (by exact OpR_callF en15 rfl (Rows_r _ (hG.st hs) ac ys.length cc ys s.1 (RowV.sp (hs.row ac ys.length cc) hok))) rfl rfl ?_; rintro _ _ ⟨al, cl, rfl, hf⟩; rw [← hld] at hf ⊢; have hs := hs.fresh hf; (try simp only [List.cons_append, List.nil_append] at hs)))
      | (apply JL_nil)
      | ((apply JL_pure); (first
      | (apply as_move; exact OpR_move rfl is_rfl)
      | (apply as_assign; exact OpR_assign rfl is_rfl)
      | (apply as_fieldAddr; exact OpR_fieldAddr0 rfl rfl is_rfl)
      | (apply as_load; first | exact OpR_load' hs rfl rfl is_rfl | exact OpR_load_agg' hs rfl is_rfl)
      | (apply as_unOp; exact OpR_not rfl is_rfl)
      | (apply as_b_len; exact OpR_len rfl is_rfl)
      | (apply as_extract; exact OpR_extract rfl rfl is_rfl)); first | (exact rfl; exact rfl) | exact rfl)
      | (apply J_seq)
      | (apply J_region)
      | (apply J_block)
      | (apply J_skip)
      | (apply al_none (t := 2); refine JL_o (by apply as_box; exact OpR_box' hs rfl) rfl rfl ?_; rintro _ _ ⟨b2, rfl, hb2, hs, hE⟩)
      | (apply al_none (t := 5); refine JL_o (by apply as_alloc; exact OpR_alloc' hs) rfl rfl ?_; rintro _ _ ⟨b5, rfl, hb5, hs, hE⟩)
      | (apply al_none (t := 6); refine JL_o (by apply as_alloc; exact OpR_alloc' hs) rfl rfl ?_; rintro _ _ ⟨b6, rfl, hb6, hs, hE⟩)
      | (apply al_unit; refine JL_u (by apply as_store; exact OpR_store' hs rfl rfl rfl) rfl ?_; rintro _ _ ⟨hs, hF⟩)
      | (apply aj_cond; refine J_cond_f rfl (by first | assumption | rfl | exact decide_eq_true (by first | assumption | omega) | exact decide_eq_false (by first | assumption | omega)) ?_))
    refine J_loopK (α := Nat × List Sp × Option Addr × Nat) [(1, _), (5, _), (6, _), (36, _), (37, _)] (fun g => [(38, .int .i64 g.1)]) (fun g w' => St w NoF w' [Row g.2.2.1 g.2.1.length g.2.2.2 34 2 (cSp g.2.1), Blk b5 (.cells #[.slice g.2.2.1 g.2.1.length g.2.2.2] 24 (0, 0)), Row al l.length cl 3 1 ((enL l).map (.int .i64)), Blk b6 (.cells #[.int .i64 s.1, .int .i64 s.2] 34 (0, 0))] ∧ PackI ys s.1 l g.1 g.2.1 ∧ g.1 ≤ l.length) (fun g => l.length - g.1) (0, ys, ac, cc) ⟨hs.sel [3, 2, 0, 1] (by decide), ⟨hV, fun m _ hm => absurd hm (by omega), fun _ _ => rfl⟩, by dsimp only; omega⟩ (by repeat' (first | exact trivial | exact rfl | apply And.intro)) ?_
    rintro ⟨j, r, ar, cr⟩ w1 ⟨hs1, hPI, hj⟩ ih
    dsimp only at hs1 hPI hj ih ⊢
    have hs : St w NoF w1 [_, _, _, _] := hs1
    have hrl := hPI.right.len
    by_cases hlt : j < l.length
    · obtain ⟨p2, o2, rfl⟩ := (hs.row al l.length cl).some (by omega)
      have hy : l[j]? = some l[j] := List.getElem?_eq_getElem hlt
      obtain ⟨m, hmd⟩ : ∃ m, m = l[j] := ⟨_, rfl⟩
      rw [← hmd] at hy
      have hcy : ((enL l).map (Value.int .i64))[j]? = some (.int .i64 (m : Nat)) := by simp [enL, hy]
      have hmk := hlk m (List.mem_of_getElem? hy)
      have hkk : inK .i64 ((m : Nat) : Int) := inKN (by omega)
      have hS := pack_step hI hPI hy
      obtain ⟨d, hd⟩ : ∃ d, d = trimM nwB (putM r m (0, 0)) := ⟨_, rfl⟩
      rw [← hd] at hS
      obtain ⟨r', hr'⟩ : ∃ r', r' = trimM nwB (putM d m (s.1, (j : Int))) := ⟨_, rfl⟩
      rw [← hr'] at hS
      have hdl := hS.rd.len
      repeat' (first
        | ((apply al_call 23; refine JL_o (by exact OpR_callF en23 rfl (Drop_r _ (hG.st hs) ar r.length cr r m hkk (RowV.sp (hs.row ar r.length cr) hPI.right.ok) hrl)) rfl rfl ?_; rintro _ _ ⟨ad, cd, rfl, hf⟩; rw [hS.e1] at hf; rw [hS.e1, hS.e1b]; have hs := hs.fresh hf; (try simp only [List.cons_append, List.nil_append] at hs)))
        | ((apply al_call 21; refine JL_o (by exact OpR_callF en21 rfl (Put_r _ (hG.st hs) ad d.length cd d m s.1 j hkk (RowV.sp (hs.row ad d.length cd) hS.rd.ok) hdl)) rfl rfl ?_; rintro _ _ ⟨ab, cb, rfl, hf⟩; rw [hS.e2] at hf; rw [hS.e2, hS.e2b]; have hs := hs.fresh hf; (try simp only [List.cons_append, List.nil_append] at hs)))
        | (apply JL_nil)
        | ((apply JL_pure); (first
      | (apply as_load; first | exact OpR_load' hs rfl rfl is_rfl | exact OpR_load_agg' hs rfl is_rfl | exact OpR_loadRow (b := p2) (o := o2) (i := j) (n := l.length) (c := cl) hs rfl hcy is_rfl)
      | (apply as_move; exact OpR_move rfl is_rfl)
      | (apply as_assign; exact OpR_assign rfl is_rfl)
      | (apply as_fieldAddr; exact OpR_fieldAddr0 rfl rfl is_rfl)
      | (apply as_add; exact OpR_addn rfl rfl (by omega) (by first | (simp only [Int.reduceAdd]; exact rfl) | exact rfl) is_rfl)
      | (apply as_binOp; exact OpR_ibin rfl rfl rfl is_rfl)
      | (apply as_extract; exact OpR_extract rfl rfl is_rfl)
      | (apply as_indexAddr; exact OpR_indexAddr rfl rfl (by omega) (by omega) is_rfl)
      | (apply as_build; exact OpR_build rfl (by (simp only [bld, placesOf, splice, Value.cells, List.take_succ_cons, List.take_zero, List.drop_succ_cons, List.drop_zero, List.cons_append, List.nil_append, List.length_cons, List.length_nil, List.getElem?_cons_zero, List.getElem?_cons_succ, Option.map_some, List.append_nil, Nat.reduceAdd, Nat.reduceMul, Nat.zero_add, Nat.reduceLeDiff, and_self, if_true, List.toList_toArray, Nat.le_refl, Nat.zero_mul, Nat.one_mul]; first | done | rfl)) is_rfl)); first | (exact rfl; exact rfl) | exact rfl)
        | (apply J_seq)
        | (apply J_region)
        | (apply J_block)
        | (apply J_inBlock)
        | (apply J_skip)
        | (apply al_unit; refine JL_u (by apply as_store; exact OpR_store' hs rfl rfl rfl) rfl ?_; rintro _ _ ⟨hs, hF⟩)
        | (apply aj_cond; first | refine J_dec_t rfl (by first | assumption | omega) ?_ | refine J_dec_f rfl (by first | assumption | omega) ?_))
      refine ih (j + 1, r', ab, cb) _ _ ⟨hs.sel [0, 3, 4, 5] (by decide), hS.next, by dsimp only; omega⟩ (by dsimp only; omega) (by repeat' (first | exact trivial | exact rfl | apply And.intro))
    · have hjl : j = l.length := by omega
      subst hjl
      have hP := pack_done hI hPI
      have hW := pack_swap hP hp he
      have hpr := packed_rows hP
      have hpr2 := packed_rows hW.pk
      have hidx := idxM_at hI.nd hp
      obtain ⟨nn, hnn⟩ : ∃ nn, nn = trimM nwB (putM (putM r e (s.1, (p : Int))) (q + 1) (0, 0)) := ⟨_, rfl⟩
      rw [← hnn] at hW hpr2
      obtain ⟨l', hl'⟩ : ∃ l', l' = (l.set p e).take (l.length - 1) := ⟨_, rfl⟩
      rw [← hl'] at hW hpr2
      have hll' : l'.length = l.length - 1 := by rw [hl']; simp
      have hRn := hW.pk.right
      have hnl := hRn.len
      have hrn := rightV_iff.2 hRn
      have e1 : ((l.length : Int) - 1).toNat = l.length - 1 := by omega
      have hset : ((enL l).map (Value.int .i64)).set ((p : Nat) : Int).toNat (.int .i64 (e : Nat)) = (enL (l.set p e)).map (.int .i64) := by simp [enL, List.map_set]
      have hsk : ∀ m ∈ l.set p e, m ≤ 1048578 := fun m hm => by
        rcases List.mem_or_eq_of_mem_set hm with h1 | h1
        · exact hlk m h1
        · rw [h1]; exact hlk e (List.mem_of_getElem? he)
      have hce : ((enL l).map (Value.int .i64))[((l.length : Int) - 1).toNat]? = some (.int .i64 (e : Nat)) := by rw [e1]; simp [enL, he]
      repeat' (first
        | ((apply al_call 15; refine JL_o (by exact OpR_callF en15 rfl (Rows_r _ (hG.st hs) ar r.length cr r s.1 (RowV.sp (hs.row ar r.length cr) hPI.right.ok))) rfl rfl ?_; rintro _ _ ⟨a2, c2, rfl, hf⟩; rw [hpr] at hf ⊢; have hs := hs.fresh hf; (try simp only [List.cons_append, List.nil_append] at hs)))
        | ((apply al_call 28; refine JL_o (by exact OpR_callF en28 rfl (index_r _ a2 l.length c2 (enL l) ((q + 1 : Nat) : Int) (slL hlk (hs.row a2 l.length c2)))) rfl rfl ?_; rintro _ _ ⟨rfl, hE⟩; rw [hidx]; have hs := hs.ext hE; (try simp only [List.cons_append, List.nil_append] at hs)))
        | ((apply al_call 25; refine JL_o (by exact OpR_callF en25 rfl (Swap_r _ (hG.st hs) ar r.length cr r ((q + 1 : Nat) : Int) ((l.length : Int) - 1) hi (inKI (by omega) (by omega)) (RowV.sp (hs.row ar r.length cr) hPI.right.ok) hrl)) rfl rfl ?_; rintro _ _ ⟨an, cn, rfl, hf⟩; rw [hW.e1] at hf; rw [hW.e1, hW.e1b]; have hs := hs.fresh hf; (try simp only [List.cons_append, List.nil_append] at hs)))
        | ((apply al_callg 11; refine JL_o_on rfl (by first | assumption | rfl | exact decide_eq_true (by first | assumption | omega) | exact decide_eq_false (by first | assumption | omega)) (by exact OpR_callF en11 rfl (check_v (hG.st hs) (RowV.sp (hs.row an nn.length cn) hRn.ok) hrn)) rfl rfl ?_; rintro _ _ ⟨rfl, hE⟩; have hs := hs.ext hE; (try simp only [List.cons_append, List.nil_append] at hs)))
        | ((apply al_call 29; refine JL_o (by exact OpR_callF en29 rfl (clone29_r _ a2 l.length c2 ((enL l).map (.int .i64)) (RowV.srcN (hs.row a2 l.length c2) (one_enL l)) (fun _ => (hs.row a2 l.length c2).plain) (by omega))) rfl rfl ?_; rintro _ _ ⟨aw, cw, rfl, hf⟩; have hs := hs.fresh hf; simp only [List.cons_append, List.nil_append] at hs; obtain ⟨pw, ow, rfl⟩ := (hs.row aw l.length cw).some (by omega); (try simp only [List.cons_append, List.nil_append] at hs)))
        | ((apply al_unit; refine JL_u (by apply as_store; exact OpR_storeRow (b := pw) (o := ow) (i := ((p : Nat) : Int).toNat) (n := l.length) (c := cw) hs rfl rfl rfl rfl (by omega)) rfl ?_; rintro _ _ ⟨hs, hF⟩; rw [hset] at hs))
        | ((apply al_call 15; refine JL_o (by exact OpR_callF en15 rfl (Rows_r _ (hG.st hs) an nn.length cn nn s.1 (RowV.sp (hs.row an nn.length cn) hRn.ok))) rfl rfl ?_; rintro _ _ ⟨a3, c3, rfl, hf⟩; rw [hpr2] at hf ⊢; have hs := hs.fresh hf; (try simp only [List.cons_append, List.nil_append] at hs)))
        | (apply JL_nil)
        | ((first | (apply JL_pure) | (apply JL_pure_on; exact rfl; (first | assumption | exact rfl | exact decide_eq_true (by first | assumption | omega) | exact decide_eq_false (by first | assumption | omega)))); (first
      | (apply as_load; first | exact OpR_load' hs rfl rfl is_rfl | exact OpR_load_agg' hs rfl is_rfl | exact OpR_loadRow (b := pw) (o := ow) (i := ((l.length : Int) - 1).toNat) (n := l.length) (c := cw) hs rfl hce is_rfl)
      | (apply as_move; exact OpR_move rfl is_rfl)
      | (apply as_assign; exact OpR_assign rfl is_rfl)
      | (apply as_fieldAddr; exact OpR_fieldAddr0 rfl rfl is_rfl)
      | (apply as_sub; exact OpR_sub rfl rfl (by omega) is_rfl)
      | (apply as_binOp; exact OpR_ibin rfl rfl rfl is_rfl)
      | (apply as_pick; exact OpR_pick_f rfl (by first | assumption | rfl | exact decide_eq_true (by first | assumption | omega) | exact decide_eq_false (by first | assumption | omega)) rfl is_rfl)
      | (apply as_b_len; exact OpR_len rfl is_rfl)
      | (apply as_extract; exact OpR_extract rfl rfl is_rfl)
      | (apply as_indexAddr; exact OpR_indexAddr rfl rfl (by omega) (by omega) is_rfl)); first | (exact rfl; exact rfl) | exact rfl)
        | (apply J_seq)
        | (apply J_region)
        | (apply J_block)
        | (apply aj_exit; refine J_exit rfl ?_)
        | (apply J_skip)
        | (apply al_none (t := 13); refine JL_o (by apply as_alloc; exact OpR_alloc' hs) rfl rfl ?_; rintro _ _ ⟨b13, rfl, hb13, hs, hE⟩)
        | (apply al_unit; refine JL_u (by apply as_store; exact OpR_store' hs rfl rfl rfl) rfl ?_; rintro _ _ ⟨hs, hF⟩)
        | (apply aj_cond; first | refine J_dec_f rfl (by first | assumption | omega) ?_ | refine J_cond_f rfl (by first | assumption | rfl | exact decide_eq_true (by first | assumption | omega) | exact decide_eq_false (by first | assumption | omega)) ?_))
      refine J_loopK (α := Nat) [(6, _), (13, _), (15, _), (16, _), (106, _), (107, _)] (fun j => [(108, .int .i64 j)]) (fun j w' => St w NoF w' [Row a3 l'.length c3 3 1 ((enL l').map (.int .i64)), Row (some ⟨pw, ow, none⟩) l.length cw 3 1 ((enL (l.set p e)).map (.int .i64)), Blk b13 (.cells #[.slice an nn.length cn] 24 (0, 0)), Row an nn.length cn 34 2 (cSp nn), Blk b6 (.cells #[.int .i64 s.1, .int .i64 s.2] 34 (0, 0))] ∧ j ≤ l'.length) (fun j => l'.length - j) 0 ⟨hs.sel [0, 1, 2, 3, 8] (by decide), by omega⟩ (by repeat' (first | exact trivial | exact rfl | apply And.intro)) ?_
      rintro j w2 ⟨hs2, hj2⟩ ih2
      have hs : St w NoF w2 [_, _, _, _, _] := hs2
      by_cases hlt2 : j < l'.length
      · obtain ⟨p3, o3, rfl⟩ := (hs.row a3 l'.length c3).some (by omega)
        have hy : l'[j]? = some l'[j] := List.getElem?_eq_getElem hlt2
        obtain ⟨m, hmd⟩ : ∃ m, m = l'[j] := ⟨_, rfl⟩
        have hat := hW.pk.at_ j hlt2
        have hge := hW.pk.ge j hlt2
        rw [← hmd] at hy hat hge
        have hcy : ((enL l').map (Value.int .i64))[j]? = some (.int .i64 (m : Nat)) := by simp [enL, hy]
        have hkk : inK .i64 ((m : Nat) : Int) := inKN (by have := hW.pk.le m (List.mem_of_getElem? hy); omega)
        obtain ⟨u, hud⟩ : ∃ u, u = atF nn m := ⟨_, rfl⟩
        have hu : u = (s.1, (j : Int)) := by rw [hud]; unfold atF; rw [if_pos hrn, atM_pos hge, hat]
        have hu1 : u.1 = s.1 := by rw [hu]
        have hu2 : u.2 = j := by rw [hu]
        have hnk2 : (!decide (¬ (u.1 = 0 ∧ u.2 = 0))) = false := by simp; omega
        repeat' (first
          | ((apply al_call 14; refine JL_o (by exact OpR_callF en14 rfl (At_r _ (hG.st hs) an nn.length cn nn m (RowV.sp (hs.row an nn.length cn) hRn.ok) hkk)) rfl rfl ?_; rintro _ _ ⟨rfl, hE⟩; rw [← hud]; have hs := hs.ext hE; (try simp only [List.cons_append, List.nil_append] at hs)))
          | (apply JL_nil)
          | ((first | (apply JL_pure) | (apply JL_pure_on; exact rfl; (first | assumption | exact rfl | exact decide_eq_true (by first | assumption | omega) | exact decide_eq_false (by first | assumption | omega)))); (first
      | (apply as_load; first | exact OpR_load' hs rfl rfl is_rfl | exact OpR_load_agg' hs rfl is_rfl | exact OpR_loadRow (b := p3) (o := o3) (i := j) (n := l'.length) (c := c3) hs rfl hcy is_rfl)
      | (apply as_move; exact OpR_move rfl is_rfl)
      | (apply as_assign; exact OpR_assign rfl is_rfl)
      | (apply as_fieldAddr; exact OpR_fieldAddr0 rfl rfl is_rfl)
      | (apply as_add; exact OpR_addn rfl rfl (by omega) (by first | (simp only [Int.reduceAdd]; exact rfl) | exact rfl) is_rfl)
      | (apply as_binOp; first | exact OpR_ibin rfl rfl rfl is_rfl | exact OpR_neT rfl rfl is_rfl)
      | (apply as_unOp; exact OpR_not rfl is_rfl)
      | (apply as_pick; exact OpR_pick_f rfl (by first | assumption | rfl | exact decide_eq_true (by first | assumption | omega) | exact decide_eq_false (by first | assumption | omega)) rfl is_rfl)
      | (apply as_extract; exact OpR_extract rfl rfl is_rfl)
      | (apply as_indexAddr; exact OpR_indexAddr rfl rfl (by omega) (by omega) is_rfl)
      | (apply as_build; exact OpR_build rfl (by (simp only [bld, placesOf, splice, Value.cells, List.take_succ_cons, List.take_zero, List.drop_succ_cons, List.drop_zero, List.cons_append, List.nil_append, List.length_cons, List.length_nil, List.getElem?_cons_zero, List.getElem?_cons_succ, Option.map_some, List.append_nil, Nat.reduceAdd, Nat.reduceMul, Nat.zero_add, Nat.reduceLeDiff, and_self, if_true, List.toList_toArray, Nat.le_refl, Nat.zero_mul, Nat.one_mul]; first | done | rfl)) is_rfl)); first | (exact rfl; exact rfl) | exact rfl)
          | (apply J_seq)
          | (apply J_region)
          | (apply J_block)
          | (apply J_inBlock)
          | (apply J_skip)
          | (apply al_none (t := 19); refine JL_o (by apply as_alloc; exact OpR_alloc' hs) rfl rfl ?_; rintro _ _ ⟨b19, rfl, hb19, hs, hE⟩)
          | (apply al_unit; refine JL_u (by apply as_store; exact OpR_store' hs rfl rfl rfl) rfl ?_; rintro _ _ ⟨hs, hF⟩)
          | (apply aj_cond; first | refine J_dec_t rfl (by first | assumption | omega) ?_ | refine J_dec_f rfl (by first | assumption | omega) ?_))
        refine ih2 (j + 1) _ _ ⟨hs.sel [1, 2, 3, 4, 5] (by decide), by omega⟩ (by omega) (by repeat' (first | exact trivial | exact rfl | apply And.intro))
      · have hfin : decide (enL l' = (enL (l.set p e)).take (l.length - 1)) = true := by rw [hl']; simp [enL, List.map_take]
        repeat' (first
          | ((apply al_call 18; refine JL_o (by exact OpR_callF en18 rfl (equal18_r _ a3 (some ⟨pw, ow, none⟩) l'.length c3 (l.length - 1) cw (enL l') ((enL (l.set p e)).take (l.length - 1)) (slL hW.pk.le (hs.row a3 l'.length c3)) (Sl.takeF (slL hsk (hs.row (some ⟨pw, ow, none⟩) l.length cw)) (by omega)))) rfl rfl ?_; rintro _ _ ⟨rfl, hE⟩; rw [hfin]; have hs := hs.ext hE; (try simp only [List.cons_append, List.nil_append] at hs)))
          | (apply JL_nil)
          | ((apply JL_pure); (first
      | (apply as_slice; exact OpR_slice (kl := .i64) (kh := .i64) (km := .i64) (a' := (some ⟨pw, ow, none⟩)) (m := ((cw : Nat) : Int)) (h := ((l.length : Int) - 1)) rfl (.inl ⟨rfl, rfl⟩) (.inr ⟨_, rfl, rfl⟩) (.inl ⟨rfl, rfl⟩) (by omega) (by omega) (by have := (hs.row (some ⟨pw, ow, none⟩) l.length cw).2.1; omega) (by omega) (by split; rfl; exact addr_add0 _) (by rw [Int.sub_zero, Int.sub_zero, e1, Int.toNat_natCast]; exact is_rfl))
      | (apply as_move; exact OpR_move rfl is_rfl)
      | (apply as_assign; exact OpR_assign rfl is_rfl)
      | (apply as_sub; exact OpR_sub rfl rfl (by omega) is_rfl)
      | (apply as_binOp; exact OpR_ibin rfl rfl rfl is_rfl)
      | (apply as_b_len; exact OpR_len rfl is_rfl)); first | (exact rfl; exact rfl) | exact rfl)
          | (apply J_seq)
          | (apply J_region)
          | (apply aj_exit; refine J_exit rfl ?_)
          | (apply aj_cond; refine J_dec_f rfl (by first | assumption | omega) ?_))
        refine J_leave Tryd.func6 rfl (.tmp rfl .nil) ⟨rfl, hs.frm.ext⟩
end Go.Eng
