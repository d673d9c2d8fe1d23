/- Part of the proof of the laws of this seat: contracts of its functions, for every input. -/
import Derived.Test.YtkfghnflbehecaaDoorWQ
set_option linter.all false
namespace Go.Proofs.YtkfghnflbehecaaDoor
open Go Go.RX Go.Proofs
set_option maxRecDepth 100000
set_option linter.all false
set_option maxHeartbeats 1000000
theorem great_f {l : List D} (h : greatZ l = false) : l.length ≤ 1100 ∧ ∀ i : Nat, i < l.length → badAt l i = false := by
  rw [← Bool.not_eq_true, greatZ_t] at h
  refine ⟨by omega, fun i hi => ?_⟩
  rw [← Bool.not_eq_true]
  exact fun hb => h (.inr ⟨i, hi, hb⟩)
theorem mem_elt {l : List D} {x : D} (h : x ∈ l) : ∃ i : Nat, i < l.length ∧ elt l (i : Int) = x := by
  obtain ⟨i, hi, rfl⟩ := List.getElem_of_mem h
  exact ⟨i, hi, elt_get hi⟩
theorem fit_great {l : List D} (h : greatZ l = false) : fit l := by
  obtain ⟨h1, h2⟩ := great_f h
  refine ⟨by omega, fun x hx => ?_⟩
  obtain ⟨i, hi, rfl⟩ := mem_elt hx
  have := h2 i hi
  rw [← Bool.not_eq_true, badAt_t] at this
  omega
/-- Five parts. -/
def wd (d : D) : Prop := d.parts.length = 5
theorem wt_wd {d : D} (h : WT disT d) : wd d := by
  obtain ⟨x0, r0, e0, _, x1, r1, e1, _, x2, r2, e2, _, x3, r3, e3, _, x4, r4, e4, _, e5⟩ := h
  cases e1; cases e2; cases e3; cases e4
  have e5 : D.agg r4 = D.agg [] := e5
  cases e5
  rw [e0]; rfl
theorem wd_dset {d x : D} {k : Nat} (h : wd d) : wd (dset d k x) := by
  show (d.parts.set k x).length = 5
  rw [List.length_set]; exact h
theorem fld_dset_eq {d x : D} {k : Nat} (h : wd d) (hk : k < 5) : (dset d k x).fld k = x := by
  show (d.parts.set k x).getD k (.int 0) = x
  have h5 : d.parts.length = 5 := h
  rw [List.getD_eq_getElem?_getD, List.getElem?_set, if_pos rfl, if_pos (by omega)]; rfl
/-- What a call may do to one dispute. -/
structure Chg (d : Dd) (x y : D) : Prop where
  st : (x.fld 3).i = 1
  k0 : (y.fld 0) = (x.fld 0)
  k1 : (y.fld 1) = (x.fld 1)
  k2 : (y.fld 2) = (x.fld 2)
  wdd : wd x → wd y
  key : 0 ≤ d.kind ∧ d.kind ≤ 3 → (x.fld 0).s = d.key
  how : wd x → (1 ≤ (y.fld 3).i ∧ (y.fld 3).i ≤ 4 ∧ y.fld 4 = x.fld 4) ∨ (∃ id, y.fld 3 = x.fld 3 ∧ y.fld 4 = .list (xcat (x.fld 4).l [.str id]) ∧ refZ id = true ∧ hasZ (x.fld 4).l id = false ∧ (x.fld 4).l.length < 16)
structure Step (l m : List D) (d : Dd) : Prop where
  ge : l.length ≤ m.length
  le : m.length ≤ l.length + 1
  old : ∀ i : Nat, i < l.length → elt m (i : Int) = elt l (i : Int) ∨ Chg d (elt l (i : Int)) (elt m (i : Int))
  new : m.length = l.length + 1 → openE l d.key d.cents d.t = 0 ∧ elt m (l.length : Int) = .agg [.str d.key, .int d.t, .int d.cents, .int 1, .list []]
theorem Step.refl (l : List D) (d : Dd) : Step l l d := ⟨Nat.le_refl _, by omega, fun i hi => .inl rfl, fun h => by omega⟩
theorem Step.set {l : List D} {d : Dd} {i : Nat} {y : D} (hi : i < l.length) (h : Chg d (elt l (i : Int)) y) : Step l (xset l i y) d := by
  refine ⟨by rw [xset_len]; exact Nat.le_refl _, by rw [xset_len]; omega, fun j hj => ?_, fun h => by rw [xset_len] at h; omega⟩
  rw [elt_xset hj]
  by_cases e : i = j
  · subst e; rw [if_pos rfl]; exact .inr h
  · rw [if_neg e]; exact .inl rfl
theorem op_facts {l : List D} {k : List UInt8} (h : opE l k = 0) : ∃ i : Nat, opI l k = i ∧ i < l.length ∧ ((elt l (i : Int)).fld 0).s = k ∧ ((elt l (i : Int)).fld 3).i = 1 := by
  rcases findZ_cases l k with ⟨g, h1, h2, h3, h4⟩ | ⟨h1, h2⟩
  · by_cases h7 : ((elt l (findZ l k)).fld 3).i = 1
    · refine ⟨g, by rw [(op_ok (by omega) h7).1, h1], h2, h3, by rw [← h1]; exact h7⟩
    · rw [(op_state (by omega) h7).2] at h; cases h
  · rw [(op_none (by omega)).2] at h; cases h
theorem elt_cat_l {l m : List D} {i : Nat} (h : i < l.length) : elt (xcat l m) (i : Int) = elt l (i : Int) := by
  rw [elt_get (by rw [xcat_len]; omega), elt_get h]
  exact List.getElem_append_left h
theorem elt_cat_r {l : List D} {x : D} : elt (xcat l [x]) (l.length : Int) = x := by
  rw [elt_get (by rw [xcat_len]; simp)]
  exact List.getElem_concat_length rfl _
theorem Step.cat {l : List D} {d : Dd} (h : openE l d.key d.cents d.t = 0) : Step l (xcat l [.agg [.str d.key, .int d.t, .int d.cents, .int 1, .list []]]) d := by
  refine ⟨by rw [xcat_len]; omega, by rw [xcat_len]; exact Nat.le_refl _, fun j hj => .inl (elt_cat_l hj), fun _ => ⟨h, elt_cat_r⟩⟩
theorem dset_chg {d : Dd} {x : D} {n : Int} (h : (x.fld 3).i = 1) (hn : 1 ≤ n ∧ n ≤ 4) (hk : 0 ≤ d.kind ∧ d.kind ≤ 3 → (x.fld 0).s = d.key) : Chg d x (dset x 3 (.int n)) :=
  ⟨h, fld_dset_ne (by decide), fld_dset_ne (by decide), fld_dset_ne (by decide), wd_dset, hk, fun hw => .inl (by rw [fld_dset_eq hw (by decide), fld_dset_ne (by decide)]; exact ⟨hn.1, hn.2, rfl⟩)⟩
theorem doZ_cases (l : List D) (d : Dd) : (d.kind = 0 ∧ doZ l d = ⟨openL l d.key d.cents d.t, 0, openE l d.key d.cents d.t⟩) ∨ (d.kind = 1 ∧ doZ l d = ⟨provL l d.key d.id d.t, 0, provE l d.key d.id d.t⟩) ∨
    (d.kind = 2 ∧ doZ l d = ⟨decL l d.key d.acc d.t, decC l d.key d.acc d.t, decE l d.key d.t⟩) ∨ (d.kind = 3 ∧ doZ l d = ⟨wdL l d.key, 0, opE l d.key⟩) ∨ (¬ (0 ≤ d.kind ∧ d.kind ≤ 3) ∧ doZ l d = ⟨exTo l d.t l.length, exS l d.t l.length, 0⟩) := by
  unfold doZ
  by_cases h0 : d.kind = 0
  · exact .inl ⟨h0, by rw [if_pos h0]⟩
  by_cases h1 : d.kind = 1
  · exact .inr (.inl ⟨h1, by rw [if_neg h0, if_pos h1]⟩)
  by_cases h2 : d.kind = 2
  · exact .inr (.inr (.inl ⟨h2, by rw [if_neg h0, if_neg h1, if_pos h2]⟩))
  by_cases h3 : d.kind = 3
  · exact .inr (.inr (.inr (.inl ⟨h3, by rw [if_neg h0, if_neg h1, if_neg h2, if_pos h3]⟩)))
  · exact .inr (.inr (.inr (.inr ⟨by omega, by rw [if_neg h0, if_neg h1, if_neg h2, if_neg h3]⟩)))
theorem prov_facts {l : List D} {k id : List UInt8} {t : Int} (h : provE l k id t = 0) : opE l k = 0 ∧ refZ id = true ∧ hasZ ((elt l (opI l k)).fld 4).l id = false ∧ ((elt l (opI l k)).fld 4).l.length < 16 := by
  unfold provE at h
  split at h
  · rename_i h1; exact absurd h h1
  rename_i h1
  split at h
  · rename_i h2; exact absurd h h2
  split at h
  · cases h
  rename_i h3
  split at h
  · cases h
  rename_i h4
  split at h
  · cases h
  rename_i h5
  exact ⟨Classical.not_not.1 h1, by simpa using h3, by simpa using h4, by omega⟩
theorem step_of (l : List D) (d : Dd) : Step l (doZ l d).l d := by
  rcases doZ_cases l d with ⟨h, e⟩ | ⟨h, e⟩ | ⟨h, e⟩ | ⟨h, e⟩ | ⟨h, e⟩ <;> rw [e]
  · show Step l (openL l d.key d.cents d.t) d
    unfold openL
    by_cases h0 : openE l d.key d.cents d.t = 0
    · rw [if_pos h0]; exact Step.cat h0
    · rw [if_neg h0]; exact Step.refl l d
  · show Step l (provL l d.key d.id d.t) d
    unfold provL
    by_cases h0 : provE l d.key d.id d.t = 0
    · rw [if_pos h0]
      obtain ⟨h1, h2, h3, h4⟩ := prov_facts h0
      obtain ⟨i, e1, hi, hk, hs⟩ := op_facts h1
      unfold addP
      rw [e1] at h3 h4 ⊢
      rw [Int.toNat_natCast]
      exact Step.set hi ⟨hs, fld_dset_ne (by decide), fld_dset_ne (by decide), fld_dset_ne (by decide), wd_dset, fun _ => hk, fun hw => .inr ⟨d.id, fld_dset_ne (by decide), fld_dset_eq hw (by decide), h2, h3, h4⟩⟩
    · rw [if_neg h0]; exact Step.refl l d
  · show Step l (decL l d.key d.acc d.t) d
    unfold decL
    by_cases h0 : decE l d.key d.t = 0
    · rw [if_pos h0]
      have h1 : opE l d.key = 0 := by
        unfold decE at h0
        split at h0
        · rename_i h1; exact absurd h0 h1
        · rename_i h1; exact Classical.not_not.1 h1
      obtain ⟨i, e1, hi, hk, hs⟩ := op_facts h1
      unfold setSt
      rw [e1, Int.toNat_natCast]
      split
      · exact Step.set hi (dset_chg hs (by decide) fun _ => hk)
      · exact Step.set hi (dset_chg hs (by decide) fun _ => hk)
    · rw [if_neg h0]; exact Step.refl l d
  · show Step l (wdL l d.key) d
    unfold wdL
    by_cases h1 : opE l d.key = 0
    · rw [if_pos h1]
      obtain ⟨i, e1, hi, hk, hs⟩ := op_facts h1
      unfold setSt
      rw [e1, Int.toNat_natCast]
      exact Step.set hi (dset_chg hs (by decide) fun _ => hk)
    · rw [if_neg h1]; exact Step.refl l d
  · show Step l (exTo l d.t l.length) d
    refine ⟨by rw [exTo_len]; exact Nat.le_refl _, by rw [exTo_len]; omega, fun i hi => ?_, fun h => by rw [exTo_len] at h; omega⟩
    rw [elt_exTo hi, if_pos hi]
    unfold exD
    cases hd : due d.t (elt l (i : Int)) with
    | true => rw [if_pos rfl]; exact .inr (dset_chg (due_t.1 hd).1 (by decide) fun hk => absurd hk h)
    | false => rw [if_neg (by decide)]; exact .inl rfl
theorem err_same {l : List D} {d : Dd} (h : (doZ l d).e ≠ 0) : (doZ l d).l = l ∧ (doZ l d).n = 0 := by
  rcases doZ_cases l d with ⟨_, e⟩ | ⟨_, e⟩ | ⟨_, e⟩ | ⟨_, e⟩ | ⟨_, e⟩ <;> rw [e] at h ⊢
  · exact ⟨if_neg h, rfl⟩
  · exact ⟨if_neg h, rfl⟩
  · exact ⟨if_neg h, if_neg fun h1 => h h1.1⟩
  · exact ⟨if_neg h, rfl⟩
  · exact absurd rfl h
/-! ### The amounts -/
def accv (d : D) : Int := if (d.fld 3).i = 2 then (d.fld 2).i else 0
def accS : List D → Int
  | [] => 0
  | d :: r => accv d + accS r
theorem accS_cat {l : List D} {x : D} : accS (xcat l [x]) = accS l + accv x := by
  induction l with
  | nil => show accv x + 0 = 0 + accv x; omega
  | cons d r ih => show accv d + accS (xcat r [x]) = accv d + accS r + accv x; omega
theorem accS_set {l : List D} {i : Nat} {y : D} (h : i < l.length) : accS (xset l i y) = accS l - accv (elt l (i : Int)) + accv y := by
  induction l generalizing i with
  | nil => simp at h
  | cons d r ih =>
    cases i with
    | zero =>
      have e : elt (d :: r) ((0 : Nat) : Int) = d := rfl
      rw [e]
      show accv y + accS r = accv d + accS r - accv d + accv y; omega
    | succ i =>
      rw [elt_cons]
      have := ih (i := i) (by simpa using h)
      show accv d + accS (xset r i y) = accv d + accS r - accv (elt r (i : Int)) + accv y
      omega
/-- Sums without bounds. -/
def exP (l : List D) (t : Int) : Nat → Int
  | 0 => 0
  | i + 1 => if due t (elt l (i : Int)) = true then exP l t i + ((elt l (i : Int)).fld 2).i else exP l t i
def Good (l : List D) : Prop := ∀ i : Nat, i < l.length → wd (elt l (i : Int)) ∧ ((elt l (i : Int)).fld 4).l.length ≤ 16 ∧ 1 ≤ ((elt l (i : Int)).fld 2).i ∧ ((elt l (i : Int)).fld 2).i ≤ 1125899906842624
theorem exP_bd {l : List D} {t : Int} (hg : Good l) : ∀ i : Nat, i ≤ l.length → 0 ≤ exP l t i ∧ exP l t i ≤ 1125899906842624 * i
  | 0, _ => by simp [exP]
  | i + 1, hi => by
    have := exP_bd (t := t) hg i (by omega)
    have h2 := hg i (by omega)
    unfold exP
    split <;> omega
theorem exS_exP {l : List D} {t : Int} (hg : Good l) (hl : l.length ≤ 60) : ∀ i : Nat, i ≤ l.length → exS l t i = exP l t i
  | 0, _ => rfl
  | i + 1, hi => by
    have e := exS_exP (t := t) hg hl i (by omega)
    have := exP_bd (t := t) hg i (by omega)
    have h2 := hg i (by omega)
    unfold exS exP
    rw [e]
    split
    · exact iadd_eq (by omega)
    · rfl
theorem accS_ex {l : List D} {t : Int} (hg : Good l) : ∀ i : Nat, i ≤ l.length → accS (exTo l t i) = accS l + exP l t i
  | 0, _ => by rw [exTo_zero]; simp [exP]
  | i + 1, hi => by
    have ih := accS_ex (t := t) hg i (by omega)
    have h2 := hg i (by omega)
    unfold exP
    cases hd : due t (elt l (i : Int)) with
    | true =>
      rw [if_pos rfl, ← exTo_due (by omega) hd, accS_set (by rw [exTo_len]; omega), ih, elt_exTo (by omega), if_neg (by omega)]
      have e1 : accv (elt l (i : Int)) = 0 := by unfold accv; rw [if_neg (by rw [(due_t.1 hd).1]; decide)]
      have e2 : accv (dset (elt l (i : Int)) 3 (.int 2)) = ((elt l (i : Int)).fld 2).i := by
        unfold accv; rw [fld_dset_eq h2.1 (by decide), if_pos (show (D.int 2).i = 2 from rfl), fld_dset_ne (by decide)]
      rw [e1, e2]; omega
    | false => rw [if_neg (by decide), ← exTo_not (by omega) hd]; exact ih
theorem acc_add {x : D} (h : (x.fld 3).i = 1) {y : D} (hy : (dset x 4 y).fld 3 = x.fld 3) : accv (dset x 4 y) = accv x := by
  unfold accv; rw [hy, if_neg (by omega), if_neg (by omega)]
theorem acc_st {x : D} (hw : wd x) {n : Int} : accv (dset x 3 (.int n)) = if n = 2 then (x.fld 2).i else 0 := by
  unfold accv; rw [fld_dset_eq hw (by decide), fld_dset_ne (by decide)]; rfl
theorem money {l : List D} {d : Dd} (hg : Good l) (hl : l.length ≤ 60) : accS (doZ l d).l = accS l + (doZ l d).n ∧ 0 ≤ (doZ l d).n ∧ (doZ l d).n ≤ 1125899906842624 * 60 := by
  have setN : ∀ {n : Int}, opE l d.key = 0 → n ≠ 2 → accS (setSt l (opI l d.key) n) = accS l := fun {n} h hn => by
    obtain ⟨i, e1, hi, hk, hs⟩ := op_facts h
    unfold setSt
    rw [e1, Int.toNat_natCast, accS_set hi, acc_st (hg i hi).1, if_neg hn]
    have : accv (elt l (i : Int)) = 0 := by unfold accv; rw [if_neg (by omega)]
    omega
  rcases doZ_cases l d with ⟨_, e⟩ | ⟨_, e⟩ | ⟨_, e⟩ | ⟨_, e⟩ | ⟨_, e⟩ <;> rw [e]
  · refine ⟨?_, Int.le_refl _, (by show (0 : Int) ≤ 1125899906842624 * 60; omega)⟩
    show accS (openL l d.key d.cents d.t) = accS l + 0
    unfold openL
    split
    · rw [accS_cat]; rfl
    · omega
  · refine ⟨?_, Int.le_refl _, (by show (0 : Int) ≤ 1125899906842624 * 60; omega)⟩
    show accS (provL l d.key d.id d.t) = accS l + 0
    unfold provL
    split
    · rename_i h0
      obtain ⟨i, e1, hi, hk, hs⟩ := op_facts (prov_facts h0).1
      unfold addP
      rw [e1, Int.toNat_natCast, accS_set hi, acc_add hs (fld_dset_ne (by decide))]
      omega
    · omega
  · show accS (decL l d.key d.acc d.t) = accS l + decC l d.key d.acc d.t ∧ _
    unfold decL decC
    by_cases h0 : decE l d.key d.t = 0
    · have h1 : opE l d.key = 0 := by
        unfold decE at h0
        split at h0
        · rename_i h1; exact absurd h0 h1
        · rename_i h1; exact Classical.not_not.1 h1
      rw [if_pos h0]
      cases ha : d.acc with
      | true =>
        rw [if_pos rfl, if_pos ⟨h0, rfl⟩]
        obtain ⟨i, e1, hi, hk, hs⟩ := op_facts h1
        have hb := hg i hi
        unfold setSt
        rw [e1, Int.toNat_natCast, accS_set hi, acc_st hb.1, if_pos rfl]
        have e3 : accv (elt l (i : Int)) = 0 := by unfold accv; rw [if_neg (by omega)]
        show _ ∧ (0 : Int) ≤ ((elt l (i : Int)).fld 2).i ∧ ((elt l (i : Int)).fld 2).i ≤ 1125899906842624 * 60
        omega
      | false =>
        rw [if_neg (by decide), if_neg (by simp), setN h1 (by decide)]
        show _ ∧ (0 : Int) ≤ 0 ∧ (0 : Int) ≤ 1125899906842624 * 60
        omega
    · rw [if_neg h0, if_neg (fun h => h0 h.1)]
      show _ ∧ (0 : Int) ≤ 0 ∧ (0 : Int) ≤ 1125899906842624 * 60
      omega
  · refine ⟨?_, Int.le_refl _, (by show (0 : Int) ≤ 1125899906842624 * 60; omega)⟩
    show accS (wdL l d.key) = accS l + 0
    unfold wdL
    split
    · rename_i h0; rw [setN h0 (by decide)]; omega
    · omega
  · show accS (exTo l d.t l.length) = accS l + exS l d.t l.length ∧ 0 ≤ exS l d.t l.length ∧ exS l d.t l.length ≤ _
    rw [exS_exP hg hl _ (Nat.le_refl _), accS_ex hg _ (Nat.le_refl _)]
    have := exP_bd (t := d.t) hg _ (Nat.le_refl _)
    exact ⟨rfl, this.1, by omega⟩
theorem open_facts {l : List D} {k : List UInt8} {c t : Int} (h : openE l k c t = 0) : refZ k = true ∧ centsZ c = true ∧ timeZ t = true ∧ findZ l k < 0 ∧ l.length < 1024 := by
  unfold openE at h
  split at h
  · cases h
  rename_i h1
  split at h
  · cases h
  rename_i h2
  split at h
  · cases h
  rename_i h3
  split at h
  · cases h
  rename_i h4
  split at h
  · cases h
  rename_i h5
  exact ⟨by simpa using h1, by simpa using h2, by simpa using h3, by omega, by omega⟩
theorem good_step {l : List D} {d : Dd} (hg : Good l) : Good (doZ l d).l := by
  have S := step_of l d
  intro i hi
  by_cases h : i < l.length
  · rcases S.old i h with e | C
    · rw [e]; exact hg i h
    · obtain ⟨h1, h2, h3, h4⟩ := hg i h
      rw [C.k2]
      refine ⟨C.wdd h1, ?_, h3, h4⟩
      rcases C.how h1 with ⟨_, _, e⟩ | ⟨id, _, e, _, _, hlt⟩
      · rw [e]; exact h2
      · rw [e]
        show (xcat _ [D.str id]).length ≤ 16
        rw [xcat_len]; simp; omega
  · have hle := S.le
    obtain ⟨h0, e⟩ := S.new (by omega)
    obtain rfl : i = l.length := by omega
    rw [e]
    have hc := centsZ_t ▸ (open_facts h0).2.1
    exact ⟨rfl, (by show 0 ≤ 16; omega), hc.1, hc.2⟩
theorem plTo_good (ds : List D) : ∀ g : Nat, (plTo ds g).length ≤ g ∧ Good (plTo ds g)
  | 0 => ⟨Nat.le_refl _, fun i hi => by simp [plTo] at hi⟩
  | g + 1 => by
    obtain ⟨h1, h2⟩ := plTo_good ds g
    have S := step_of (plTo ds g) (ddOf (elt ds (g : Int)))
    have := S.le
    exact ⟨by show (doZ _ _).l.length ≤ _; omega, good_step h2⟩
theorem fit_good {l : List D} (h : l.length ≤ 60) (hg : Good l) : fit l := by
  refine ⟨by omega, fun x hx => ?_⟩
  obtain ⟨i, hi, rfl⟩ := mem_elt hx
  have := (hg i hi).2.1; omega
theorem plTo_fit (ds : List D) {g : Nat} (h : g ≤ 60) : fit (plTo ds g) := fit_good (by have := (plTo_good ds g).1; omega) (plTo_good ds g).2
def crP (ds : List D) : Nat → Int
  | 0 => 0
  | i + 1 => crP ds i + (doZ (plTo ds i) (ddOf (elt ds (i : Int)))).n
theorem cr_acc (ds : List D) : ∀ g : Nat, g ≤ 60 → crTo ds g = accS (plTo ds g) ∧ 0 ≤ crTo ds g ∧ crTo ds g ≤ 1125899906842624 * 60 * g
  | 0, _ => ⟨rfl, Int.le_refl _, by simp [crTo]⟩
  | g + 1, h => by
    obtain ⟨e1, e2, e3⟩ := cr_acc ds g (by omega)
    obtain ⟨p1, p2⟩ := plTo_good ds g
    obtain ⟨m1, m2, m3⟩ := money (d := ddOf (elt ds (g : Int))) p2 (by omega)
    have e : crTo ds (g + 1) = crTo ds g + (doZ (plTo ds g) (ddOf (elt ds (g : Int)))).n := by
      show iadd .i64 _ _ = _
      exact iadd_eq (by omega)
    rw [e]
    refine ⟨?_, by omega, by omega⟩
    show _ = accS (doZ (plTo ds g) (ddOf (elt ds (g : Int)))).l
    omega
theorem accS_take {l : List D} (hg : Good l) (hl : l.length ≤ 60) : ∀ i : Nat, i ≤ l.length → acTo l i = accS (l.take i) ∧ 0 ≤ accS (l.take i) ∧ accS (l.take i) ≤ 1125899906842624 * i
  | 0, _ => ⟨rfl, Int.le_refl _, by simp [accS]⟩
  | i + 1, hi => by
    obtain ⟨e1, e2, e3⟩ := accS_take hg hl i (by omega)
    have hb := hg i (by omega)
    have e : l.take (i + 1) = xcat (l.take i) [elt l (i : Int)] := by
      rw [elt_get (by omega)]; exact List.take_succ_eq_append_getElem (by omega)
    rw [e, accS_cat]
    unfold acTo
    rw [e1]
    by_cases h : ((elt l (i : Int)).fld 3).i = 2
    · rw [if_pos h]
      have e4 : accv (elt l (i : Int)) = ((elt l (i : Int)).fld 2).i := by unfold accv; rw [if_pos h]
      rw [e4, iadd_eq (by omega)]
      omega
    · rw [if_neg h]
      have e4 : accv (elt l (i : Int)) = 0 := by unfold accv; rw [if_neg h]
      rw [e4]; omega
theorem xsub1 {l : List D} {g : Nat} (h : g < l.length) : xsub l (g : Int) ((g : Int) + 1) = [elt l (g : Int)] := by
  unfold xsub
  rw [show ((g : Int) + 1).toNat = g + 1 by omega, Int.toNat_natCast, elt_get h, List.take_succ_eq_append_getElem h, List.drop_append_of_le_length (by rw [List.length_take]; omega)]
  rw [List.drop_eq_nil_of_le (by rw [List.length_take]; omega)]
  rfl
end Go.Proofs.YtkfghnflbehecaaDoor
