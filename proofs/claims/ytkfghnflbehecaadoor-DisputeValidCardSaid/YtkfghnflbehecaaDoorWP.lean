/- Part of the proof of the laws of this seat: contracts of its functions, for every input. -/
import Derived.Test.YtkfghnflbehecaaDoorWO
set_option linter.all false
namespace Go.Proofs.YtkfghnflbehecaaDoor
open Go Go.RX Go.Proofs
set_option maxRecDepth 100000
set_option linter.all false
set_option maxHeartbeats 1000000
theorem fld_dset_ne {d x : D} {j k : Nat} (h : k ≠ j) : (dset d k x).fld j = d.fld j := by
  show (d.parts.set k x).getD j (.int 0) = d.parts.getD j (.int 0)
  rw [List.getD_eq_getElem?_getD, List.getD_eq_getElem?_getD, List.getElem?_set_ne h]
theorem elt_set_same {l : List D} {i : Int} {d : D} (h0 : 0 ≤ i) (h : i < l.length) : elt (xset l i.toNat d) i = d := by
  have e : elt (xset l i.toNat d) ((i.toNat : Nat) : Int) = d := by
    rw [elt_xset (by omega), if_pos rfl]
  rwa [elt_nn] at e
theorem dec_err {l : List D} {k : List UInt8} {a : Bool} {t e : Int} (h : decE l k t = e) (he : e ≠ 0) : l = decL l k a t ∧ 0 = decC l k a t ∧ e = decE l k t := by
  refine ⟨?_, ?_, h.symm⟩
  · unfold decL; rw [if_neg (by rw [h]; exact he)]
  · unfold decC; rw [if_neg (by rw [h]; exact fun h => he h.1)]
theorem dec_acc {l : List D} {k : List UInt8} {t : Int} (h : decE l k t = 0) (hr : 0 ≤ opI l k ∧ opI l k < l.length) : xset l (opI l k).toNat (dset (elt l (opI l k)) 3 (.int 2)) = decL l k true t ∧ ((elt (xset l (opI l k).toNat (dset (elt l (opI l k)) 3 (.int 2))) (opI l k)).fld 2).i = decC l k true t ∧ 0 = decE l k t := by
  refine ⟨?_, ?_, h.symm⟩
  · unfold decL; rw [if_pos h, if_pos rfl]; rfl
  · unfold decC; rw [if_pos ⟨h, rfl⟩, elt_set_same hr.1 hr.2, fld_dset_ne (by decide)]
theorem dec_rej {l : List D} {k : List UInt8} {t : Int} (h : decE l k t = 0) : xset l (opI l k).toNat (dset (elt l (opI l k)) 3 (.int 3)) = decL l k false t ∧ 0 = decC l k false t ∧ 0 = decE l k t := by
  refine ⟨?_, ?_, h.symm⟩
  · unfold decL; rw [if_pos h, if_neg (by decide)]; rfl
  · unfold decC; rw [if_neg (by simp)]
theorem tb17_ok : TabOK Tryd.prog tb17 := fun f con h => by
  unfold tb17 at h
  split at h
  · cases h; exact c33
  · cases h; exact c34
  · cases h; exact c32
  · cases h
theorem tb28_ok : TabOK Tryd.prog tb28 := fun f con h => by
  unfold tb28 at h
  split at h
  · cases h; exact c43
  · cases h; exact c39
  · cases h; exact c44
  · cases h; exact c42
  · cases h
theorem c17 : ConOK Tryd.prog 17 con17 := by
  refine conOK_of_exec (inl := noInl) noInl_ok (lp := noLp) (tb := tb17) (c := bodyOf Tryd.f17) ⟨tt_ok, tb17_ok⟩ mixed Tryd.func17 (by kernel_rfl) (by kernel_rfl) ?_
  intro dat hpre hwt
  have hw0 := wts4 hwt
  obtain ⟨d0, d1, d2, d3, rfl, w0, w1, w2, w3⟩ := hw0
  refine Eq.mpr (vc17 d0 d1 d2 d3) ?_
  have hfit : fit d0.l := hpre
  have hE : decE d0.l d1.s d3.i = if opE d0.l d1.s ≠ 0 then opE d0.l d1.s else lateZ ((elt d0.l (opI d0.l d1.s)).fld 1).i d3.i 5184000 := rfl
  simp only [ile_t, ile_f, ilt_t, ilt_f, ieq_t, ieq_f, bnot_t, bnot_f, band_t, band_f, true_and, and_true, lenI, elt_nn, xset_len]
  refine ⟨fun h => dec_err (by rw [hE, if_pos h]) h, fun h0 => ?_⟩
  rw [if_neg (by simp [h0])] at hE
  have hr := op_range h0
  refine ⟨hr, by omega, fun h => dec_err hE h, fun h1 => ⟨hfit, fun h => ⟨hr, hr, ?_⟩, fun h => ⟨hr, ?_⟩⟩⟩
  · rw [h]; exact dec_acc (by rw [hE, h1]) hr
  · rw [h]; exact dec_rej (by rw [hE, h1])
theorem c28 : ConOK Tryd.prog 28 con28 := by
  refine conOK_of_exec (inl := noInl) noInl_ok (lp := noLp) (tb := tb28) (c := bodyOf Tryd.f28) ⟨tt_ok, tb28_ok⟩ mixed Tryd.func28 (by kernel_rfl) (by kernel_rfl) ?_
  intro dat hpre hwt
  have hw0 := wts4 hwt
  obtain ⟨d0, d1, d2, d3, rfl, w0, w1, w2, w3⟩ := hw0
  refine Eq.mpr (vc28 d0 d1 d2 d3) ?_
  have hfit : fit d0.l := hpre
  have hE : decE d0.l d1.s d3.i = if opE d0.l d1.s ≠ 0 then opE d0.l d1.s else lateZ ((elt d0.l (opI d0.l d1.s)).fld 1).i d3.i 5184000 := rfl
  have hL := @late_cases ((elt d0.l (opI d0.l d1.s)).fld 1).i d3.i 5184000
  simp only [ile_t, ile_f, ilt_t, ilt_f, ieq_t, ieq_f, bnot_t, bnot_f, band_t, band_f, true_and, and_true, lenI, elt_nn, xset_len, decide_eq_true_eq, decide_eq_false_iff_not]
  refine ⟨fun h => dec_err (by rw [hE, if_pos h]) h, fun h0 => ?_⟩
  rw [if_neg (by simp [h0])] at hE
  have hr := op_range h0
  refine ⟨fun h => ?_, fun h1 => ⟨hr, fun h => ?_, fun h2 => ⟨hr, ?_⟩⟩⟩
  · rw [if_pos h] at hL
    exact dec_err (hE.trans hL) (by decide)
  · rw [if_neg (by simp [h1]), if_pos h] at hL
    exact dec_err (hE.trans hL) (by decide)
  · rw [if_neg (by simp [h1]), if_neg (by omega)] at hL
    have ht := timeZ_t ▸ h1
    refine ⟨by omega, fun h => ?_, fun h3 => ⟨hfit, fun h => ⟨hr, hr, ?_⟩, fun h => ⟨hr, ?_⟩⟩⟩
    · rw [if_pos (by omega)] at hL
      exact dec_err (hE.trans hL) (by decide)
    · rw [if_neg (by omega)] at hL
      rw [h]; exact dec_acc (hE.trans hL) hr
    · rw [if_neg (by omega)] at hL
      rw [h]; exact dec_rej (hE.trans hL)
theorem tb25_ok : TabOK Tryd.prog tb25 := fun f con h => by
  unfold tb25 at h
  split at h
  · cases h; exact c33
  · cases h; exact c32
  · cases h
theorem tb29_ok : TabOK Tryd.prog tb29 := fun f con h => by
  unfold tb29 at h
  split at h
  · cases h; exact c43
  · cases h; exact c42
  · cases h
theorem c25 : ConOK Tryd.prog 25 con25 := by
  refine conOK_of_exec (inl := noInl) noInl_ok (lp := noLp) (tb := tb25) (c := bodyOf Tryd.f25) ⟨tt_ok, tb25_ok⟩ mixed Tryd.func25 (by kernel_rfl) (by kernel_rfl) ?_
  intro dat hpre hwt
  have hw0 := wts2 hwt
  obtain ⟨d0, d1, rfl, w0, w1⟩ := hw0
  refine Eq.mpr (vc25 d0 d1) ?_
  have hfit : fit d0.l := hpre
  simp only [ile_t, ile_f, ilt_t, ilt_f, ieq_t, ieq_f, bnot_t, bnot_f, band_t, band_f, true_and, and_true, lenI, elt_nn]
  refine ⟨fun h => by unfold wdL; rw [if_neg h], fun h0 => ?_⟩
  exact ⟨hfit, op_range h0, by unfold wdL; rw [if_pos h0]; rfl, h0.symm⟩
theorem c29 : ConOK Tryd.prog 29 con29 := by
  refine conOK_of_exec (inl := noInl) noInl_ok (lp := noLp) (tb := tb29) (c := bodyOf Tryd.f29) ⟨tt_ok, tb29_ok⟩ mixed Tryd.func29 (by kernel_rfl) (by kernel_rfl) ?_
  intro dat hpre hwt
  have hw0 := wts2 hwt
  obtain ⟨d0, d1, rfl, w0, w1⟩ := hw0
  refine Eq.mpr (vc29 d0 d1) ?_
  have hfit : fit d0.l := hpre
  simp only [ile_t, ile_f, ilt_t, ilt_f, ieq_t, ieq_f, bnot_t, bnot_f, band_t, band_f, true_and, and_true, lenI, elt_nn]
  refine ⟨fun h => by unfold wdL; rw [if_neg h], fun h0 => ?_⟩
  exact ⟨hfit, op_range h0, by unfold wdL; rw [if_pos h0]; rfl, h0.symm⟩
theorem exTo_len {l : List D} {t : Int} {i : Nat} : (exTo l t i).length = l.length := by
  unfold exTo
  rw [List.length_append, List.length_map, List.length_take, List.length_drop]; omega
theorem elt_exTo {l : List D} {t : Int} {i j : Nat} (h : j < l.length) : elt (exTo l t i) (j : Int) = if j < i then exD t (elt l (j : Int)) else elt l (j : Int) := by
  rw [elt_get (by rw [exTo_len]; exact h), elt_get h]
  unfold exTo
  by_cases hj : j < i
  · rw [if_pos hj, List.getElem_append_left (by rw [List.length_map, List.length_take]; omega), List.getElem_map, List.getElem_take]
  · rw [if_neg hj, List.getElem_append_right (by rw [List.length_map, List.length_take]; omega), List.getElem_drop]
    congr 1
    rw [List.length_map, List.length_take]; omega
theorem exTo_zero {l : List D} {t : Int} : exTo l t 0 = l := by simp [exTo]
theorem exTo_due {l : List D} {t : Int} {i : Nat} (hi : i < l.length) (hd : due t (elt l (i : Int)) = true) : xset (exTo l t i) i (dset (elt l (i : Int)) 3 (.int 2)) = exTo l t (i + 1) := by
  refine list_ext (by rw [xset_len, exTo_len, exTo_len]) fun j hj => ?_
  rw [xset_len, exTo_len] at hj
  rw [elt_xset (by rw [exTo_len]; exact hj), elt_exTo hj, elt_exTo hj]
  by_cases e : i = j
  · subst e
    rw [if_pos rfl, if_pos (by omega)]
    unfold exD; rw [if_pos hd]
  · rw [if_neg e]
    by_cases h : j < i
    · rw [if_pos h, if_pos (by omega)]
    · rw [if_neg h, if_neg (by omega)]
theorem exTo_not {l : List D} {t : Int} {i : Nat} (hi : i < l.length) (hd : due t (elt l (i : Int)) = false) : exTo l t i = exTo l t (i + 1) := by
  refine list_ext (by rw [exTo_len, exTo_len]) fun j hj => ?_
  rw [exTo_len] at hj
  rw [elt_exTo hj, elt_exTo hj]
  by_cases e : j = i
  · subst e
    rw [if_neg (by omega), if_pos (by omega)]
    unfold exD; rw [if_neg (by simp [hd])]
  · by_cases h : j < i
    · rw [if_pos h, if_pos (by omega)]
    · rw [if_neg h, if_neg (by omega)]
theorem exS_due {l : List D} {t : Int} {i : Nat} (hd : due t (elt l (i : Int)) = true) : iadd .i64 (exS l t i) ((elt l (i : Int)).fld 2).i = exS l t (i + 1) := by
  show _ = if due t (elt l (i : Int)) = true then _ else _
  rw [if_pos hd]
theorem exS_not {l : List D} {t : Int} {i : Nat} (hd : due t (elt l (i : Int)) = false) : exS l t i = exS l t (i + 1) := by
  show _ = if due t (elt l (i : Int)) = true then _ else _
  rw [if_neg (by simp [hd])]
theorem due_t {t : Int} {d : D} : due t d = true ↔ (d.fld 3).i = 1 ∧ timeZ t = true ∧ (d.fld 1).i < t - 5184000 := by
  unfold due; simp only [Bool.and_eq_true, decide_eq_true_eq]
theorem due_f {t : Int} {d : D} (h : ¬ ((d.fld 3).i = 1 ∧ timeZ t = true ∧ (d.fld 1).i < t - 5184000)) : due t d = false := by
  rw [← Bool.not_eq_true, due_t]; exact h
theorem tb18_ok : TabOK Tryd.prog tb18 := fun f con h => by
  unfold tb18 at h
  split at h
  · cases h; exact c31
  · cases h; exact c32
  · cases h
theorem tb30_ok : TabOK Tryd.prog tb30 := fun f con h => by
  unfold tb30 at h
  split at h
  · cases h; exact c39
  · cases h; exact c44
  · cases h; exact c42
  · cases h
theorem c18 : ConOK Tryd.prog 18 con18 := by
  refine conOK_of_exec (inl := noInl) noInl_ok (lp := lp18) (tb := tb18) (c := bodyOf Tryd.f18) ⟨tt_ok, tb18_ok⟩ mixed Tryd.func18 (by kernel_rfl) (by kernel_rfl) ?_
  intro dat hpre hwt
  have hw0 := wts2 hwt
  obtain ⟨d0, d1, rfl, w0, w1⟩ := hw0
  refine Eq.mpr (vc18 d0 d1) ?_
  have hfit : fit d0.l := hpre
  have hlen := fit_len hfit
  simp only [ile_t, ile_f, ilt_t, ilt_f, ieq_t, ieq_f, bnot_t, bnot_f, band_t, band_f, true_and, and_true, lenI, Int.toNat_natCast, exTo_len]
  generalize d0.l = l at *
  generalize d1.i = t at *
  refine ⟨hfit, ⟨0, by omega, ⟨rfl, rfl⟩, exTo_zero.symm⟩, fun g hg => ⟨fun hlt => ⟨by omega, ?_⟩, fun hge => ?_⟩⟩
  · have hgl : g < l.length := by omega
    have he : elt (exTo l t g) (g : Int) = elt l (g : Int) := by rw [elt_exTo hgl, if_neg (by omega)]
    rw [he]
    have next : ∀ {p : Prop}, due t (elt l (g : Int)) = false → ∃ g', g' ≤ l.length ∧ l.length - g' < l.length - g ∧ (exS l t g = exS l t g' ∧ iadd .i64 (g : Int) 1 = (g' : Int)) ∧ exTo l t g = exTo l t g' := fun h => ⟨g + 1, by omega, by omega, ⟨exS_not h, by rw [iadd_eq (by omega)]; rfl⟩, exTo_not hgl h⟩
    refine ⟨fun h1 => ⟨fun h2 => ?_, fun h2 => next (p := True) (due_f (by simp [h2]))⟩, fun h1 => next (p := True) (due_f (by simp [h1]))⟩
    have ht := timeZ_t ▸ h2
    rw [isub_eq (by omega)]
    refine ⟨fun h3 => ⟨by omega, g + 1, by omega, by omega, ⟨exS_due (due_t.2 ⟨h1, h2, h3⟩), by rw [iadd_eq (by omega)]; rfl⟩, exTo_due hgl (due_t.2 ⟨h1, h2, h3⟩)⟩, fun h3 => next (p := True) (due_f (by omega))⟩
  · obtain rfl : g = l.length := by omega
    exact ⟨rfl, rfl⟩
theorem ex_none {l : List D} {t : Int} (h : timeZ t = false) : ∀ i, i ≤ l.length → exTo l t i = l ∧ exS l t i = 0
  | 0, _ => ⟨exTo_zero, rfl⟩
  | i + 1, hi => by
    obtain ⟨h1, h2⟩ := ex_none (l := l) h i (by omega)
    have hd : due t (elt l (i : Int)) = false := due_f (by simp [h])
    exact ⟨(exTo_not (l := l) (by omega) hd).symm.trans h1, (exS_not hd).symm.trans h2⟩
theorem c30 : ConOK Tryd.prog 30 con30 := by
  refine conOK_of_exec (inl := noInl) noInl_ok (lp := lp30) (tb := tb30) (c := bodyOf Tryd.f30) ⟨tt_ok, tb30_ok⟩ mixed Tryd.func30 (by kernel_rfl) (by kernel_rfl) ?_
  intro dat hpre hwt
  have hw0 := wts2 hwt
  obtain ⟨d0, d1, rfl, w0, w1⟩ := hw0
  refine Eq.mpr (vc30 d0 d1) ?_
  have hfit : fit d0.l := hpre
  have hlen := fit_len hfit
  simp only [ile_t, ile_f, ilt_t, ilt_f, ieq_t, ieq_f, bnot_t, bnot_f, band_t, band_f, true_and, and_true, lenI, Int.toNat_natCast, exTo_len, xset_len, decide_eq_true_eq, decide_eq_false_iff_not]
  generalize d0.l = l at *
  generalize d1.i = t at *
  refine ⟨hfit, ⟨0, ⟨by omega, .inr rfl⟩, ⟨rfl, rfl⟩, exTo_zero.symm⟩, fun g hg => ⟨fun hlt => ⟨fun h2 => ⟨by omega, ?_⟩, fun h2 => ?_⟩, fun hge => ?_⟩⟩
  · have hgl : g < l.length := by omega
    have he : elt (exTo l t g) (g : Int) = elt l (g : Int) := by rw [elt_exTo hgl, if_neg (by omega)]
    have ht := timeZ_t ▸ h2
    rw [he]
    have next : due t (elt l (g : Int)) = false → ∃ g', (g' ≤ l.length ∧ (timeZ t = true ∨ g' = 0)) ∧ l.length - g' < l.length - g ∧ (exS l t g = exS l t g' ∧ iadd .i64 (g : Int) 1 = (g' : Int)) ∧ exTo l t g = exTo l t g' := fun h => ⟨g + 1, ⟨by omega, .inl h2⟩, by omega, ⟨exS_not h, by rw [iadd_eq (by omega)]; rfl⟩, exTo_not hgl h⟩
    refine ⟨fun h1 => ⟨by omega, by omega, fun h3 => ⟨by omega, by omega, g + 1, ⟨by omega, .inl h2⟩, by omega, ⟨?_, by rw [iadd_eq (by omega)]; rfl⟩, exTo_due hgl (due_t.2 ⟨h1, h2, by omega⟩)⟩, fun h3 => next (due_f (by omega))⟩, fun h1 => next (due_f (by simp [h1]))⟩
    rw [elt_xset (by rw [exTo_len]; exact hgl), if_pos rfl, fld_dset_ne (by decide)]
    exact exS_due (due_t.2 ⟨h1, h2, by omega⟩)
  · obtain ⟨e1, e2⟩ := ex_none h2 g hg.1
    obtain ⟨e3, e4⟩ := ex_none h2 l.length (Nat.le_refl _)
    rw [e1, e2, e3, e4]; exact ⟨rfl, rfl⟩
  · obtain rfl : g = l.length := by omega
    exact ⟨rfl, rfl⟩
theorem tb12_ok : TabOK Tryd.prog tb12 := fun f con h => by
  unfold tb12 at h
  split at h
  · cases h; exact c15
  · cases h; exact c16
  · cases h; exact c17
  · cases h; exact c25
  · cases h; exact c18
  · cases h
theorem tb13_ok : TabOK Tryd.prog tb13 := fun f con h => by
  unfold tb13 at h
  split at h
  · cases h; exact c26
  · cases h; exact c27
  · cases h; exact c28
  · cases h; exact c29
  · cases h; exact c30
  · cases h
theorem c12 : ConOK Tryd.prog 12 con12 := by
  refine conOK_of_exec (inl := noInl) noInl_ok (lp := noLp) (tb := tb12) (c := bodyOf Tryd.f12) ⟨tt_ok, tb12_ok⟩ mixed Tryd.func12 (by kernel_rfl) (by kernel_rfl) ?_
  intro dat hpre hwt
  have hw0 := wts2 hwt
  obtain ⟨d0, d1, rfl, w0, w1⟩ := hw0
  refine Eq.mpr (vc12 d0 d1) ?_
  have hfit : fit d0.l := hpre
  have hE : doZ d0.l (ddOf d1) = if (d1.fld 0).i = 0 then ⟨openL d0.l (d1.fld 1).s (d1.fld 3).i (d1.fld 4).i, 0, openE d0.l (d1.fld 1).s (d1.fld 3).i (d1.fld 4).i⟩
    else if (d1.fld 0).i = 1 then ⟨provL d0.l (d1.fld 1).s (d1.fld 2).s (d1.fld 4).i, 0, provE d0.l (d1.fld 1).s (d1.fld 2).s (d1.fld 4).i⟩
    else if (d1.fld 0).i = 2 then ⟨decL d0.l (d1.fld 1).s (d1.fld 5).b (d1.fld 4).i, decC d0.l (d1.fld 1).s (d1.fld 5).b (d1.fld 4).i, decE d0.l (d1.fld 1).s (d1.fld 4).i⟩
    else if (d1.fld 0).i = 3 then ⟨wdL d0.l (d1.fld 1).s, 0, opE d0.l (d1.fld 1).s⟩
    else ⟨exTo d0.l (d1.fld 4).i d0.l.length, exS d0.l (d1.fld 4).i d0.l.length, 0⟩ := rfl
  simp only [ile_t, ile_f, ilt_t, ilt_f, ieq_t, ieq_f, bnot_t, bnot_f, band_t, band_f, true_and, and_true, lenI]
  refine ⟨fun h => ?_, fun h0 => ⟨fun h => ?_, fun h1 => ⟨fun h => ?_, fun h2 => ⟨fun h => ?_, fun h3 => ?_⟩⟩⟩⟩
  · rw [hE, if_pos h]; exact ⟨hfit, rfl, rfl, rfl⟩
  · rw [hE, if_neg h0, if_pos h]; exact ⟨hfit, rfl, rfl, rfl⟩
  · rw [hE, if_neg h0, if_neg h1, if_pos h]; exact ⟨hfit, rfl, rfl, rfl⟩
  · rw [hE, if_neg h0, if_neg h1, if_neg h2, if_pos h]; exact ⟨hfit, rfl, rfl, rfl⟩
  · rw [hE, if_neg h0, if_neg h1, if_neg h2, if_neg h3]; exact ⟨hfit, rfl, rfl, rfl⟩
theorem c13 : ConOK Tryd.prog 13 con13 := by
  refine conOK_of_exec (inl := noInl) noInl_ok (lp := noLp) (tb := tb13) (c := bodyOf Tryd.f13) ⟨tt_ok, tb13_ok⟩ mixed Tryd.func13 (by kernel_rfl) (by kernel_rfl) ?_
  intro dat hpre hwt
  have hw0 := wts2 hwt
  obtain ⟨d0, d1, rfl, w0, w1⟩ := hw0
  refine Eq.mpr (vc13 d0 d1) ?_
  have hfit : fit d0.l := hpre
  have hE : doZ d0.l (ddOf d1) = if (d1.fld 0).i = 0 then ⟨openL d0.l (d1.fld 1).s (d1.fld 3).i (d1.fld 4).i, 0, openE d0.l (d1.fld 1).s (d1.fld 3).i (d1.fld 4).i⟩
    else if (d1.fld 0).i = 1 then ⟨provL d0.l (d1.fld 1).s (d1.fld 2).s (d1.fld 4).i, 0, provE d0.l (d1.fld 1).s (d1.fld 2).s (d1.fld 4).i⟩
    else if (d1.fld 0).i = 2 then ⟨decL d0.l (d1.fld 1).s (d1.fld 5).b (d1.fld 4).i, decC d0.l (d1.fld 1).s (d1.fld 5).b (d1.fld 4).i, decE d0.l (d1.fld 1).s (d1.fld 4).i⟩
    else if (d1.fld 0).i = 3 then ⟨wdL d0.l (d1.fld 1).s, 0, opE d0.l (d1.fld 1).s⟩
    else ⟨exTo d0.l (d1.fld 4).i d0.l.length, exS d0.l (d1.fld 4).i d0.l.length, 0⟩ := rfl
  simp only [ile_t, ile_f, ilt_t, ilt_f, ieq_t, ieq_f, bnot_t, bnot_f, band_t, band_f, true_and, and_true, lenI]
  refine ⟨fun h => ?_, fun h0 => ⟨fun h => ?_, fun h1 => ⟨fun h => ?_, fun h2 => ⟨fun h => ?_, fun h3 => ?_⟩⟩⟩⟩
  · rw [hE, if_pos h]; exact ⟨hfit, rfl, rfl, rfl⟩
  · rw [hE, if_neg h0, if_pos h]; exact ⟨hfit, rfl, rfl, rfl⟩
  · rw [hE, if_neg h0, if_neg h1, if_pos h]; exact ⟨hfit, rfl, rfl, rfl⟩
  · rw [hE, if_neg h0, if_neg h1, if_neg h2, if_pos h]; exact ⟨hfit, rfl, rfl, rfl⟩
  · rw [hE, if_neg h0, if_neg h1, if_neg h2, if_neg h3]; exact ⟨hfit, rfl, rfl, rfl⟩
theorem tb9_ok : TabOK Tryd.prog tb9 := fun f con h => by
  unfold tb9 at h
  split at h
  · cases h; exact c15
  · cases h; exact c16
  · cases h; exact c17
  · cases h; exact c18
  · cases h; exact c10
  · cases h
def fitB (l : List D) : Bool := decide (l.length ≤ 2000) && l.all fun x => decide ((x.fld 4).l.length ≤ 100000)
theorem fit_of {l : List D} (h : fitB l = true) : fit l := by
  unfold fitB at h
  simp only [Bool.and_eq_true, decide_eq_true_eq, List.all_eq_true] at h
  exact h
theorem c9 : ConOK Tryd.prog 9 con9 := by
  refine conOK_of_exec (inl := noInl) noInl_ok (lp := noLp) (tb := tb9) (c := bodyOf Tryd.f9) ⟨tt_ok, tb9_ok⟩ mixed Tryd.func9 (by kernel_rfl) (by kernel_rfl) ?_
  intro dat hpre hwt
  obtain rfl := wts0 hwt
  refine Eq.mpr (vc9) ?_
  refine ⟨fit_of (by decide +kernel), fit_of (by decide +kernel), fit_of (by decide +kernel), fit_of (by decide +kernel), fit_of (by decide +kernel), fit_of (by decide +kernel), fit_of (by decide +kernel), fit_of (by decide +kernel), ?_⟩
  simp
end Go.Proofs.YtkfghnflbehecaaDoor
