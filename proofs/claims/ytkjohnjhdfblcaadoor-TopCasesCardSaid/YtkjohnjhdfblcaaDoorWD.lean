/- Part of the proof of the laws of this seat: contracts of its functions, for every input. -/
import Derived.Test.YtkjohnjhdfblcaaDoorWC
set_option linter.all false
namespace Go.Proofs.YtkjohnjhdfblcaaDoor
open Go Go.RX Go.Proofs
set_option maxRecDepth 100000
set_option linter.all false
theorem csEq {a b c : List UInt8} {d e f g h i j k l : Int} {X : Cs} : (a = X.id ∧ b = X.pl ∧ c = X.key ∧ d = X.bg ∧ e = X.si ∧ f = X.st ∧ g = X.ow ∧ h = X.pa ∧ i = X.ps ∧ j = X.a0 ∧ k = X.a1 ∧ l = X.a2) = ((⟨a, b, c, d, e, f, g, h, i, j, k, l⟩ : Cs) = X) := by
  apply propext
  cases X
  simp only [Cs.mk.injEq]
theorem csOf_mk {a b c : List UInt8} {d e f g h i j k l : Int} : csOf (.agg [.str a, .str b, .str c, .int d, .int e, .int f, .int g, .int h, .int i, .agg [.int j, .int k, .int l]]) = ⟨a, b, c, d, e, f, g, h, i, j, k, l⟩ := rfl
theorem csOf_eta {d : D} : (⟨(d.fld 0).s, (d.fld 1).s, (d.fld 2).s, (d.fld 3).i, (d.fld 4).i, (d.fld 5).i, (d.fld 6).i, (d.fld 7).i, (d.fld 8).i, ((d.fld 9).fld 0).i, ((d.fld 9).fld 1).i, ((d.fld 9).fld 2).i⟩ : Cs) = csOf d := rfl
theorem Cs.eta {X : Cs} : (⟨X.id, X.pl, X.key, X.bg, X.si, X.st, X.ow, X.pa, X.ps, X.a0, X.a1, X.a2⟩ : Cs) = X := rfl
theorem lwOf_mk {a b : List D} {c : Int} : lwOf (.agg [.list a, .list b, .int c]) = ⟨a, b, c⟩ := rfl
theorem lwOf_eta {d : D} : (⟨(d.fld 0).l, (d.fld 1).l, (d.fld 2).i⟩ : Lw) = lwOf d := rfl
theorem le_wt {e : Ty} {d : D} (h : WT (.slice e) d) : (d.l.length : Int) ≤ 9223372036854775807 := by
  have := (wt_sl h).2.1
  simp only [maxLen] at this
  omega
theorem laws {d : D} (h : WT lawT d) : WT li (d.fld 0) ∧ WT li (d.fld 1) ∧ WT i64 (d.fld 2) := by
  obtain ⟨d1, ds, rfl, h1, d2, ds2, e2, h2, d3, ds3, e3, h3, _⟩ := h
  cases e2; cases e3
  exact ⟨h1, h2, h3⟩
theorem bad4_f {f : Nat → Bool} (h : ∀ j, j < 4 → f j = false) : bad4 f = false := by
  unfold bad4
  rw [h 0 (by omega), h 1 (by omega), h 2 (by omega), h 3 (by omega)]
  rfl
theorem bad4_t {f : Nat → Bool} {j : Nat} (hj : j < 4) (h : f j = true) : bad4 f = true := by
  unfold bad4
  obtain rfl | rfl | rfl | rfl : j = 0 ∨ j = 1 ∨ j = 2 ∨ j = 3 := by omega
  all_goals simp [h]
theorem openZ_t {c : Cs} : (openZ c = true) = (1 ≤ c.st ∧ c.st ≤ 5) := by simp [openZ]
theorem openZ_f {c : Cs} : (openZ c = false) = ¬ (1 ≤ c.st ∧ c.st ≤ 5) := by rw [← openZ_t]; simp
theorem pendZ_t {c : Cs} : (pendZ c = true) = (c.a0 = 1) := by simp [pendZ]
theorem pendZ_f {c : Cs} : (pendZ c = false) = (c.a0 ≠ 1) := by simp [pendZ]
theorem dayOk_t {n : Int} : (dayOk n = true) = (0 ≤ n ∧ n < 795364) := by simp [dayOk]
theorem dayOk_f {n : Int} : (dayOk n = false) = ¬ (0 ≤ n ∧ n < 795364) := by rw [← dayOk_t]; simp
theorem amtOk_t {n : Int} : (amtOk n = true) = (0 ≤ n ∧ n ≤ 1125899906842624) := by simp [amtOk]
theorem amtOk_f {n : Int} : (amtOk n = false) = ¬ (0 ≤ n ∧ n ≤ 1125899906842624) := by rw [← amtOk_t]; simp
theorem c28 : ConOK Tryd.prog 28 con28 := by
  refine conOK_of_exec (inl := noInl) noInl_ok (lp := noLp) (tb := tbN) (c := bodyOf Tryd.f28) ⟨tt_ok, tbN_ok⟩ mixed Tryd.func28 (by kernel_rfl) (by kernel_rfl) ?_
  intro dat hpre hwt
  obtain ⟨d0, rfl, w0⟩ := wts1 hwt
  refine Eq.mpr (vc28 d0) ?_
  simp only [ile_t, ile_f, ilt_t, ilt_f, ieq_t, ieq_f, bnot_t, bnot_f, band_t, band_f, true_and, and_true, lenI]
  refine ⟨fun h => ?_, fun h => ?_⟩
  · refine bool_eq ?_
    rw [ile_t, openZ_t]
    exact ⟨fun h2 => ⟨h, h2⟩, fun h2 => h2.2⟩
  · rw [openZ_f]
    exact fun h2 => by have h3 : 1 ≤ (d0.fld 5).i := h2.1; omega
theorem c29 : ConOK Tryd.prog 29 con29 := by
  refine conOK_of_exec (inl := noInl) noInl_ok (lp := noLp) (tb := tbN) (c := bodyOf Tryd.f29) ⟨tt_ok, tbN_ok⟩ mixed Tryd.func29 (by kernel_rfl) (by kernel_rfl) ?_
  intro dat hpre hwt
  obtain ⟨d0, rfl, w0⟩ := wts1 hwt
  refine Eq.mpr (vc29 d0) ?_
  simp only [ile_t, ile_f, ilt_t, ilt_f, ieq_t, ieq_f, bnot_t, bnot_f, band_t, band_f, true_and, and_true, lenI]
  refine ⟨fun h => ?_, fun h => ?_⟩
  · refine bool_eq ?_
    rw [ile_t, openZ_t]
    exact ⟨fun h2 => ⟨h, h2⟩, fun h2 => h2.2⟩
  · rw [openZ_f]
    exact fun h2 => by have h3 : 1 ≤ (d0.fld 5).i := h2.1; omega
theorem c42 : ConOK Tryd.prog 42 con42 := by
  refine conOK_of_exec (inl := noInl) noInl_ok (lp := noLp) (tb := tbN) (c := bodyOf Tryd.f42) ⟨tt_ok, tbN_ok⟩ mixed Tryd.func42 (by kernel_rfl) (by kernel_rfl) ?_
  intro dat hpre hwt
  obtain ⟨d0, rfl, w0⟩ := wts1 hwt
  refine Eq.mpr (vc42 d0) ?_
  refine bool_eq ?_
  rw [ieq_t, pendZ_t]
  exact Iff.rfl
theorem c43 : ConOK Tryd.prog 43 con43 := by
  refine conOK_of_exec (inl := noInl) noInl_ok (lp := noLp) (tb := tbN) (c := bodyOf Tryd.f43) ⟨tt_ok, tbN_ok⟩ mixed Tryd.func43 (by kernel_rfl) (by kernel_rfl) ?_
  intro dat hpre hwt
  obtain ⟨d0, rfl, w0⟩ := wts1 hwt
  refine Eq.mpr (vc43 d0) ?_
  refine bool_eq ?_
  rw [ieq_t, pendZ_t]
  exact Iff.rfl
theorem c50 : ConOK Tryd.prog 50 con50 := by
  refine conOK_of_exec (inl := noInl) noInl_ok (lp := noLp) (tb := tbN) (c := bodyOf Tryd.f50) ⟨tt_ok, tbN_ok⟩ mixed Tryd.func50 (by kernel_rfl) (by kernel_rfl) ?_
  intro dat hpre hwt
  obtain ⟨d0, rfl, w0⟩ := wts1 hwt
  refine Eq.mpr (vc50 d0) ?_
  simp only [ile_t, ile_f, ilt_t, ilt_f, ieq_t, ieq_f, bnot_t, bnot_f, band_t, band_f, true_and, and_true, lenI]
  refine ⟨fun h => ?_, fun h => ?_⟩
  · refine bool_eq ?_
    simp [ilt, dayOk, h]
  · simp [dayOk]; omega
theorem c54 : ConOK Tryd.prog 54 con54 := by
  refine conOK_of_exec (inl := noInl) noInl_ok (lp := noLp) (tb := tbN) (c := bodyOf Tryd.f54) ⟨tt_ok, tbN_ok⟩ mixed Tryd.func54 (by kernel_rfl) (by kernel_rfl) ?_
  intro dat hpre hwt
  obtain ⟨d0, rfl, w0⟩ := wts1 hwt
  refine Eq.mpr (vc54 d0) ?_
  simp only [ile_t, ile_f, ilt_t, ilt_f, ieq_t, ieq_f, bnot_t, bnot_f, band_t, band_f, true_and, and_true, lenI]
  refine ⟨fun h => ?_, fun h => ?_⟩
  · refine bool_eq ?_
    simp [ilt, dayOk, h]
  · simp [dayOk]; omega
theorem c69 : ConOK Tryd.prog 69 con69 := by
  refine conOK_of_exec (inl := noInl) noInl_ok (lp := noLp) (tb := tbN) (c := bodyOf Tryd.f69) ⟨tt_ok, tbN_ok⟩ mixed Tryd.func69 (by kernel_rfl) (by kernel_rfl) ?_
  intro dat hpre hwt
  obtain ⟨d0, rfl, w0⟩ := wts1 hwt
  refine Eq.mpr (vc69 d0) ?_
  simp only [ile_t, ile_f, ilt_t, ilt_f, ieq_t, ieq_f, bnot_t, bnot_f, band_t, band_f, true_and, and_true, lenI]
  refine ⟨fun h => ?_, fun h => ?_⟩
  · refine bool_eq ?_
    simp [ilt, dayOk, h]
  · simp [dayOk]; omega
theorem c55 : ConOK Tryd.prog 55 con55 := by
  refine conOK_of_exec (inl := noInl) noInl_ok (lp := noLp) (tb := tbN) (c := bodyOf Tryd.f55) ⟨tt_ok, tbN_ok⟩ mixed Tryd.func55 (by kernel_rfl) (by kernel_rfl) ?_
  intro dat hpre hwt
  obtain ⟨d0, rfl, w0⟩ := wts1 hwt
  refine Eq.mpr (vc55 d0) ?_
  simp only [ile_t, ile_f, ilt_t, ilt_f, ieq_t, ieq_f, bnot_t, bnot_f, band_t, band_f, true_and, and_true, lenI]
  refine ⟨fun h => ?_, fun h => ?_⟩
  · refine bool_eq ?_
    simp [ile, amtOk, h]
  · simp [amtOk]; omega
theorem c23 : ConOK Tryd.prog 23 con23 := by
  refine conOK_of_exec (inl := noInl) noInl_ok (lp := noLp) (tb := tbN) (c := bodyOf Tryd.f23) ⟨tt_ok, tbN_ok⟩ mixed Tryd.func23 (by kernel_rfl) (by kernel_rfl) ?_
  intro dat hpre hwt
  obtain ⟨d0, d1, rfl, w0, w1⟩ := wts2 hwt
  refine Eq.mpr (vc23 d0 d1) ?_
  simp only [seq', ieq, beq_iff_eq, beq_eq_false_iff_ne]
  have e : (csOf d0 = csOf d1) = ((d0.fld 0).s = (d1.fld 0).s ∧ (d0.fld 1).s = (d1.fld 1).s ∧ (d0.fld 2).s = (d1.fld 2).s ∧ (d0.fld 3).i = (d1.fld 3).i ∧ (d0.fld 4).i = (d1.fld 4).i ∧ (d0.fld 5).i = (d1.fld 5).i ∧ (d0.fld 6).i = (d1.fld 6).i ∧ (d0.fld 7).i = (d1.fld 7).i ∧ (d0.fld 8).i = (d1.fld 8).i ∧ ((d0.fld 9).fld 0).i = ((d1.fld 9).fld 0).i ∧ ((d0.fld 9).fld 1).i = ((d1.fld 9).fld 1).i ∧ ((d0.fld 9).fld 2).i = ((d1.fld 9).fld 2).i) := by
    unfold csOf rs ri
    simp only [Cs.mk.injEq]
  simp only [e]
  refine ⟨fun h0 => ⟨fun h1 => ⟨fun h2 => ⟨fun h3 => ⟨fun h4 => ⟨fun h5 => ⟨fun h6 => ⟨fun h7 => ⟨fun h8 => ⟨fun h9 => ⟨fun h10 => ?_, fun h => by simp [h]⟩, fun h => by simp [h]⟩, fun h => by simp [h]⟩, fun h => by simp [h]⟩, fun h => by simp [h]⟩, fun h => by simp [h]⟩, fun h => by simp [h]⟩, fun h => by simp [h]⟩, fun h => by simp [h]⟩, fun h => by simp [h]⟩, fun h => by simp [h]⟩
  refine bool_eq ?_
  simp [h0, h1, h2, h3, h4, h5, h6, h7, h8, h9, h10]
theorem c19 : ConOK Tryd.prog 19 con19 := by
  refine conOK_of_exec (inl := noInl) noInl_ok (lp := lp19) (tb := tbN) (c := bodyOf Tryd.f19) ⟨tt_ok, tbN_ok⟩ mixed Tryd.func19 (by kernel_rfl) (by kernel_rfl) ?_
  intro dat hpre hwt
  obtain ⟨d0, rfl, w0⟩ := wts1 hwt
  refine Eq.mpr (vc19 d0) ?_
  have hw := laws w0
  have l0 := le_wt hw.1
  have l1 := le_wt hw.2.1
  simp only [ile_t, ile_f, ilt_t, ilt_f, ieq_t, ieq_f, bnot_t, bnot_f, band_t, band_f, true_and, and_true, lenI, lenI]
  have hL : lwOf d0 = ⟨(d0.fld 0).l, (d0.fld 1).l, (d0.fld 2).i⟩ := rfl
  rw [hL]
  generalize (d0.fld 0).l = A at *
  generalize (d0.fld 1).l = B at *
  generalize (d0.fld 2).i = n at *
  have c3 : A.length ≠ 4 ∨ B.length ≠ 4 → lawZ ⟨A, B, n⟩ = 3 := fun h => by unfold lawZ; rw [if_pos h]
  refine ⟨fun h => (c3 (by omega)).symm, fun h1 => ⟨fun h => (c3 (by omega)).symm, fun h2 => ?_⟩⟩
  have c1 : bad4 (dBad A) = true → lawZ ⟨A, B, n⟩ = 1 := fun h => by unfold lawZ; rw [if_neg (by simp only; omega), if_pos h]
  have c13 : bad4 (dBad A) = false → bad4 (fBad B) = true → lawZ ⟨A, B, n⟩ = 13 := fun h h' => by unfold lawZ; rw [if_neg (by simp only; omega), if_neg (by simp [h]), if_pos h']
  have c12 : bad4 (dBad A) = false → bad4 (fBad B) = false → n < 1 ∨ 795363 < n → lawZ ⟨A, B, n⟩ = 12 := fun h h' h3 => by unfold lawZ; rw [if_neg (by simp only; omega), if_neg (by simp [h]), if_neg (by simp [h']), if_pos h3]
  have c0 : bad4 (dBad A) = false → bad4 (fBad B) = false → ¬ (n < 1 ∨ 795363 < n) → lawZ ⟨A, B, n⟩ = 0 := fun h h' h3 => by unfold lawZ; rw [if_neg (by simp only; omega), if_neg (by simp [h]), if_neg (by simp [h']), if_neg h3]
  have hdt : ∀ {j}, (elt A (j : Nat)).i < 1 ∨ 4096 < (elt A (j : Nat)).i → dBad A j = true := fun h => by simp only [dBad, Bool.or_eq_true, decide_eq_true_eq]; exact h
  have hdf : ∀ {j}, 1 ≤ (elt A (j : Nat)).i → (elt A (j : Nat)).i ≤ 4096 → dBad A j = false := fun {j} h h' => by simp only [dBad, Bool.or_eq_false_iff, decide_eq_false_iff_not]; exact ⟨show ¬ (elt A (j : Nat)).i < 1 by omega, show ¬ 4096 < (elt A (j : Nat)).i by omega⟩
  have hft : ∀ {j}, (elt B (j : Nat)).i < 0 ∨ 2147483648 < (elt B (j : Nat)).i → fBad B j = true := fun h => by simp only [fBad, Bool.or_eq_true, decide_eq_true_eq]; exact h
  have hff : ∀ {j}, 0 ≤ (elt B (j : Nat)).i → (elt B (j : Nat)).i ≤ 2147483648 → fBad B j = false := fun {j} h h' => by simp only [fBad, Bool.or_eq_false_iff, decide_eq_false_iff_not]; exact ⟨show ¬ (elt B (j : Nat)).i < 0 by omega, show ¬ 2147483648 < (elt B (j : Nat)).i by omega⟩
  refine ⟨⟨0, ⟨by omega, fun j hj => by omega⟩, rfl⟩, fun g hg => ⟨fun hlt => ⟨by omega, fun h => (c1 (bad4_t (by omega) (hdt (.inl h)))).symm, fun h => ⟨fun h' => (c1 (bad4_t (by omega) (hdt (.inr h')))).symm, fun h' => ⟨g + 1, ⟨by omega, fun j hj => ?_⟩, by omega, by rw [iadd_eq (by omega)]; rfl⟩⟩⟩, fun hge => ?_⟩⟩
  · rcases Nat.lt_succ_iff_lt_or_eq.1 hj with h3 | rfl
    · exact hg.2 j h3
    · exact hdf h h'
  have hA : bad4 (dBad A) = false := bad4_f fun j hj => hg.2 j (by omega)
  refine ⟨⟨0, ⟨by omega, fun j hj => by omega⟩, rfl⟩, fun k hk => ⟨fun hlt => ⟨by omega, fun h => (c13 hA (bad4_t (by omega) (hft (.inl h)))).symm, fun h => ⟨fun h' => (c13 hA (bad4_t (by omega) (hft (.inr h')))).symm, fun h' => ⟨k + 1, ⟨by omega, fun j hj => ?_⟩, by omega, by rw [iadd_eq (by omega)]; rfl⟩⟩⟩, fun hge2 => ?_⟩⟩
  · rcases Nat.lt_succ_iff_lt_or_eq.1 hj with h3 | rfl
    · exact hk.2 j h3
    · exact hff h h'
  have hB : bad4 (fBad B) = false := bad4_f fun j hj => hk.2 j (by omega)
  exact ⟨fun h => (c12 hA hB (.inl h)).symm, fun h => ⟨fun h' => (c12 hA hB (.inr (by omega))).symm, fun h' => (c0 hA hB (by omega)).symm⟩⟩
theorem c20 : ConOK Tryd.prog 20 con20 := by
  refine conOK_of_exec (inl := noInl) noInl_ok (lp := lp20) (tb := tbN) (c := bodyOf Tryd.f20) ⟨tt_ok, tbN_ok⟩ mixed Tryd.func20 (by kernel_rfl) (by kernel_rfl) ?_
  intro dat hpre hwt
  obtain ⟨d0, rfl, w0⟩ := wts1 hwt
  refine Eq.mpr (vc20 d0) ?_
  have hw := laws w0
  have l0 := le_wt hw.1
  have l1 := le_wt hw.2.1
  simp only [ile_t, ile_f, ilt_t, ilt_f, ieq_t, ieq_f, bnot_t, bnot_f, band_t, band_f, true_and, and_true, lenI, lenI]
  have hL : lwOf d0 = ⟨(d0.fld 0).l, (d0.fld 1).l, (d0.fld 2).i⟩ := rfl
  rw [hL]
  generalize (d0.fld 0).l = A at *
  generalize (d0.fld 1).l = B at *
  generalize (d0.fld 2).i = n at *
  have c3 : A.length ≠ 4 ∨ B.length ≠ 4 → lawZ ⟨A, B, n⟩ = 3 := fun h => by unfold lawZ; rw [if_pos h]
  refine ⟨fun h => (c3 (by omega)).symm, fun h1 => ⟨fun h => (c3 (by omega)).symm, fun h2 => ?_⟩⟩
  have c1 : bad4 (dBad A) = true → lawZ ⟨A, B, n⟩ = 1 := fun h => by unfold lawZ; rw [if_neg (by simp only; omega), if_pos h]
  have c13 : bad4 (dBad A) = false → bad4 (fBad B) = true → lawZ ⟨A, B, n⟩ = 13 := fun h h' => by unfold lawZ; rw [if_neg (by simp only; omega), if_neg (by simp [h]), if_pos h']
  have c12 : bad4 (dBad A) = false → bad4 (fBad B) = false → n < 1 ∨ 795363 < n → lawZ ⟨A, B, n⟩ = 12 := fun h h' h3 => by unfold lawZ; rw [if_neg (by simp only; omega), if_neg (by simp [h]), if_neg (by simp [h']), if_pos h3]
  have c0 : bad4 (dBad A) = false → bad4 (fBad B) = false → ¬ (n < 1 ∨ 795363 < n) → lawZ ⟨A, B, n⟩ = 0 := fun h h' h3 => by unfold lawZ; rw [if_neg (by simp only; omega), if_neg (by simp [h]), if_neg (by simp [h']), if_neg h3]
  have hdt : ∀ {j}, (elt A (j : Nat)).i < 1 ∨ 4096 < (elt A (j : Nat)).i → dBad A j = true := fun h => by simp only [dBad, Bool.or_eq_true, decide_eq_true_eq]; exact h
  have hdf : ∀ {j}, 1 ≤ (elt A (j : Nat)).i → (elt A (j : Nat)).i ≤ 4096 → dBad A j = false := fun {j} h h' => by simp only [dBad, Bool.or_eq_false_iff, decide_eq_false_iff_not]; exact ⟨show ¬ (elt A (j : Nat)).i < 1 by omega, show ¬ 4096 < (elt A (j : Nat)).i by omega⟩
  have hft : ∀ {j}, (elt B (j : Nat)).i < 0 ∨ 2147483648 < (elt B (j : Nat)).i → fBad B j = true := fun h => by simp only [fBad, Bool.or_eq_true, decide_eq_true_eq]; exact h
  have hff : ∀ {j}, 0 ≤ (elt B (j : Nat)).i → (elt B (j : Nat)).i ≤ 2147483648 → fBad B j = false := fun {j} h h' => by simp only [fBad, Bool.or_eq_false_iff, decide_eq_false_iff_not]; exact ⟨show ¬ (elt B (j : Nat)).i < 0 by omega, show ¬ 2147483648 < (elt B (j : Nat)).i by omega⟩
  refine ⟨⟨0, ⟨by omega, fun j hj => by omega⟩, rfl⟩, fun g hg => ⟨fun hlt => ⟨by omega, fun h => (c1 (bad4_t (by omega) (hdt (.inl h)))).symm, fun h => ⟨by omega, fun h' => (c1 (bad4_t (by omega) (hdt (.inr h')))).symm, fun h' => ⟨g + 1, ⟨by omega, fun j hj => ?_⟩, by omega, by rw [iadd_eq (by omega)]; rfl⟩⟩⟩, fun hge => ?_⟩⟩
  · rcases Nat.lt_succ_iff_lt_or_eq.1 hj with h3 | rfl
    · exact hg.2 j h3
    · exact hdf h h'
  have hA : bad4 (dBad A) = false := bad4_f fun j hj => hg.2 j (by omega)
  refine ⟨⟨0, ⟨by omega, fun j hj => by omega⟩, rfl⟩, fun k hk => ⟨fun hlt => ⟨by omega, fun h => (c13 hA (bad4_t (by omega) (hft (.inl h)))).symm, fun h => ⟨by omega, fun h' => (c13 hA (bad4_t (by omega) (hft (.inr h')))).symm, fun h' => ⟨k + 1, ⟨by omega, fun j hj => ?_⟩, by omega, by rw [iadd_eq (by omega)]; rfl⟩⟩⟩, fun hge2 => ?_⟩⟩
  · rcases Nat.lt_succ_iff_lt_or_eq.1 hj with h3 | rfl
    · exact hk.2 j h3
    · exact hff h h'
  have hB : bad4 (fBad B) = false := bad4_f fun j hj => hk.2 j (by omega)
  exact ⟨fun h => (c12 hA hB (.inl h)).symm, fun h => ⟨fun h' => (c12 hA hB (.inr (by omega))).symm, fun h' => (c0 hA hB (by omega)).symm⟩⟩
end Go.Proofs.YtkjohnjhdfblcaaDoor
