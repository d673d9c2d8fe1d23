/- Part of the proof of the laws of this seat: contracts of its functions, for every input. -/
import Derived.Test.YtgbhkndbfigieaaWC
set_option linter.all false
namespace Go.Proofs.Ytgbhkndbfigieaa
open Go Go.RX Go.Proofs
set_option maxRecDepth 100000
set_option linter.unusedSimpArgs false
theorem fits_t {n : Int} : (fitsZ n = true) = (-1125899906842624 ≤ n ∧ n ≤ 1125899906842624) := by simp [fitsZ]
theorem fits_f {n : Int} : (fitsZ n = false) = (n < -1125899906842624 ∨ 1125899906842624 < n) := by
  rw [← Bool.not_eq_true, fits_t]; simp; omega
theorem time_t {n : Int} : (timeZ n = true) = (0 ≤ n ∧ n < 68719476736) := by simp [timeZ]
theorem time_f {n : Int} : (timeZ n = false) = (n < 0 ∨ 68719476736 ≤ n) := by
  rw [← Bool.not_eq_true, time_t]; simp; omega
theorem tbN_ok : TabOK Try.prog tbN := fun f con h => by cases h
theorem c25 : ConOK Try.prog 25 con25 := by
  refine conOK_of_exec (lp := lp25) (tb := tb25) (c := bodyOf Try.f25) ⟨tt_ok, tbN_ok⟩ mixed Try.func25 (by kernel_rfl) (by kernel_rfl) ?_
  intro dat hpre hwt
  match dat, hpre, hwt with
  | [d0], _, hw =>
    refine Eq.mpr (vc25 d0) ?_
    clear hpre hwt hw
    generalize d0.i = x0
    refine ⟨fun h => bool_eq ?_, fun h => ?_⟩
    · simp only [ile_t, ile_f, ilt_t, ilt_f, fits_t, fits_f, time_t, time_f] at *; omega
    · simp only [ile_t, ile_f, ilt_t, ilt_f, fits_t, fits_f, time_t, time_f] at *; omega
theorem c26 : ConOK Try.prog 26 con26 := by
  refine conOK_of_exec (lp := lp26) (tb := tb26) (c := bodyOf Try.f26) ⟨tt_ok, tbN_ok⟩ mixed Try.func26 (by kernel_rfl) (by kernel_rfl) ?_
  intro dat hpre hwt
  match dat, hpre, hwt with
  | [d0], _, hw =>
    refine Eq.mpr (vc26 d0) ?_
    clear hpre hwt hw
    generalize d0.i = x0
    refine ⟨fun h => bool_eq ?_, fun h => ?_⟩
    · simp only [ile_t, ile_f, ilt_t, ilt_f, fits_t, fits_f, time_t, time_f] at *; omega
    · simp only [ile_t, ile_f, ilt_t, ilt_f, fits_t, fits_f, time_t, time_f] at *; omega
theorem c27 : ConOK Try.prog 27 con27 := by
  refine conOK_of_exec (lp := lp27) (tb := tb27) (c := bodyOf Try.f27) ⟨tt_ok, tbN_ok⟩ mixed Try.func27 (by kernel_rfl) (by kernel_rfl) ?_
  intro dat hpre hwt
  match dat, hpre, hwt with
  | [d0], _, hw =>
    refine Eq.mpr (vc27 d0) ?_
    clear hpre hwt hw
    generalize d0.i = x0
    refine ⟨fun h => bool_eq ?_, fun h => ?_⟩
    · simp only [ile_t, ile_f, ilt_t, ilt_f, fits_t, fits_f, time_t, time_f] at *; omega
    · simp only [ile_t, ile_f, ilt_t, ilt_f, fits_t, fits_f, time_t, time_f] at *; omega
theorem tbF_ok : TabOK Try.prog tbF := fun f con h => by
  unfold tbF at h
  split at h
  · cases h; exact c25
  · cases h; exact c26
  · cases h; exact c27
  · cases h
theorem c11 : ConOK Try.prog 11 con11 := by
  refine conOK_of_exec (lp := lp11) (tb := tb11) (c := bodyOf Try.f11) ⟨tt_ok, tbF_ok⟩ mixed Try.func11 (by kernel_rfl) (by kernel_rfl) ?_
  intro dat hpre hwt
  match dat, hpre, hwt with
  | [d0], _, hw =>
    refine Eq.mpr (vc11 d0) ?_
    clear hpre hwt hw
    simp only [ile_t, ile_f, ilt_t, ilt_f, ieq_t, ieq_f, bnot_t, bnot_f, band_t, band_f, fits_t, fits_f, time_t, time_f, checkZ, stepZ, succZ, resuZ, failZ]
    generalize (d0.fld 0).i = r0_0
    generalize (d0.fld 1).i = r0_1
    generalize (d0.fld 2).i = r0_2
    generalize (d0.fld 3).i = r0_3
    repeat' (first | exact True.intro | (refine And.intro ?_ ?_) | (intro _))
    all_goals (repeat' split) <;> first | omega | rfl
theorem c12 : ConOK Try.prog 12 con12 := by
  refine conOK_of_exec (lp := lp12) (tb := tb12) (c := bodyOf Try.f12) ⟨tt_ok, tbF_ok⟩ mixed Try.func12 (by kernel_rfl) (by kernel_rfl) ?_
  intro dat hpre hwt
  match dat, hpre, hwt with
  | [d0], _, hw =>
    refine Eq.mpr (vc12 d0) ?_
    clear hpre hwt hw
    simp only [ile_t, ile_f, ilt_t, ilt_f, ieq_t, ieq_f, bnot_t, bnot_f, band_t, band_f, fits_t, fits_f, time_t, time_f, checkZ, stepZ, succZ, resuZ, failZ]
    generalize (d0.fld 0).i = r0_0
    generalize (d0.fld 1).i = r0_1
    generalize (d0.fld 2).i = r0_2
    generalize (d0.fld 3).i = r0_3
    repeat' (first | exact True.intro | (refine And.intro ?_ ?_) | (intro _))
    all_goals (repeat' split) <;> first | omega | rfl
theorem c14 : ConOK Try.prog 14 con14 := by
  refine conOK_of_exec (lp := lp14) (tb := tb14) (c := bodyOf Try.f14) ⟨tt_ok, tbF_ok⟩ mixed Try.func14 (by kernel_rfl) (by kernel_rfl) ?_
  intro dat hpre hwt
  match dat, hpre, hwt with
  | [d0, d1, d2], _, hw =>
    refine Eq.mpr (vc14 d0 d1 d2) ?_
    clear hpre hwt hw
    simp only [ile_t, ile_f, ilt_t, ilt_f, ieq_t, ieq_f, bnot_t, bnot_f, band_t, band_f, fits_t, fits_f, time_t, time_f, checkZ, stepZ, succZ, resuZ, failZ]
    repeat' (first | exact True.intro | (refine And.intro ?_ ?_) | (intro _))
    all_goals (repeat' split) <;> first | omega | rfl
theorem c15 : ConOK Try.prog 15 con15 := by
  refine conOK_of_exec (lp := lp15) (tb := tb15) (c := bodyOf Try.f15) ⟨tt_ok, tbF_ok⟩ mixed Try.func15 (by kernel_rfl) (by kernel_rfl) ?_
  intro dat hpre hwt
  match dat, hpre, hwt with
  | [d0, d1, d2], _, hw =>
    refine Eq.mpr (vc15 d0 d1 d2) ?_
    clear hpre hwt hw
    simp only [ile_t, ile_f, ilt_t, ilt_f, ieq_t, ieq_f, bnot_t, bnot_f, band_t, band_f, fits_t, fits_f, time_t, time_f, checkZ, stepZ, succZ, resuZ, failZ]
    repeat' (first | exact True.intro | (refine And.intro ?_ ?_) | (intro _))
    all_goals (repeat' split) <;> first | omega | rfl
theorem c19 : ConOK Try.prog 19 con19 := by
  refine conOK_of_exec (lp := lp19) (tb := tb19) (c := bodyOf Try.f19) ⟨tt_ok, tbN_ok⟩ mixed Try.func19 (by kernel_rfl) (by kernel_rfl) ?_
  intro dat hpre hwt
  match dat, hpre, hwt with
  | [d0, d1, d2, d3], _, hw =>
    refine Eq.mpr (vc19 d0 d1 d2 d3) ?_
    clear hpre hwt hw
    simp only [ile_t, ile_f, ilt_t, ilt_f, ieq_t, ieq_f, bnot_t, bnot_f, band_t, band_f, fits_t, fits_f, time_t, time_f, checkZ, stepZ, succZ, resuZ, failZ]
    repeat' (first | exact True.intro | (refine And.intro ?_ ?_) | (intro _))
    all_goals (repeat' split) <;> first | omega | rfl
theorem c20 : ConOK Try.prog 20 con20 := by
  refine conOK_of_exec (lp := lp20) (tb := tb20) (c := bodyOf Try.f20) ⟨tt_ok, tbN_ok⟩ mixed Try.func20 (by kernel_rfl) (by kernel_rfl) ?_
  intro dat hpre hwt
  match dat, hpre, hwt with
  | [d0, d1, d2, d3], _, hw =>
    refine Eq.mpr (vc20 d0 d1 d2 d3) ?_
    clear hpre hwt hw
    simp only [ile_t, ile_f, ilt_t, ilt_f, ieq_t, ieq_f, bnot_t, bnot_f, band_t, band_f, fits_t, fits_f, time_t, time_f, checkZ, stepZ, succZ, resuZ, failZ]
    repeat' (first | exact True.intro | (refine And.intro ?_ ?_) | (intro _))
    all_goals (repeat' split) <;> first | omega | rfl
theorem c21 : ConOK Try.prog 21 con21 := by
  refine conOK_of_exec (lp := lp21) (tb := tb21) (c := bodyOf Try.f21) ⟨tt_ok, tbN_ok⟩ mixed Try.func21 (by kernel_rfl) (by kernel_rfl) ?_
  intro dat hpre hwt
  match dat, hpre, hwt with
  | [d0, d1], _, hw =>
    refine Eq.mpr (vc21 d0 d1) ?_
    clear hpre hwt hw
    simp only [ile_t, ile_f, ilt_t, ilt_f, ieq_t, ieq_f, bnot_t, bnot_f, band_t, band_f, fits_t, fits_f, time_t, time_f, checkZ, stepZ, succZ, resuZ, failZ]
    repeat' (first | exact True.intro | (refine And.intro ?_ ?_) | (intro _))
    all_goals (repeat' split) <;> first | omega | rfl
theorem c22 : ConOK Try.prog 22 con22 := by
  refine conOK_of_exec (lp := lp22) (tb := tb22) (c := bodyOf Try.f22) ⟨tt_ok, tbN_ok⟩ mixed Try.func22 (by kernel_rfl) (by kernel_rfl) ?_
  intro dat hpre hwt
  match dat, hpre, hwt with
  | [d0, d1], _, hw =>
    refine Eq.mpr (vc22 d0 d1) ?_
    clear hpre hwt hw
    simp only [ile_t, ile_f, ilt_t, ilt_f, ieq_t, ieq_f, bnot_t, bnot_f, band_t, band_f, fits_t, fits_f, time_t, time_f, checkZ, stepZ, succZ, resuZ, failZ]
    repeat' (first | exact True.intro | (refine And.intro ?_ ?_) | (intro _))
    all_goals (repeat' split) <;> first | omega | rfl
theorem c23 : ConOK Try.prog 23 con23 := by
  refine conOK_of_exec (lp := lp23) (tb := tb23) (c := bodyOf Try.f23) ⟨tt_ok, tbN_ok⟩ mixed Try.func23 (by kernel_rfl) (by kernel_rfl) ?_
  intro dat hpre hwt
  match dat, hpre, hwt with
  | [d0], _, hw =>
    refine Eq.mpr (vc23 d0) ?_
    clear hpre hwt hw
    simp only [ile_t, ile_f, ilt_t, ilt_f, ieq_t, ieq_f, bnot_t, bnot_f, band_t, band_f, fits_t, fits_f, time_t, time_f, checkZ, stepZ, succZ, resuZ, failZ]
    repeat' (first | exact True.intro | (refine And.intro ?_ ?_) | (intro _))
    all_goals (repeat' split) <;> first | omega | rfl
theorem c24 : ConOK Try.prog 24 con24 := by
  refine conOK_of_exec (lp := lp24) (tb := tb24) (c := bodyOf Try.f24) ⟨tt_ok, tbN_ok⟩ mixed Try.func24 (by kernel_rfl) (by kernel_rfl) ?_
  intro dat hpre hwt
  match dat, hpre, hwt with
  | [d0], _, hw =>
    refine Eq.mpr (vc24 d0) ?_
    clear hpre hwt hw
    simp only [ile_t, ile_f, ilt_t, ilt_f, ieq_t, ieq_f, bnot_t, bnot_f, band_t, band_f, fits_t, fits_f, time_t, time_f, checkZ, stepZ, succZ, resuZ, failZ]
    repeat' (first | exact True.intro | (refine And.intro ?_ ?_) | (intro _))
    all_goals (repeat' split) <;> first | omega | rfl
end Go.Proofs.Ytgbhkndbfigieaa
