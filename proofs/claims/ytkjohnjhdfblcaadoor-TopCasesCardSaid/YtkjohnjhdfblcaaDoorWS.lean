/- Part of the proof of the laws of this seat: contracts of its functions, for every input. -/
import Derived.Test.YtkjohnjhdfblcaaDoorWR
set_option linter.all false
namespace Go.Proofs.YtkjohnjhdfblcaaDoor
open Go Go.RX Go.Proofs
set_option maxRecDepth 100000
set_option linter.all false
set_option maxHeartbeats 4000000
theorem tb18_ok : TabOK Tryd.prog tb18 := fun f con h => by
  unfold tb18 at h
  split at h
  · cases h; exact c19
  · cases h; exact c21
  · cases h; exact c24
  · cases h; exact c26
  · cases h; exact c28
  · cases h; exact c30
  · cases h; exact c32
  · cases h
theorem c18 : ConOK Tryd.prog 18 con18 := by
  refine conOK_of_exec (inl := noInl) noInl_ok (lp := noLp) (tb := tb18) (c := bodyOf Tryd.f18) ⟨tt_ok, tb18_ok⟩ mixed Tryd.func18 (by kernel_rfl) (by kernel_rfl) ?_
  intro dat hpre hwt
  obtain rfl := wts0 hwt
  refine Eq.mpr (vc18) ?_
  simp
theorem tb3_ok : TabOK Tryd.prog tb3 := fun f con h => by
  unfold tb3 at h
  split at h
  · cases h; exact c17
  · cases h; exact c18
  · cases h; exact c19
  · cases h; exact c20
  · cases h
theorem tb4_ok : TabOK Tryd.prog tb4 := fun f con h => by
  unfold tb4 at h
  split at h
  · cases h; exact c18
  · cases h; exact c21
  · cases h; exact c22
  · cases h; exact c23
  · cases h
theorem tb5_ok : TabOK Tryd.prog tb5 := fun f con h => by
  unfold tb5 at h
  split at h
  · cases h; exact c17
  · cases h; exact c18
  · cases h; exact c23
  · cases h; exact c24
  · cases h; exact c25
  · cases h; exact c26
  · cases h; exact c27
  · cases h; exact c28
  · cases h; exact c29
  · cases h
theorem tb6_ok : TabOK Tryd.prog tb6 := fun f con h => by
  unfold tb6 at h
  split at h
  · cases h; exact c17
  · cases h; exact c18
  · cases h; exact c23
  · cases h; exact c30
  · cases h; exact c31
  · cases h; exact c32
  · cases h; exact c33
  · cases h
theorem tb9_ok : TabOK Tryd.prog tb9 := fun f con h => by
  unfold tb9 at h
  split at h
  · cases h; exact c17
  · cases h; exact c18
  · cases h; exact c23
  · cases h; exact c28
  · cases h; exact c30
  · cases h
theorem ieq_self (a : Int) : ieq a a = true := by simp [ieq]
theorem beqB_self (a : Bool) : beqB a a = true := by cases a <;> rfl
theorem dec_self (a : Cs) : decide (a = a) = true := by simp
theorem c3 : ConOK Tryd.prog 3 con3 := by
  refine conOK_of_exec (inl := noInl) noInl_ok (lp := noLp) (tb := tb3) (c := bodyOf Tryd.f3) ⟨tt_ok, tb3_ok⟩ mixed Tryd.func3 (by kernel_rfl) (by kernel_rfl) ?_
  intro dat hpre hwt
  obtain ⟨d0, rfl, w0⟩ := wts1 hwt
  refine Eq.mpr (vc3 d0) ?_
  simp only [ile_t, ile_f, ilt_t, ilt_f, ieq_t, ieq_f, bnot_t, bnot_f, band_t, band_f, true_and, and_true, lenI, implies_true, imp_false, not_true_eq_false, not_false_eq_true, and_self, and_false, false_and, Int.not_lt, Int.not_le, Classical.not_not, ieq_self]
  simp
theorem c4 : ConOK Tryd.prog 4 con4 := by
  refine conOK_of_exec (inl := noInl) noInl_ok (lp := noLp) (tb := tb4) (c := bodyOf Tryd.f4) ⟨tt_ok, tb4_ok⟩ mixed Tryd.func4 (by kernel_rfl) (by kernel_rfl) ?_
  intro dat hpre hwt
  obtain ⟨d0, rfl, w0⟩ := wts1 hwt
  refine Eq.mpr (vc4 d0) ?_
  simp only [ile_t, ile_f, ilt_t, ilt_f, ieq_t, ieq_f, bnot_t, bnot_f, band_t, band_f, true_and, and_true, lenI, implies_true, imp_false, not_true_eq_false, not_false_eq_true, and_self, and_false, false_and, Int.not_lt, Int.not_le, Classical.not_not, ieq_self, dec_self, lenS]
  simp
  omega
theorem c5 : ConOK Tryd.prog 5 con5 := by
  refine conOK_of_exec (inl := noInl) noInl_ok (lp := noLp) (tb := tb5) (c := bodyOf Tryd.f5) ⟨tt_ok, tb5_ok⟩ mixed Tryd.func5 (by kernel_rfl) (by kernel_rfl) ?_
  intro dat hpre hwt
  obtain ⟨d0, d1, rfl, w0, w1⟩ := wts2 hwt
  refine Eq.mpr (vc5 d0 d1) ?_
  simp only [ile_t, ile_f, ilt_t, ilt_f, ieq_t, ieq_f, bnot_t, bnot_f, band_t, band_f, true_and, and_true, lenI, implies_true, imp_false, not_true_eq_false, not_false_eq_true, and_self, and_false, false_and, Int.not_lt, Int.not_le, Classical.not_not, ieq_self, dec_self, beqB_self, fewZ_t, fewZ_f, true_implies]
  simp
  omega
theorem c6 : ConOK Tryd.prog 6 con6 := by
  refine conOK_of_exec (inl := noInl) noInl_ok (lp := noLp) (tb := tb6) (c := bodyOf Tryd.f6) ⟨tt_ok, tb6_ok⟩ mixed Tryd.func6 (by kernel_rfl) (by kernel_rfl) ?_
  intro dat hpre hwt
  obtain ⟨d0, d1, rfl, w0, w1⟩ := wts2 hwt
  refine Eq.mpr (vc6 d0 d1) ?_
  simp only [ile_t, ile_f, ilt_t, ilt_f, ieq_t, ieq_f, bnot_t, bnot_f, band_t, band_f, true_and, and_true, lenI, implies_true, imp_false, not_true_eq_false, not_false_eq_true, and_self, and_false, false_and, Int.not_lt, Int.not_le, Classical.not_not, ieq_self, dec_self, beqB_self, true_implies]
  simp
end Go.Proofs.YtkjohnjhdfblcaaDoor
