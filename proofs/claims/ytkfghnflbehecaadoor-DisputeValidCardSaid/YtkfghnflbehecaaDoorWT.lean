/- Part of the proof of the laws of this seat: contracts of its functions, for every input. -/
import Derived.Test.YtkfghnflbehecaaDoorWR
import Derived.Test.YtkfghnflbehecaaDoorWS
set_option linter.all false
namespace Go.Proofs.YtkfghnflbehecaaDoor
open Go Go.RX Go.Proofs
set_option maxRecDepth 100000
set_option linter.all false
set_option maxHeartbeats 1000000
theorem tb3_ok : TabOK Tryd.prog tb3 := fun f con h => by
  unfold tb3 at h
  split at h
  · cases h; exact c8
  · cases h; exact c9
  · cases h; exact c10
  · cases h; exact c11
  · cases h
theorem tb4_ok : TabOK Tryd.prog tb4 := fun f con h => by
  unfold tb4 at h
  split at h
  · cases h; exact c8
  · cases h; exact c9
  · cases h; exact c12
  · cases h; exact c13
  · cases h; exact c14
  · cases h
theorem tb5_ok : TabOK Tryd.prog tb5 := fun f con h => by
  unfold tb5 at h
  split at h
  · cases h; exact c9
  · cases h; exact c12
  · cases h; exact c13
  · cases h; exact c14
  · cases h
theorem c3 : ConOK Tryd.prog 3 con3 := by
  refine conOK_of_exec (inl := noInl) noInl_ok (lp := noLp) (tb := tb3) (c := bodyOf Tryd.f3) ⟨tt_ok, tb3_ok⟩ mixed Tryd.func3 (by kernel_rfl) (by kernel_rfl) ?_
  intro dat hpre hwt
  have hw0 := wts1 hwt
  obtain ⟨d0, rfl, w0⟩ := hw0
  refine Eq.mpr (vc3 d0) ?_
  simp only [ile_t, ile_f, ilt_t, ilt_f, ieq_t, ieq_f, bnot_t, bnot_f, band_t, band_f, true_and, and_true, lenI, implies_true, imp_false, not_true_eq_false, not_false_eq_true, and_self, and_false, false_and, Int.not_lt, Int.not_le, Classical.not_not]
theorem c4 : ConOK Tryd.prog 4 con4 := by
  refine conOK_of_exec (inl := noInl) noInl_ok (lp := noLp) (tb := tb4) (c := bodyOf Tryd.f4) ⟨tt_ok, tb4_ok⟩ mixed Tryd.func4 (by kernel_rfl) (by kernel_rfl) ?_
  intro dat hpre hwt
  have hw0 := wts2 hwt
  obtain ⟨d0, d1, rfl, w0, w1⟩ := hw0
  refine Eq.mpr (vc4 d0 d1) ?_
  simp only [ile_t, ile_f, ilt_t, ilt_f, ieq_t, ieq_f, bnot_t, bnot_f, band_t, band_f, true_and, and_true, lenI, implies_true, imp_false, not_true_eq_false, not_false_eq_true, and_self, and_false, false_and, Int.not_lt, Int.not_le, Classical.not_not, sameL_self, reduceCtorEq]
  exact fun h => fit_great h
theorem first60 {l : List D} : (xsub l 0 (min (l.length : Int) 60)).length ≤ 60 ∧ (xsub l 0 (min (l.length : Int) 60)).length ≤ l.length := by
  rw [xsub_len]; omega
theorem c5 : ConOK Tryd.prog 5 con5 := by
  refine conOK_of_exec (inl := noInl) noInl_ok (lp := lp5) (tb := tb5) (c := bodyOf Tryd.f5) ⟨tt_ok, tb5_ok⟩ mixed Tryd.func5 (by kernel_rfl) (by kernel_rfl) ?_
  intro dat hpre hwt
  have hw0 := wts1 hwt
  obtain ⟨d0, rfl, w0⟩ := hw0
  refine Eq.mpr (vc5 d0) ?_
  have hl := wt_len w0
  have h60 := @first60 d0.l
  simp only [ile_t, ile_f, ilt_t, ilt_f, ieq_t, ieq_f, bnot_t, bnot_f, band_t, band_f, true_and, and_true, lenI, implies_true, imp_false, not_true_eq_false, not_false_eq_true, and_self, and_false, false_and, Int.not_lt, Int.not_le, Classical.not_not, sameL_self, imin_eq, reduceCtorEq, forall_const]
  generalize xsub d0.l 0 (min (d0.l.length : Int) 60) = X at *
  refine ⟨by omega, ⟨0, by omega, rfl, rfl, rfl⟩, fun g hg hlt => ⟨by omega, plTo_fit X (by omega), plTo_fit X (by omega), g + 1, by omega, by omega, rfl, rfl, by rw [iadd_eq (by omega)]; rfl⟩⟩
end Go.Proofs.YtkfghnflbehecaaDoor
