/- Part of the proof of the laws of this seat: contracts of its functions, for every input. -/
import Derived.Test.YtjncolngfeglkaaWV
set_option linter.all false
namespace Go.Proofs.Ytjncolngfeglkaa
open Go Go.RX Go.Proofs
set_option maxRecDepth 100000
set_option linter.all false
theorem c6 : ConOK Try.prog 6 con6 := by
  refine conOK_of_exec (inl := noInl) noInl_ok (lp := noLp) (tb := tb6) (c := bodyOf Try.f6) ⟨tt_ok, tb6_ok⟩ mixed Try.func6 (by kernel_rfl) (by kernel_rfl) ?_
  intro dat hpre hwt
  have hw0 := wts2 hwt
  obtain ⟨d0, d1, rfl, w0, w1⟩ := hw0
  refine Eq.mpr (vc6 d0 d1) ?_
  simp only [ile_t, ile_f, ilt_t, ilt_f, ieq_t, ieq_f, bnot_t, bnot_f, band_t, band_f, true_and, and_true, lenI, implies_true, imp_false, not_true_eq_false, not_false_eq_true, and_self, and_false, false_and, Int.not_lt, Int.not_le, Classical.not_not, sameZ_self, reduceCtorEq, and_true]
  refine fun h1 h2 => ?_
  omega
end Go.Proofs.Ytjncolngfeglkaa
