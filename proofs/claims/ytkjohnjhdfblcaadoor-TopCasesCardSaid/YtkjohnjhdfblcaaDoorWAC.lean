/- Part of the proof of the laws of this seat: contracts of its functions, for every input. -/
import Derived.Test.YtkjohnjhdfblcaaDoorWAB
set_option linter.all false
namespace Go.Proofs.YtkjohnjhdfblcaaDoor
open Go Go.RX Go.Proofs
set_option maxRecDepth 100000
set_option linter.all false
set_option maxHeartbeats 400000
theorem tb37_ok : TabOK Tryd.prog tb37 := fun f con h => by
  unfold tb37 at h
  split at h
  · cases h; exact c21
  · cases h; exact c24
  · cases h; exact c26
  · cases h; exact c35
  · cases h; exact c38
  · cases h; exact c40
  · cases h; exact c42
  · cases h; exact c44
  · cases h; exact c60
  · cases h
theorem c37 : ConOK Tryd.prog 37 con37 := by
  refine conOK_of_exec (inl := noInl) noInl_ok (lp := noLp) (tb := tb37) (c := bodyOf Tryd.f37) ⟨tt_ok, tb37_ok⟩ mixed Tryd.func37 (by kernel_rfl) (by kernel_rfl) ?_
  intro dat hpre hwt
  obtain rfl := wts0 hwt
  refine Eq.mpr (vc37) ?_
  simp
theorem tb46_ok : TabOK Tryd.prog tb46 := fun f con h => by
  unfold tb46 at h
  split at h
  · cases h; exact c21
  · cases h; exact c24
  · cases h; exact c30
  · cases h; exact c35
  · cases h; exact c42
  · cases h
theorem c46 : ConOK Tryd.prog 46 con46 := by
  refine conOK_of_exec (inl := noInl) noInl_ok (lp := noLp) (tb := tb46) (c := bodyOf Tryd.f46) ⟨tt_ok, tb46_ok⟩ mixed Tryd.func46 (by kernel_rfl) (by kernel_rfl) ?_
  intro dat hpre hwt
  obtain rfl := wts0 hwt
  refine Eq.mpr (vc46) ?_
  simp
theorem tb10_ok : TabOK Tryd.prog tb10 := fun f con h => by
  unfold tb10 at h
  split at h
  · cases h; exact c34
  · cases h; exact c35
  · cases h; exact c36
  · cases h; exact c37
  · cases h
theorem tb11_ok : TabOK Tryd.prog tb11 := fun f con h => by
  unfold tb11 at h
  split at h
  · cases h; exact c34
  · cases h; exact c37
  · cases h; exact c38
  · cases h; exact c39
  · cases h
theorem tb12_ok : TabOK Tryd.prog tb12 := fun f con h => by
  unfold tb12 at h
  split at h
  · cases h; exact c34
  · cases h; exact c37
  · cases h; exact c40
  · cases h; exact c41
  · cases h; exact c42
  · cases h; exact c43
  · cases h; exact c44
  · cases h; exact c45
  · cases h
theorem tb13_ok : TabOK Tryd.prog tb13 := fun f con h => by
  unfold tb13 at h
  split at h
  · cases h; exact c24
  · cases h; exact c26
  · cases h; exact c28
  · cases h; exact c34
  · cases h; exact c35
  · cases h; exact c37
  · cases h; exact c38
  · cases h; exact c40
  · cases h; exact c42
  · cases h
theorem tb16_ok : TabOK Tryd.prog tb16 := fun f con h => by
  unfold tb16 at h
  split at h
  · cases h; exact c20
  · cases h; exact c21
  · cases h; exact c24
  · cases h; exact c28
  · cases h; exact c30
  · cases h; exact c32
  · cases h; exact c35
  · cases h; exact c38
  · cases h; exact c42
  · cases h; exact c46
  · cases h
theorem seq_self (a : List UInt8) : seq' a a = true := by simp [seq']
theorem csAll {a b : Cs} : (seq' a.id b.id = true ∧ seq' a.pl b.pl = true ∧ seq' a.key b.key = true ∧ a.bg = b.bg ∧ a.si = b.si ∧ a.st = b.st ∧ a.ow = b.ow ∧ a.pa = b.pa ∧ a.ps = b.ps ∧ a.a0 = b.a0 ∧ a.a1 = b.a1 ∧ a.a2 = b.a2) = (a = b) := by
  cases a; cases b; simp [seq']
theorem seq_f {a b : List UInt8} : (seq' a b = false) = ¬ (seq' a b = true) := by simp
theorem csAny {a b : Cs} : (seq' a.id b.id = false ∨ seq' a.pl b.pl = false ∨ seq' a.key b.key = false ∨ a.bg ≠ b.bg ∨ a.si ≠ b.si ∨ a.st ≠ b.st ∨ a.ow ≠ b.ow ∨ a.pa ≠ b.pa ∨ a.ps ≠ b.ps ∨ a.a0 ≠ b.a0 ∨ a.a1 ≠ b.a1 ∨ a.a2 ≠ b.a2) = (a ≠ b) := by
  refine propext ⟨fun h e => ?_, fun h => Classical.byContradiction fun hn => ?_⟩
  · subst e; simp [seq'] at h
  · simp only [not_or, seq_f, ne_eq, Classical.not_not] at hn
    exact h (Eq.mp csAll hn)
theorem c10 : ConOK Tryd.prog 10 con10 := by
  refine conOK_of_exec (inl := noInl) noInl_ok (lp := noLp) (tb := tb10) (c := bodyOf Tryd.f10) ⟨tt_ok, tb10_ok⟩ mixed Tryd.func10 (by kernel_rfl) (by kernel_rfl) ?_
  intro dat hpre hwt
  have hw0 := wts5 hwt
  obtain ⟨d0, d1, d2, d3, d4, hdat, hws⟩ := hw0
  subst hdat
  have w0 := hws.1
  have w1 := hws.2.1
  have w2 := hws.2.2.1
  have w3 := hws.2.2.2.1
  have w4 := hws.2.2.2.2
  clear hws hwt
  rw [vc10 d0 d1 d2 d3 d4]
  simp only [ile_t, ile_f, ilt_t, ilt_f, ieq_t, ieq_f, bnot_t, bnot_f, band_t, band_f, true_and, and_true, lenI, implies_true, imp_false, not_true_eq_false, not_false_eq_true, and_self, and_false, false_and, Int.not_lt, Int.not_le, Classical.not_not, seq_self, smallZ_t, smallZ_f]
  simp
  omega
theorem c11 : ConOK Tryd.prog 11 con11 := by
  refine conOK_of_exec (inl := noInl) noInl_ok (lp := noLp) (tb := tb11) (c := bodyOf Tryd.f11) ⟨tt_ok, tb11_ok⟩ mixed Tryd.func11 (by kernel_rfl) (by kernel_rfl) ?_
  intro dat hpre hwt
  have hw0 := wts5 hwt
  obtain ⟨d0, d1, d2, d3, d4, hdat, hws⟩ := hw0
  subst hdat
  have w0 := hws.1
  have w1 := hws.2.1
  have w2 := hws.2.2.1
  have w3 := hws.2.2.2.1
  have w4 := hws.2.2.2.2
  clear hws hwt
  rw [vc11 d0 d1 d2 d3 d4]
  simp only [ile_t, ile_f, ilt_t, ilt_f, ieq_t, ieq_f, bnot_t, bnot_f, band_t, band_f, true_and, and_true, lenI, implies_true, imp_false, not_true_eq_false, not_false_eq_true, and_self, and_false, false_and, Int.not_lt, Int.not_le, Classical.not_not, seq_self, smallZ_t, smallZ_f]
  simp
  omega
theorem c12 : ConOK Tryd.prog 12 con12 := by
  refine conOK_of_exec (inl := noInl) noInl_ok (lp := noLp) (tb := tb12) (c := bodyOf Tryd.f12) ⟨tt_ok, tb12_ok⟩ mixed Tryd.func12 (by kernel_rfl) (by kernel_rfl) ?_
  intro dat hpre hwt
  have hw0 := wts4 hwt
  obtain ⟨d0, d1, d2, d3, rfl, w0, w1, w2, w3⟩ := hw0
  refine Eq.mpr (vc12 d0 d1 d2 d3) ?_
  simp only [ile_t, ile_f, ilt_t, ilt_f, ieq_t, ieq_f, bnot_t, bnot_f, band_t, band_f, true_and, and_true, lenI, implies_true, imp_false, not_true_eq_false, not_false_eq_true, and_self, and_false, false_and, Int.not_lt, Int.not_le, Classical.not_not, seq_self, beqB_self, smallZ_t, smallZ_f]
  simp
  omega
end Go.Proofs.YtkjohnjhdfblcaaDoor
