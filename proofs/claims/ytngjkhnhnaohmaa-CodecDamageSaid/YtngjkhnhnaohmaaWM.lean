/- Part of the proof of the laws of this seat: contracts of its functions, for every input. -/
import Derived.Test.YtngjkhnhnaohmaaWL
set_option linter.all false
namespace Go.Proofs.Ytngjkhnhnaohmaa
open Go Go.RX Go.Proofs
set_option maxRecDepth 100000
set_option linter.all false
theorem tbA_ok : TabOK Try.prog tbA := fun f con h => by
  unfold tbA at h
  split at h
  · cases h; exact c12
  · cases h; exact c13
  · cases h; exact c14
  · cases h; exact c18
  · cases h; exact c20
  · cases h; exact c24
  · cases h
theorem c17 : ConOK Try.prog 17 con17 := by
  refine conOK_of_exec (inl := noInl) noInl_ok (lp := noLp) (tb := tb17) (c := bodyOf Try.f17) ⟨tt_ok, tbA_ok⟩ mixed Try.func17 (by kernel_rfl) (by kernel_rfl) ?_
  intro dat hpre hwt
  obtain rfl := wts0 hwt
  refine Eq.mpr (vc17) ?_
  simp
theorem tbL_ok : TabOK Try.prog tbL := fun f con h => by
  unfold tbL at h
  split at h
  · cases h; exact c11
  · cases h; exact c15
  · cases h; exact c16
  · cases h; exact c17
  · cases h; exact c19
  · cases h; exact c21
  · exact tbA_ok _ _ h
theorem xsub_front {b c : List D} : xsub (xcat b c) 0 (b.length : Int) = b := by simp [xsub, xcat]
theorem xsub_all {b : List D} {n : Int} (h : n = (b.length : Int)) : xsub b 0 n = b := by subst h; simp [xsub]
theorem c3 : ConOK Try.prog 3 con3 := by
  refine conOK_of_exec (inl := noInl) noInl_ok (lp := noLp) (tb := tb3) (c := bodyOf Try.f3) ⟨tt_ok, tbL_ok⟩ mixed Try.func3 (by kernel_rfl) (by kernel_rfl) ?_
  intro dat hpre hwt
  obtain ⟨d0, d1, d2, rfl, w0, w1, w2⟩ := wts3 hwt
  refine Eq.mpr (vc3 d0 d1 d2) ?_
  simp only [ile_t, ile_f, ilt_t, ilt_f, ieq_t, ieq_f, bnot_t, bnot_f, band_t, band_f, true_and, and_true, lenI, lenS, xsub_front]
  refine ⟨fun _ => trivial, fun h1 => ⟨fun _ => trivial, fun h2 => ?_⟩⟩
  have e : iadd .i64 (d0.l.length : Int) 4 = (d0.l.length : Int) + 4 := iadd_eq (by omega)
  have e2 : ∀ c : List D, c.length = 4 → xsub (xcat d0.l c) 0 ((d0.l.length : Int) + 4) = xcat d0.l c := fun c h => xsub_all (by simp [xcat, h])
  rw [e, e2 _ rfl]
  simp [sameZ_self, xcat]
  omega
theorem c4 : ConOK Try.prog 4 con4 := by
  refine conOK_of_exec (inl := noInl) noInl_ok (lp := noLp) (tb := tb4) (c := bodyOf Try.f4) ⟨tt_ok, tbL_ok⟩ mixed Try.func4 (by kernel_rfl) (by kernel_rfl) ?_
  intro dat hpre hwt
  obtain ⟨d0, d1, rfl, w0, w1⟩ := wts2 hwt
  refine Eq.mpr (vc4 d0 d1) ?_
  simp only [ile_t, ile_f, ilt_t, ilt_f, ieq_t, ieq_f, bnot_t, bnot_f, band_t, band_f, true_and, and_true, lenI]
  simp [ieq]
  omega
theorem c5 : ConOK Try.prog 5 con5 := by
  refine conOK_of_exec (inl := noInl) noInl_ok (lp := noLp) (tb := tb5) (c := bodyOf Try.f5) ⟨tt_ok, tbL_ok⟩ mixed Try.func5 (by kernel_rfl) (by kernel_rfl) ?_
  intro dat hpre hwt
  obtain ⟨d0, d1, rfl, w0, w1⟩ := wts2 hwt
  refine Eq.mpr (vc5 d0 d1) ?_
  simp only [ile_t, ile_f, ilt_t, ilt_f, ieq_t, ieq_f, bnot_t, bnot_f, band_t, band_f, true_and, and_true, lenI]
  simp [ieq, seq']
  omega
end Go.Proofs.Ytngjkhnhnaohmaa
