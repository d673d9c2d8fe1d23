/- Part of the proof of the laws of this seat: contracts of its functions, for every input. -/
import Derived.Test.YtgbhkndbfigieaaWP
set_option linter.all false
namespace Go.Proofs.Ytgbhkndbfigieaa
open Go Go.RX Go.Proofs
set_option maxRecDepth 100000
theorem sameZ_self (l : List D) : sameZ l l = true := by
  simp [sameZ]
theorem c3 : ConOK Try.prog 3 con3 := by
  refine conOK_of_exec (lp := noLp) (tb := tb3) (c := bodyOf Try.f3) ⟨tt_ok, tbL_ok⟩ mixed Try.func3 (by kernel_rfl) (by kernel_rfl) ?_
  intro dat hpre hwt
  obtain ⟨d0, rfl, h0⟩ := wts1 hwt
  refine Eq.mpr (vc3 d0) ?_
  simp [ieq]
theorem c4 : ConOK Try.prog 4 con4 := by
  refine conOK_of_exec (lp := noLp) (tb := tb4) (c := bodyOf Try.f4) ⟨tt_ok, tbL_ok⟩ mixed Try.func4 (by kernel_rfl) (by kernel_rfl) ?_
  intro dat hpre hwt
  obtain ⟨d0, d1, d2, rfl, h0⟩ := wts3 hwt
  refine Eq.mpr (vc4 d0 d1 d2) ?_
  simp [ieq, bnot, band]
theorem c5 : ConOK Try.prog 5 con5 := by
  refine conOK_of_exec (lp := noLp) (tb := tb5) (c := bodyOf Try.f5) ⟨tt_ok, tbL_ok⟩ mixed Try.func5 (by kernel_rfl) (by kernel_rfl) ?_
  intro dat hpre hwt
  obtain ⟨d0, d1, d2, d3, rfl, h0⟩ := wts4 hwt
  refine Eq.mpr (vc5 d0 d1 d2 d3) ?_
  simp [ieq, band, sameZ_self]
theorem c9 : ConOK Try.prog 9 con9 := by
  refine conOK_of_exec (lp := noLp) (tb := tb9) (c := bodyOf Try.f9) ⟨tt_ok, tbL_ok⟩ mixed Try.func9 (by kernel_rfl) (by kernel_rfl) ?_
  intro dat hpre hwt
  obtain ⟨d0, d1, d2, d3, rfl, h0⟩ := wts4 hwt
  refine Eq.mpr (vc9 d0 d1 d2 d3) ?_
  simp [ieq, band]
theorem many_long {mv : List D} (h : 1024 < mv.length) : runZ 0 0 0 0 7 mv [] = ⟨[], ⟨0, 0, 0⟩, 3⟩ := runZ_long rfl h
theorem many_bad : runZ 0 0 0 0 7 (xset (xrep 1024 (.int 0)) 5 (.int 1125899906842625)) [] = ⟨[], ⟨0, 0, 0⟩, 13⟩ :=
  runZ_none rfl (by rw [xset_len, xrep_len]; decide) rfl (i := 5) (s := ⟨7, ⟨1, 0, 0⟩, 0, [.int 7, .int 7, .int 7, .int 7, .int 7]⟩) (by rw [xset_len, xrep_len]; decide) (by kernel_rfl) (by kernel_rfl)
theorem many_to : ∀ {i : Nat}, i ≤ 1024 → runTo 0 0 0 0 7 (xrep 1024 (.int 0)) [] i = some ⟨7, ⟨1, 0, 0⟩, 0, List.replicate i (.int 7)⟩
  | 0, _ => rfl
  | i + 1, h => by
    have he : elt (xrep 1024 (.int 0)) (i : Int) = .int 0 := by
      exact elt_xrep (by show i < 1024; omega)
    rw [runTo_next (many_to (by omega)), he]
    rw [List.replicate_succ']
    rfl
theorem many_ok : runZ 0 0 0 0 7 (xrep 1024 (.int 0)) [] = ⟨List.replicate 1024 (.int 7), ⟨1, 0, 0⟩, 0⟩ :=
  runZ_some (mv := xrep 1024 (.int 0)) rfl (by rw [xrep_len]; decide) rfl (by rw [xrep_len]; exact many_to (by decide))
theorem c6 : ConOK Try.prog 6 con6 := by
  refine conOK_of_exec (lp := noLp) (tb := tb6) (c := bodyOf Try.f6) ⟨tt_ok, tbL_ok⟩ mixed Try.func6 (by kernel_rfl) (by kernel_rfl) ?_
  intro dat hpre hwt
  obtain ⟨d0, d1, rfl, h0, h1⟩ := wts2 hwt
  refine Eq.mpr (vc6 d0 d1) ?_
  have hx := wt_u8 h0
  clear hpre hwt h0 h1
  generalize d0.i = x0 at *
  simp only [ieq_t, ieq_f, bnot_t, bnot_f, ilt_t, ilt_f, lenI]
  have hn : iadd .i64 1024 (iconv .i64 x0) = 1024 + x0 := by
    unfold iadd iconv; rw [IntKind.wrap_i64, IntKind.wrap_i64]; omega
  rw [hn]
  have hl1 : ∀ d, (xrep (1024 + x0) d).length = (1024 + x0).toNat := fun d => xrep_len
  have hl2 : ∀ d e, (xset (xrep (1024 + x0) d) 5 e).length = (1024 + x0).toNat := fun d e => by rw [xset_len, xrep_len]
  refine ⟨fun _ => trivial, fun hx2 => ⟨by omega, fun hb => ⟨by rw [hl1]; omega, fun hx3 => ?_, fun hx3 => ?_⟩, fun hb => ⟨fun hx3 => ?_, fun hx3 => ?_⟩⟩⟩
  · rw [many_long (by rw [hl2]; omega)]; simp
  · obtain rfl : x0 = 0 := by omega
    simp only [Int.add_zero]; rw [many_bad]; simp
  · rw [many_long (by rw [hl1]; omega)]; simp
  · obtain rfl : x0 = 0 := by omega
    simp only [Int.add_zero]; rw [many_ok, xrep_len]; simp [elt, D.i]
end Go.Proofs.Ytgbhkndbfigieaa
