/- Part of the proof of the laws of this seat: contracts of its functions, for every input. -/
import Derived.Test.YtgbhkndbfigieaaWF
set_option linter.all false
namespace Go.Proofs.Ytgbhkndbfigieaa
open Go Go.RX Go.Proofs
set_option maxRecDepth 100000
theorem wt_len {e : Ty} {d : D} (h : WT (.slice e) d) : (d.l.length : Int) ≤ 9223372036854775807 := by
  obtain ⟨xs, rfl, h, _⟩ := h
  simp only [maxLen] at h
  simp only [D.l]
  omega
theorem c29 : ConOK Try.prog 29 con29 := by
  refine conOK_of_exec (lp := lp29) (tb := tb29) (c := bodyOf Try.f29) ⟨tt_ok, tbN_ok⟩ mixed Try.func29 (by kernel_rfl) (by kernel_rfl) ?_
  intro dat hpre hwt
  match dat, hpre, hwt with
  | [d0], _, hw =>
    refine Eq.mpr (vc29 d0) ?_
    have hl := wt_len hw.1
    simp only [ilt_t, ilt_f, lenI, true_and, and_true]
    refine ⟨⟨0, by omega, rfl, rfl⟩, fun g hg => ⟨fun h => ⟨by omega, g + 1, by omega, by omega, rfl, ?_⟩, fun h => ?_⟩⟩
    · rw [iadd_eq (by omega)]; omega
    · rw [show g = d0.l.length by omega]
theorem c18 : ConOK Try.prog 18 con18 := by
  refine conOK_of_exec (lp := lp18) (tb := tb18) (c := bodyOf Try.f18) ⟨tt_ok, tbN_ok⟩ mixed Try.func18 (by kernel_rfl) (by kernel_rfl) ?_
  intro dat hpre hwt
  match dat, hpre, hwt with
  | [d0, d1], _, hw =>
    refine Eq.mpr (vc18 d0 d1) ?_
    have hl := wt_len hw.1
    simp only [ilt_t, ilt_f, bnot_t, bnot_f, ieq_t, ieq_f, lenI, true_and, and_true]
    refine ⟨fun h => ?_, fun h => ⟨⟨0, ⟨by omega, fun i hi => by omega⟩, rfl⟩, fun g hg => ⟨fun h1 => ⟨by omega, by omega, fun h2 => ?_, fun h2 => ⟨g + 1, ⟨by omega, fun i hi => ?_⟩, by omega, ?_⟩⟩, fun h1 => ?_⟩⟩⟩
    · simp only [sameZ, Bool.and_eq_false_iff, decide_eq_false_iff_not]; exact .inl (by omega)
    · simp only [sameZ, Bool.and_eq_false_iff, List.all_eq_false]
      exact .inr ⟨g, List.mem_range.2 (by omega), by simpa using h2⟩
    · rcases Nat.lt_succ_iff_lt_or_eq.1 hi with h3 | rfl
      · exact hg.2 i h3
      · exact h2
    · rw [iadd_eq (by omega)]; omega
    · simp only [sameZ, Bool.and_eq_true, decide_eq_true_eq, List.all_eq_true, List.mem_range, beq_iff_eq]
      exact ⟨by omega, fun i hi => hg.2 i (by omega)⟩
/-- Add: fits, fits, fits. -/
def addZ (a b : Int) : Int × Int := if fitsZ a = true ∧ fitsZ b = true ∧ fitsZ (a + b) = true then (a + b, 0) else (0, 13)
def con28 : Con := ⟨[i64, i64], fun | [a, b] => ⟨True, [vI (addZ a.i b.i).1, vI (addZ a.i b.i).2]⟩ | _ => bad⟩
def tb28 : Tab := fun f => match f with
  | 25 => some con25
  | 29 => some con29
  | _ => none
def lp28 := noLp
theorem tb28_ok : TabOK Try.prog tb28 := fun f con h => by
  unfold tb28 at h
  split at h
  · cases h; exact c25
  · cases h; exact c29
  · cases h
end Go.Proofs.Ytgbhkndbfigieaa
