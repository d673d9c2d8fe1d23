/- Part of the proof of the laws of this seat: contracts of its functions, for every input. -/
import Derived.Test.YtkfghnflbehecaaDoorWT
set_option linter.all false
namespace Go.Proofs.YtkfghnflbehecaaDoor
open Go Go.RX Go.Proofs
set_option maxRecDepth 100000
set_option linter.all false
set_option maxHeartbeats 1000000
theorem tb6_ok : TabOK Tryd.prog tb6 := fun f con h => by
  unfold tb6 at h
  split at h
  · cases h; exact c9
  · cases h; exact c12
  · cases h; exact c14
  · cases h
theorem c6 : ConOK Tryd.prog 6 con6 := by
  refine conOK_of_exec (inl := noInl) noInl_ok (lp := lp6) (tb := tb6) (c := bodyOf Tryd.f6) ⟨tt_ok, tb6_ok⟩ mixed Tryd.func6 (by kernel_rfl) (by kernel_rfl) ?_
  intro dat hpre hwt
  have hw0 := wts1 hwt
  obtain ⟨d0, rfl, w0⟩ := hw0
  refine Eq.mpr (vc6 d0) ?_
  have hl := wt_len w0
  have h60 := @first60 d0.l
  simp only [ile_t, ile_f, ilt_t, ilt_f, ieq_t, ieq_f, bnot_t, bnot_f, band_t, band_f, true_and, and_true, lenI, imin_eq]
  generalize xsub d0.l 0 (min (d0.l.length : Int) 60) = X at *
  refine ⟨by omega, ⟨0, by omega, rfl, rfl, rfl⟩, fun g hg => ⟨fun hlt => ⟨by omega, plTo_fit X (by omega), fun he => ⟨fun hn => hn (err_same he).2, fun hn => ?_⟩, fun he => ?_⟩, fun hge => ?_⟩⟩
  · have S := step_of (plTo X g) (ddOf (elt X (g : Int)))
    have hp := (plTo_good X g).1
    refine ⟨fun h => by have := S.ge; omega, fun _ => ⟨⟨0, by omega, rfl⟩, fun k hk => ⟨fun hkl => ⟨by omega, fun hs => ?_, fun _ => ⟨k + 1, by omega, by omega, by rw [iadd_eq (by omega)]; rfl⟩⟩, fun hkg => ⟨g + 1, by omega, by omega, rfl, rfl, by rw [iadd_eq (by omega)]; rfl⟩⟩⟩⟩
    have hge := S.ge
    have hkL : k < (plTo X g).length := by omega
    rw [iadd_eq (by omega), xsub1 hkL, xsub1 (by omega)]
    have e : elt (doZ (plTo X g) (ddOf (elt X (g : Int)))).l (k : Int) = elt (plTo X g) (k : Int) := (S.old k hkL).resolve_right fun C => hs C.st
    rw [e, sameL_self]
    exact ⟨by omega, by omega, (fun h => nomatch h), fun _ => ⟨k + 1, by omega, by omega, rfl⟩⟩
  · have S := step_of (plTo X g) (ddOf (elt X (g : Int)))
    have hp := (plTo_good X g).1
    refine ⟨fun h => by have := S.ge; omega, fun _ => ⟨⟨0, by omega, rfl⟩, fun k hk => ⟨fun hkl => ⟨by omega, fun hs => ?_, fun _ => ⟨k + 1, by omega, by omega, by rw [iadd_eq (by omega)]; rfl⟩⟩, fun hkg => ⟨g + 1, by omega, by omega, rfl, rfl, by rw [iadd_eq (by omega)]; rfl⟩⟩⟩⟩
    have hge := S.ge
    have hkL : k < (plTo X g).length := by omega
    rw [iadd_eq (by omega), xsub1 hkL, xsub1 (by omega)]
    have e : elt (doZ (plTo X g) (ddOf (elt X (g : Int)))).l (k : Int) = elt (plTo X g) (k : Int) := (S.old k hkL).resolve_right fun C => hs C.st
    rw [e, sameL_self]
    exact ⟨by omega, by omega, (fun h => nomatch h), fun _ => ⟨k + 1, by omega, by omega, rfl⟩⟩
  · obtain ⟨hp, hgd⟩ := plTo_good X g
    refine ⟨⟨0, by omega, rfl, rfl⟩, fun k hk => ⟨fun hkl => ⟨by omega, fun hs => ⟨k + 1, by omega, by omega, ?_, by rw [iadd_eq (by omega)]; rfl⟩, fun hs => ⟨k + 1, by omega, by omega, ?_, by rw [iadd_eq (by omega)]; rfl⟩⟩, fun hkg => ⟨fun _ => trivial, fun h => h ?_⟩⟩⟩
    · show _ = if ((elt (plTo X g) (k : Int)).fld 3).i = 2 then _ else _
      rw [if_pos hs]
    · show _ = if ((elt (plTo X g) (k : Int)).fld 3).i = 2 then _ else _
      rw [if_neg hs]
    · obtain rfl : k = (plTo X g).length := by omega
      rw [(accS_take hgd (by omega) _ (Nat.le_refl _)).1, List.take_length]
      exact (cr_acc X g (by omega)).1.symm
end Go.Proofs.YtkfghnflbehecaaDoor
