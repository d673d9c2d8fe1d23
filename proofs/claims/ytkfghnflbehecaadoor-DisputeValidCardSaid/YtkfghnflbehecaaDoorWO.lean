/- Part of the proof of the laws of this seat: contracts of its functions, for every input. -/
import Derived.Test.YtkfghnflbehecaaDoorWN
set_option linter.all false
namespace Go.Proofs.YtkfghnflbehecaaDoor
open Go Go.RX Go.Proofs
set_option maxRecDepth 100000
set_option linter.all false
set_option maxHeartbeats 1000000
theorem elt_nn {l : List D} {i : Int} : elt l ((i.toNat : Nat) : Int) = elt l i := by unfold elt; rw [Int.toNat_natCast]
theorem open_err {l : List D} {k : List UInt8} {c t e : Int} (h : openE l k c t = e) (he : e ≠ 0) : l = openL l k c t ∧ e = openE l k c t := by
  refine ⟨?_, h.symm⟩
  unfold openL; rw [if_neg (by rw [h]; exact he)]
theorem fit_len {l : List D} (h : fit l) : l.length ≤ 2000 := h.1
theorem tb15_ok : TabOK Tryd.prog tb15 := fun f con h => by
  unfold tb15 at h
  split at h
  · cases h; exact c19
  · cases h; exact c31
  · cases h; exact c20
  · cases h; exact c32
  · cases h
theorem tb26_ok : TabOK Tryd.prog tb26 := fun f con h => by
  unfold tb26 at h
  split at h
  · cases h; exact c22
  · cases h; exact c39
  · cases h; exact c40
  · cases h; exact c23
  · cases h; exact c42
  · cases h
theorem c15 : ConOK Tryd.prog 15 con15 := by
  refine conOK_of_exec (inl := noInl) noInl_ok (lp := noLp) (tb := tb15) (c := bodyOf Tryd.f15) ⟨tt_ok, tb15_ok⟩ mixed Tryd.func15 (by kernel_rfl) (by kernel_rfl) ?_
  intro dat hpre hwt
  have hw0 := wts4 hwt
  obtain ⟨d0, d1, d2, d3, rfl, w0, w1, w2, w3⟩ := hw0
  refine Eq.mpr (vc15 d0 d1 d2 d3) ?_
  have hfit : fit d0.l := hpre
  have hlen := fit_len hfit
  simp only [ile_t, ile_f, ilt_t, ilt_f, ieq_t, ieq_f, bnot_t, bnot_f, band_t, band_f, true_and, and_true, lenI]
  have hE : openE d0.l d1.s d2.i d3.i = if refZ d1.s = false then 5 else if centsZ d2.i = false then 13 else if timeZ d3.i = false then 12 else if 0 ≤ findZ d0.l d1.s then 9 else if 1024 ≤ d0.l.length then 3 else 0 := rfl
  refine ⟨fun h => open_err (by rw [hE, if_pos h]) (by decide), fun h1 => ?_⟩
  rw [if_neg (by simp [h1])] at hE
  refine ⟨fun h => open_err (by rw [hE, if_pos (by rw [centsZ_f]; omega)]) (by decide), fun h2 => ⟨fun h => open_err (by rw [hE, if_pos (by rw [centsZ_f]; omega)]) (by decide), fun h3 => ?_⟩⟩
  rw [if_neg (by rw [centsZ_f]; omega)] at hE
  refine ⟨fun h => open_err (by rw [hE, if_pos h]) (by decide), fun h4 => ?_⟩
  rw [if_neg (by simp [h4])] at hE
  refine ⟨fun h => open_err (by rw [hE, if_pos h]) (by decide), fun h5 => ?_⟩
  rw [if_neg (by omega)] at hE
  refine ⟨fun h => open_err (by rw [hE, if_pos (by omega)]) (by decide), fun h6 => ?_⟩
  rw [if_neg (by omega)] at hE
  refine ⟨hfit, by simp only [List.length_cons, List.length_nil]; omega, ?_, hE.symm⟩
  unfold openL; rw [if_pos hE]
theorem c26 : ConOK Tryd.prog 26 con26 := by
  refine conOK_of_exec (inl := noInl) noInl_ok (lp := noLp) (tb := tb26) (c := bodyOf Tryd.f26) ⟨tt_ok, tb26_ok⟩ mixed Tryd.func26 (by kernel_rfl) (by kernel_rfl) ?_
  intro dat hpre hwt
  have hw0 := wts4 hwt
  obtain ⟨d0, d1, d2, d3, rfl, w0, w1, w2, w3⟩ := hw0
  refine Eq.mpr (vc26 d0 d1 d2 d3) ?_
  have hfit : fit d0.l := hpre
  have hlen := fit_len hfit
  simp only [ile_t, ile_f, ilt_t, ilt_f, ieq_t, ieq_f, bnot_t, bnot_f, band_t, band_f, true_and, and_true, lenI]
  have hE : openE d0.l d1.s d2.i d3.i = if refZ d1.s = false then 5 else if centsZ d2.i = false then 13 else if timeZ d3.i = false then 12 else if 0 ≤ findZ d0.l d1.s then 9 else if 1024 ≤ d0.l.length then 3 else 0 := rfl
  refine ⟨fun h => open_err (by rw [hE, if_pos h]) (by decide), fun h1 => ?_⟩
  rw [if_neg (by simp [h1])] at hE
  refine ⟨fun h => open_err (by rw [hE, if_pos h]) (by decide), fun h2 => ?_⟩
  rw [if_neg (by simp [h2])] at hE
  refine ⟨fun h => open_err (by rw [hE, if_pos h]) (by decide), fun h4 => ?_⟩
  rw [if_neg (by simp [h4])] at hE
  refine ⟨fun h => open_err (by rw [hE, if_pos h]) (by decide), fun h5 => ?_⟩
  rw [if_neg (by omega)] at hE
  refine ⟨fun h => open_err (by rw [hE, if_pos (by omega)]) (by decide), fun h6 => ?_⟩
  rw [if_neg (by omega)] at hE
  refine ⟨hfit, by simp only [List.length_cons, List.length_nil]; omega, ?_, hE.symm⟩
  unfold openL; rw [if_pos hE]
theorem prov_err {l : List D} {k id : List UInt8} {t e : Int} (h : provE l k id t = e) (he : e ≠ 0) : l = provL l k id t ∧ e = provE l k id t := by
  refine ⟨?_, h.symm⟩
  unfold provL; rw [if_neg (by rw [h]; exact he)]
theorem op_range {l : List D} {k : List UInt8} (h : opE l k = 0) : 0 ≤ opI l k ∧ opI l k < l.length := by
  have hlt := findZ_lt l k
  by_cases h6 : findZ l k < 0
  · rw [(op_none h6).2] at h; cases h
  by_cases h7 : ((elt l (findZ l k)).fld 3).i = 1
  · rw [(op_ok (by omega) h7).1]; omega
  · rw [(op_state (by omega) h7).2] at h; cases h
theorem tb16_ok : TabOK Tryd.prog tb16 := fun f con h => by
  unfold tb16 at h
  split at h
  · cases h; exact c33
  · cases h; exact c34
  · cases h; exact c19
  · cases h; exact c35
  · cases h
theorem tb27_ok : TabOK Tryd.prog tb27 := fun f con h => by
  unfold tb27 at h
  split at h
  · cases h; exact c43
  · cases h; exact c39
  · cases h; exact c44
  · cases h; exact c22
  · cases h; exact c41
  · cases h
theorem c16 : ConOK Tryd.prog 16 con16 := by
  refine conOK_of_execC (inl := noInl) noInl_ok (tb := tb16) (c := bodyOf Tryd.f16) ⟨tt_ok, tb16_ok⟩ mixed Tryd.func16 (by kernel_rfl) (by kernel_rfl) cut16 kc16 ?_ suf16
  intro dat hpre hwt
  have hw0 := wts4 hwt
  obtain ⟨d0, d1, d2, d3, rfl, w0, w1, w2, w3⟩ := hw0
  refine Eq.mpr (vc16 d0 d1 d2 d3) ?_
  have hE : provE d0.l d1.s d2.s d3.i = if opE d0.l d1.s ≠ 0 then opE d0.l d1.s
    else if lateZ ((elt d0.l (opI d0.l d1.s)).fld 1).i d3.i 2592000 ≠ 0 then lateZ ((elt d0.l (opI d0.l d1.s)).fld 1).i d3.i 2592000
    else if refZ d2.s = false then 5 else if hasZ ((elt d0.l (opI d0.l d1.s)).fld 4).l d2.s = true then 9 else if 16 ≤ ((elt d0.l (opI d0.l d1.s)).fld 4).l.length then 3 else 0 := rfl
  simp only [ile_t, ile_f, ilt_t, ilt_f, ieq_t, ieq_f, bnot_t, bnot_f, band_t, band_f, true_and, and_true, lenI]
  refine ⟨fun h => prov_err (by rw [hE, if_pos h]) h, fun h0 => ?_⟩
  rw [if_neg (by simp [h0])] at hE
  have hr := op_range h0
  refine ⟨hr, by omega, fun h => prov_err (by rw [hE, if_pos h]) h, fun h1 => ?_⟩
  rw [if_neg (by simp [h1])] at hE
  refine ⟨fun h => prov_err (by rw [hE, if_pos h]) (by decide), fun h2 => ⟨hr, ?_⟩⟩
  rw [if_neg (by simp [h2])] at hE
  refine ⟨fun h => prov_err (by rw [hE, if_pos h]) (by decide), fun h3 => ⟨hr, ?_⟩⟩
  rw [if_neg (by simp [h3])] at hE
  refine ⟨fun h => prov_err (by rw [hE, if_pos (by omega)]) (by decide), fun h4 => ?_⟩
  rw [if_neg (by omega)] at hE
  exact hE
theorem late_cases {tm t s : Int} : lateZ tm t s = if timeZ t = false then 12 else if t < tm then 12 else if tm < t - s then 29 else 0 := rfl
theorem c27 : ConOK Tryd.prog 27 con27 := by
  refine conOK_of_execC (inl := noInl) noInl_ok (tb := tb27) (c := bodyOf Tryd.f27) ⟨tt_ok, tb27_ok⟩ mixed Tryd.func27 (by kernel_rfl) (by kernel_rfl) cut27 kc27 ?_ suf27
  intro dat hpre hwt
  have hw0 := wts4 hwt
  obtain ⟨d0, d1, d2, d3, rfl, w0, w1, w2, w3⟩ := hw0
  refine Eq.mpr (vc27 d0 d1 d2 d3) ?_
  have hE : provE d0.l d1.s d2.s d3.i = if opE d0.l d1.s ≠ 0 then opE d0.l d1.s
    else if lateZ ((elt d0.l (opI d0.l d1.s)).fld 1).i d3.i 2592000 ≠ 0 then lateZ ((elt d0.l (opI d0.l d1.s)).fld 1).i d3.i 2592000
    else if refZ d2.s = false then 5 else if hasZ ((elt d0.l (opI d0.l d1.s)).fld 4).l d2.s = true then 9 else if 16 ≤ ((elt d0.l (opI d0.l d1.s)).fld 4).l.length then 3 else 0 := rfl
  have hL := @late_cases ((elt d0.l (opI d0.l d1.s)).fld 1).i d3.i 2592000
  simp only [ile_t, ile_f, ilt_t, ilt_f, ieq_t, ieq_f, bnot_t, bnot_f, band_t, band_f, true_and, and_true, lenI, decide_eq_true_eq, decide_eq_false_iff_not]
  refine ⟨fun h => prov_err (by rw [hE, if_pos h]) h, fun h0 => ?_⟩
  rw [if_neg (by simp [h0])] at hE
  have hr := op_range h0
  refine ⟨fun h => ?_, fun h1 => ⟨hr, fun h => ?_, fun h2 => ⟨hr, ?_⟩⟩⟩
  · rw [if_pos h] at hL
    rw [hL, if_pos (by decide)] at hE
    exact prov_err hE (by decide)
  · rw [if_neg (by simp [h1]), if_pos h] at hL
    rw [hL, if_pos (by decide)] at hE
    exact prov_err hE (by decide)
  · rw [if_neg (by simp [h1]), if_neg (by omega)] at hL
    have ht := timeZ_t ▸ h1
    refine ⟨by omega, fun h => ?_, fun h3 => ?_⟩
    · rw [if_pos (by omega)] at hL
      rw [hL, if_pos (by decide)] at hE
      exact prov_err hE (by decide)
    · rw [if_neg (by omega)] at hL
      rw [if_neg (by simp [hL])] at hE
      refine ⟨fun h => prov_err (by rw [hE, if_pos h]) (by decide), fun h2 => ⟨hr, ?_⟩⟩
      rw [if_neg (by simp [h2])] at hE
      refine ⟨fun h => prov_err (by rw [hE, if_pos h]) (by decide), fun h3 => ⟨hr, ?_⟩⟩
      rw [if_neg (by simp [h3])] at hE
      refine ⟨fun h => prov_err (by rw [hE, if_pos (by omega)]) (by decide), fun h4 => ?_⟩
      rw [if_neg (by omega)] at hE
      exact hE
end Go.Proofs.YtkfghnflbehecaaDoor
