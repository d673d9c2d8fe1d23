/- Part of the proof of the laws of this seat: contracts of its functions, for every input. -/
import Derived.Test.YtkfghnflbehecaaDoorWE
set_option linter.all false
namespace Go.Proofs.YtkfghnflbehecaaDoor
open Go Go.RX Go.Proofs
set_option maxRecDepth 100000
set_option linter.all false
set_option maxHeartbeats 1000000
theorem tb33_ok : TabOK Tryd.prog tb33 := fun f con h => by
  unfold tb33 at h
  split at h
  · cases h; exact c20
  · cases h
theorem c33 : ConOK Tryd.prog 33 con33 := by
  refine conOK_of_exec (inl := noInl) noInl_ok (lp := noLp) (tb := tb33) (c := bodyOf Tryd.f33) ⟨tt_ok, tb33_ok⟩ mixed Tryd.func33 (by kernel_rfl) (by kernel_rfl) ?_
  intro dat hpre hwt
  have hw0 := wts2 hwt
  obtain ⟨d0, d1, rfl, w0, w1⟩ := hw0
  refine Eq.mpr (vc33 d0 d1) ?_
  simp only [ile_t, ile_f, ilt_t, ilt_f, ieq_t, ieq_f, bnot_t, bnot_f, band_t, band_f, true_and, and_true, lenI]
  have hc := findZ_lt d0.l d1.s
  refine ⟨fun h => ?_, fun h => ⟨⟨h, hc⟩, fun h1 => ?_, fun h1 => ?_⟩⟩
  · obtain ⟨e1, e2⟩ := op_none h
    rw [e1, e2]; exact ⟨rfl, rfl⟩
  · obtain ⟨e1, e2⟩ := op_state h h1
    rw [e1, e2]; exact ⟨rfl, rfl⟩
  · obtain ⟨e1, e2⟩ := op_ok h h1
    rw [e1, e2]; exact ⟨rfl, rfl⟩
theorem xsub0 {l : List D} {g : Nat} : xsub l 0 (g : Int) = l.take g := by unfold xsub; rw [Int.toNat_natCast]; rfl
theorem oneE_eta (d : D) : oneE (.agg [.str (d.fld 0).s, .int (d.fld 1).i, .int (d.fld 2).i, .int (d.fld 3).i, .list (d.fld 4).l]) = oneE d := rfl
theorem tb21_ok : TabOK Tryd.prog tb21 := fun f con h => by
  unfold tb21 at h
  split at h
  · cases h; exact c31
  · cases h; exact c19
  · cases h; exact c35
  · cases h
theorem c21 : ConOK Tryd.prog 21 con21 := by
  refine conOK_of_exec (inl := noInl) noInl_ok (lp := lp21) (tb := tb21) (c := bodyOf Tryd.f21) ⟨tt_ok, tb21_ok⟩ mixed Tryd.func21 (by kernel_rfl) (by kernel_rfl) ?_
  intro dat hpre hwt
  have hw0 := wts1 hwt
  obtain ⟨d0, rfl, w0⟩ := hw0
  refine Eq.mpr (vc21 d0) ?_
  have hE : oneE d0 = if timeZ (d0.fld 1).i = false then 12 else if centsZ (d0.fld 2).i = false then 13 else if (d0.fld 3).i < 1 ∨ 4 < (d0.fld 3).i then 1 else if 16 < (d0.fld 4).l.length then 3 else prfE (d0.fld 4).l := rfl
  simp only [ile_t, ile_f, ilt_t, ilt_f, ieq_t, ieq_f, bnot_t, bnot_f, band_t, band_f, true_and, and_true, lenI, xsub0]
  generalize oneE d0 = E at *
  generalize (d0.fld 1).i = tm at *
  generalize (d0.fld 2).i = ce at *
  generalize (d0.fld 3).i = st at *
  generalize (d0.fld 4).l = l at *
  refine ⟨fun h => by rw [hE, if_pos h], fun h1 => ?_⟩
  rw [if_neg (by simp [h1])] at hE
  refine ⟨fun h => by rw [hE, if_pos (by rw [centsZ_f]; omega)], fun h2 => ⟨fun h => by rw [hE, if_pos (by rw [centsZ_f]; omega)], fun h3 => ?_⟩⟩
  rw [if_neg (by rw [centsZ_f]; omega)] at hE
  refine ⟨fun h => by rw [hE, if_pos (.inl h)], fun h4 => ⟨fun h => by rw [hE, if_pos (.inr h)], fun h5 => ?_⟩⟩
  rw [if_neg (by omega)] at hE
  refine ⟨fun h => by rw [hE, if_pos (by omega)], fun h6 => ?_⟩
  rw [if_neg (by omega)] at hE
  rw [hE]
  refine ⟨⟨0, ⟨by omega, rfl⟩, rfl⟩, fun g hg => ⟨fun hlt => ⟨by omega, fun h => ?_, fun h => ⟨by omega, fun h' => ?_, fun h' => ⟨g + 1, ⟨by omega, errTo_next hg.2 ?_⟩, by omega, by rw [iadd_eq (by omega)]; rfl⟩⟩⟩, fun hge => ?_⟩⟩
  · have e : prfAt l g = 5 := by unfold prfAt; rw [if_pos h]
    exact ((errTo_stop hg.2 (by rw [e]; decide) (by omega)).trans e).symm
  · have e : prfAt l g = 9 := by unfold prfAt; rw [if_neg (by simp [h]), if_pos h']
    exact ((errTo_stop hg.2 (by rw [e]; decide) (by omega)).trans e).symm
  · unfold prfAt; rw [if_neg (by simp [h]), if_neg (by simp [h'])]
  · obtain rfl : g = l.length := by omega
    exact hg.2.symm
theorem tb24_ok : TabOK Tryd.prog tb24 := fun f con h => by
  unfold tb24 at h
  split at h
  · cases h; exact c39
  · cases h; exact c40
  · cases h; exact c22
  · cases h; exact c41
  · cases h
theorem c24 : ConOK Tryd.prog 24 con24 := by
  refine conOK_of_exec (inl := noInl) noInl_ok (lp := lp24) (tb := tb24) (c := bodyOf Tryd.f24) ⟨tt_ok, tb24_ok⟩ mixed Tryd.func24 (by kernel_rfl) (by kernel_rfl) ?_
  intro dat hpre hwt
  have hw0 := wts1 hwt
  obtain ⟨d0, rfl, w0⟩ := hw0
  refine Eq.mpr (vc24 d0) ?_
  have hE : oneE d0 = if timeZ (d0.fld 1).i = false then 12 else if centsZ (d0.fld 2).i = false then 13 else if (d0.fld 3).i < 1 ∨ 4 < (d0.fld 3).i then 1 else if 16 < (d0.fld 4).l.length then 3 else prfE (d0.fld 4).l := rfl
  simp only [ile_t, ile_f, ilt_t, ilt_f, ieq_t, ieq_f, bnot_t, bnot_f, band_t, band_f, true_and, and_true, lenI, xsub0]
  generalize oneE d0 = E at *
  generalize (d0.fld 1).i = tm at *
  generalize (d0.fld 2).i = ce at *
  generalize (d0.fld 3).i = st at *
  generalize (d0.fld 4).l = l at *
  refine ⟨fun h => by rw [hE, if_pos h], fun h1 => ?_⟩
  rw [if_neg (by simp [h1])] at hE
  refine ⟨fun h => by rw [hE, if_pos h], fun h2 => ?_⟩
  rw [if_neg (by simp [h2])] at hE
  refine ⟨fun h => by rw [hE, if_pos (.inl h)], fun h4 => ⟨fun h => by rw [hE, if_pos (.inr h)], fun h5 => ?_⟩⟩
  rw [if_neg (by omega)] at hE
  refine ⟨fun h => by rw [hE, if_pos (by omega)], fun h6 => ?_⟩
  rw [if_neg (by omega)] at hE
  rw [hE]
  refine ⟨⟨0, ⟨by omega, rfl⟩, rfl⟩, fun g hg => ⟨fun hlt => ⟨by omega, fun h => ?_, fun h => ⟨by omega, by omega, fun h' => ?_, fun h' => ⟨g + 1, ⟨by omega, errTo_next hg.2 ?_⟩, by omega, by rw [iadd_eq (by omega)]; rfl⟩⟩⟩, fun hge => ?_⟩⟩
  · have e : prfAt l g = 5 := by unfold prfAt; rw [if_pos h]
    exact ((errTo_stop hg.2 (by rw [e]; decide) (by omega)).trans e).symm
  · have e : prfAt l g = 9 := by unfold prfAt; rw [if_neg (by simp [h]), if_pos h']
    exact ((errTo_stop hg.2 (by rw [e]; decide) (by omega)).trans e).symm
  · unfold prfAt; rw [if_neg (by simp [h]), if_neg (by simp [h'])]
  · obtain rfl : g = l.length := by omega
    exact hg.2.symm
theorem tb10_ok : TabOK Tryd.prog tb10 := fun f con h => by
  unfold tb10 at h
  split at h
  · cases h; exact c19
  · cases h; exact c20
  · cases h; exact c21
  · cases h
theorem tb11_ok : TabOK Tryd.prog tb11 := fun f con h => by
  unfold tb11 at h
  split at h
  · cases h; exact c22
  · cases h; exact c23
  · cases h; exact c24
  · cases h
theorem c10 : ConOK Tryd.prog 10 con10 := by
  refine conOK_of_exec (inl := noInl) noInl_ok (lp := lp10) (tb := tb10) (c := bodyOf Tryd.f10) ⟨tt_ok, tb10_ok⟩ mixed Tryd.func10 (by kernel_rfl) (by kernel_rfl) ?_
  intro dat hpre hwt
  have hw0 := wts1 hwt
  obtain ⟨d0, rfl, w0⟩ := hw0
  refine Eq.mpr (vc10 d0) ?_
  have hE : chkE d0.l = if 1024 < d0.l.length then 3 else errTo (chkAt d0.l) d0.l.length := rfl
  simp only [ile_t, ile_f, ilt_t, ilt_f, ieq_t, ieq_f, bnot_t, bnot_f, band_t, band_f, true_and, and_true, lenI, xsub0, oneE_eta]
  generalize d0.l = l at *
  refine ⟨fun h => by rw [hE, if_pos (by omega)], fun h1 => ?_⟩
  rw [if_neg (by omega)] at hE
  rw [hE]
  refine ⟨⟨0, ⟨by omega, rfl⟩, rfl⟩, fun g hg => ⟨fun hlt => ⟨by omega, fun h => ?_, fun h => ⟨by omega, fun h' => ?_, fun h' => ⟨fun h2 => ?_, fun h2 => ⟨g + 1, ⟨by omega, errTo_next hg.2 ?_⟩, by omega, by rw [iadd_eq (by omega)]; rfl⟩⟩⟩⟩, fun hge => ?_⟩⟩
  · have e : chkAt l g = 5 := by unfold chkAt; rw [if_pos h]
    exact ((errTo_stop hg.2 (by rw [e]; decide) (by omega)).trans e).symm
  · have e : chkAt l g = 9 := by unfold chkAt; rw [if_neg (by simp [h]), if_pos h']
    exact ((errTo_stop hg.2 (by rw [e]; decide) (by omega)).trans e).symm
  · have e : chkAt l g = oneE (elt l (g : Int)) := by unfold chkAt; rw [if_neg (by simp [h]), if_neg (by omega)]
    exact ((errTo_stop hg.2 (by rw [e]; exact h2) (by omega)).trans e).symm
  · unfold chkAt; rw [if_neg (by simp [h]), if_neg (by omega)]; exact h2
  · obtain rfl : g = l.length := by omega
    exact hg.2.symm
theorem c11 : ConOK Tryd.prog 11 con11 := by
  refine conOK_of_exec (inl := noInl) noInl_ok (lp := lp11) (tb := tb11) (c := bodyOf Tryd.f11) ⟨tt_ok, tb11_ok⟩ mixed Tryd.func11 (by kernel_rfl) (by kernel_rfl) ?_
  intro dat hpre hwt
  have hw0 := wts1 hwt
  obtain ⟨d0, rfl, w0⟩ := hw0
  refine Eq.mpr (vc11 d0) ?_
  have hE : chkE d0.l = if 1024 < d0.l.length then 3 else errTo (chkAt d0.l) d0.l.length := rfl
  simp only [ile_t, ile_f, ilt_t, ilt_f, ieq_t, ieq_f, bnot_t, bnot_f, band_t, band_f, true_and, and_true, lenI, xsub0, oneE_eta]
  generalize d0.l = l at *
  refine ⟨fun h => by rw [hE, if_pos (by omega)], fun h1 => ?_⟩
  rw [if_neg (by omega)] at hE
  rw [hE]
  refine ⟨⟨0, ⟨by omega, rfl⟩, rfl⟩, fun g hg => ⟨fun hlt => ⟨by omega, fun h => ?_, fun h => ⟨by omega, by omega, fun h' => ?_, fun h' => ⟨by omega, fun h2 => ?_, fun h2 => ⟨g + 1, ⟨by omega, errTo_next hg.2 ?_⟩, by omega, by rw [iadd_eq (by omega)]; rfl⟩⟩⟩⟩, fun hge => ?_⟩⟩
  · have e : chkAt l g = 5 := by unfold chkAt; rw [if_pos h]
    exact ((errTo_stop hg.2 (by rw [e]; decide) (by omega)).trans e).symm
  · have e : chkAt l g = 9 := by unfold chkAt; rw [if_neg (by simp [h]), if_pos h']
    exact ((errTo_stop hg.2 (by rw [e]; decide) (by omega)).trans e).symm
  · have e : chkAt l g = oneE (elt l (g : Int)) := by unfold chkAt; rw [if_neg (by simp [h]), if_neg (by omega)]
    exact ((errTo_stop hg.2 (by rw [e]; exact h2) (by omega)).trans e).symm
  · unfold chkAt; rw [if_neg (by simp [h]), if_neg (by omega)]; exact h2
  · obtain rfl : g = l.length := by omega
    exact hg.2.symm
theorem prTo_pos (l : List D) : ∀ n, 0 ≤ prTo l n
  | 0 => Int.le_refl _
  | n + 1 => by have := prTo_pos l n; unfold prTo; omega
theorem badAt_t {l : List D} {i : Nat} : badAt l i = true ↔ 40 < ((elt l (i : Int)).fld 4).l.length ∨ 2000 < prTo l i + ((elt l (i : Int)).fld 4).l.length ∨ ((elt l (i : Int)).fld 2).i < 0 ∨ 1125899906842625 < ((elt l (i : Int)).fld 2).i ∨ ((elt l (i : Int)).fld 1).i < -68719476736 ∨ 137438953472 < ((elt l (i : Int)).fld 1).i := by
  unfold badAt
  simp only [Bool.or_eq_true, decide_eq_true_eq]
  exact Iff.rfl
theorem greatZ_t {l : List D} : greatZ l = true ↔ 1100 < l.length ∨ ∃ i, i < l.length ∧ badAt l i = true := by
  unfold greatZ
  rw [Bool.or_eq_true, decide_eq_true_eq, List.any_eq_true]
  simp only [List.mem_range]
theorem c8 : ConOK Tryd.prog 8 con8 := by
  refine conOK_of_exec (inl := noInl) noInl_ok (lp := lp8) (tb := tbN) (c := bodyOf Tryd.f8) ⟨tt_ok, tbN_ok⟩ mixed Tryd.func8 (by kernel_rfl) (by kernel_rfl) ?_
  intro dat hpre hwt
  have hw0 := wts1 hwt
  obtain ⟨d0, rfl, w0⟩ := hw0
  refine Eq.mpr (vc8 d0) ?_
  simp only [ile_t, ile_f, ilt_t, ilt_f, ieq_t, ieq_f, bnot_t, bnot_f, band_t, band_f, true_and, and_true, lenI]
  generalize d0.l = l at *
  refine ⟨fun h => greatZ_t.2 (.inl (by omega)), fun h1 => ⟨⟨0, ⟨by omega, by simp [prTo], fun j hj => by omega⟩, rfl, rfl⟩, fun g hg => ?_⟩⟩
  obtain ⟨hg1, hg2, hg3⟩ := hg
  have hp := prTo_pos l g
  have hb := @badAt_t l g
  have hs : prTo l (g + 1) = prTo l g + ((elt l (g : Int)).fld 4).l.length := rfl
  have bad : g < l.length → badAt l g = true → greatZ l = true := fun h h1 => greatZ_t.2 (.inr ⟨g, h, h1⟩)
  refine ⟨fun hlt => ⟨by omega, fun h => bad (by omega) (hb.2 (.inl (by omega))), fun a1 => ?_⟩, fun hge => ?_⟩
  · rw [iadd_eq (by omega)]
    refine ⟨fun h => bad (by omega) (hb.2 (.inr (.inl (by omega)))), fun a2 => ⟨fun h => bad (by omega) (hb.2 (.inr (.inr (.inl (by omega))))), fun a3 => ⟨fun h => bad (by omega) (hb.2 (.inr (.inr (.inr (.inl (by omega)))))), fun a4 => ⟨fun h => bad (by omega) (hb.2 (.inr (.inr (.inr (.inr (.inl (by omega))))))), fun a5 => ⟨fun h => bad (by omega) (hb.2 (.inr (.inr (.inr (.inr (.inr (by omega))))))), fun a6 => ⟨g + 1, ⟨by omega, by omega, snoc_all hg3 ?_⟩, by omega, hs.symm, by rw [iadd_eq (by omega)]; rfl⟩⟩⟩⟩⟩⟩
    rw [← Bool.not_eq_true, hb]; omega
  · rw [← Bool.not_eq_true, greatZ_t]
    rintro (h | ⟨i, hi, h⟩)
    · omega
    · rw [hg3 i (by omega)] at h; cases h
theorem sameD_t {x y : D} : sameD x y = true ↔ (x.fld 0).s = (y.fld 0).s ∧ (x.fld 1).i = (y.fld 1).i ∧ (x.fld 2).i = (y.fld 2).i ∧ (x.fld 3).i = (y.fld 3).i ∧ (x.fld 4).l.length = (y.fld 4).l.length ∧ ∀ j : Nat, j < (x.fld 4).l.length → (elt (x.fld 4).l (j : Int)).s = (elt (y.fld 4).l (j : Int)).s := by
  unfold sameD
  simp only [Bool.and_eq_true, decide_eq_true_eq, List.all_eq_true, List.mem_range]
theorem sameL_t {a b : List D} : sameL a b = true ↔ a.length = b.length ∧ ∀ i : Nat, i < a.length → sameD (elt a (i : Int)) (elt b (i : Int)) = true := by
  unfold sameL
  simp only [Bool.and_eq_true, decide_eq_true_eq, List.all_eq_true, List.mem_range]
theorem sameL_f {a b : List D} {i : Nat} (h : i < a.length) (h1 : ¬ sameD (elt a (i : Int)) (elt b (i : Int)) = true) : sameL a b = false := by
  rw [← Bool.not_eq_true, sameL_t]
  exact fun h2 => h1 (h2.2 i h)
theorem sameD_self (d : D) : sameD d d = true := sameD_t.2 ⟨rfl, rfl, rfl, rfl, rfl, fun _ _ => rfl⟩
theorem sameL_self (l : List D) : sameL l l = true := sameL_t.2 ⟨rfl, fun _ _ => sameD_self _⟩
theorem c14 : ConOK Tryd.prog 14 con14 := by
  refine conOK_of_exec (inl := noInl) noInl_ok (lp := lp14) (tb := tbN) (c := bodyOf Tryd.f14) ⟨tt_ok, tbN_ok⟩ mixed Tryd.func14 (by kernel_rfl) (by kernel_rfl) ?_
  intro dat hpre hwt
  have hw0 := wts2 hwt
  obtain ⟨d0, d1, rfl, w0, w1⟩ := hw0
  refine Eq.mpr (vc14 d0 d1) ?_
  have hl := wt_len w0
  have hel : ∀ i : Nat, i < d0.l.length → ((elt d0.l (i : Int)).fld 4).l.length ≤ maxLen := fun i hi => by
    have := (wt_sl w0).2.2 _ (elt_mem hi)
    obtain ⟨x0, r0, e0, _, x1, r1, e1, _, x2, r2, e2, _, x3, r3, e3, _, x4, r4, e4, ⟨l, rfl, h5, _⟩, _⟩ := this
    cases e1; cases e2; cases e3; cases e4
    rw [e0]
    exact h5
  simp only [ile_t, ile_f, ilt_t, ilt_f, ieq_t, ieq_f, bnot_t, bnot_f, band_t, band_f, true_and, and_true, lenI, seq_t, seq_f]
  generalize d0.l = a at *
  generalize d1.l = b at *
  refine ⟨fun h => ?_, fun h0 => ⟨⟨0, ⟨by omega, fun j hj => by omega⟩, rfl⟩, fun g hg => ⟨fun hlt => ⟨by omega, by omega, ?_⟩, fun hge => ?_⟩⟩⟩
  · rw [← Bool.not_eq_true, sameL_t]; omega
  · have no : ¬ sameD (elt a (g : Int)) (elt b (g : Int)) = true → sameL a b = false := sameL_f (by omega)
    have hd := @sameD_t (elt a (g : Int)) (elt b (g : Int))
    have hml := hel g (by omega)
    unfold maxLen at hml
    refine ⟨fun h => no fun h1 => h (hd.1 h1).1, fun a0 => ⟨fun h => no fun h1 => h (hd.1 h1).2.1, fun a1 => ⟨fun h => no fun h1 => h (hd.1 h1).2.2.1, fun a2 => ⟨fun h => no fun h1 => h (hd.1 h1).2.2.2.1, fun a3 => ⟨fun h => no fun h1 => h (by rw [(hd.1 h1).2.2.2.2.1]), fun a4 => ?_⟩⟩⟩⟩⟩
    refine ⟨⟨0, ⟨by omega, fun j hj => by omega⟩, rfl⟩, fun k hk => ⟨fun hkl => ⟨by omega, by omega, fun h => no fun h1 => h ((hd.1 h1).2.2.2.2.2 k (by omega)), fun h => ⟨k + 1, ⟨by omega, snoc_all hk.2 h⟩, by omega, by rw [iadd_eq (by omega)]; rfl⟩⟩, fun hkg => ⟨g + 1, ⟨by omega, snoc_all hg.2 (hd.2 ⟨a0, a1, a2, a3, by omega, fun j hj => hk.2 j (by omega)⟩)⟩, by omega, by rw [iadd_eq (by omega)]; rfl⟩⟩⟩
  · exact sameL_t.2 ⟨by omega, fun i hi => hg.2 i (by omega)⟩
end Go.Proofs.YtkfghnflbehecaaDoor
