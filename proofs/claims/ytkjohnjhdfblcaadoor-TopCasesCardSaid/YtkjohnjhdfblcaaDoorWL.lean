/- Part of the proof of the laws of this seat: contracts of its functions, for every input. -/
import Derived.Test.YtkjohnjhdfblcaaDoorWG
set_option linter.all false
namespace Go.Proofs.YtkjohnjhdfblcaaDoor
open Go Go.RX Go.Proofs
set_option maxRecDepth 100000
set_option linter.all false
theorem tb26_ok : TabOK Tryd.prog tb26 := fun f con h => by
  unfold tb26 at h
  split at h
  · cases h; exact c19
  · cases h; exact c28
  · cases h; exact c58
  · cases h
theorem tb68_ok : TabOK Tryd.prog tb68 := fun f con h => by
  unfold tb68 at h
  split at h
  · cases h; exact c54
  · cases h
theorem tb30_ok : TabOK Tryd.prog tb30 := fun f con h => by
  unfold tb30 at h
  split at h
  · cases h; exact c28
  · cases h; exact c55
  · cases h
theorem tb31_ok : TabOK Tryd.prog tb31 := fun f con h => by
  unfold tb31 at h
  split at h
  · cases h; exact c29
  · cases h
theorem lawZ_0 {w : Lw} (h : lawZ w = 0) : w.ds.length = 4 ∧ w.fs.length = 4 ∧ (∀ j, j < 4 → 1 ≤ ei w.ds j ∧ ei w.ds j ≤ 4096) ∧ (∀ j, j < 4 → 0 ≤ ei w.fs j ∧ ei w.fs j ≤ 2147483648) ∧ 1 ≤ w.lim ∧ w.lim ≤ 795363 := by
  unfold lawZ at h
  split at h
  · cases h
  rename_i h1
  split at h
  · cases h
  rename_i h2
  split at h
  · cases h
  rename_i h3
  split at h
  · cases h
  rename_i h4
  refine ⟨by omega, by omega, fun j hj => ?_, fun j hj => ?_, by omega, by omega⟩
  · have h5 : dBad w.ds j = false := by
      cases hb : dBad w.ds j with
      | false => rfl
      | true => exact absurd (bad4_t hj hb) h2
    simp only [dBad, Bool.or_eq_false_iff, decide_eq_false_iff_not] at h5
    omega
  · have h5 : fBad w.fs j = false := by
      cases hb : fBad w.fs j with
      | false => rfl
      | true => exact absurd (bad4_t hj hb) h3
    simp only [fBad, Bool.or_eq_false_iff, decide_eq_false_iff_not] at h5
    omega
theorem fewZ_t {w : Lw} {l : List D} {c : Cs} : (fewZ w l c = true) = (w.ds.length ≤ 8 ∧ w.fs.length ≤ 8 ∧ l.length ≤ 20 ∧ c.id.length ≤ 80 ∧ c.pl.length ≤ 40 ∧ c.key.length ≤ 80) := by simp [fewZ]
theorem fewZ_f {w : Lw} {l : List D} {c : Cs} : (fewZ w l c = false) = ¬ (w.ds.length ≤ 8 ∧ w.fs.length ≤ 8 ∧ l.length ≤ 20 ∧ c.id.length ≤ 80 ∧ c.pl.length ≤ 40 ∧ c.key.length ≤ 80) := by rw [← fewZ_t]; simp
theorem smallZ_t {w : Lw} {l : List D} : (smallZ w l = true) = (w.ds.length ≤ 10 ∧ w.fs.length ≤ 10 ∧ l.length ≤ 60) := by simp [smallZ]
theorem smallZ_f {w : Lw} {l : List D} : (smallZ w l = false) = ¬ (w.ds.length ≤ 10 ∧ w.fs.length ≤ 10 ∧ l.length ≤ 60) := by rw [← smallZ_t]; simp
theorem c17 : ConOK Tryd.prog 17 con17 := by
  refine conOK_of_exec (inl := noInl) noInl_ok (lp := noLp) (tb := tbN) (c := bodyOf Tryd.f17) ⟨tt_ok, tbN_ok⟩ mixed Tryd.func17 (by kernel_rfl) (by kernel_rfl) ?_
  intro dat hpre hwt
  obtain ⟨d0, d1, d2, rfl, w0, w1, w2⟩ := wts3 hwt
  refine Eq.mpr (vc17 d0 d1 d2) ?_
  simp only [ile_t, ile_f, ilt_t, ilt_f, ieq_t, ieq_f, bnot_t, bnot_f, band_t, band_f, true_and, and_true, lenI, lenS, lenI, fewZ_f]
  have q0 : (lwOf d0).ds = (d0.fld 0).l := rfl
  have q1 : (lwOf d0).fs = (d0.fld 1).l := rfl
  have q2 : (csOf d2).id = (d2.fld 0).s := rfl
  have q3 : (csOf d2).pl = (d2.fld 1).s := rfl
  have q4 : (csOf d2).key = (d2.fld 2).s := rfl
  rw [q0, q1, q2, q3, q4]
  refine ⟨fun h0 => ⟨fun h1 => ⟨fun h2 => ⟨fun h3 => ⟨fun h4 => ?_, fun h => by omega⟩, fun h => by omega⟩, fun h => by omega⟩, fun h => by omega⟩, fun h => by omega⟩
  refine bool_eq ?_
  rw [ile_t, fewZ_t, q0, q1, q2, q3, q4]
  omega
theorem c34 : ConOK Tryd.prog 34 con34 := by
  refine conOK_of_exec (inl := noInl) noInl_ok (lp := noLp) (tb := tbN) (c := bodyOf Tryd.f34) ⟨tt_ok, tbN_ok⟩ mixed Tryd.func34 (by kernel_rfl) (by kernel_rfl) ?_
  intro dat hpre hwt
  obtain ⟨d0, d1, rfl, w0, w1⟩ := wts2 hwt
  refine Eq.mpr (vc34 d0 d1) ?_
  simp only [ile_t, ile_f, ilt_t, ilt_f, ieq_t, ieq_f, bnot_t, bnot_f, band_t, band_f, true_and, and_true, lenI, lenS, lenI, smallZ_f]
  have q0 : (lwOf d0).ds = (d0.fld 0).l := rfl
  have q1 : (lwOf d0).fs = (d0.fld 1).l := rfl
  rw [q0, q1]
  refine ⟨fun h0 => ⟨fun h1 => ?_, fun h => by omega⟩, fun h => by omega⟩
  refine bool_eq ?_
  rw [ile_t, smallZ_t, q0, q1]
  omega
theorem dueZ_no {w : Lw} {l : List D} {c : Cs} (h : lawZ w ≠ 0 ∨ c.st < 1 ∨ 4 < c.st ∨ c.a0 = 1) : dueZ w l c = ⟨0, false⟩ := by unfold dueZ; rw [if_pos h]
theorem dueZ_yes {w : Lw} {l : List D} {c : Cs} (h : ¬ (lawZ w ≠ 0 ∨ c.st < 1 ∨ 4 < c.st ∨ c.a0 = 1)) : dueZ w l c = ⟨(laterZ l c.si (ei w.ds (c.st - 1).toNat)).d, decide ((laterZ l c.si (ei w.ds (c.st - 1).toNat)).e = 0)⟩ := by unfold dueZ; rw [if_neg h]
theorem c26 : ConOK Tryd.prog 26 con26 := by
  refine conOK_of_exec (inl := noInl) noInl_ok (lp := noLp) (tb := tb26) (c := bodyOf Tryd.f26) ⟨tt_ok, tb26_ok⟩ mixed Tryd.func26 (by kernel_rfl) (by kernel_rfl) ?_
  intro dat hpre hwt
  obtain ⟨d0, d1, d2, rfl, w0, w1, w2⟩ := wts3 hwt
  refine Eq.mpr (vc26 d0 d1 d2) ?_
  have hl : d1.l.length ≤ 1000000 := hpre
  simp only [ile_t, ile_f, ilt_t, ilt_f, ieq_t, ieq_f, bnot_t, bnot_f, band_t, band_f, true_and, and_true, lenI, lwOf_mk, csOf_mk, csOf_eta, lwOf_eta, openZ_t, openZ_f]
  have q5 : (csOf d2).st = (d2.fld 5).i := rfl
  have q9 : (csOf d2).a0 = ((d2.fld 9).fld 0).i := rfl
  have q4 : (csOf d2).si = (d2.fld 4).i := rfl
  have no : (lawZ (lwOf d0) ≠ 0 ∨ (csOf d2).st < 1 ∨ 4 < (csOf d2).st ∨ (csOf d2).a0 = 1) → 0 = (dueZ (lwOf d0) d1.l (csOf d2)).d ∧ (dueZ (lwOf d0) d1.l (csOf d2)).ok = false := fun h => by rw [dueZ_no h]; exact ⟨rfl, rfl⟩
  refine ⟨fun h => no (.inl h), fun h0 => ⟨fun h => no (by omega), fun h1 => ⟨fun h => no (by omega), fun h2 => ⟨fun h => no (by omega), fun h3 => ?_⟩⟩⟩⟩
  obtain ⟨w1, _⟩ := lawZ_0 h0
  have w1' : (d0.fld 0).l.length = 4 := w1
  have e1 : isub .i64 (d2.fld 5).i 1 = (((csOf d2).st - 1).toNat : Int) := by rw [isub_eq (by omega), q5]; omega
  rw [e1, dueZ_yes (by omega), q4]
  refine ⟨by omega, hl, rfl, ?_⟩
  refine bool_eq ?_
  rw [ieq_t, decide_eq_true_eq]
  exact Iff.rfl
theorem busZ_t {l : List D} {d : Int} : (busZ l d = true) = (dayOk d = true ∧ d % 7 < 5 ∧ inCal l l.length d = false) := by simp [busZ]
theorem busZ_f {l : List D} {d : Int} : (busZ l d = false) = ¬ (dayOk d = true ∧ d % 7 < 5 ∧ inCal l l.length d = false) := by rw [← busZ_t]; simp
theorem inCal_mono {l : List D} {d : Int} {k : Nat} (hk : k < l.length) (h : ei l k = d) : inCal l l.length d = true := by
  unfold inCal
  rw [List.take_length, List.any_eq_true]
  refine ⟨l[k], List.getElem_mem hk, ?_⟩
  unfold ei at h
  rw [elt_get hk] at h
  simp [h]
theorem c68 : ConOK Tryd.prog 68 con68 := by
  refine conOK_of_exec (inl := noInl) noInl_ok (lp := lp68) (tb := tb68) (c := bodyOf Tryd.f68) ⟨tt_ok, tb68_ok⟩ mixed Tryd.func68 (by kernel_rfl) (by kernel_rfl) ?_
  intro dat hpre hwt
  obtain ⟨d0, d1, rfl, w0, w1⟩ := wts2 hwt
  refine Eq.mpr (vc68 d0 d1) ?_
  have hl := le_wt w0
  simp only [ile_t, ile_f, ilt_t, ilt_f, ieq_t, ieq_f, bnot_t, bnot_f, band_t, band_f, true_and, and_true, lenI, busZ_t, busZ_f]
  refine ⟨fun h => by simp [h], fun h0 => ⟨by decide, ?_⟩⟩
  have h0' := h0
  rw [dayOk_t] at h0'
  have e : irem d1.i 7 = d1.i % 7 := irem_eq (by omega)
  rw [e]
  refine ⟨fun h => by omega, fun h1 => ⟨⟨0, ⟨by omega, rfl⟩, rfl⟩, fun g hg => ⟨fun hlt => ⟨by omega, fun h => ?_, fun h => ⟨g + 1, ⟨by omega, ?_⟩, by omega, by rw [iadd_eq (by omega)]; rfl⟩⟩, fun hge => ⟨h0, by omega, ?_⟩⟩⟩⟩
  · rintro ⟨_, _, h3⟩
    rw [inCal_mono (k := g) (by omega) h] at h3
    cases h3
  · rw [inCal_succ (by omega), hg.2, Bool.false_or, beq_eq_false_iff_ne]
    exact h
  · rw [show d0.l.length = g by omega]; exact hg.2
theorem ltF_day {l : List D} {d n : Int} (h : dayOk d = true) (hn : ¬ n ≤ 0) : ltF l (795365 - d).toNat d n = stepR l (d + 1) n := by
  rw [dayOk_t] at h
  rw [ltF_step h.1 h.2, if_neg hn]
  rfl
theorem stepR_no {l : List D} {d m : Int} (h : dayOk d = false) : stepR l d m = ⟨0, 12⟩ := by unfold stepR; rw [if_pos h]
theorem stepR_bus {l : List D} {d m : Int} (h : busZ l d = true) : stepR l d m = ltF l (795365 - d).toNat d (m - 1) := by
  rw [busZ_t] at h
  unfold stepR; rw [if_neg (by simp [h.1]), if_pos h.2]
theorem stepR_skip {l : List D} {d m : Int} (h : dayOk d = true) (hb : busZ l d = false) (hm : ¬ m ≤ 0) : stepR l d m = stepR l (d + 1) m := by
  rw [busZ_f] at hb
  conv => lhs; unfold stepR
  rw [if_neg (by simp [h]), if_neg (fun h2 => hb ⟨h, h2⟩), ltF_day h hm]
theorem tb59_ok : TabOK Tryd.prog tb59 := fun f con h => by
  unfold tb59 at h
  split at h
  · cases h; exact c54
  · cases h; exact c68
  · cases h
theorem c59 : ConOK Tryd.prog 59 con59 := by
  refine conOK_of_exec (inl := noInl) noInl_ok (lp := lp59) (tb := tb59) (c := bodyOf Tryd.f59) ⟨tt_ok, tb59_ok⟩ mixed Tryd.func59 (by kernel_rfl) (by kernel_rfl) ?_
  intro dat hpre hwt
  obtain ⟨d0, d1, d2, rfl, w0, w1, w2⟩ := wts3 hwt
  refine Eq.mpr (vc59 d0 d1 d2) ?_
  have hl : d0.l.length ≤ 1000000 := hpre
  have hd := wt_i64 w1
  have hn := wt_i64 w2
  simp only [ile_t, ile_f, ilt_t, ilt_f, ieq_t, ieq_f, bnot_t, bnot_f, band_t, band_f, true_and, and_true, lenI]
  refine ⟨fun h => ?_, fun h0 => ⟨fun h => ?_, fun h1 => ⟨fun h => ?_, fun h2 => ?_⟩⟩⟩
  · have : laterZ d0.l d1.i d2.i = ⟨0, 12⟩ := by unfold laterZ; rw [if_pos h]
    rw [this]; exact ⟨rfl, rfl⟩
  · have : laterZ d0.l d1.i d2.i = ⟨0, 1⟩ := by unfold laterZ; rw [if_neg (by simp [h0]), if_pos (.inl h)]
    rw [this]; exact ⟨rfl, rfl⟩
  · have : laterZ d0.l d1.i d2.i = ⟨0, 1⟩ := by unfold laterZ; rw [if_neg (by simp [h0]), if_pos (.inr h)]
    rw [this]; exact ⟨rfl, rfl⟩
  have hL : laterZ d0.l d1.i d2.i = ltF d0.l (795365 - d1.i).toNat d1.i d2.i := by unfold laterZ; rw [if_neg (by simp [h0]), if_neg (by omega)]
  rw [hL]
  refine ⟨⟨(0, d1.i), ⟨by simpa using h1, h0, by simp⟩, rfl, rfl⟩, fun g hg => ⟨fun hlt => ?_, fun hge => ?_⟩⟩
  · obtain ⟨k, d⟩ := g
    obtain ⟨g1, g2, g3⟩ := hg
    simp only at g1 g2 g3 hlt ⊢
    have g2' := g2
    rw [dayOk_t] at g2'
    have e1 : iadd .i64 d 1 = d + 1 := iadd_eq (by omega)
    rw [e1]
    rw [ltF_day g2 (by omega)] at g3
    refine ⟨⟨d + 1, ⟨by omega, by omega, rfl⟩, rfl⟩, fun x hx => ?_⟩
    obtain ⟨x1, x2, x3⟩ := hx
    rw [x3.trans g3 |>.symm] at *
    refine ⟨fun hd => ⟨fun hb => ?_, fun hb => ⟨fun hd' => ?_, fun _ => ?_⟩⟩, fun hd => ⟨fun _ => ?_, fun hd' => ?_⟩⟩
    · have hd2 := hd
      rw [dayOk_t] at hd2
      exact ⟨x + 1, ⟨by omega, by omega, by rw [← stepR_skip hd hb (by omega), x3]⟩, by omega, iadd_eq (by omega)⟩
    · rw [hd] at hd'; cases hd'
    · refine ⟨(k + 1, x), ⟨by simp only; omega, hd, ?_⟩, by simp only; omega, rfl, by rw [iadd_eq (by omega)]; rfl⟩
      simp only
      rw [stepR_bus hb, show d2.i - ((k + 1 : Nat) : Int) = d2.i - (k : Int) - 1 by omega]
    · rw [stepR_no hd]; exact ⟨rfl, rfl⟩
    · rw [hd] at hd'; cases hd'
  · obtain ⟨k, d⟩ := g
    obtain ⟨g1, g2, g3⟩ := hg
    simp only at g1 g2 g3 hge ⊢
    rw [dayOk_t] at g2
    rw [← g3, ltF_step g2.1 g2.2, if_pos (by omega)]
    exact ⟨rfl, rfl⟩
theorem c32 : ConOK Tryd.prog 32 con32 := by
  refine conOK_of_exec (inl := noInl) noInl_ok (lp := noLp) (tb := tb32) (c := bodyOf Tryd.f32) ⟨tt_ok, tb30_ok⟩ mixed Tryd.func32 (by kernel_rfl) (by kernel_rfl) ?_
  intro dat hpre hwt
  obtain ⟨d0, rfl, w0⟩ := wts1 hwt
  refine Eq.mpr (vc32 d0) ?_
  simp only [↓csEq, ile_t, ile_f, ilt_t, ilt_f, ieq_t, ieq_f, bnot_t, bnot_f, band_t, band_f, true_and, and_true, lenI, csOf_mk, csOf_eta]
  refine ⟨fun h => ?_, fun h => ?_⟩
  · have : waiZ (csOf d0) = ⟨csOf d0, 28⟩ := by unfold waiZ; rw [if_pos h]
    rw [this]; exact ⟨rfl, rfl⟩
  · unfold waiZ; rw [if_neg (by simp [h])]; exact ⟨rfl, rfl⟩
theorem c33 : ConOK Tryd.prog 33 con33 := by
  refine conOK_of_exec (inl := noInl) noInl_ok (lp := noLp) (tb := tb33) (c := bodyOf Tryd.f33) ⟨tt_ok, tb31_ok⟩ mixed Tryd.func33 (by kernel_rfl) (by kernel_rfl) ?_
  intro dat hpre hwt
  obtain ⟨d0, rfl, w0⟩ := wts1 hwt
  refine Eq.mpr (vc33 d0) ?_
  simp only [↓csEq, ile_t, ile_f, ilt_t, ilt_f, ieq_t, ieq_f, bnot_t, bnot_f, band_t, band_f, true_and, and_true, lenI, csOf_mk, csOf_eta]
  refine ⟨fun h => ?_, fun h => ?_⟩
  · have : waiZ (csOf d0) = ⟨csOf d0, 28⟩ := by unfold waiZ; rw [if_pos h]
    rw [this]; exact ⟨rfl, rfl⟩
  · unfold waiZ; rw [if_neg (by simp [h])]; exact ⟨rfl, rfl⟩
theorem payZ_28 {c : Cs} {n : Int} (h : openZ c = false) : payZ c n = ⟨c, 0, 28⟩ := by unfold payZ; rw [if_pos h]
theorem payZ_13 {c : Cs} {n : Int} (h : openZ c = true) (h2 : n < 1 ∨ 1125899906842624 < n ∨ amtOk c.ow = false ∨ amtOk c.pa = false) : payZ c n = ⟨c, 0, 13⟩ := by unfold payZ; rw [if_neg (by simp [h]), if_pos h2]
theorem payZ_r {c : Cs} {n : Int} (h : openZ c = true) (h2 : ¬ (n < 1 ∨ 1125899906842624 < n ∨ amtOk c.ow = false ∨ amtOk c.pa = false)) : payZ c n = if n < c.ow - c.pa then ⟨⟨c.id, c.pl, c.key, c.bg, c.si, c.st, c.ow, c.pa + n, c.ps, c.a0, c.a1, c.a2⟩, 0, 0⟩
  else ⟨⟨c.id, c.pl, c.key, c.bg, c.si, 6, c.ow, c.pa + max (c.ow - c.pa) 0, c.ps, c.a0, c.a1, c.a2⟩, n - max (c.ow - c.pa) 0, 0⟩ := by unfold payZ; rw [if_neg (by simp [h]), if_neg h2]
theorem c30 : ConOK Tryd.prog 30 con30 := by
  refine conOK_of_exec (inl := noInl) noInl_ok (lp := noLp) (tb := tb30) (c := bodyOf Tryd.f30) ⟨tt_ok, tb30_ok⟩ mixed Tryd.func30 (by kernel_rfl) (by kernel_rfl) ?_
  intro dat hpre hwt
  obtain ⟨d0, d1, rfl, w0, w1⟩ := wts2 hwt
  refine Eq.mpr (vc30 d0 d1) ?_
  have hn := wt_i64 w1
  simp only [↓csEq, ile_t, ile_f, ilt_t, ilt_f, ieq_t, ieq_f, bnot_t, bnot_f, band_t, band_f, true_and, and_true, lenI, csOf_mk, csOf_eta, imax_eq]
  have c13 : openZ (csOf d0) = true → (d1.i < 1 ∨ 1125899906842624 < d1.i ∨ amtOk (csOf d0).ow = false ∨ amtOk (csOf d0).pa = false) → csOf d0 = (payZ (csOf d0) d1.i).c ∧ 0 = (payZ (csOf d0) d1.i).l ∧ 13 = (payZ (csOf d0) d1.i).e := fun h h2 => by rw [payZ_13 h h2]; exact ⟨rfl, rfl, rfl⟩
  refine ⟨fun h => by rw [payZ_28 h]; exact ⟨rfl, rfl, rfl⟩, fun h => ⟨fun h1 => c13 h (.inl h1), fun h1 => ⟨fun h2 => c13 h (.inr (.inl h2)), fun h2 => ⟨fun h3 => c13 h (.inr (.inr (.inl h3))), fun h3 => ⟨fun h4 => c13 h (.inr (.inr (.inr h4))), fun h4 => ?_⟩⟩⟩⟩⟩
  have h3' : amtOk (csOf d0).ow = true := h3
  have h4' : amtOk (csOf d0).pa = true := h4
  rw [payZ_r h (by simp [h3', h4']; omega)]
  have q6 : (csOf d0).ow = (d0.fld 6).i := rfl
  have q7 : (csOf d0).pa = (d0.fld 7).i := rfl
  rw [amtOk_t] at h3 h4
  have e1 : isub .i64 (d0.fld 6).i (d0.fld 7).i = (d0.fld 6).i - (d0.fld 7).i := isub_eq (by omega)
  rw [e1]
  refine ⟨fun hlt => ?_, fun hge => ?_⟩
  · have e2 : iadd .i64 (d0.fld 7).i d1.i = (d0.fld 7).i + d1.i := iadd_eq (by omega)
    rw [if_pos (by omega), e2]; exact ⟨rfl, rfl, rfl⟩
  · have e2 : iadd .i64 (d0.fld 7).i (max ((d0.fld 6).i - (d0.fld 7).i) 0) = (d0.fld 7).i + max ((d0.fld 6).i - (d0.fld 7).i) 0 := iadd_eq (by omega)
    have e3 : isub .i64 d1.i (max ((d0.fld 6).i - (d0.fld 7).i) 0) = d1.i - max ((d0.fld 6).i - (d0.fld 7).i) 0 := isub_eq (by omega)
    rw [if_neg (by omega), e2, e3]; exact ⟨rfl, rfl, rfl⟩
theorem c31 : ConOK Tryd.prog 31 con31 := by
  refine conOK_of_exec (inl := noInl) noInl_ok (lp := noLp) (tb := tb31) (c := bodyOf Tryd.f31) ⟨tt_ok, tb31_ok⟩ mixed Tryd.func31 (by kernel_rfl) (by kernel_rfl) ?_
  intro dat hpre hwt
  obtain ⟨d0, d1, rfl, w0, w1⟩ := wts2 hwt
  refine Eq.mpr (vc31 d0 d1) ?_
  have hn := wt_i64 w1
  simp only [↓csEq, ile_t, ile_f, ilt_t, ilt_f, ieq_t, ieq_f, bnot_t, bnot_f, band_t, band_f, true_and, and_true, lenI, csOf_mk, csOf_eta, imax_eq]
  have q6 : (csOf d0).ow = (d0.fld 6).i := rfl
  have q7 : (csOf d0).pa = (d0.fld 7).i := rfl
  have c13 : openZ (csOf d0) = true → (d1.i < 1 ∨ 1125899906842624 < d1.i ∨ amtOk (csOf d0).ow = false ∨ amtOk (csOf d0).pa = false) → csOf d0 = (payZ (csOf d0) d1.i).c ∧ 0 = (payZ (csOf d0) d1.i).l ∧ 13 = (payZ (csOf d0) d1.i).e := fun h h2 => by rw [payZ_13 h h2]; exact ⟨rfl, rfl, rfl⟩
  refine ⟨fun h => by rw [payZ_28 h]; exact ⟨rfl, rfl, rfl⟩, fun h => ⟨fun h1 => c13 h (.inl h1), fun h1 => ⟨fun h2 => c13 h (.inr (.inl h2)), fun h2 => ⟨fun h3 => c13 h (.inr (.inr (.inl (by rw [amtOk_f]; omega)))), fun h3 => ⟨fun h4 => c13 h (.inr (.inr (.inl (by rw [amtOk_f]; omega)))), fun h4 => ⟨fun h5 => c13 h (.inr (.inr (.inr (by rw [amtOk_f]; omega)))), fun h5 => ⟨fun h6 => c13 h (.inr (.inr (.inr (by rw [amtOk_f]; omega)))), fun h6 => ?_⟩⟩⟩⟩⟩⟩⟩
  have h3' : amtOk (csOf d0).ow = true := by rw [amtOk_t]; omega
  have h4' : amtOk (csOf d0).pa = true := by rw [amtOk_t]; omega
  rw [payZ_r h (by simp [h3', h4']; omega)]
  have e1 : isub .i64 (d0.fld 6).i (d0.fld 7).i = (d0.fld 6).i - (d0.fld 7).i := isub_eq (by omega)
  rw [e1]
  refine ⟨fun hlt => ?_, fun hge => ⟨fun hle => ?_, fun hgt => ?_⟩⟩
  · have e2 : iadd .i64 (d0.fld 7).i d1.i = (d0.fld 7).i + d1.i := iadd_eq (by omega)
    rw [if_pos (by omega), e2]; exact ⟨rfl, rfl, rfl⟩
  · rw [if_neg (by omega), show max ((csOf d0).ow - (csOf d0).pa) 0 = 0 by omega, Int.add_zero, Int.sub_zero]; exact ⟨rfl, rfl, rfl⟩
  · have e3 : isub .i64 d1.i ((d0.fld 6).i - (d0.fld 7).i) = d1.i - ((d0.fld 6).i - (d0.fld 7).i) := isub_eq (by omega)
    rw [if_neg (by omega), e3, show max ((csOf d0).ow - (csOf d0).pa) 0 = (csOf d0).ow - (csOf d0).pa by omega, show (csOf d0).pa + ((csOf d0).ow - (csOf d0).pa) = (csOf d0).ow by omega]; exact ⟨rfl, rfl, rfl⟩
theorem tb27_ok : TabOK Tryd.prog tb27 := fun f con h => by
  unfold tb27 at h
  split at h
  · cases h; exact c20
  · cases h; exact c59
  · cases h
theorem c27 : ConOK Tryd.prog 27 con27 := by
  refine conOK_of_exec (inl := noInl) noInl_ok (lp := noLp) (tb := tb27) (c := bodyOf Tryd.f27) ⟨tt_ok, tb27_ok⟩ mixed Tryd.func27 (by kernel_rfl) (by kernel_rfl) ?_
  intro dat hpre hwt
  obtain ⟨d0, d1, d2, rfl, w0, w1, w2⟩ := wts3 hwt
  refine Eq.mpr (vc27 d0 d1 d2) ?_
  have hl : d1.l.length ≤ 1000000 := hpre
  simp only [ile_t, ile_f, ilt_t, ilt_f, ieq_t, ieq_f, bnot_t, bnot_f, band_t, band_f, true_and, and_true, lenI, lwOf_mk, csOf_mk, csOf_eta, lwOf_eta, openZ_t, openZ_f]
  have q5 : (csOf d2).st = (d2.fld 5).i := rfl
  have q9 : (csOf d2).a0 = ((d2.fld 9).fld 0).i := rfl
  have q4 : (csOf d2).si = (d2.fld 4).i := rfl
  have no : (lawZ (lwOf d0) ≠ 0 ∨ (csOf d2).st < 1 ∨ 4 < (csOf d2).st ∨ (csOf d2).a0 = 1) → 0 = (dueZ (lwOf d0) d1.l (csOf d2)).d ∧ (dueZ (lwOf d0) d1.l (csOf d2)).ok = false := fun h => by rw [dueZ_no h]; exact ⟨rfl, rfl⟩
  refine ⟨fun h => no (.inl h), fun h0 => ⟨fun h => no (by omega), fun h1 => ⟨fun h => no (by omega), fun h2 => ⟨fun h => no (by omega), fun h3 => ?_⟩⟩⟩⟩
  obtain ⟨w1, _⟩ := lawZ_0 h0
  have w1' : (d0.fld 0).l.length = 4 := w1
  have e1 : isub .i64 (d2.fld 5).i 1 = (((csOf d2).st - 1).toNat : Int) := by rw [isub_eq (by omega), q5]; omega
  rw [e1, dueZ_yes (by omega), q4]
  refine ⟨by omega, hl, rfl, ?_⟩
  refine bool_eq ?_
  rw [ieq_t, decide_eq_true_eq]
  exact Iff.rfl
end Go.Proofs.YtkjohnjhdfblcaaDoor
