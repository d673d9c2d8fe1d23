/- Part of the proof of the laws of this seat: contracts of its functions, for every input. -/
import Derived.Test.YtkjohnjhdfblcaaDoorWW
import Derived.Test.YtkjohnjhdfblcaaDoorWT
set_option linter.all false
namespace Go.Proofs.YtkjohnjhdfblcaaDoor
open Go Go.RX Go.Proofs
set_option maxRecDepth 100000
set_option linter.all false
set_option maxHeartbeats 4000000
theorem last_no {w : Lw} {l : List D} {c : Cs} (h : openZ c = false ∨ c.st < 2 ∨ 4 < c.st ∨ c.a0 ≠ 0 ∨ (dueZ w l c).ok = false) : lastZ w l c = ⟨0, false⟩ := by unfold lastZ; rw [if_pos h]
theorem last_yes {w : Lw} {l : List D} {c : Cs} (h : ¬ (openZ c = false ∨ c.st < 2 ∨ 4 < c.st ∨ c.a0 ≠ 0 ∨ (dueZ w l c).ok = false)) : lastZ w l c = if (laterZ l c.si 10).e = 0 then ⟨min ((dueZ w l c).d - 1) (laterZ l c.si 10).d, true⟩ else ⟨(dueZ w l c).d - 1, true⟩ := by unfold lastZ; rw [if_neg h]
theorem due_rng {w : Lw} {l : List D} {c : Cs} (h : (dueZ w l c).ok = true) : 0 ≤ (dueZ w l c).d ∧ (dueZ w l c).d < 795364 := by
  have h1 := due_st h
  rw [dueZ_yes (by omega)] at h ⊢
  simp only [decide_eq_true_eq] at h ⊢
  unfold laterZ at h ⊢
  split at h
  · cases h
  rename_i h2
  rw [if_neg h2]
  split at h
  · cases h
  rename_i h3
  rw [if_neg h3]
  have h2' : dayOk c.si = true := by simpa using h2
  rw [dayOk_t] at h2'
  exact (ltF_range h2'.1 h2'.2).1
theorem last_fin {w : Lw} {l : List D} {c : Cs} (h : openZ c = true) (h1 : 2 ≤ c.st) (h2 : c.st ≤ 4) (h3 : c.a0 = 0) (h4 : (dueZ w l c).ok = true) :
    ((laterZ l c.si 10).e = 0 → min (isub .i64 (dueZ w l c).d 1) (laterZ l c.si 10).d = (lastZ w l c).d ∧ (lastZ w l c).ok = true) ∧
    ((laterZ l c.si 10).e ≠ 0 → isub .i64 (dueZ w l c).d 1 = (lastZ w l c).d ∧ (lastZ w l c).ok = true) := by
  have := due_rng h4
  rw [last_yes (by simp [h, h3, h4]; omega), isub_eq (by omega)]
  exact ⟨fun h => by rw [if_pos h]; exact ⟨rfl, rfl⟩, fun h => by rw [if_neg h]; exact ⟨rfl, rfl⟩⟩
theorem tb40_ok : TabOK Tryd.prog tb40 := fun f con h => by
  unfold tb40 at h
  split at h
  · cases h; exact c26
  · cases h; exact c28
  · cases h; exact c58
  · cases h
theorem tb41_ok : TabOK Tryd.prog tb41 := fun f con h => by
  unfold tb41 at h
  split at h
  · cases h; exact c27
  · cases h; exact c29
  · cases h; exact c59
  · cases h
theorem c40 : ConOK Tryd.prog 40 con40 := by
  refine conOK_of_exec (inl := noInl) noInl_ok (lp := noLp) (tb := tb40) (c := bodyOf Tryd.f40) ⟨tt_ok, tb40_ok⟩ mixed Tryd.func40 (by kernel_rfl) (by kernel_rfl) ?_
  intro dat hpre hwt
  obtain ⟨d0, d1, d2, rfl, w0, w1, w2⟩ := wts3 hwt
  refine Eq.mpr (vc40 d0 d1 d2) ?_
  have hl : d1.l.length ≤ 1000000 := hpre
  simp only [ile_t, ile_f, ilt_t, ilt_f, ieq_t, ieq_f, bnot_t, bnot_f, band_t, band_f, true_and, and_true, lenI, lwOf_mk, csOf_mk, csOf_eta, lwOf_eta, Cs.eta, imin_eq]
  have q0 : (d2.fld 0).s = (csOf d2).id := rfl
  have q1 : (d2.fld 1).s = (csOf d2).pl := rfl
  have q2 : (d2.fld 2).s = (csOf d2).key := rfl
  have q3 : (d2.fld 3).i = (csOf d2).bg := rfl
  have q4 : (d2.fld 4).i = (csOf d2).si := rfl
  have q5 : (d2.fld 5).i = (csOf d2).st := rfl
  have q6 : (d2.fld 6).i = (csOf d2).ow := rfl
  have q7 : (d2.fld 7).i = (csOf d2).pa := rfl
  have q8 : (d2.fld 8).i = (csOf d2).ps := rfl
  have q9 : ((d2.fld 9).fld 0).i = (csOf d2).a0 := rfl
  have q10 : ((d2.fld 9).fld 1).i = (csOf d2).a1 := rfl
  have q11 : ((d2.fld 9).fld 2).i = (csOf d2).a2 := rfl
  have r0 : (d0.fld 0).l = (lwOf d0).ds := rfl
  have r1 : (d0.fld 1).l = (lwOf d0).fs := rfl
  have r2 : (d0.fld 2).i = (lwOf d0).lim := rfl
  simp only [q0, q1, q2, q3, q4, q5, q6, q7, q8, q9, q10, q11, r0, r1, r2, Cs.eta]
  clear q0 q1 q2 q3 q4 q5 q6 q7 q8 q9 q10 q11 r0 r1 r2
  generalize csOf d2 = C at *
  generalize lwOf d0 = W at *
  have no : (openZ C = false ∨ C.st < 2 ∨ 4 < C.st ∨ C.a0 ≠ 0 ∨ (dueZ W d1.l C).ok = false) → 0 = (lastZ W d1.l C).d ∧ (lastZ W d1.l C).ok = false := fun h => by rw [last_no h]; exact ⟨rfl, rfl⟩
  exact ⟨fun h => no (.inl h), fun h1 => ⟨fun h => no (.inr (.inl h)), fun h2 => ⟨fun h => no (.inr (.inr (.inl h))), fun h3 => ⟨fun h => no (.inr (.inr (.inr (.inl h)))), fun h4 => ⟨hl, fun h => no (.inr (.inr (.inr (.inr h)))), fun h5 => ⟨hl, last_fin h1 h2 h3 h4 h5⟩⟩⟩⟩⟩⟩
theorem c41 : ConOK Tryd.prog 41 con41 := by
  refine conOK_of_exec (inl := noInl) noInl_ok (lp := noLp) (tb := tb41) (c := bodyOf Tryd.f41) ⟨tt_ok, tb41_ok⟩ mixed Tryd.func41 (by kernel_rfl) (by kernel_rfl) ?_
  intro dat hpre hwt
  obtain ⟨d0, d1, d2, rfl, w0, w1, w2⟩ := wts3 hwt
  refine Eq.mpr (vc41 d0 d1 d2) ?_
  have hl : d1.l.length ≤ 1000000 := hpre
  simp only [ile_t, ile_f, ilt_t, ilt_f, ieq_t, ieq_f, bnot_t, bnot_f, band_t, band_f, true_and, and_true, lenI, lwOf_mk, csOf_mk, csOf_eta, lwOf_eta, Cs.eta, imin_eq]
  have q0 : (d2.fld 0).s = (csOf d2).id := rfl
  have q1 : (d2.fld 1).s = (csOf d2).pl := rfl
  have q2 : (d2.fld 2).s = (csOf d2).key := rfl
  have q3 : (d2.fld 3).i = (csOf d2).bg := rfl
  have q4 : (d2.fld 4).i = (csOf d2).si := rfl
  have q5 : (d2.fld 5).i = (csOf d2).st := rfl
  have q6 : (d2.fld 6).i = (csOf d2).ow := rfl
  have q7 : (d2.fld 7).i = (csOf d2).pa := rfl
  have q8 : (d2.fld 8).i = (csOf d2).ps := rfl
  have q9 : ((d2.fld 9).fld 0).i = (csOf d2).a0 := rfl
  have q10 : ((d2.fld 9).fld 1).i = (csOf d2).a1 := rfl
  have q11 : ((d2.fld 9).fld 2).i = (csOf d2).a2 := rfl
  have r0 : (d0.fld 0).l = (lwOf d0).ds := rfl
  have r1 : (d0.fld 1).l = (lwOf d0).fs := rfl
  have r2 : (d0.fld 2).i = (lwOf d0).lim := rfl
  simp only [q0, q1, q2, q3, q4, q5, q6, q7, q8, q9, q10, q11, r0, r1, r2, Cs.eta]
  clear q0 q1 q2 q3 q4 q5 q6 q7 q8 q9 q10 q11 r0 r1 r2
  generalize csOf d2 = C at *
  generalize lwOf d0 = W at *
  have no : (openZ C = false ∨ C.st < 2 ∨ 4 < C.st ∨ C.a0 ≠ 0 ∨ (dueZ W d1.l C).ok = false) → 0 = (lastZ W d1.l C).d ∧ (lastZ W d1.l C).ok = false := fun h => by rw [last_no h]; exact ⟨rfl, rfl⟩
  exact ⟨hl, fun h => no (.inr (.inr (.inr (.inr h)))), fun h5 => ⟨fun h => no (.inl h), fun h1 => ⟨fun h => no (.inr (.inl h)), fun h2 => ⟨fun h => no (.inr (.inr (.inl h))), fun h3 => ⟨fun h => no (.inr (.inr (.inr (.inl h)))), fun h4 => ⟨hl, last_fin h1 h2 h3 h4 h5⟩⟩⟩⟩⟩⟩
theorem c45 : ConOK Tryd.prog 45 con45 := by
  refine conOK_of_exec (inl := noInl) noInl_ok (lp := noLp) (tb := tbN) (c := bodyOf Tryd.f45) ⟨tt_ok, tbN_ok⟩ mixed Tryd.func45 (by kernel_rfl) (by kernel_rfl) ?_
  intro dat hpre hwt
  obtain ⟨d0, rfl, w0⟩ := wts1 hwt
  refine Eq.mpr (vc45 d0) ?_
  simp only [ile_t, ile_f, ilt_t, ilt_f, ieq_t, ieq_f, bnot_t, bnot_f, band_t, band_f, true_and, and_true, lenI]
  have e : (d0.i < 1 ∨ 5 < d0.i) → [] = groundZ d0.i := fun h => by unfold groundZ; rw [if_neg (by omega), if_neg (by omega), if_neg (by omega), if_neg (by omega), if_neg (by omega)]
  refine ⟨fun h => e (.inl h), fun h1 => ⟨fun h => e (.inr h), fun h2 => ?_⟩⟩
  generalize d0.i = g at *
  rw [isub_eq (by omega)]
  refine ⟨by omega, ?_⟩
  obtain rfl | rfl | rfl | rfl | rfl : g = 1 ∨ g = 2 ∨ g = 3 ∨ g = 4 ∨ g = 5 := by omega
  all_goals rfl
theorem c60 : ConOK Tryd.prog 60 con60 := by
  refine conOK_of_exec (inl := noInl) noInl_ok (lp := noLp) (tb := tbN) (c := bodyOf Tryd.f60) ⟨tt_ok, tbN_ok⟩ mixed Tryd.func60 (by kernel_rfl) (by kernel_rfl) ?_
  intro dat hpre hwt
  obtain rfl := wts0 hwt
  refine Eq.mpr (vc60) ?_
  simp only [ile_t, ile_f, ilt_t, ilt_f, ieq_t, ieq_f, bnot_t, bnot_f, band_t, band_f, true_and, and_true, lenI]
theorem tb61_ok : TabOK Tryd.prog tb61 := fun f con h => by
  unfold tb61 at h
  split at h
  · cases h; exact c19
  · cases h; exact c28
  · cases h; exact c42
  · cases h; exact c69
  · cases h
theorem c61 : ConOK Tryd.prog 61 con61 := by
  refine conOK_of_exec (inl := noInl) noInl_ok (lp := noLp) (tb := tb61) (c := bodyOf Tryd.f61) ⟨tt_ok, tb61_ok⟩ mixed Tryd.func61 (by kernel_rfl) (by kernel_rfl) ?_
  intro dat hpre hwt
  obtain ⟨d0, d1, d2, rfl, w0, w1, w2⟩ := wts3 hwt
  refine Eq.mpr (vc61 d0 d1 d2) ?_
  simp only [ile_t, ile_f, ilt_t, ilt_f, ieq_t, ieq_f, bnot_t, bnot_f, band_t, band_f, true_and, and_true, lenI, lwOf_mk, csOf_mk, csOf_eta, lwOf_eta, Cs.eta, imin_eq]
  have q0 : (d1.fld 0).s = (csOf d1).id := rfl
  have q1 : (d1.fld 1).s = (csOf d1).pl := rfl
  have q2 : (d1.fld 2).s = (csOf d1).key := rfl
  have q3 : (d1.fld 3).i = (csOf d1).bg := rfl
  have q4 : (d1.fld 4).i = (csOf d1).si := rfl
  have q5 : (d1.fld 5).i = (csOf d1).st := rfl
  have q6 : (d1.fld 6).i = (csOf d1).ow := rfl
  have q7 : (d1.fld 7).i = (csOf d1).pa := rfl
  have q8 : (d1.fld 8).i = (csOf d1).ps := rfl
  have q9 : ((d1.fld 9).fld 0).i = (csOf d1).a0 := rfl
  have q10 : ((d1.fld 9).fld 1).i = (csOf d1).a1 := rfl
  have q11 : ((d1.fld 9).fld 2).i = (csOf d1).a2 := rfl
  have r0 : (d0.fld 0).l = (lwOf d0).ds := rfl
  have r1 : (d0.fld 1).l = (lwOf d0).fs := rfl
  have r2 : (d0.fld 2).i = (lwOf d0).lim := rfl
  simp only [q0, q1, q2, q3, q4, q5, q6, q7, q8, q9, q10, q11, r0, r1, r2, Cs.eta]
  clear q0 q1 q2 q3 q4 q5 q6 q7 q8 q9 q10 q11 r0 r1 r2
  generalize csOf d1 = C at *
  generalize lwOf d0 = W at *
  by_cases h0 : lawZ W = 0
  · unfold decE
    rw [if_neg (by simp [h0])]
    refine ⟨fun h => absurd h0 h, fun _ => ⟨fun h => by rw [if_pos h], fun h1 => ?_⟩⟩
    rw [if_neg (by simp [h1])]
    refine ⟨fun h => by rw [if_pos h], fun h2 => ?_⟩
    rw [if_neg (by simp [h2])]
    refine ⟨fun h => by rw [if_pos (.inl h)], fun h3 => ⟨fun h => by rw [if_pos (.inr (.inl h))], fun h4 => ⟨fun h => by rw [if_pos (.inr (.inr (.inl h)))], fun h5 => ⟨fun h => by rw [if_pos (.inr (.inr (.inr (.inl h))))], fun h6 => ⟨fun h => by rw [if_pos (.inr (.inr (.inr (.inr (.inl h)))))], fun h7 => ⟨fun h => by rw [if_pos (.inr (.inr (.inr (.inr (.inr h)))))], fun h8 => ?_⟩⟩⟩⟩⟩⟩
    rw [if_neg (by simp [h3, h4, h5, h6]; omega)]
    exact ⟨fun h => by rw [if_pos (.inl h)], fun h9 => ⟨fun h => by rw [if_pos (.inr h)], fun h => by rw [if_neg (by omega)]⟩⟩
  · unfold decE
    rw [if_pos h0]
    exact ⟨fun _ => rfl, fun h => absurd h h0⟩
end Go.Proofs.YtkjohnjhdfblcaaDoor
