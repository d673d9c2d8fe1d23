/- Part of the proof of the laws of this seat: contracts of its functions, for every input. -/
import Derived.Test.YtkjohnjhdfblcaaDoorWX
set_option linter.all false
namespace Go.Proofs.YtkjohnjhdfblcaaDoor
open Go Go.RX Go.Proofs
set_option maxRecDepth 100000
set_option linter.all false
set_option maxHeartbeats 400000
theorem tb35_ok : TabOK Tryd.prog tb35 := fun f con h => by
  unfold tb35 at h
  split at h
  · cases h; exact c24
  · cases h; exact c28
  · cases h; exact c40
  · cases h; exact c44
  · cases h
theorem tb36_ok : TabOK Tryd.prog tb36 := fun f con h => by
  unfold tb36 at h
  split at h
  · cases h; exact c25
  · cases h; exact c29
  · cases h; exact c41
  · cases h; exact c45
  · cases h
theorem tb38_ok : TabOK Tryd.prog tb38 := fun f con h => by
  unfold tb38 at h
  split at h
  · cases h; exact c24
  · cases h; exact c61
  · cases h
theorem fil_err {w : Lw} {l : List D} {c : Cs} {g d e : Int} (h1 : e ≠ 0) (h : filE w l c g d = e) : ⟨[], [], [], 0, 0, 0, 0, 0, 0, 0, 0, 0⟩ = (filZ w l c g d).c ∧ e = (filZ w l c g d).e := by
  unfold filZ; rw [if_pos (by rw [h]; exact h1), h]; exact ⟨rfl, rfl⟩
theorem fil_ok {w : Lw} {l : List D} {c : Cs} {g d : Int} (h : filE w l c g d = 0) : filZ w l c g d = ⟨putA (advZ w l c d).c 1 g d, 0⟩ := by
  unfold filZ; rw [if_neg (by simp [h])]
theorem filE_eq {w : Lw} {cal : List D} {c : Cs} {g day : Int} : filE w cal c g day =
  if (advZ w cal c day).e ≠ 0 then (advZ w cal c day).e
  else if groundZ g = [] then 1
  else if openZ (advZ w cal c day).c = false then 28
  else if (advZ w cal c day).c.a0 ≠ 0 ∨ (advZ w cal c day).c.st = 1 then 11
  else if (lastZ w cal (advZ w cal c day).c).ok = false ∨ (lastZ w cal (advZ w cal c day).c).d < day then 29 else 0 := rfl
theorem c35 : ConOK Tryd.prog 35 con35 := by
  refine conOK_of_exec (inl := noInl) noInl_ok (lp := noLp) (tb := tb35) (c := bodyOf Tryd.f35) ⟨tt_ok, tb35_ok⟩ mixed Tryd.func35 (by kernel_rfl) (by kernel_rfl) ?_
  intro dat hpre hwt
  have hw0 := wts5 hwt
  obtain ⟨d0, d1, d2, d3, d4, hdat, hws⟩ := hw0
  subst hdat
  have w0 := hws.1
  have w1 := hws.2.1
  have w2 := hws.2.2.1
  have w3 := hws.2.2.2.1
  have w4 := hws.2.2.2.2
  clear hws hwt
  rw [vc35 d0 d1 d2 d3 d4]
  have hl : d1.l.length ≤ 1000000 := hpre
  simp only [↓csEq, ile_t, ile_f, ilt_t, ilt_f, ieq_t, ieq_f, bnot_t, bnot_f, band_t, band_f, true_and, and_true, lenI, lwOf_mk, csOf_mk, csOf_eta, lwOf_eta, Cs.eta, imin_eq, seq_nil, seq_nil_f]
  generalize csOf d2 = C at *
  generalize lwOf d0 = W at *
  have hE := @filE_eq W d1.l C d3.i d4.i
  refine ⟨hl, fun h => fil_err h (by rw [hE, if_pos h]), fun h0 => ?_⟩
  rw [if_neg (by simp [h0])] at hE
  refine ⟨fun h => fil_err (by decide) (by rw [hE, if_pos h]), fun h1 => ?_⟩
  rw [if_neg h1] at hE
  refine ⟨fun h => fil_err (by decide) (by rw [hE, if_pos h]), fun h2 => ?_⟩
  rw [if_neg (by simp [h2])] at hE
  refine ⟨fun h => fil_err (by decide) (by rw [hE, if_pos (.inl h)]), fun h3 => ⟨fun h => fil_err (by decide) (by rw [hE, if_pos (.inr h)]), fun h4 => ⟨hl, ?_⟩⟩⟩
  rw [if_neg (by simp [h3, h4])] at hE
  refine ⟨fun h => fil_err (by decide) (by rw [hE, if_pos (.inl h)]), fun h5 => ⟨fun h => fil_err (by decide) (by rw [hE, if_pos (.inr h)]), fun h6 => ?_⟩⟩
  rw [if_neg (by simp [h5]; omega)] at hE
  rw [fil_ok hE]
  exact ⟨rfl, rfl⟩
theorem c36 : ConOK Tryd.prog 36 con36 := by
  refine conOK_of_exec (inl := noInl) noInl_ok (lp := noLp) (tb := tb36) (c := bodyOf Tryd.f36) ⟨tt_ok, tb36_ok⟩ mixed Tryd.func36 (by kernel_rfl) (by kernel_rfl) ?_
  intro dat hpre hwt
  have hw0 := wts5 hwt
  obtain ⟨d0, d1, d2, d3, d4, hdat, hws⟩ := hw0
  subst hdat
  have w0 := hws.1
  have w1 := hws.2.1
  have w2 := hws.2.2.1
  have w3 := hws.2.2.2.1
  have w4 := hws.2.2.2.2
  clear hws hwt
  rw [vc36 d0 d1 d2 d3 d4]
  have hl : d1.l.length ≤ 1000000 := hpre
  simp only [↓csEq, ile_t, ile_f, ilt_t, ilt_f, ieq_t, ieq_f, bnot_t, bnot_f, band_t, band_f, true_and, and_true, lenI, lwOf_mk, csOf_mk, csOf_eta, lwOf_eta, Cs.eta, imin_eq, seq_nil, seq_nil_f]
  generalize csOf d2 = C at *
  generalize lwOf d0 = W at *
  have hE := @filE_eq W d1.l C d3.i d4.i
  refine ⟨hl, fun h => fil_err h (by rw [hE, if_pos h]), fun h0 => ?_⟩
  rw [if_neg (by simp [h0])] at hE
  refine ⟨fun h => fil_err (by decide) (by rw [hE, if_pos h]), fun h1 => ?_⟩
  rw [if_neg h1] at hE
  refine ⟨fun h => fil_err (by decide) (by rw [hE, if_pos h]), fun h2 => ?_⟩
  rw [if_neg (by simp [h2])] at hE
  refine ⟨fun h => fil_err (by decide) (by rw [hE, if_pos (.inl h)]), fun h3 => ⟨fun h => fil_err (by decide) (by rw [hE, if_pos (.inr h)]), fun h4 => ⟨hl, ?_⟩⟩⟩
  rw [if_neg (by simp [h3, h4])] at hE
  refine ⟨fun h => fil_err (by decide) (by rw [hE, if_pos (.inl h)]), fun h5 => ⟨fun h => fil_err (by decide) (by rw [hE, if_pos (.inr h)]), fun h6 => ?_⟩⟩
  rw [if_neg (by simp [h5]; omega)] at hE
  rw [fil_ok hE]
  exact ⟨rfl, rfl⟩
theorem dec_err {w : Lw} {l : List D} {c : Cs} {u : Bool} {d e : Int} (h1 : e ≠ 0) (h : decE w c d = e) : ⟨[], [], [], 0, 0, 0, 0, 0, 0, 0, 0, 0⟩ = (decZ w l c u d).c ∧ e = (decZ w l c u d).e := by
  unfold decZ; rw [if_pos (by rw [h]; exact h1), h]; exact ⟨rfl, rfl⟩
theorem dec_ok {w : Lw} {l : List D} {c : Cs} {u : Bool} {d : Int} (h : decE w c d = 0) : decZ w l c u d = if u = true then ⟨upA c d, 0⟩ else advZ w l (dnA c d) d := by
  unfold decZ; rw [if_neg (by simp [h])]
theorem decE_0 {w : Lw} {c : Cs} {d : Int} (h : decE w c d = 0) : lawZ w = 0 ∧ openZ c = true ∧ pendZ c = true ∧ dayOk d = true ∧ dayOk c.a2 = true ∧ dayOk c.bg = true ∧ dayOk c.si = true ∧ 0 ≤ c.ps ∧ c.ps ≤ 795364 ∧ c.si ≤ c.a2 ∧ c.a2 ≤ d := by
  unfold decE at h
  split at h
  · rename_i h1; exact absurd h h1
  split at h
  · cases h
  split at h
  · cases h
  split at h
  · cases h
  split at h
  · cases h
  rename_i h1 h2 h3 h4 h5
  have c1 := not_or.1 h4
  have c2 := not_or.1 c1.2
  have c3 := not_or.1 c2.2
  have c4 := not_or.1 c3.2
  have f : ∀ b : Bool, ¬ b = false → b = true := fun b hb => by cases b <;> simp_all
  refine ⟨by omega, f _ h2, f _ h3, f _ c1.1, f _ c2.1, f _ c3.1, f _ c4.1, by omega, by omega, by omega, by omega⟩
theorem adv_cs0 {w : Lw} {l : List D} {c : Cs} {d : Int} (h : (advZ w l c d).e ≠ 0) : (advZ w l c d).c = cs0 := by
  rw [adv_e] at h
  rw [adv_err rfl h]
theorem c38 : ConOK Tryd.prog 38 con38 := by
  refine conOK_of_exec (inl := noInl) noInl_ok (lp := noLp) (tb := tb38) (c := bodyOf Tryd.f38) ⟨tt_ok, tb38_ok⟩ mixed Tryd.func38 (by kernel_rfl) (by kernel_rfl) ?_
  intro dat hpre hwt
  have hw0 := wts5 hwt
  obtain ⟨d0, d1, d2, d3, d4, hdat, hws⟩ := hw0
  subst hdat
  have w0 := hws.1
  have w1 := hws.2.1
  have w2 := hws.2.2.1
  have w3 := hws.2.2.2.1
  have w4 := hws.2.2.2.2
  clear hws hwt
  rw [vc38 d0 d1 d2 d3 d4]
  have hl : d1.l.length ≤ 1000000 := hpre
  simp only [↓csEq, ile_t, ile_f, ilt_t, ilt_f, ieq_t, ieq_f, bnot_t, bnot_f, band_t, band_f, true_and, and_true, lenI, lwOf_mk, csOf_mk, csOf_eta, lwOf_eta, Cs.eta, imin_eq, seq_nil, seq_nil_f]
  have q0 : (d2.fld 0).s = (csOf d2).id := rfl
  have q1 : (d2.fld 1).s = (csOf d2).pl := rfl
  have q2 : (d2.fld 2).s = (csOf d2).key := rfl
  have q3 : (d2.fld 3).i = (csOf d2).bg := rfl
  have q4 : (d2.fld 4).i = (csOf d2).si := rfl
  have q5 : (d2.fld 5).i = (csOf d2).st := rfl
  have q6 : (d2.fld 6).i = (csOf d2).ow := rfl
  have q7 : (d2.fld 7).i = (csOf d2).pa := rfl
  have q8 : (d2.fld 8).i = (csOf d2).ps := rfl
  have q9 : ((d2.fld 9).fld 0).i = (csOf d2).a0 := rfl
  have q10 : ((d2.fld 9).fld 1).i = (csOf d2).a1 := rfl
  have q11 : ((d2.fld 9).fld 2).i = (csOf d2).a2 := rfl
  have r0 : (d0.fld 0).l = (lwOf d0).ds := rfl
  have r1 : (d0.fld 1).l = (lwOf d0).fs := rfl
  have r2 : (d0.fld 2).i = (lwOf d0).lim := rfl
  simp only [q0, q1, q2, q3, q4, q5, q6, q7, q8, q9, q10, q11, r0, r1, r2, Cs.eta]
  clear q0 q1 q2 q3 q4 q5 q6 q7 q8 q9 q10 q11 r0 r1 r2
  generalize csOf d2 = C at *
  generalize lwOf d0 = W at *
  refine ⟨fun h => dec_err h rfl, fun h => ?_⟩
  obtain ⟨h0, h1, h2, h3, h4, h5, h6, h7, h8, h9, h10⟩ := decE_0 h
  rw [dayOk_t] at h3 h4 h5 h6
  rw [dec_ok h]
  refine ⟨fun hu => by rw [if_pos hu]; exact ⟨rfl, rfl⟩, fun hu => ⟨hl, ?_⟩⟩
  rw [if_neg (by simp [hu])]
  have e1 : isub .i64 d4.i C.a2 = d4.i - C.a2 := isub_eq (by omega)
  have e2 : iadd .i64 C.si (d4.i - C.a2) = C.si + (d4.i - C.a2) := iadd_eq (by omega)
  have e3 : iadd .i64 C.ps (d4.i - C.a2) = C.ps + (d4.i - C.a2) := iadd_eq (by omega)
  rw [e1, e2, e3]
  exact ⟨fun h => ⟨by rw [show (_ : Cs) = _ from adv_cs0 (c := dnA C d4.i) h]; rfl, rfl⟩, fun h => ⟨rfl, h.symm⟩⟩
theorem tb39_ok : TabOK Tryd.prog tb39 := fun f con h => by
  unfold tb39 at h
  split at h
  · cases h; exact c20
  · cases h; exact c25
  · cases h; exact c29
  · cases h; exact c43
  · cases h; exact c54
  · cases h
theorem c39 : ConOK Tryd.prog 39 con39 := by
  refine conOK_of_exec (inl := noInl) noInl_ok (lp := noLp) (tb := tb39) (c := bodyOf Tryd.f39) ⟨tt_ok, tb39_ok⟩ mixed Tryd.func39 (by kernel_rfl) (by kernel_rfl) ?_
  intro dat hpre hwt
  have hw0 := wts5 hwt
  obtain ⟨d0, d1, d2, d3, d4, hdat, hws⟩ := hw0
  subst hdat
  have w0 := hws.1
  have w1 := hws.2.1
  have w2 := hws.2.2.1
  have w3 := hws.2.2.2.1
  have w4 := hws.2.2.2.2
  clear hws hwt
  rw [vc39 d0 d1 d2 d3 d4]
  have hl : d1.l.length ≤ 1000000 := hpre
  simp only [↓csEq, ile_t, ile_f, ilt_t, ilt_f, ieq_t, ieq_f, bnot_t, bnot_f, band_t, band_f, true_and, and_true, lenI, lwOf_mk, csOf_mk, csOf_eta, lwOf_eta, Cs.eta, imin_eq, seq_nil, seq_nil_f]
  have q0 : (d2.fld 0).s = (csOf d2).id := rfl
  have q1 : (d2.fld 1).s = (csOf d2).pl := rfl
  have q2 : (d2.fld 2).s = (csOf d2).key := rfl
  have q3 : (d2.fld 3).i = (csOf d2).bg := rfl
  have q4 : (d2.fld 4).i = (csOf d2).si := rfl
  have q5 : (d2.fld 5).i = (csOf d2).st := rfl
  have q6 : (d2.fld 6).i = (csOf d2).ow := rfl
  have q7 : (d2.fld 7).i = (csOf d2).pa := rfl
  have q8 : (d2.fld 8).i = (csOf d2).ps := rfl
  have q9 : ((d2.fld 9).fld 0).i = (csOf d2).a0 := rfl
  have q10 : ((d2.fld 9).fld 1).i = (csOf d2).a1 := rfl
  have q11 : ((d2.fld 9).fld 2).i = (csOf d2).a2 := rfl
  have r0 : (d0.fld 0).l = (lwOf d0).ds := rfl
  have r1 : (d0.fld 1).l = (lwOf d0).fs := rfl
  have r2 : (d0.fld 2).i = (lwOf d0).lim := rfl
  simp only [q0, q1, q2, q3, q4, q5, q6, q7, q8, q9, q10, q11, r0, r1, r2, Cs.eta]
  clear q0 q1 q2 q3 q4 q5 q6 q7 q8 q9 q10 q11 r0 r1 r2
  generalize csOf d2 = C at *
  generalize lwOf d0 = W at *
  have hE : decE W C d4.i = if lawZ W ≠ 0 then lawZ W
  else if openZ C = false then 28
  else if pendZ C = false then 11
  else if dayOk d4.i = false ∨ dayOk C.a2 = false ∨ dayOk C.bg = false ∨ dayOk C.si = false ∨ C.ps < 0 ∨ 795364 < C.ps then 12
  else if C.a2 < C.si ∨ d4.i < C.a2 then 15 else 0 := rfl
  refine ⟨fun h => dec_err h (by rw [hE, if_pos h]), fun h0 => ?_⟩
  rw [if_neg (by simp [h0])] at hE
  refine ⟨fun h => dec_err (by decide) (by rw [hE, if_pos h]), fun h1 => ?_⟩
  rw [if_neg (by simp [h1])] at hE
  refine ⟨fun h => dec_err (by decide) (by rw [hE, if_pos h]), fun h2 => ?_⟩
  rw [if_neg (by simp [h2])] at hE
  refine ⟨fun h => dec_err (by decide) (by rw [hE, if_pos (.inl h)]), fun h3 => ⟨fun h => dec_err (by decide) (by rw [hE, if_pos (.inr (.inl h))]), fun h4 => ⟨fun h => dec_err (by decide) (by rw [hE, if_pos (.inr (.inr (.inl h)))]), fun h5 => ⟨fun h => dec_err (by decide) (by rw [hE, if_pos (.inr (.inr (.inr (.inl h))))]), fun h6 => ⟨fun h => dec_err (by decide) (by rw [hE, if_pos (.inr (.inr (.inr (.inr (.inl h)))))]), fun h7 => ⟨fun h => dec_err (by decide) (by rw [hE, if_pos (.inr (.inr (.inr (.inr (.inr h)))))]), fun h8 => ?_⟩⟩⟩⟩⟩⟩
  rw [if_neg (by simp [h3, h4, h5, h6]; omega)] at hE
  refine ⟨fun h => dec_err (by decide) (by rw [hE, if_pos (.inl h)]), fun h9 => ⟨fun h => dec_err (by decide) (by rw [hE, if_pos (.inr h)]), fun h10 => ?_⟩⟩
  rw [if_neg (by omega)] at hE
  rw [dayOk_t] at h3 h4 h5 h6
  rw [dec_ok hE]
  refine ⟨fun hu => by rw [if_pos hu]; exact ⟨rfl, rfl⟩, fun hu => ⟨hl, ?_⟩⟩
  rw [if_neg (by simp [hu])]
  have e1 : isub .i64 (iadd .i64 C.si d4.i) C.a2 = C.si + (d4.i - C.a2) := by rw [iadd_eq (by omega), isub_eq (by omega)]; omega
  have e2 : isub .i64 (iadd .i64 C.ps d4.i) C.a2 = C.ps + (d4.i - C.a2) := by rw [iadd_eq (by omega), isub_eq (by omega)]; omega
  rw [e1, e2]
  exact ⟨fun h => ⟨by rw [show (_ : Cs) = _ from adv_cs0 (c := dnA C d4.i) h]; rfl, rfl⟩, fun h => ⟨rfl, h.symm⟩⟩
end Go.Proofs.YtkjohnjhdfblcaaDoor
