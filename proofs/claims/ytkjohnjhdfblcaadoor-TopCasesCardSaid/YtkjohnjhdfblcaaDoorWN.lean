/- Part of the proof of the laws of this seat: contracts of its functions, for every input. -/
import Derived.Test.YtkjohnjhdfblcaaDoorWM
set_option linter.all false
namespace Go.Proofs.YtkjohnjhdfblcaaDoor
open Go Go.RX Go.Proofs
set_option maxRecDepth 100000
set_option linter.all false
set_option maxHeartbeats 4000000
theorem finR_out {w : Lw} {l : List D} {d : Int} {c : Cs} (h : ¬ (1 ≤ c.st ∧ c.st ≤ 4)) : finR w l d c = c := by unfold finR; rw [if_neg h]
theorem due_st {w : Lw} {l : List D} {c : Cs} (h : (dueZ w l c).ok = true) : lawZ w = 0 ∧ 1 ≤ c.st ∧ c.st ≤ 4 ∧ c.a0 ≠ 1 := by
  by_cases h2 : lawZ w ≠ 0 ∨ c.st < 1 ∨ 4 < c.st ∨ c.a0 = 1
  · rw [dueZ_no h2] at h; cases h
  · omega
theorem pass_cases (w : Lw) (l : List D) (c : Cs) (d : Int) :
    (barP (limZ w c) d (dueZ w l c).d (dueZ w l c).ok ∧ passZ w l c d = ⟨barC w c, false⟩) ∨
    (¬ barP (limZ w c) d (dueZ w l c).d (dueZ w l c).ok ∧ ((dueZ w l c).ok = false ∨ d < (dueZ w l c).d) ∧ passZ w l c d = ⟨c, false⟩) ∨
    (¬ barP (limZ w c) d (dueZ w l c).d (dueZ w l c).ok ∧ (dueZ w l c).ok = true ∧ (dueZ w l c).d ≤ d ∧ passZ w l c d = ⟨nxtC w c (dueZ w l c).d, true⟩) := by
  unfold passZ
  by_cases h : barP (limZ w c) d (dueZ w l c).d (dueZ w l c).ok
  · rw [if_pos h]; exact .inl ⟨h, rfl⟩
  · rw [if_neg h]
    by_cases h2 : (dueZ w l c).ok = false ∨ d < (dueZ w l c).d
    · rw [if_pos h2]; exact .inr (.inl ⟨h, h2, rfl⟩)
    · rw [if_neg h2]
      refine .inr (.inr ⟨h, ?_, ?_, rfl⟩)
      · cases hb : (dueZ w l c).ok with
        | true => rfl
        | false => exact absurd (.inl hb) h2
      · omega
theorem finR_t {w : Lw} {l : List D} {d : Int} {c : Cs} (hs : 1 ≤ c.st ∧ c.st ≤ 4) (h : (passZ w l c d).ok = true) : finR w l d (passZ w l c d).c = finR w l d c := by
  rcases pass_cases w l c d with ⟨_, e⟩ | ⟨_, _, e⟩ | ⟨_, _, _, e⟩
  · rw [e] at h; cases h
  · rw [e] at h; cases h
  · have e1 : finR w l d c = runF w l d (5 - c.st).toNat c := by unfold finR; rw [if_pos hs]
    obtain ⟨f, hf⟩ : ∃ f, (5 - c.st).toNat = f + 1 := ⟨(5 - c.st).toNat - 1, by omega⟩
    rw [e1, hf, runF, if_pos h, e]
    simp only
    have hst : (nxtC w c (dueZ w l c).d).st = c.st + 1 := rfl
    unfold finR
    rw [hst]
    by_cases h4 : c.st + 1 ≤ 4
    · rw [if_pos ⟨by omega, h4⟩, show (5 - (c.st + 1)).toNat = f by omega]
    · rw [if_neg (by omega), show f = 0 by omega, runF]
theorem finR_f {w : Lw} {l : List D} {d : Int} {c : Cs} (hs : 1 ≤ c.st ∧ c.st ≤ 4) (h : (passZ w l c d).ok = false) : finR w l d c = (passZ w l c d).c := by
  have e1 : finR w l d c = runF w l d (5 - c.st).toNat c := by unfold finR; rw [if_pos hs]
  obtain ⟨f, hf⟩ : ∃ f, (5 - c.st).toNat = f + 1 := ⟨(5 - c.st).toNat - 1, by omega⟩
  rw [e1, hf, runF, if_neg (by simp [h])]
theorem step_cases (w : Lw) (l : List D) (c : Cs) (d : Int) :
    ((1 ≤ c.st ∧ c.st ≤ 4) ∧ passZ w l c d = ⟨barC w c, false⟩ ∧ stepZ w l c d = ⟨barC w c, true⟩) ∨
    (stepZ w l c d = ⟨c, false⟩ ∧ finR w l d c = c) ∨
    ((1 ≤ c.st ∧ c.st ≤ 4) ∧ passZ w l c d = ⟨nxtC w c (dueZ w l c).d, true⟩ ∧ stepZ w l c d = ⟨nxtC w c (dueZ w l c).d, true⟩ ∧ lawZ w = 0) := by
  by_cases hs : 1 ≤ c.st ∧ c.st ≤ 4
  · rcases pass_cases w l c d with ⟨h, e⟩ | ⟨h, h2, e⟩ | ⟨h, h2, h3, e⟩
    · refine .inl ⟨hs, e, ?_⟩
      unfold stepZ; rw [if_pos ⟨hs, h⟩]
    · refine .inr (.inl ⟨?_, ?_⟩)
      · unfold stepZ; rw [if_neg (fun h3 => h h3.2), if_pos h2]
      · rw [finR_f hs (by rw [e]), e]
    · refine .inr (.inr ⟨hs, e, ?_, (due_st h2).1⟩)
      unfold stepZ; rw [if_neg (fun h4 => h h4.2), if_neg (fun h4 => h4.elim (fun h5 => by rw [h2] at h5; cases h5) (fun h5 => by omega))]
  · refine .inr (.inl ⟨?_, finR_out hs⟩)
    have : (dueZ w l c).ok = false := by
      cases hb : (dueZ w l c).ok with
      | false => rfl
      | true => have := due_st hb; exact absurd ⟨this.2.1, this.2.2.1⟩ hs
    unfold stepZ; rw [if_neg (fun h => hs h.1), if_pos (.inl this)]
theorem nxt_ow {w : Lw} {c : Cs} {x : Int} (hw : lawZ w = 0) (hs : 1 ≤ c.st ∧ c.st ≤ 4) (h : 0 ≤ c.ow) : 0 ≤ (nxtC w c x).ow ∧ (nxtC w c x).ow ≤ 1125899906842624 := by
  have := (lawZ_0 hw).2.2.2.1 (c.st - 1).toNat (by omega)
  show 0 ≤ min (c.ow + ei w.fs (c.st - 1).toNat) 1125899906842624 ∧ min (c.ow + ei w.fs (c.st - 1).toNat) 1125899906842624 ≤ 1125899906842624
  omega
theorem adv_err {w : Lw} {l : List D} {c : Cs} {d e : Int} (h : advE w c d = e) (he : e ≠ 0) : advZ w l c d = ⟨cs0, e⟩ := by unfold advZ; rw [if_pos (by rw [h]; exact he), h]
theorem adv_ok {w : Lw} {l : List D} {c : Cs} {d : Int} (h : advE w c d = 0) (ha : c.a0 ≠ 1) : advZ w l c d = ⟨finR w l d c, 0⟩ := by
  unfold advZ
  rw [if_neg (by simp [h])]
  by_cases ho : openZ c = false
  · rw [if_pos (.inl ho), finR_out]
    rw [openZ_f] at ho
    omega
  · rw [if_neg (fun h2 => h2.elim ho ha)]
theorem adv_pend {w : Lw} {l : List D} {c : Cs} {d : Int} (h : advE w c d = 0) (ha : c.a0 = 1) : advZ w l c d = ⟨c, 0⟩ := by
  unfold advZ
  rw [if_neg (by simp [h]), if_pos (.inr ha)]
theorem advE_w {w : Lw} {c : Cs} {d : Int} (h : lawZ w ≠ 0) : advE w c d = lawZ w := by unfold advE; rw [if_pos h]
theorem advE_r {w : Lw} {c : Cs} {d : Int} (h : lawZ w = 0) : advE w c d = if dayOk d = false ∨ dayOk c.bg = false ∨ dayOk c.si = false ∨ c.ps < 0 ∨ 795364 < c.ps then 12
  else if amtOk c.ow = false then 13
  else if d < c.si then 15 else 0 := by unfold advE; rw [if_neg (by simp [h])]
theorem tb25_ok : TabOK Tryd.prog tb25 := fun f con h => by
  unfold tb25 at h
  split at h
  · cases h; exact c20
  · cases h; exact c54
  · cases h; exact c57
  · cases h
theorem c25 : ConOK Tryd.prog 25 con25 := by
  refine conOK_of_exec (inl := noInl) noInl_ok (lp := lp25) (tb := tb25) (c := bodyOf Tryd.f25) ⟨tt_ok, tb25_ok⟩ mixed Tryd.func25 (by kernel_rfl) (by kernel_rfl) ?_
  intro dat hpre hwt
  obtain ⟨d0, d1, d2, d3, rfl, w0, w1, w2, w3⟩ := wts4 hwt
  refine Eq.mpr (vc25 d0 d1 d2 d3) ?_
  have hl : d1.l.length ≤ 1000000 := hpre
  simp only [↓csEq, ile_t, ile_f, ilt_t, ilt_f, ieq_t, ieq_f, bnot_t, bnot_f, band_t, band_f, true_and, and_true, lenI, lwOf_mk, csOf_mk, csOf_eta, lwOf_eta, Cs.eta, imax_eq, imin_eq]
  have q0 : (d2.fld 0).s = (csOf d2).id := rfl
  have q1 : (d2.fld 1).s = (csOf d2).pl := rfl
  have q2 : (d2.fld 2).s = (csOf d2).key := rfl
  have q3 : (d2.fld 3).i = (csOf d2).bg := rfl
  have q4 : (d2.fld 4).i = (csOf d2).si := rfl
  have q5 : (d2.fld 5).i = (csOf d2).st := rfl
  have q6 : (d2.fld 6).i = (csOf d2).ow := rfl
  have q7 : (d2.fld 7).i = (csOf d2).pa := rfl
  have q8 : (d2.fld 8).i = (csOf d2).ps := rfl
  have q9 : ((d2.fld 9).fld 0).i = (csOf d2).a0 := rfl
  have q10 : ((d2.fld 9).fld 1).i = (csOf d2).a1 := rfl
  have q11 : ((d2.fld 9).fld 2).i = (csOf d2).a2 := rfl
  have r0 : (d0.fld 0).l = (lwOf d0).ds := rfl
  have r1 : (d0.fld 1).l = (lwOf d0).fs := rfl
  have r2 : (d0.fld 2).i = (lwOf d0).lim := rfl
  simp only [q0, q1, q2, q3, q4, q5, q6, q7, q8, q9, q10, q11, r0, r1, r2, Cs.eta]
  clear q0 q1 q2 q3 q4 q5 q6 q7 q8 q9 q10 q11 r0 r1 r2
  generalize csOf d2 = C at *
  generalize lwOf d0 = W at *
  have er : ∀ e : Int, e ≠ 0 → advE W C d3.i = e → ⟨[], [], [], 0, 0, 0, 0, 0, 0, 0, 0, 0⟩ = (advZ W d1.l C d3.i).c ∧ e = (advZ W d1.l C d3.i).e := fun e h1 h2 => by rw [adv_err h2 h1]; exact ⟨rfl, rfl⟩
  refine ⟨fun h => er _ h (advE_w h), fun h0 => ?_⟩
  have hE := @advE_r W C d3.i h0
  have e12 : dayOk d3.i = false ∨ dayOk C.bg = false ∨ dayOk C.si = false ∨ C.ps < 0 ∨ 795364 < C.ps → ⟨[], [], [], 0, 0, 0, 0, 0, 0, 0, 0, 0⟩ = (advZ W d1.l C d3.i).c ∧ 12 = (advZ W d1.l C d3.i).e := fun h => er 12 (by decide) (by rw [hE, if_pos h])
  refine ⟨fun h => e12 (.inl h), fun h1 => ⟨fun h => e12 (.inr (.inl h)), fun h2 => ⟨fun h => e12 (.inr (.inr (.inl h))), fun h3 => ⟨fun h => e12 (.inr (.inr (.inr (.inl h)))), fun h4 => ⟨fun h => e12 (.inr (.inr (.inr (.inr h)))), fun h5 => ?_⟩⟩⟩⟩⟩
  rw [if_neg (by simp [h1, h2, h3]; omega)] at hE
  have e13 : amtOk C.ow = false → ⟨[], [], [], 0, 0, 0, 0, 0, 0, 0, 0, 0⟩ = (advZ W d1.l C d3.i).c ∧ 13 = (advZ W d1.l C d3.i).e := fun h => er 13 (by decide) (by rw [hE, if_pos h])
  refine ⟨fun h => e13 (by rw [amtOk_f]; omega), fun h6 => ⟨fun h => e13 (by rw [amtOk_f]; omega), fun h7 => ?_⟩⟩
  have h67 : amtOk C.ow = true := by rw [amtOk_t]; omega
  rw [if_neg (by simp [h67])] at hE
  refine ⟨fun h => er 15 (by decide) (by rw [hE, if_pos h]), fun h8 => ?_⟩
  rw [if_neg (by omega)] at hE
  refine ⟨fun h => by rw [adv_pend hE h]; exact ⟨rfl, rfl⟩, fun h9 => ?_⟩
  rw [adv_ok hE h9]
  refine ⟨⟨(0, C), ⟨by simp, rfl, rfl, rfl, h6, h7, fun h _ => by have h : 1 ≤ C.st := h; simp only; omega⟩, rfl, rfl⟩, fun g hg => ?_⟩
  obtain ⟨k, c⟩ := g
  obtain ⟨g1, g2, g3, g4, g5, g6, g7⟩ := hg
  simp only at g1 g2 g3 g4 g5 g6 g7 ⊢
  refine ⟨fun hk => ⟨⟨hl, h0, by rw [g3]; exact h2, by omega, by omega, g5, g6⟩, ?_⟩, fun hk => ?_⟩
  · rcases step_cases W d1.l c d3.i with ⟨hs, e1, e2⟩ | ⟨e1, e2⟩ | ⟨hs, e1, e2, e3⟩
    · rw [e2]
      refine ⟨fun h => (by cases h), fun _ => ⟨(k + 1, barC W c), ⟨by simp only; omega, ?_, g3, g4, g5, g6, fun h h' => ?_⟩, by simp only; omega, by rw [iadd_eq (by omega)]; rfl, rfl⟩⟩
      · have h8' : (barC W c).st = 8 := rfl
        simp only
        rw [← g2, finR_f hs (by rw [e1]), e1, finR_out (by rw [h8']; omega)]
      · have h8' : (barC W c).st = 8 := rfl
        simp only at h'
        omega
    · rw [e1]
      refine ⟨fun _ => ⟨by rw [← g2, e2], trivial⟩, fun h => by cases h⟩
    · rw [e2]
      have hst : (nxtC W c (dueZ W d1.l c).d).st = c.st + 1 := rfl
      have how := @nxt_ow W c (dueZ W d1.l c).d e3 hs g5
      have := g7 hs.1 hs.2
      refine ⟨fun h => (by cases h), fun _ => ⟨(k + 1, nxtC W c (dueZ W d1.l c).d), ⟨by simp only; omega, ?_, g3, g4, how.1, how.2, fun h h' => ?_⟩, by simp only; omega, by rw [iadd_eq (by omega)]; rfl, rfl⟩⟩
      · simp only
        have := finR_t hs (w := W) (l := d1.l) (d := d3.i) (by rw [e1])
        rw [e1] at this
        rw [← g2, ← this]
      · simp only
        omega
  · have : ¬ (1 ≤ c.st ∧ c.st ≤ 4) := fun h => by have := g7 h.1 h.2; omega
    rw [← g2, finR_out this]
    exact ⟨rfl, trivial⟩
end Go.Proofs.YtkjohnjhdfblcaaDoor
