/- Part of the proof of the laws of this seat: contracts of its functions, for every input. -/
import Derived.Test.YtkjohnjhdfblcaaDoorWK
import Derived.Test.YtkjohnjhdfblcaaDoorWN
set_option linter.all false
namespace Go.Proofs.YtkjohnjhdfblcaaDoor
open Go Go.RX Go.Proofs
set_option maxRecDepth 100000
set_option linter.all false
set_option maxHeartbeats 8000000
theorem tb24_ok : TabOK Tryd.prog tb24 := fun f con h => by
  unfold tb24 at h
  split at h
  · cases h; exact c19
  · cases h; exact c26
  · cases h; exact c28
  · cases h; exact c50
  · cases h; exact c55
  · cases h
theorem inl24_ok : InlOK Tryd.prog inl24 := fun f I h => by
  unfold inl24 at h
  split at h
  · cases h; exact ⟨Tryd.func56, by kernel_rfl, by kernel_rfl⟩
  · cases h
theorem advT {W : Lw} {l : List D} {day : Int} {C : Cs} {k : Int} (Q : Cs → Prop) (hl : l.length ≤ 1000000) (h0 : lawZ W = 0) (hbg : dayOk C.bg = true) (hp0 : 0 ≤ C.ps) (hp1 : C.ps ≤ 795364) (hk : 1 ≤ k ∧ k ≤ 4)
    (hQ : ∀ x : Cs, x.st = k + 1 → finR W l day x = finR W l day C → x.bg = C.bg → x.ps = C.ps → 0 ≤ x.ow → x.ow ≤ 1125899906842624 → Q x) :
    ∀ g, advOK W l day C k g → l.length ≤ 1000000 ∧
      ((iadd .i64 (iadd .i64 g.bg W.lim) g.ps ≤ day →
        ((dueZ W l g).ok = false → ∃ g1, g1 = finR W l day C ∧ Cs.mk g.id g.pl g.key g.bg (max (iadd .i64 (iadd .i64 g.bg W.lim) g.ps) g.si) 8 g.ow g.pa g.ps g.a0 g.a1 g.a2 = g1) ∧
        ((dueZ W l g).ok = true → (iadd .i64 (iadd .i64 g.bg W.lim) g.ps ≤ (dueZ W l g).d → ∃ g1, g1 = finR W l day C ∧ Cs.mk g.id g.pl g.key g.bg (max (iadd .i64 (iadd .i64 g.bg W.lim) g.ps) g.si) 8 g.ow g.pa g.ps g.a0 g.a1 g.a2 = g1) ∧
          ((dueZ W l g).d < iadd .i64 (iadd .i64 g.bg W.lim) g.ps → ∃ _ : Unit, ¬ barP (iadd .i64 (iadd .i64 g.bg W.lim) g.ps) day (dueZ W l g).d (dueZ W l g).ok))) ∧
       (day < iadd .i64 (iadd .i64 g.bg W.lim) g.ps → ∃ _ : Unit, ¬ barP (iadd .i64 (iadd .i64 g.bg W.lim) g.ps) day (dueZ W l g).d (dueZ W l g).ok)) ∧
      ∀ _ : Unit, ¬ barP (iadd .i64 (iadd .i64 g.bg W.lim) g.ps) day (dueZ W l g).d (dueZ W l g).ok →
        ((dueZ W l g).ok = false → ∃ g2, g2 = finR W l day C ∧ g = g2) ∧
        ((dueZ W l g).ok = true → (day < (dueZ W l g).d → ∃ g2, g2 = finR W l day C ∧ g = g2) ∧
          ((dueZ W l g).d ≤ day → (0 ≤ isub .i64 g.st 1 ∧ isub .i64 g.st 1 < (W.fs.length : Int)) ∧
            ∃ g2, Q g2 ∧ Cs.mk g.id g.pl g.key g.bg (dueZ W l g).d (iadd .i64 g.st 1) (min (iadd .i64 g.ow (elt W.fs (isub .i64 g.st 1)).i) 1125899906842624) g.pa g.ps g.a0 g.a1 g.a2 = g2)) := by
  intro g hg
  obtain ⟨g1, g2, g3, g4, g5, g6⟩ := hg
  obtain ⟨v1, v2, v3, v4, v5, v6⟩ := lawZ_0 h0
  rw [dayOk_t] at hbg
  have eL : iadd .i64 (iadd .i64 g.bg W.lim) g.ps = limZ W g := by
    rw [iadd_eq (a := g.bg) (by omega), iadd_eq (by omega)]; rfl
  rw [eL]
  have hs : 1 ≤ g.st ∧ g.st ≤ 4 := by omega
  have bar : barP (limZ W g) day (dueZ W l g).d (dueZ W l g).ok → ∃ g1, g1 = finR W l day C ∧ Cs.mk g.id g.pl g.key g.bg (max (limZ W g) g.si) 8 g.ow g.pa g.ps g.a0 g.a1 g.a2 = g1 := fun h => by
    refine ⟨_, ?_, rfl⟩
    rcases pass_cases W l g day with ⟨_, e⟩ | ⟨h2, _⟩ | ⟨h2, _⟩
    · rw [← g2, finR_f hs (by rw [e]), e]; rfl
    · exact absurd h h2
    · exact absurd h h2
  refine ⟨hl, ⟨fun h1 => ⟨fun h2 => bar ⟨h1, .inl h2⟩, fun h2 => ⟨fun h3 => bar ⟨h1, .inr h3⟩, fun h3 => ⟨(), fun h => ?_⟩⟩⟩, fun h1 => ⟨(), fun h => ?_⟩⟩, fun _ hn => ?_⟩
  · rcases h.2 with h4 | h4
    · rw [h2] at h4; cases h4
    · omega
  · have := h.1; omega
  have stay : ((dueZ W l g).ok = false ∨ day < (dueZ W l g).d) → ∃ g2, g2 = finR W l day C ∧ g = g2 := fun h => by
    refine ⟨g, ?_, rfl⟩
    rcases pass_cases W l g day with ⟨h2, _⟩ | ⟨_, _, e⟩ | ⟨_, h3, h4, _⟩
    · exact absurd h2 hn
    · rw [← g2, finR_f hs (by rw [e]), e]
    · rcases h with h | h
      · rw [h3] at h; cases h
      · omega
  refine ⟨fun h => stay (.inl h), fun h => ⟨fun h2 => stay (.inr h2), fun h2 => ?_⟩⟩
  have e1 : isub .i64 g.st 1 = (((g.st - 1).toNat : Nat) : Int) := by rw [isub_eq (by omega)]; omega
  have e2 : iadd .i64 g.st 1 = g.st + 1 := iadd_eq (by omega)
  have e3 : (elt W.fs (((g.st - 1).toNat : Nat) : Int)).i = ei W.fs (g.st - 1).toNat := rfl
  have h4 := v4 (g.st - 1).toNat (by omega)
  rw [e1, e2, e3]
  have e4 : iadd .i64 g.ow (ei W.fs (g.st - 1).toNat) = g.ow + ei W.fs (g.st - 1).toNat := iadd_eq (by omega)
  rw [e4]
  refine ⟨by omega, nxtC W g (dueZ W l g).d, ?_, rfl⟩
  have how := @nxt_ow W g (dueZ W l g).d h0 hs g5
  refine hQ _ (by show g.st + 1 = k + 1; omega) ?_ g3 g4 how.1 how.2
  rcases pass_cases W l g day with ⟨h5, _⟩ | ⟨_, h6, e⟩ | ⟨_, _, _, e⟩
  · exact absurd h5 hn
  · rcases h6 with h6 | h6
    · rw [h] at h6; cases h6
    · omega
  · have := finR_t hs (w := W) (l := l) (d := day) (by rw [e])
    rw [e] at this
    rw [← g2, ← this]
theorem c24 : ConOK Tryd.prog 24 con24 := by
  refine conOK_of_exec (inl := inl24) inl24_ok (lp := lp24) (tb := tb24) (c := bodyOf Tryd.f24) ⟨tt_ok, tb24_ok⟩ mixed Tryd.func24 (by kernel_rfl) (by kernel_rfl) ?_
  intro dat hpre hwt
  obtain ⟨d0, d1, d2, d3, rfl, w0, w1, w2, w3⟩ := wts4 hwt
  refine Eq.mpr (vc24 d0 d1 d2 d3) ?_
  have hl : d1.l.length ≤ 1000000 := hpre
  simp only [↓csEq, ile_t, ile_f, ilt_t, ilt_f, ieq_t, ieq_f, bnot_t, bnot_f, band_t, band_f, true_and, and_true, lenI, lwOf_mk, csOf_mk, csOf_eta, lwOf_eta, Cs.eta, imax_eq, imin_eq]
  have q0 : (d2.fld 0).s = (csOf d2).id := rfl
  have q1 : (d2.fld 1).s = (csOf d2).pl := rfl
  have q2 : (d2.fld 2).s = (csOf d2).key := rfl
  have q3 : (d2.fld 3).i = (csOf d2).bg := rfl
  have q4 : (d2.fld 4).i = (csOf d2).si := rfl
  have q5 : (d2.fld 5).i = (csOf d2).st := rfl
  have q6 : (d2.fld 6).i = (csOf d2).ow := rfl
  have q7 : (d2.fld 7).i = (csOf d2).pa := rfl
  have q8 : (d2.fld 8).i = (csOf d2).ps := rfl
  have q9 : ((d2.fld 9).fld 0).i = (csOf d2).a0 := rfl
  have q10 : ((d2.fld 9).fld 1).i = (csOf d2).a1 := rfl
  have q11 : ((d2.fld 9).fld 2).i = (csOf d2).a2 := rfl
  have r0 : (d0.fld 0).l = (lwOf d0).ds := rfl
  have r1 : (d0.fld 1).l = (lwOf d0).fs := rfl
  have r2 : (d0.fld 2).i = (lwOf d0).lim := rfl
  simp only [q0, q1, q2, q3, q4, q5, q6, q7, q8, q9, q10, q11, r0, r1, r2, Cs.eta]
  clear q0 q1 q2 q3 q4 q5 q6 q7 q8 q9 q10 q11 r0 r1 r2
  generalize csOf d2 = C at *
  generalize lwOf d0 = W at *
  have er : ∀ e : Int, e ≠ 0 → advE W C d3.i = e → ⟨[], [], [], 0, 0, 0, 0, 0, 0, 0, 0, 0⟩ = (advZ W d1.l C d3.i).c ∧ e = (advZ W d1.l C d3.i).e := fun e h1 h2 => by rw [adv_err h2 h1]; exact ⟨rfl, rfl⟩
  refine ⟨fun h => er _ h (advE_w h), fun h0 => ?_⟩
  have hE := @advE_r W C d3.i h0
  have e12 : dayOk d3.i = false ∨ dayOk C.bg = false ∨ dayOk C.si = false ∨ C.ps < 0 ∨ 795364 < C.ps → ⟨[], [], [], 0, 0, 0, 0, 0, 0, 0, 0, 0⟩ = (advZ W d1.l C d3.i).c ∧ 12 = (advZ W d1.l C d3.i).e := fun h => er 12 (by decide) (by rw [hE, if_pos h])
  refine ⟨fun h => e12 (.inl h), fun h1 => ⟨fun h => e12 (.inr (.inl h)), fun h2 => ⟨fun h => e12 (.inr (.inr (.inl h))), fun h3 => ⟨fun h => e12 (.inr (.inr (.inr (.inl h)))), fun h4 => ⟨fun h => e12 (.inr (.inr (.inr (.inr h)))), fun h5 => ?_⟩⟩⟩⟩⟩
  rw [if_neg (by simp [h1, h2, h3]; omega)] at hE
  refine ⟨fun h => er 13 (by decide) (by rw [hE, if_pos h]), fun h67 => ?_⟩
  rw [if_neg (by simp [h67])] at hE
  refine ⟨fun h => er 15 (by decide) (by rw [hE, if_pos h]), fun h8 => ?_⟩
  rw [if_neg (by omega)] at hE
  have same : openZ C = false ∨ C.a0 = 1 → C = (advZ W d1.l C d3.i).c ∧ 0 = (advZ W d1.l C d3.i).e := fun h => by
    have : advZ W d1.l C d3.i = ⟨C, 0⟩ := by unfold advZ; rw [if_neg (by simp [hE]), if_pos h]
    rw [this]; exact ⟨rfl, rfl⟩
  refine ⟨fun h => same (.inl h), fun hO => ⟨fun h => same (.inr h), fun h9 => ?_⟩⟩
  rw [adv_ok hE h9]
  have hO' := hO
  rw [openZ_t] at hO'
  rw [amtOk_t] at h67
  have st : ∀ k, C.st = k → ∃ g, advOK W d1.l d3.i C k g ∧ C = g := fun k h => ⟨C, ⟨h, rfl, rfl, rfl, by omega, by omega⟩, rfl⟩
  have T := fun k Q hk hQ => advT (W := W) (l := d1.l) (day := d3.i) (C := C) (k := k) Q hl h0 h2 h4 h5 hk hQ
  refine ⟨⟨⟨⟨⟨⟨st 1, fun _ => ⟨st 2, fun _ => ⟨st 3, fun _ => ⟨st 4, fun h => ⟨C, by rw [finR_out (by omega)], rfl⟩⟩⟩⟩⟩, ?_⟩, ?_⟩, ?_⟩, ?_⟩, ?_⟩
  · exact T 1 _ (by omega) (fun x a b c d e f => ⟨a, b, c, d, e, f⟩)
  · exact T 2 _ (by omega) (fun x a b c d e f => ⟨a, b, c, d, e, f⟩)
  · exact T 3 _ (by omega) (fun x a b c d e f => ⟨a, b, c, d, e, f⟩)
  · exact T 4 (fun x => x = finR W d1.l d3.i C) (by omega) (fun x a b c d e f => by rw [← b, finR_out (by omega)])
  · intro c hc; exact ⟨hc, rfl⟩
end Go.Proofs.YtkjohnjhdfblcaaDoor
