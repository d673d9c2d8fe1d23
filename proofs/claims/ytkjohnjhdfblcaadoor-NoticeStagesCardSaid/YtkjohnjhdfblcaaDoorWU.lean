/- Part of the proof of the laws of this seat: contracts of its functions, for every input. -/
import Derived.Test.YtkjohnjhdfblcaaDoorWT
set_option linter.all false
namespace Go.Proofs.YtkjohnjhdfblcaaDoor
open Go Go.RX Go.Proofs
set_option maxRecDepth 100000
set_option linter.all false
set_option maxHeartbeats 4000000
theorem c8 : ConOK Tryd.prog 8 con8 := by
  refine conOK_of_exec (inl := noInl) noInl_ok (lp := lp8) (tb := tb8) (c := bodyOf Tryd.f8) ⟨tt_ok, tb5_ok⟩ mixed Tryd.func8 (by kernel_rfl) (by kernel_rfl) ?_
  intro dat hpre hwt
  obtain ⟨d0, d1, rfl, w0, w1⟩ := wts2 hwt
  refine Eq.mpr (vc8 d0 d1) ?_
  simp only [ile_t, ile_f, ilt_t, ilt_f, ieq_t, ieq_f, bnot_t, bnot_f, band_t, band_f, true_and, and_true, lenI, fewZ_t, fewZ_f, lwOf_eta, csOf_eta]
  have hcal : (d0.fld 1).l.length ≤ 20 → (d0.fld 1).l.length ≤ 1000000 := by omega
  generalize d0.fld 2 = e2 at *
  generalize d0.fld 0 = e0 at *
  generalize (d0.fld 1).l = L at *
  have q0 : (e2.fld 0).s = (csOf e2).id := rfl
  have q1 : (e2.fld 1).s = (csOf e2).pl := rfl
  have q2 : (e2.fld 2).s = (csOf e2).key := rfl
  have q3 : (e2.fld 3).i = (csOf e2).bg := rfl
  have q4 : (e2.fld 4).i = (csOf e2).si := rfl
  have q5 : (e2.fld 5).i = (csOf e2).st := rfl
  have q6 : (e2.fld 6).i = (csOf e2).ow := rfl
  have q7 : (e2.fld 7).i = (csOf e2).pa := rfl
  have q8 : (e2.fld 8).i = (csOf e2).ps := rfl
  have q9 : ((e2.fld 9).fld 0).i = (csOf e2).a0 := rfl
  have q10 : ((e2.fld 9).fld 1).i = (csOf e2).a1 := rfl
  have q11 : ((e2.fld 9).fld 2).i = (csOf e2).a2 := rfl
  have r0 : (e0.fld 0).l = (lwOf e0).ds := rfl
  have r1 : (e0.fld 1).l = (lwOf e0).fs := rfl
  have r2 : (e0.fld 2).i = (lwOf e0).lim := rfl
  simp only [q0, q1, q2, q3, q4, q5, q6, q7, q8, q9, q10, q11, r0, r1, r2, Cs.eta]
  clear q0 q1 q2 q3 q4 q5 q6 q7 q8 q9 q10 q11 r0 r1 r2
  generalize csOf e2 = C at *
  generalize lwOf e0 = W at *
  refine ⟨fun _ => trivial, fun hf => ⟨hcal hf.2.2.1, fun he => ?_, fun he => ⟨fun ho => ?_, fun ho => ⟨fun ha => ?_, fun ha => ⟨hcal hf.2.2.1, ?_⟩⟩⟩⟩⟩
  · rw [adv_e] at he
    rw [adv_err rfl he]; simp [cs0]
  · rw [adv_e] at he
    have : advZ W L C d1.i = ⟨C, 0⟩ := by unfold advZ; rw [if_neg (by simp [he]), if_pos (.inl ho)]
    rw [this]; simp
  · rw [adv_e] at he
    rw [adv_pend he ha]; simp
  rw [adv_e] at he
  rw [adv_ok he ha]
  obtain ⟨h0, h1, h2, h3, h4, h5, h6, h7, h8⟩ := advE_0 he
  rw [openZ_t] at ho
  have S := finR_st (l := L) h0 C ⟨h8, h6, h7⟩ ho.1 ho.2
  simp only
  generalize hx : finR W L d1.i C = y at *
  have hdue := S.due
  generalize dueZ W L y = Du at *
  have s1 := S.si; have s2 := S.sd; have s3 := S.st; have s4 := S.s5; have s5 := S.b1; have s6 := S.f1; have s7 := S.ow
  obtain ⟨v1, v2, v3, v4, v5, v6⟩ := lawZ_0 h0
  rw [dayOk_t] at h2
  have eL : iadd .i64 (iadd .i64 C.bg W.lim) C.ps = C.bg + W.lim + C.ps := by
    rw [iadd_eq (a := C.bg) (by omega), iadd_eq (by omega)]
  rw [eL]
  have ft : feeS W y.st (y.st - y.st).toNat = 0 := by rw [show (y.st - y.st).toNat = 0 by omega]; rfl
  have spa := S.pa; have sbg := S.bg; have sps := S.ps
  clear S eL
  refine ⟨fun hok => ⟨fun h => by have := hdue hok; omega, fun _ => ?_⟩, fun _ => ?_⟩
  all_goals
    refine ⟨fun h => by omega, fun _ => ⟨fun h => by omega, fun _ => ⟨fun h => h spa, fun _ => ⟨fun h => h sbg, fun _ => ⟨fun h => h sps, fun _ => ⟨fun h => by omega, fun _ => ⟨fun h5 => ⟨fun h => by omega, fun h9 => ⟨fun _ => ⟨fun _ => ⟨fun _ => ⟨fun _ => trivial, fun h => (s5 h9).2.2 h⟩, fun h => by omega⟩, fun h => by have := (s5 h9).1; omega⟩, fun h => absurd h9 h⟩⟩, fun h5 => ⟨fun h => by omega, fun _ => ⟨⟨(C.st, C.ow), ⟨Int.le_refl _, Int.le_refl _, by simp, fun _ => rfl, fun h => h⟩, rfl, rfl⟩, fun g hg => ⟨fun hlt => ?_, fun hge => ?_⟩⟩⟩⟩⟩⟩⟩⟩⟩⟩
    · obtain ⟨k, sm⟩ := g
      obtain ⟨g1, g2, g3, g4, g5⟩ := hg
      simp only at g1 g2 g3 g4 g5 hlt ⊢
      have g4' := g4 (by omega)
      obtain ⟨n, hn⟩ : ∃ n, (y.st - k).toNat = n + 1 := ⟨(y.st - k).toNat - 1, by omega⟩
      have hn2 : (y.st - (k + 1)).toNat = n := by omega
      rw [hn, feeS] at g4'
      have e1 : isub .i64 k 1 = (((k - 1).toNat : Nat) : Int) := by rw [isub_eq (by omega)]; omega
      have e3 : (elt W.fs (((k - 1).toNat : Nat) : Int)).i = ei W.fs (k - 1).toNat := rfl
      have hv := v4 (k - 1).toNat (by omega)
      rw [e1, e3]
      refine ⟨by omega, (k + 1, sm + ei W.fs (k - 1).toNat), ⟨by simp only; omega, by simp only; omega, by simp only; omega, fun _ => ?_, fun _ => by simp only; omega⟩, by simp only; omega, iadd_eq (by omega), iadd_eq (by omega)⟩
      simp only
      rw [hn2]; omega
    · obtain ⟨k, sm⟩ := g
      obtain ⟨g1, g2, g3, g4, g5⟩ := hg
      simp only at g1 g2 g3 g4 g5 hge ⊢
      have hk : k = y.st := by have := g5 (by omega); omega
      subst hk
      have g4' := g4 (Int.le_refl _)
      rw [ft] at g4'
      have := s6 (by omega)
      refine ⟨fun h => ⟨fun _ => trivial, fun h2 => by omega⟩, fun h => ⟨fun _ => trivial, fun h2 => by omega⟩⟩
end Go.Proofs.YtkjohnjhdfblcaaDoor
