/- Part of the proof of the laws of this seat: contracts of its functions, for every input. -/
import Derived.Test.YtkjohnjhdfblcaaDoorWL
set_option linter.all false
namespace Go.Proofs.YtkjohnjhdfblcaaDoor
open Go Go.RX Go.Proofs
set_option maxRecDepth 100000
set_option linter.all false
set_option maxHeartbeats 4000000
theorem csR_mk {a b c : List UInt8} {d e f g h i j k l : Int} : (Cs.mk a b c d e f g h i j k l).st = f := rfl
theorem tb57_ok : TabOK Tryd.prog tb57 := fun f con h => by
  unfold tb57 at h
  split at h
  · cases h; exact c27
  · cases h
theorem c57 : ConOK Tryd.prog 57 con57 := by
  refine conOK_of_exec (inl := noInl) noInl_ok (lp := lp57) (tb := tb57) (c := bodyOf Tryd.f57) ⟨tt_ok, tb57_ok⟩ mixed Tryd.func57 (by kernel_rfl) (by kernel_rfl) ?_
  intro dat hpre hwt
  obtain ⟨d0, d1, d2, d3, rfl, w0, w1, w2, w3⟩ := wts4 hwt
  refine Eq.mpr (vc57 d0 d1 d2 d3) ?_
  obtain ⟨hl, hw0, hbg, hps0, hps1, how0, how1⟩ := hpre
  simp only [↓csEq, ile_t, ile_f, ilt_t, ilt_f, ieq_t, ieq_f, bnot_t, bnot_f, band_t, band_f, true_and, and_true, lenI, lwOf_mk, csOf_mk, csOf_eta, lwOf_eta, Cs.eta, imax_eq, imin_eq]
  have q0 : (d2.fld 0).s = (csOf d2).id := rfl
  have q1 : (d2.fld 1).s = (csOf d2).pl := rfl
  have q2 : (d2.fld 2).s = (csOf d2).key := rfl
  have q3 : (d2.fld 3).i = (csOf d2).bg := rfl
  have q4 : (d2.fld 4).i = (csOf d2).si := rfl
  have q5 : (d2.fld 5).i = (csOf d2).st := rfl
  have q6 : (d2.fld 6).i = (csOf d2).ow := rfl
  have q7 : (d2.fld 7).i = (csOf d2).pa := rfl
  have q8 : (d2.fld 8).i = (csOf d2).ps := rfl
  have q9 : ((d2.fld 9).fld 0).i = (csOf d2).a0 := rfl
  have q10 : ((d2.fld 9).fld 1).i = (csOf d2).a1 := rfl
  have q11 : ((d2.fld 9).fld 2).i = (csOf d2).a2 := rfl
  have r0 : (d0.fld 0).l = (lwOf d0).ds := rfl
  have r1 : (d0.fld 1).l = (lwOf d0).fs := rfl
  have r2 : (d0.fld 2).i = (lwOf d0).lim := rfl
  simp only [q0, q1, q2, q3, q4, q5, q6, q7, q8, q9, q10, q11, r0, r1, r2, Cs.eta]
  clear q0 q1 q2 q3 q4 q5 q6 q7 q8 q9 q10 q11 r0 r1 r2
  generalize csOf d2 = C at *
  generalize lwOf d0 = W at *
  rw [dayOk_t] at hbg
  obtain ⟨v1, v2, v3, v4, v5, v6⟩ := lawZ_0 hw0
  have eL : iadd .i64 (iadd .i64 C.bg W.lim) C.ps = limZ W C := by
    rw [iadd_eq (a := C.bg) (by omega), iadd_eq (by omega)]; rfl
  rw [eL]
  generalize hD : dueZ W d1.l C = Du at *
  have hst : stepZ W d1.l C d3.i = if (1 ≤ C.st ∧ C.st ≤ 4) ∧ barP (limZ W C) d3.i Du.d Du.ok then ⟨barC W C, true⟩ else if Du.ok = false ∨ d3.i < Du.d then ⟨C, false⟩ else ⟨nxtC W C Du.d, true⟩ := by unfold stepZ; rw [hD]
  have hok : Du.ok = true → 1 ≤ C.st ∧ C.st ≤ 4 := fun h => by
    by_cases h2 : lawZ W ≠ 0 ∨ C.st < 1 ∨ 4 < C.st ∨ C.a0 = 1
    · rw [← hD, dueZ_no h2] at h; cases h
    · omega
  rw [hst]
  have b1 : ∀ {P : Prop}, (1 ≤ C.st ∧ C.st ≤ 4) ∧ barP (limZ W C) d3.i Du.d Du.ok → (C.si < limZ W C → ⟨C.id, C.pl, C.key, C.bg, limZ W C, 8, C.ow, C.pa, C.ps, C.a0, C.a1, C.a2⟩ = barC W C) ∧ (limZ W C ≤ C.si → ⟨C.id, C.pl, C.key, C.bg, C.si, 8, C.ow, C.pa, C.ps, C.a0, C.a1, C.a2⟩ = barC W C) := fun _ => by
    unfold barC
    exact ⟨fun h => by rw [show max (limZ W C) C.si = limZ W C by omega], fun h => by rw [show max (limZ W C) C.si = C.si by omega]⟩
  have T : (1 ≤ C.st ∧ C.st ≤ 4) → limZ W C ≤ d3.i → (Du.ok = false ∨ limZ W C ≤ Du.d) →
      (C.si < limZ W C → (⟨C.id, C.pl, C.key, C.bg, limZ W C, 8, C.ow, C.pa, C.ps, C.a0, C.a1, C.a2⟩ : Cs) = (if (1 ≤ C.st ∧ C.st ≤ 4) ∧ barP (limZ W C) d3.i Du.d Du.ok then (⟨barC W C, true⟩ : CB) else if Du.ok = false ∨ d3.i < Du.d then ⟨C, false⟩ else ⟨nxtC W C Du.d, true⟩).c ∧ (if (1 ≤ C.st ∧ C.st ≤ 4) ∧ barP (limZ W C) d3.i Du.d Du.ok then (⟨barC W C, true⟩ : CB) else if Du.ok = false ∨ d3.i < Du.d then ⟨C, false⟩ else ⟨nxtC W C Du.d, true⟩).ok = true) ∧
      (limZ W C ≤ C.si → (⟨C.id, C.pl, C.key, C.bg, C.si, 8, C.ow, C.pa, C.ps, C.a0, C.a1, C.a2⟩ : Cs) = (if (1 ≤ C.st ∧ C.st ≤ 4) ∧ barP (limZ W C) d3.i Du.d Du.ok then (⟨barC W C, true⟩ : CB) else if Du.ok = false ∨ d3.i < Du.d then ⟨C, false⟩ else ⟨nxtC W C Du.d, true⟩).c ∧ (if (1 ≤ C.st ∧ C.st ≤ 4) ∧ barP (limZ W C) d3.i Du.d Du.ok then (⟨barC W C, true⟩ : CB) else if Du.ok = false ∨ d3.i < Du.d then ⟨C, false⟩ else ⟨nxtC W C Du.d, true⟩).ok = true) := fun h1 h2 h3 => by
    have hc : (1 ≤ C.st ∧ C.st ≤ 4) ∧ barP (limZ W C) d3.i Du.d Du.ok := ⟨h1, h2, h3⟩
    rw [if_pos hc]
    exact ⟨fun h => ⟨(b1 (P := True) hc).1 h, rfl⟩, fun h => ⟨(b1 (P := True) hc).2 h, rfl⟩⟩
  refine ⟨hl, ⟨fun h1 => ⟨fun h2 => ⟨fun h3 => ⟨fun h4 => T ⟨h1, h2⟩ h3 (.inl h4), fun h4 => ⟨fun h5 => T ⟨h1, h2⟩ h3 (.inr h5), fun h5 => ⟨(), fun h => ?_⟩⟩⟩, fun h3 => ⟨(), fun h => ?_⟩⟩, fun h2 => ⟨(), fun h => by omega⟩⟩, fun h1 => ⟨(), fun h => by omega⟩⟩, fun _ hn => ?_⟩
  · rcases h.2.2 with h6 | h6
    · rw [h4] at h6; cases h6
    · omega
  · have := h.2.1; omega
  rw [if_neg hn]
  refine ⟨fun h1 => ⟨fun h2 => ?_, fun h2 => by rw [if_pos (.inr h2)]; exact ⟨rfl, rfl⟩⟩, fun h1 => by rw [if_pos (.inl h1)]; exact ⟨rfl, rfl⟩⟩
  have h3 := hok h1
  rw [if_neg (fun h => h.elim (fun h6 => by rw [h1] at h6; cases h6) (fun h6 => by omega))]
  have e1 : isub .i64 C.st 1 = (((C.st - 1).toNat : Nat) : Int) := by rw [isub_eq (by omega)]; omega
  have e2 : iadd .i64 C.st 1 = C.st + 1 := iadd_eq (by omega)
  have e3 : (elt W.fs (((C.st - 1).toNat : Nat) : Int)).i = ei W.fs (C.st - 1).toNat := rfl
  have h4 := v4 (C.st - 1).toNat (by omega)
  rw [e1, e2, e3]
  have e4 : iadd .i64 C.ow (ei W.fs (C.st - 1).toNat) = C.ow + ei W.fs (C.st - 1).toNat := iadd_eq (by omega)
  rw [e4]
  refine ⟨by omega, fun h5 => ⟨?_, rfl⟩, fun h5 => ⟨?_, rfl⟩⟩
  · unfold nxtC
    rw [show min (C.ow + ei W.fs (C.st - 1).toNat) 1125899906842624 = 1125899906842624 by omega]
  · unfold nxtC
    rw [show min (C.ow + ei W.fs (C.st - 1).toNat) 1125899906842624 = C.ow + ei W.fs (C.st - 1).toNat by omega]
end Go.Proofs.YtkjohnjhdfblcaaDoor
