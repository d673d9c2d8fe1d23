/- Part of the proof of the laws of this seat: contracts of its functions, for every input. -/
import Derived.Test.YtkjohnjhdfblcaaDoorWAC
set_option linter.all false
namespace Go.Proofs.YtkjohnjhdfblcaaDoor
open Go Go.RX Go.Proofs
set_option maxRecDepth 100000
set_option linter.all false
set_option maxHeartbeats 1000000
structure AdvP (w : Lw) (l : List D) (d : Int) (c z : Cs) : Prop where
  e0 : advE w z d = 0
  a0 : z.a0 = c.a0
  a1 : z.a1 = c.a1
  a2 : z.a2 = c.a2
  st : c.st ≤ z.st
  ow : c.ow ≤ z.ow
  pa : z.pa = c.pa
  same : (openZ c = false ∨ c.a0 = 1) → z = c
theorem adv_ok_p {w : Lw} {l : List D} {c : Cs} {d : Int} (h : (advZ w l c d).e = 0) : AdvP w l d c (advZ w l c d).c := by
  rw [adv_e] at h
  by_cases hp : openZ c = false ∨ c.a0 = 1
  · have : advZ w l c d = ⟨c, 0⟩ := by unfold advZ; rw [if_neg (by simp [h]), if_pos hp]
    rw [this]
    exact ⟨h, rfl, rfl, rfl, Int.le_refl _, Int.le_refl _, rfl, fun _ => rfl⟩
  have ho : openZ c = true := by cases hb : openZ c with
    | true => rfl
    | false => exact absurd (.inl hb) hp
  have ha : c.a0 ≠ 1 := fun e => hp (.inr e)
  rw [adv_ok h ha]
  obtain ⟨h0, h1, h2, h3, h4, h5, h6, h7, h8⟩ := advE_0 h
  rw [openZ_t] at ho
  have S := finR_st (l := l) h0 c ⟨h8, h6, h7⟩ ho.1 ho.2
  simp only
  generalize hx : finR w l d c = x at *
  have h3' := h3
  have h1' := h1
  rw [dayOk_t] at h3' h1'
  have s1 := S.si; have s2 := S.sd; have s3 := S.ow; have s4 := S.om
  have e1 := advE_mk (w := w) (c := x) (d := d) h0 (by rw [S.bg]; exact h2) (by rw [dayOk_t]; omega) (by rw [S.ps]; exact h4) (by rw [S.ps]; exact h5) (by omega) (by omega) (by omega)
  rw [if_pos h1] at e1
  exact ⟨e1, S.a0, S.a1, S.a2, S.st, S.ow, S.pa, fun h => absurd h hp⟩
theorem fil_0 {w : Lw} {l : List D} {c : Cs} {g d : Int} (h : (filZ w l c g d).e = 0) : filE w l c g d = 0 ∧ filZ w l c g d = ⟨putA (advZ w l c d).c 1 g d, 0⟩ := by
  by_cases h1 : filE w l c g d = 0
  · exact ⟨h1, fil_ok h1⟩
  · have : filZ w l c g d = ⟨cs0, filE w l c g d⟩ := by unfold filZ; rw [if_pos h1]
    rw [this] at h
    exact absurd h h1
theorem fil_n {w : Lw} {l : List D} {c : Cs} {g d : Int} (h : (filZ w l c g d).e ≠ 0) : (filZ w l c g d).c = cs0 := by
  by_cases h1 : filE w l c g d = 0
  · rw [fil_ok h1] at h; exact absurd rfl h
  · unfold filZ; rw [if_pos h1]
theorem filE_0 {w : Lw} {l : List D} {c : Cs} {g d : Int} (h : filE w l c g d = 0) : (advZ w l c d).e = 0 ∧ openZ (advZ w l c d).c = true ∧ (advZ w l c d).c.a0 = 0 ∧ (advZ w l c d).c.st ≠ 1 := by
  rw [filE_eq] at h
  split at h
  · rename_i h1; exact absurd h h1
  split at h
  · cases h
  split at h
  · cases h
  split at h
  · cases h
  rename_i h1 h2 h3 h4
  exact ⟨by omega, by simpa using h3, by omega, by omega⟩
theorem fil_no {w : Lw} {l : List D} {c : Cs} {g d : Int} (ha : c.a0 ≠ 0) : filE w l c g d ≠ 0 := fun h => by
  obtain ⟨h1, _, h3, _⟩ := filE_0 h
  have := (adv_ok_p h1).a0
  omega
theorem dec_0 {w : Lw} {l : List D} {c : Cs} {u : Bool} {d : Int} (h : (decZ w l c u d).e = 0) : decE w c d = 0 := by
  by_cases h1 : decE w c d = 0
  · exact h1
  · have : decZ w l c u d = ⟨cs0, decE w c d⟩ := by unfold decZ; rw [if_pos h1]
    rw [this] at h
    exact absurd h h1
theorem dec_a0 {w : Lw} {l : List D} {c : Cs} {u : Bool} {d : Int} (h : (decZ w l c u d).e = 0) : (decZ w l c u d).c.a0 = 2 ∨ (decZ w l c u d).c.a0 = 3 := by
  have h1 := dec_0 h
  cases u with
  | true => rw [dec_ok h1, if_pos rfl]; exact .inl rfl
  | false =>
    rw [dec_ok h1, if_neg (by simp)] at h ⊢
    exact .inr (adv_ok_p h).a0
theorem pend_f {c : Cs} : (pendZ c = false) = (c.a0 ≠ 1) := by simp [pendZ]
theorem pend_t {c : Cs} : (pendZ c = true) = (c.a0 = 1) := by simp [pendZ]
theorem c13 : ConOK Tryd.prog 13 con13 := by
  refine conOK_of_exec (inl := noInl) noInl_ok (lp := noLp) (tb := tb13) (c := bodyOf Tryd.f13) ⟨tt_ok, tb13_ok⟩ mixed Tryd.func13 (by kernel_rfl) (by kernel_rfl) ?_
  intro dat hpre hwt
  have hw0 := wts6 hwt
  obtain ⟨d0, d1, d2, d3, d4, d5, hdat, hws⟩ := hw0
  subst hdat
  have w0 := hws.1
  have w1 := hws.2.1
  have w2 := hws.2.2.1
  have w3 := hws.2.2.2.1
  have w4 := hws.2.2.2.2.1
  have w5 := hws.2.2.2.2.2
  clear hws hwt
  rw [vc13 d0 d1 d2 d3 d4 d5]
  simp only [ile_t, ile_f, ilt_t, ilt_f, ieq_t, ieq_f, bnot_t, bnot_f, band_t, band_f, true_and, and_true, lenI, smallZ_t, smallZ_f, csAll, csAny, imin_eq]
  have w4' := wt_i64 w4
  have w5' := wt_u16 w5
  generalize csOf d2 = C at *
  generalize lwOf d0 = W at *
  rw [iconv_eq (by omega)]
  refine ⟨fun _ => trivial, fun hs => ?_⟩
  have hl : d1.l.length ≤ 1000000 := by omega
  refine ⟨hl, fun he => ?_, fun he => ⟨hl, hl, hl, ?_⟩⟩
  · rw [fil_n he]; simp [cs0, seq']
  obtain ⟨hE, hF⟩ := fil_0 he
  obtain ⟨h1, h2, h3, h4⟩ := filE_0 hE
  have hA := adv_ok_p h1
  rw [hF]
  simp only [putA]
  generalize (advZ W d1.l C d4.i).c = z at *
  have hz := advE_0 hA.e0
  obtain ⟨k0, k1, k2, k3, k4, k5, k6, k7, k8⟩ := hz
  have k1' := k1
  rw [dayOk_t] at k1'
  have eA : iadd .i64 d4.i d5.i = d4.i + d5.i := iadd_eq (by omega)
  rw [eA]
  generalize hY : (⟨z.id, z.pl, z.key, z.bg, z.si, z.st, z.ow, z.pa, z.ps, 1, d3.i, d4.i⟩ : Cs) = Y
  have y0 : Y.a0 = 1 := by rw [← hY]
  have hd : dueZ W d1.l Y = ⟨0, false⟩ := dueZ_no (.inr (.inr (.inr y0)))
  have hL : lastZ W d1.l Y = ⟨0, false⟩ := last_no (.inr (.inr (.inr (.inl (by omega)))))
  have hp : pendZ Y = true := by rw [pend_t]; exact y0
  have hat : dayOk (min (d4.i + d5.i) 795363) = true := by rw [dayOk_t]; omega
  have hv : advE W Y (min (d4.i + d5.i) 795363) = 0 := by
    rw [advE_mk (c := Y) k0 (by rw [← hY]; exact k2) (by rw [← hY]; exact k3) (by rw [← hY]; exact k4) (by rw [← hY]; exact k5) (by rw [← hY]; exact k6) (by rw [← hY]; exact k7) (by rw [← hY]; simp only; omega), if_pos hat]
  have hv2 := adv_pend (l := d1.l) hv y0
  have hid : Y.id = z.id := by rw [← hY]
  simp only [hd, hL, hp, hv2]
  simp [h1, hl, seq', h3]
theorem c14 : ConOK Tryd.prog 14 con14 := by
  refine conOK_of_exec (inl := noInl) noInl_ok (lp := noLp) (tb := tb14) (c := bodyOf Tryd.f14) ⟨tt_ok, tb13_ok⟩ mixed Tryd.func14 (by kernel_rfl) (by kernel_rfl) ?_
  intro dat hpre hwt
  have hw0 := wts6 hwt
  obtain ⟨d0, d1, d2, d3, d4, d5, hdat, hws⟩ := hw0
  subst hdat
  have w0 := hws.1
  have w1 := hws.2.1
  have w2 := hws.2.2.1
  have w3 := hws.2.2.2.1
  have w4 := hws.2.2.2.2.1
  have w5 := hws.2.2.2.2.2
  clear hws hwt
  rw [vc14 d0 d1 d2 d3 d4 d5]
  simp only [ile_t, ile_f, ilt_t, ilt_f, ieq_t, ieq_f, bnot_t, bnot_f, band_t, band_f, true_and, and_true, lenI, smallZ_t, smallZ_f, csAll, csAny, imin_eq]
  generalize csOf d2 = C at *
  generalize lwOf d0 = W at *
  generalize min (iadd .i64 d4.i (iconv .i64 d5.i)) 795363 = at' at *
  refine ⟨fun _ => trivial, fun hs => ?_⟩
  have hl : d1.l.length ≤ 1000000 := by omega
  refine ⟨hl, fun _ => trivial, fun he => ⟨hl, hl, ?_⟩⟩
  have ha := dec_a0 he
  generalize (decZ W d1.l C d3.b d4.i).c = y at *
  have hL : lastZ W d1.l y = ⟨0, false⟩ := last_no (.inr (.inr (.inr (.inl (by omega)))))
  have hF : filE W d1.l y 1 at' ≠ 0 := fil_no (by omega)
  have hZ : filZ W d1.l y 1 at' = ⟨cs0, filE W d1.l y 1 at'⟩ := by unfold filZ; rw [if_pos hF]
  rw [hL, hZ, pend_f, pend_t]
  refine ⟨fun _ => ⟨fun _ => ⟨fun _ => ⟨fun _ => trivial, fun h => by omega⟩, fun h => by simp [cs0, seq'] at h⟩, fun h => hF h⟩, fun h => by cases h⟩
theorem c15 : ConOK Tryd.prog 15 con15 := by
  refine conOK_of_exec (inl := noInl) noInl_ok (lp := noLp) (tb := tb15) (c := bodyOf Tryd.f15) ⟨tt_ok, tb13_ok⟩ mixed Tryd.func15 (by kernel_rfl) (by kernel_rfl) ?_
  intro dat hpre hwt
  have hw0 := wts4 hwt
  obtain ⟨d0, d1, d2, d3, rfl, w0, w1, w2, w3⟩ := hw0
  refine Eq.mpr (vc15 d0 d1 d2 d3) ?_
  simp only [ile_t, ile_f, ilt_t, ilt_f, ieq_t, ieq_f, bnot_t, bnot_f, band_t, band_f, true_and, and_true, lenI, smallZ_t, smallZ_f, csAll, csAny, imin_eq]
  have q0 : (d2.fld 0).s = (csOf d2).id := rfl
  have q1 : (d2.fld 1).s = (csOf d2).pl := rfl
  have q2 : (d2.fld 2).s = (csOf d2).key := rfl
  have q3 : (d2.fld 3).i = (csOf d2).bg := rfl
  have q4 : (d2.fld 4).i = (csOf d2).si := rfl
  have q5 : (d2.fld 5).i = (csOf d2).st := rfl
  have q6 : (d2.fld 6).i = (csOf d2).ow := rfl
  have q7 : (d2.fld 7).i = (csOf d2).pa := rfl
  have q8 : (d2.fld 8).i = (csOf d2).ps := rfl
  have q9 : ((d2.fld 9).fld 0).i = (csOf d2).a0 := rfl
  have q10 : ((d2.fld 9).fld 1).i = (csOf d2).a1 := rfl
  have q11 : ((d2.fld 9).fld 2).i = (csOf d2).a2 := rfl
  have r0 : (d0.fld 0).l = (lwOf d0).ds := rfl
  have r1 : (d0.fld 1).l = (lwOf d0).fs := rfl
  have r2 : (d0.fld 2).i = (lwOf d0).lim := rfl
  simp only [q0, q1, q2, q3, q4, q5, q6, q7, q8, q9, q10, q11, r0, r1, r2, Cs.eta]
  clear q0 q1 q2 q3 q4 q5 q6 q7 q8 q9 q10 q11 r0 r1 r2
  generalize csOf d2 = C at *
  generalize lwOf d0 = W at *
  refine ⟨fun _ => trivial, fun hs => ?_⟩
  have hl : d1.l.length ≤ 1000000 := by omega
  refine ⟨hl, fun _ => trivial, fun he => ?_⟩
  have hE := dec_0 he
  obtain ⟨h0, h1, h2, h3, h4, h5, h6, h7, h8, h9, h10⟩ := decE_0 hE
  rw [dayOk_t] at h3 h4 h5 h6
  have e1 : isub .i64 d3.i C.a2 = d3.i - C.a2 := isub_eq (by omega)
  have e2 : iadd .i64 C.si (d3.i - C.a2) = C.si + (d3.i - C.a2) := iadd_eq (by omega)
  have e3 : iadd .i64 C.ps (d3.i - C.a2) = C.ps + (d3.i - C.a2) := iadd_eq (by omega)
  have hu : decZ W d1.l C true d3.i = ⟨upA C d3.i, 0⟩ := by rw [dec_ok hE, if_pos rfl]
  have hn : decZ W d1.l C false d3.i = advZ W d1.l (dnA C d3.i) d3.i := by rw [dec_ok hE, if_neg (by simp)]
  rw [e1, e2, e3, hu, hn]
  have ho : openZ (upA C d3.i) = false := by rw [openZ_f]; show ¬ (1 ≤ (7 : Int) ∧ (7 : Int) ≤ 5) ; omega
  rw [ho]
  unfold upA dnA
  simp [seq', hl]
end Go.Proofs.YtkjohnjhdfblcaaDoor
