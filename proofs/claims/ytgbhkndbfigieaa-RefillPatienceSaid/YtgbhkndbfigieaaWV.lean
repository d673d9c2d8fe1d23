/- Part of the proof of the laws of this seat: contracts of its functions, for every input. -/
import Derived.Test.YtgbhkndbfigieaaWU
set_option linter.all false
namespace Go.Proofs.Ytgbhkndbfigieaa
open Go Go.RX Go.Proofs
set_option maxRecDepth 100000
theorem downTo_len {mv : List D} {c : Int} : ∀ {i : Nat}, (downTo mv c i).length = mv.length
  | 0 => by rw [downTo, xrep_len]; simp [lenI]
  | i + 1 => by rw [downTo, xset_len, downTo_len]
theorem okTo_len {mv : List D} : ∀ {i : Nat}, (okTo mv i).length = mv.length
  | 0 => by rw [okTo, xrep_len]; simp [lenI]
  | i + 1 => by rw [okTo, xset_len, okTo_len]
theorem downTo_elt {mv : List D} {c : Int} {j : Nat} : ∀ {i : Nat}, j < i → i ≤ mv.length → elt (downTo mv c i) (j : Int) = .int (isub .i64 0 (irem (iconv .i64 (elt mv (j : Int)).i) (iadd .i64 c 1)))
  | 0, h, _ => by omega
  | i + 1, h, hl => by
    rw [downTo, elt_xset (by rw [downTo_len]; omega)]
    by_cases e : i = j
    · subst e; rw [if_pos (by simp)]
    · rw [if_neg (by simpa using e)]; exact downTo_elt (by omega) (by omega)
theorem okTo_elt {mv : List D} {j : Nat} : ∀ {i : Nat}, j < i → i ≤ mv.length → elt (okTo mv i) (j : Int) = .bool true
  | 0, h, _ => by omega
  | i + 1, h, hl => by
    rw [okTo, elt_xset (by rw [okTo_len]; omega)]
    by_cases e : i = j
    · subst e; rw [if_pos (by simp)]
    · rw [if_neg (by simpa using e)]; exact okTo_elt (by omega) (by omega)
/-- If every move takes at most the amount and every request succeeds, no balance falls below the limit. -/
theorem floor_to {r0 r1 r2 r3 bal : Int} {mv ok : List D} (h1 : 1 ≤ r1) (hm : ∀ i, i < mv.length → -r1 ≤ (elt mv (i : Int)).i) (hk : ∀ i, i < mv.length → (elt ok (i : Int)).b = true) (hok : ok.length = mv.length)
    {i : Nat} (hi : i ≤ mv.length) : ∀ {s : RS}, runTo r0 r1 r2 r3 bal mv ok i = some s → s.f = ⟨1, 0, 0⟩ ∧ (r0 ≤ s.b ∨ bal ≤ s.b) := by
  induction i with
  | zero => intro s h; simp only [runTo, Option.some.injEq] at h; subst h; exact ⟨rfl, .inr (Int.le_refl _)⟩
  | succ i ih =>
    intro s h
    obtain ⟨s1, s2, a1, a2, a3, a4⟩ := runTo_part h (i := i) (by omega)
    rw [h] at a3; obtain rfl := Option.some.inj a3
    have h0 := ih (by omega) a1
    have hst := runStep_is a2
    have hmi := hm i (by omega)
    have hn := (runTo_len a1).2
    have hki := hk s1.n (by omega)
    clear a4
    unfold runStep at a2
    split at a2
    · cases a2
    · rename_i e1
      have e1 := addZ_ok (Classical.not_not.1 e1)
      rw [e1.2.2.2, h0.1] at a2
      by_cases hb : r0 ≤ s1.b + (elt mv (i : Int)).i
      · have hz : stepZ r0 r1 ⟨1, 0, 0⟩ (s1.b + (elt mv (i : Int)).i) (i : Int) = (⟨1, 0, 0⟩, 0) := by
          unfold stepZ; rw [if_pos (.inr (.inr (.inl hb)))]
        rw [hz] at a2
        simp only [Int.lt_irrefl, if_false, Option.some.injEq] at a2
        subst a2
        exact ⟨rfl, .inl hb⟩
      · have hz : stepZ r0 r1 ⟨1, 0, 0⟩ (s1.b + (elt mv (i : Int)).i) (i : Int) = (⟨2, 0, 0⟩, r1) := by
          unfold stepZ; rw [if_neg (by simp only; omega)]
        rw [hz] at a2
        simp only at a2
        rw [if_pos (by omega), if_pos ⟨by unfold lenI; omega, hki⟩] at a2
        split at a2
        · cases a2
        · rename_i e2
          have e2 := addZ_ok (Classical.not_not.1 e2)
          simp only [Option.some.injEq] at a2
          rw [e2.2.2.2] at a2
          subst a2
          refine ⟨rfl, ?_⟩
          simp only
          omega
theorem c8 : ConOK Try.prog 8 con8 := by
  refine conOK_of_exec (lp := lp8) (tb := tb8) (c := bodyOf Try.f8) ⟨tt_ok, tbL_ok⟩ mixed Try.func8 (by kernel_rfl) (by kernel_rfl) ?_
  intro dat hpre hwt
  obtain ⟨d0, d1, d2, rfl, h0, h1, h2⟩ := wts3 hwt
  refine Eq.mpr (vc8 d0 d1 d2) ?_
  clear hpre hwt 
  generalize d0.fld 0 = r0 at *
  generalize d0.fld 1 = r1 at *
  generalize d0.fld 2 = r2 at *
  generalize d0.fld 3 = r3 at *
  simp only [ilt_t, ilt_f, bnot_t, bnot_f, ieq_t, ieq_f, true_and, and_true, lenI]
  refine ⟨fun _ => trivial, fun hc => ⟨fun _ => trivial, fun h1 => ⟨fun _ => trivial, fun hl => ⟨by omega, by omega, ⟨0, by omega, rfl, rfl, rfl⟩, fun g hg => ⟨fun hlt => ⟨by omega, ?_, by rw [downTo_len]; omega, by rw [okTo_len]; omega, g + 1, by omega, by omega, ?_, rfl, rfl⟩, fun hge => ?_⟩⟩⟩⟩⟩
  · have := check_fits hc
    rw [fits_t] at this
    rw [iadd_eq (by omega)]; omega
  · rw [iadd_eq (by omega)]; rfl
  · obtain rfl : g = d2.l.length := by omega
    refine ⟨fun _ => trivial, fun he => ?_⟩
    obtain ⟨s, hc, hlen, hfb, hs, hR⟩ := runZ_ok he
    rw [downTo_len] at hs
    have hsl := runTo_len hs
    rw [hR]
    have hfl : ∀ {i : Nat}, i ≤ d2.l.length → ∀ {s : RS}, runTo r0.i r1.i r2.i r3.i d1.i (downTo d2.l r1.i d2.l.length) (okTo d2.l d2.l.length) i = some s → s.f = ⟨1, 0, 0⟩ ∧ (r0.i ≤ s.b ∨ d1.i ≤ s.b) := fun {i} hi => by
      refine floor_to h1 (fun i hi => ?_) (fun i hi => ?_) (by rw [okTo_len, downTo_len]) (by rw [downTo_len]; exact hi)
      · rw [downTo_len] at hi
        rw [downTo_elt hi (Nat.le_refl _), D.i_int]
        have hx := wt_u16 ((wt_sl h2).2.2 _ (elt_mem hi))
        generalize (elt d2.l (i : Int)).i = x at *
        have hf := check_fits hc
        rw [fits_t] at hf
        have e1 : iconv .i64 x = x := by unfold iconv; rw [IntKind.wrap_i64]; omega
        rw [e1, iadd_eq (by omega)]
        have e2 : irem x (r1.i + 1) = x % (r1.i + 1) := by unfold irem; exact Int.tmod_eq_emod_of_nonneg hx.1
        rw [e2]
        have e3 := Int.emod_lt_of_pos x (b := r1.i + 1) (by omega)
        have e4 := Int.emod_nonneg x (b := r1.i + 1) (by omega)
        rw [isub_eq (by omega)]
        omega
      · rw [downTo_len] at hi
        rw [okTo_elt hi (Nat.le_refl _)]; rfl
    refine ⟨⟨0, by omega, rfl⟩, fun j hj => ⟨fun hlt => ⟨by omega, fun h => ?_, fun h => ⟨j + 1, by simp only at hlt ⊢; omega, by simp only at hlt ⊢; omega, ?_⟩⟩, fun hge => ?_⟩⟩
    · simp only at hlt h
      obtain ⟨s1, s2, a1, a2, a3, a4⟩ := runTo_part hs (i := j) (by omega)
      rw [a4, D.i_int] at h
      have := (hfl (i := j + 1) (by omega) a3).2
      unfold imin at h
      split at h <;> omega
    · rw [iadd_eq (by simp only at hlt; omega)]; rfl
    · have := (hfl (Nat.le_refl _) hs).1
      simp only [this]
      simp
theorem c10 : ConOK Try.prog 10 con10 := by
  refine conOK_of_exec (lp := lp10) (tb := tb10) (c := bodyOf Try.f10) ⟨tt_ok, tbL_ok⟩ mixed Try.func10 (by kernel_rfl) (by kernel_rfl) ?_
  intro dat hpre hwt
  obtain ⟨d0, d1, rfl, h0, h1⟩ := wts2 hwt
  refine Eq.mpr (vc10 d0 d1) ?_
  have hx := wt_u8 h1
  clear hpre hwt 
  generalize d0.fld 0 = r0 at *
  generalize d0.fld 1 = r1 at *
  generalize d0.fld 2 = r2 at *
  generalize d0.fld 3 = r3 at *
  simp only [ilt_t, ilt_f, bnot_t, bnot_f, ieq_t, ieq_f, ile_t, ile_f, true_and, and_true, F.eta]
  refine ⟨fun _ => trivial, fun hc => ⟨fun _ => trivial, fun hst => ⟨fun _ => trivial, fun h2 => ⟨⟨⟨0, 0, -1, ⟨1, 0, 0⟩⟩, ⟨by simp only; omega, rfl, by simp only; omega, .inl ⟨rfl, by simp only; omega⟩, .inl ⟨rfl, rfl, rfl⟩⟩, ⟨rfl, rfl, rfl⟩, rfl, rfl, rfl⟩, fun g hg => ?_⟩⟩⟩⟩
  have hck := hc
  unfold checkZ at hck
  rw [if_neg (by omega)] at hck
  split at hck
  · cases hck
  · rename_i hf
    split at hck
    · cases hck
    · rename_i hv
      have hr0 : fitsZ r0.i = true := by cases h : fitsZ r0.i with
        | true => rfl
        | false => exact absurd (.inl h) hf
      have hr1 := check_fits hc
      have hr3 : timeZ r3.i = true := by cases h : timeZ r3.i with
        | true => rfl
        | false => exact absurd (.inr (.inr (.inr (.inr h)))) hv
      clear hf hck
      rw [fits_t] at hr0 hr1
      rw [time_t] at hr3
      have hv2 : 0 ≤ r0.i ∧ 1 ≤ r1.i ∧ 1 ≤ r2.i ∧ r2.i ≤ 16 := by
        refine ⟨?_, ?_, ?_, ?_⟩ <;> apply Classical.byContradiction <;> intro hh <;> apply hv
        · exact .inl (by omega)
        · exact .inr (.inl (by omega))
        · exact .inr (.inr (.inl (by omega)))
        · exact .inr (.inr (.inr (.inl (by omega))))
      clear hv
      have e1 : isub .i64 r0.i 1 = r0.i - 1 := isub_eq (by omega)
      have e2 : iconv .i64 d1.i = d1.i := by unfold iconv; rw [IntKind.wrap_i64]; omega
      rw [e1, e2]
      obtain ⟨t, n, last, f⟩ := g
      obtain ⟨fs, ff, fn⟩ := f
      simp only at hg ⊢
      obtain ⟨g1, g2, g3, g4, g5⟩ := hg
      subst g2
      have e3 : iadd .i64 (n : Int) 1 = (n : Int) + 1 := iadd_eq (by omega)
      have e4 : iadd .i64 (t : Int) 1 = (t : Int) + 1 := iadd_eq (by omega)
      rw [e3]
      refine ⟨fun hlt => ?_, fun hge => ?_⟩
      · rw [e4]
        by_cases hq : fs = 1 ∧ fn ≤ (t : Int)
        · have hs : stepZ r0.i r1.i ⟨fs, (n : Int), fn⟩ (r0.i - 1) (t : Int) = (⟨2, (n : Int), fn⟩, r1.i) := by
            unfold stepZ; rw [if_neg (by simp only; omega)]
          rw [hs]
          have e5 : iadd .i64 (t : Int) r3.i = (t : Int) + r3.i := iadd_eq (by omega)
          have htime : timeZ (t : Int) = true := by rw [time_t]; omega
          simp only [ne_eq, not_true_eq_false, false_implies, true_implies, true_and]
          refine ⟨fun h => by omega, fun _ => ⟨fun hl => ⟨fun h => ?_, fun _ => ?_⟩, fun hl => ?_⟩⟩
          · rw [isub_eq (by omega)] at h; omega
          all_goals
            by_cases hr : r2.i ≤ (n : Int) + 1
            · have hfz : failZ r2.i r3.i ⟨2, (n : Int), fn⟩ (t : Int) = (⟨3, (n : Int) + 1, 0⟩, 0) := by
                unfold failZ; simp only; rw [if_neg (by simp), if_neg (by simp [htime]), e3, if_pos hr]
              rw [hfz]
              simp only [not_true_eq_false, false_implies, true_implies, true_and]
              refine ⟨fun h => ?_, fun _ => ⟨⟨t + 1, n + 1, t, ⟨3, (n : Int) + 1, 0⟩⟩, ⟨by simp only; omega, rfl, by simp only; omega, .inr ⟨rfl, by simp only; omega⟩, .inr ⟨by simp only; omega, by simp only; omega, fun h => absurd (show (3 : Int) = 1 from h) (by decide)⟩⟩, by simp only; omega, ?_, rfl, rfl, rfl⟩⟩
              · rw [show r2.i = (n : Int) + 1 by omega] at h; simp [beqB, ieq] at h
              · simp
            · have hfz : failZ r2.i r3.i ⟨2, (n : Int), fn⟩ (t : Int) = (⟨1, (n : Int) + 1, (t : Int) + r3.i⟩, 0) := by
                unfold failZ; simp only; rw [if_neg (by simp), if_neg (by simp [htime]), e3, if_neg hr, e5]
              rw [hfz]
              simp only [not_true_eq_false, false_implies, true_implies, true_and]
              refine ⟨fun h => ?_, fun _ => ⟨⟨t + 1, n + 1, t, ⟨1, (n : Int) + 1, (t : Int) + r3.i⟩⟩, ⟨by simp only; omega, rfl, by simp only; omega, .inl ⟨rfl, by simp only; omega⟩, .inr ⟨by simp only; omega, by simp only; omega, fun _ => rfl⟩⟩, by simp only; omega, ?_, rfl, rfl, rfl⟩⟩
              · have : ieq ((n : Int) + 1) r2.i = false := by rw [ieq_f]; omega
                rw [this] at h; simp [beqB, ieq] at h
              · simp
        · have hs : stepZ r0.i r1.i ⟨fs, (n : Int), fn⟩ (r0.i - 1) (t : Int) = (⟨fs, (n : Int), fn⟩, 0) := by
            unfold stepZ; rw [if_pos (by simp only; omega)]
          rw [hs]
          refine ⟨fun _ => ⟨⟨t + 1, n, last, ⟨fs, (n : Int), fn⟩⟩, ⟨by simp only; omega, rfl, g3, g4, by simp only at g5 ⊢; omega⟩, by simp only; omega, ⟨rfl, rfl, by simp⟩, rfl, rfl, rfl⟩, fun h => absurd rfl h⟩
      · refine ⟨fun h => ⟨fun _ => trivial, fun h5 => ?_⟩, fun h => by omega⟩
        have : fs = 3 := by omega
        subst this
        simp [resuZ, band, ieq]
end Go.Proofs.Ytgbhkndbfigieaa
