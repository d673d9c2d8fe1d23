/- Part of the proof of the laws of this seat: contracts of its functions, for every input. -/
import Derived.Test.YtoabcfpmjhjmfaaWC
set_option linter.all false
namespace Go.Proofs.Ytoabcfpmjhjmfaa
open Go Go.RX Go.Proofs
set_option maxRecDepth 100000
set_option linter.all false
theorem wt_len {e : Ty} {d : D} (h : WT (.slice e) d) : (d.l.length : Int) ≤ 9223372036854775807 := by
  have := (wt_sl h).2.1
  simp only [maxLen] at this
  omega
theorem wt_sc {d : D} (h : WT scT d) : WT i64 (d.fld 0) ∧ WT li (d.fld 1) ∧ WT li (d.fld 2) ∧ WT li (d.fld 3) := by
  obtain ⟨a, r, rfl, h0, b, r2, e1, h1, c, r3, e2, h2, e, r4, e3, h3, h4⟩ := h
  injection e1 with e1; subst e1
  injection e2 with e2; subst e2
  injection e3 with e3; subst e3
  exact ⟨h0, h1, h2, h3⟩
structure OKs (p : Int) (up down parts : List D) : Prop where
  a : up.length ≤ 8
  b : 1 ≤ p
  c : p ≤ 86400
  d : down.length = up.length
  e : parts.length = up.length + 1
section
variable {p : Int} {up down parts : List D}
theorem ck_8 (h : 8 < up.length) : checkZ p up down parts = 3 := by unfold checkZ; rw [if_pos h]
theorem ck_1 (h : up.length ≤ 8) (h1 : p < 1 ∨ 86400 < p ∨ down.length ≠ up.length ∨ parts.length ≠ up.length + 1) : checkZ p up down parts = 1 := by
  unfold checkZ; rw [if_neg (by omega), if_pos h1]
theorem ck_n (h : OKs p up down parts) : checkZ p up down parts = if errTo (bad1 up down) up.length ≠ 0 then errTo (bad1 up down) up.length else errTo (bad2 parts) parts.length := by
  have ha := h.a; have hb := h.b; have hc := h.c; have hd := h.d; have he := h.e
  unfold checkZ; rw [if_neg (by omega), if_neg (by omega)]
theorem ck_b1 (h : OKs p up down parts) {g : Nat} (hg : errTo (bad1 up down) g = 0) (hl : g < up.length) {e : Int} (he : bad1 up down g = e) (hz : e ≠ 0) : checkZ p up down parts = e := by
  rw [ck_n h, errTo_stop hg (by rw [he]; exact hz) hl, he, if_pos hz]
theorem ck_b2 (h : OKs p up down parts) (h1 : errTo (bad1 up down) up.length = 0) {g : Nat} (hg : errTo (bad2 parts) g = 0) (hl : g < parts.length) {e : Int} (he : bad2 parts g = e) (hz : e ≠ 0) : checkZ p up down parts = e := by
  rw [ck_n h, if_neg (by simp [h1]), errTo_stop hg (by rw [he]; exact hz) hl, he]
theorem ck_0 (h : OKs p up down parts) (h1 : errTo (bad1 up down) up.length = 0) (h2 : errTo (bad2 parts) parts.length = 0) : checkZ p up down parts = 0 := by
  rw [ck_n h, if_neg (by simp [h1]), h2]
/-- What a valid scale is. -/
theorem ck_ok (h : checkZ p up down parts = 0) : OKs p up down parts ∧ (∀ i, i < up.length → 0 ≤ ei down i ∧ ei down i < ei up i ∧ ei up i ≤ 2147483648 ∧ (0 < i → ei up (i - 1) < ei up i ∧ ei down (i - 1) < ei down i)) ∧
    ∀ i, i < parts.length → 0 ≤ ei parts i ∧ ei parts i ≤ 10000 := by
  have h0 := h
  unfold checkZ at h
  split at h
  · cases h
  · split at h
    · cases h
    · rename_i h1 h2
      have hp : OKs p up down parts := ⟨by omega, by omega, by omega, by omega, by omega⟩
      split at h
      · rename_i h3; exact absurd h h3
      · rename_i h3
        refine ⟨hp, fun i hi => ?_, fun i hi => ?_⟩
        · have := errTo_all (Classical.not_not.1 h3) i hi
          unfold bad1 at this
          split at this
          · cases this
          · split at this
            · cases this
            · omega
        · have := errTo_all h i hi
          unfold bad2 at this
          split at this
          · cases this
          · omega
theorem up_mono (h : checkZ p up down parts = 0) {i j : Nat} (hij : i < j) (hj : j < up.length) : ei up i < ei up j ∧ ei down i < ei down j := by
  have hk := (ck_ok h).2.1
  induction j with
  | zero => omega
  | succ j ih =>
    have := (hk (j + 1) hj).2.2.2 (by omega)
    simp only [Nat.add_sub_cancel] at this
    by_cases e : i = j
    · subst e; exact this
    · have := ih (by omega) (by omega); omega
end
theorem time_t {n : Int} : (timeZ n = true) = (0 ≤ n ∧ n < 68719476736) := by simp [timeZ]
theorem time_f {n : Int} : (timeZ n = false) = (n < 0 ∨ 68719476736 ≤ n) := by
  rw [← Bool.not_eq_true, time_t]; simp; omega
theorem great_t {d : D} : (greatZ d = true) = (20 < (rl d 1).length ∨ 20 < (rl d 2).length ∨ 20 < (rl d 3).length) := by simp [greatZ]
theorem great_f {d : D} : (greatZ d = false) = ((rl d 1).length ≤ 20 ∧ (rl d 2).length ≤ 20 ∧ (rl d 3).length ≤ 20) := by simp [greatZ]
theorem c27 : ConOK Try.prog 27 con27 := by
  refine conOK_of_exec (lp := noLp) (tb := tbN) (c := bodyOf Try.f27) ⟨tt_ok, tbN_ok⟩ mixed Try.func27 (by kernel_rfl) (by kernel_rfl) ?_
  intro dat hpre hwt
  obtain ⟨d0, rfl, w0⟩ := wts1 hwt
  refine Eq.mpr (vc27 d0) ?_
  simp only [ile_t, ile_f, ilt_t, ilt_f, ieq_t, ieq_f, bnot_t, bnot_f, band_t, band_f, true_and, and_true, lenI]
  refine ⟨fun h => bool_eq ?_, fun h => ?_⟩
  · simp only [ilt_t, time_t]; omega
  · simp only [time_f]; omega
theorem c10 : ConOK Try.prog 10 con10 := by
  refine conOK_of_exec (lp := noLp) (tb := tbN) (c := bodyOf Try.f10) ⟨tt_ok, tbN_ok⟩ mixed Try.func10 (by kernel_rfl) (by kernel_rfl) ?_
  intro dat hpre hwt
  obtain ⟨d0, rfl, w0⟩ := wts1 hwt
  refine Eq.mpr (vc10 d0) ?_
  simp only [ile_t, ile_f, ilt_t, ilt_f, ieq_t, ieq_f, bnot_t, bnot_f, band_t, band_f, true_and, and_true, lenI]
  have e1 : rl d0 1 = (d0.fld 1).l := rfl
  have e2 : rl d0 2 = (d0.fld 2).l := rfl
  have e3 : rl d0 3 = (d0.fld 3).l := rfl
  refine ⟨fun h => ?_, fun h => ⟨fun h1 => ?_, fun h1 => bool_eq ?_⟩⟩
  · rw [great_t, e1]; omega
  · rw [great_t, e1, e2]; omega
  · rw [great_t, e1, e2, e3, ilt_t]; omega
theorem c12 : ConOK Try.prog 12 con12 := by
  refine conOK_of_exec (lp := lp12) (tb := tbN) (c := bodyOf Try.f12) ⟨tt_ok, tbN_ok⟩ mixed Try.func12 (by kernel_rfl) (by kernel_rfl) ?_
  intro dat hpre hwt
  obtain ⟨d0, rfl, w0⟩ := wts1 hwt
  refine Eq.mpr (vc12 d0) ?_
  simp only [ile_t, ile_f, ilt_t, ilt_f, ieq_t, ieq_f, bnot_t, bnot_f, band_t, band_f, true_and, and_true, lenI]
  have hl1 := wt_len (wt_sc w0).2.1
  have hl3 := wt_len (wt_sc w0).2.2.2
  have hck : ckS d0 = checkZ (d0.fld 0).i (d0.fld 1).l (d0.fld 2).l (d0.fld 3).l := rfl
  rw [hck]
  clear hck hpre hwt w0
  generalize (d0.fld 0).i = p at *
  generalize (d0.fld 1).l = up at *
  generalize (d0.fld 2).l = down at *
  generalize (d0.fld 3).l = parts at *
  have e1 : iadd .i64 (up.length : Int) 1 = (up.length : Int) + 1 ∨ 8 < up.length := by
    by_cases h : 8 < up.length
    · exact .inr h
    · exact .inl (iadd_eq (by omega))
  refine ⟨fun h => (ck_8 (by omega)).symm, fun h1 => ⟨fun h => (ck_1 (by omega) (by omega)).symm, fun h2 => ⟨fun h => (ck_1 (by omega) (by omega)).symm, fun h3 => ⟨fun h => (ck_1 (by omega) (by omega)).symm, fun h4 => ⟨fun h => (ck_1 (by omega) (by omega)).symm, fun h5 => ?_⟩⟩⟩⟩⟩
  have hp : OKs p up down parts := ⟨by omega, by omega, by omega, by omega, by omega⟩
  refine ⟨⟨0, ⟨by omega, rfl⟩, rfl⟩, fun g hg => ⟨fun hlt => ⟨by omega, ?_⟩, fun hge => ⟨⟨0, ⟨by omega, rfl⟩, rfl⟩, ?_⟩⟩⟩
  · have hb : ∀ e, bad1 up down g = e → e ≠ 0 → e = checkZ p up down parts := fun e h h' => (ck_b1 hp hg.2 (by omega) h h').symm
    have hx : bad1 up down g = 0 → ∃ g', (g' ≤ up.length ∧ errTo (bad1 up down) g' = 0) ∧ up.length - g' < up.length - g ∧ iadd .i64 (g : Int) 1 = (g' : Int) := fun h =>
      ⟨g + 1, ⟨by omega, errTo_next hg.2 h⟩, by omega, by rw [iadd_eq (by omega)]; rfl⟩
    unfold bad1 ei at hb hx
    by_cases hz : 0 < g
    · have e2 : isub .i64 (g : Int) 1 = ((g - 1 : Nat) : Int) := by rw [isub_eq (by omega)]; omega
      rw [e2]
      generalize (elt up ((g - 1 : Nat) : Int)).i = u1 at *
      generalize (elt down ((g - 1 : Nat) : Int)).i = v1 at *
      generalize (elt up (g : Int)).i = u at *
      generalize (elt down (g : Int)).i = v at *
      refine ⟨fun h => hb 1 (by rw [if_pos (by omega)]) (by decide), fun k1 => ⟨by omega, by omega, fun h => hb 1 (by rw [if_pos (by omega)]) (by decide), fun k2 => ⟨by omega, fun h => hb 1 (by rw [if_pos (by omega)]) (by decide), fun k3 => ⟨fun k4 => ⟨by omega, by omega, fun h => hb 15 (by rw [if_neg (by omega), if_pos (by omega)]) (by decide), fun k5 => ⟨by omega, by omega, fun h => hb 15 (by rw [if_neg (by omega), if_pos (by omega)]) (by decide), fun k6 => ?_⟩⟩, fun k4 => by omega⟩⟩⟩⟩
      exact hx (by rw [if_neg (by omega), if_neg (by omega)])
    · generalize (elt up ((g - 1 : Nat) : Int)).i = u1 at *
      generalize (elt down ((g - 1 : Nat) : Int)).i = v1 at *
      generalize (elt up (g : Int)).i = u at *
      generalize (elt down (g : Int)).i = v at *
      refine ⟨fun h => hb 1 (by rw [if_pos (by omega)]) (by decide), fun k1 => ⟨by omega, by omega, fun h => hb 1 (by rw [if_pos (by omega)]) (by decide), fun k2 => ⟨by omega, fun h => hb 1 (by rw [if_pos (by omega)]) (by decide), fun k3 => ⟨fun k4 => by omega, fun k4 => ?_⟩⟩⟩⟩
      exact hx (by rw [if_neg (by omega), if_neg (by omega)])
  · intro i hi
    obtain rfl : g = up.length := by omega
    have hb : ∀ e, bad2 parts i = e → e ≠ 0 → i < parts.length → e = checkZ p up down parts := fun e h h' hi' => (ck_b2 hp hg.2 hi.2 hi' h h').symm
    refine ⟨fun hlt => ⟨by omega, fun h => hb 1 (by unfold bad2 ei; rw [if_pos (by omega)]) (by decide) (by omega), fun k1 => ⟨fun h => hb 1 (by unfold bad2 ei; rw [if_pos (by omega)]) (by decide) (by omega), fun k2 => ⟨i + 1, ⟨by omega, errTo_next hi.2 (by unfold bad2 ei; rw [if_neg (by omega)])⟩, by omega, by rw [iadd_eq (by omega)]; rfl⟩⟩⟩, fun hge => ?_⟩
    obtain rfl : i = parts.length := by omega
    exact (ck_0 hp hg.2 hi.2).symm
theorem c13 : ConOK Try.prog 13 con13 := by
  refine conOK_of_exec (lp := lp13) (tb := tbN) (c := bodyOf Try.f13) ⟨tt_ok, tbN_ok⟩ mixed Try.func13 (by kernel_rfl) (by kernel_rfl) ?_
  intro dat hpre hwt
  obtain ⟨d0, rfl, w0⟩ := wts1 hwt
  refine Eq.mpr (vc13 d0) ?_
  simp only [ile_t, ile_f, ilt_t, ilt_f, ieq_t, ieq_f, bnot_t, bnot_f, band_t, band_f, true_and, and_true, lenI]
  have hl1 := wt_len (wt_sc w0).2.1
  have hl3 := wt_len (wt_sc w0).2.2.2
  have hck : ckS d0 = checkZ (d0.fld 0).i (d0.fld 1).l (d0.fld 2).l (d0.fld 3).l := rfl
  rw [hck]
  clear hck hpre hwt w0
  generalize (d0.fld 0).i = p at *
  generalize (d0.fld 1).l = up at *
  generalize (d0.fld 2).l = down at *
  generalize (d0.fld 3).l = parts at *
  have e1 : iadd .i64 (up.length : Int) 1 = (up.length : Int) + 1 ∨ 8 < up.length := by
    by_cases h : 8 < up.length
    · exact .inr h
    · exact .inl (iadd_eq (by omega))
  refine ⟨fun h => (ck_8 (by omega)).symm, fun h1 => ⟨fun h => (ck_1 (by omega) (by omega)).symm, fun h2 => ⟨fun h => (ck_1 (by omega) (by omega)).symm, fun h3 => ⟨fun h => (ck_1 (by omega) (by omega)).symm, fun h4 => ⟨fun h => (ck_1 (by omega) (by omega)).symm, fun h5 => ?_⟩⟩⟩⟩⟩
  have hp : OKs p up down parts := ⟨by omega, by omega, by omega, by omega, by omega⟩
  refine ⟨⟨0, ⟨by omega, rfl⟩, rfl⟩, fun g hg => ⟨fun hlt => ⟨by omega, ?_⟩, fun hge => ⟨⟨0, ⟨by omega, rfl⟩, rfl⟩, ?_⟩⟩⟩
  · have hb : ∀ e, bad1 up down g = e → e ≠ 0 → e = checkZ p up down parts := fun e h h' => (ck_b1 hp hg.2 (by omega) h h').symm
    have hx : bad1 up down g = 0 → ∃ g', (g' ≤ up.length ∧ errTo (bad1 up down) g' = 0) ∧ up.length - g' < up.length - g ∧ iadd .i64 (g : Int) 1 = (g' : Int) := fun h =>
      ⟨g + 1, ⟨by omega, errTo_next hg.2 h⟩, by omega, by rw [iadd_eq (by omega)]; rfl⟩
    unfold bad1 ei at hb hx
    by_cases hz : 0 < g
    · have e2 : isub .i64 (g : Int) 1 = ((g - 1 : Nat) : Int) := by rw [isub_eq (by omega)]; omega
      rw [e2]
      generalize (elt up ((g - 1 : Nat) : Int)).i = u1 at *
      generalize (elt down ((g - 1 : Nat) : Int)).i = v1 at *
      generalize (elt up (g : Int)).i = u at *
      generalize (elt down (g : Int)).i = v at *
      refine ⟨fun h => hb 1 (by rw [if_pos (by omega)]) (by decide), fun k1 => ⟨by omega, by omega, fun h => hb 1 (by rw [if_pos (by omega)]) (by decide), fun k2 => ⟨by omega, fun h => hb 1 (by rw [if_pos (by omega)]) (by decide), fun k3 => ⟨fun k4 => ⟨by omega, by omega, fun h => hb 15 (by rw [if_neg (by omega), if_pos (by omega)]) (by decide), fun k5 => ⟨by omega, by omega, fun h => hb 15 (by rw [if_neg (by omega), if_pos (by omega)]) (by decide), fun k6 => ?_⟩⟩, fun k4 => by omega⟩⟩⟩⟩
      exact hx (by rw [if_neg (by omega), if_neg (by omega)])
    · generalize (elt up ((g - 1 : Nat) : Int)).i = u1 at *
      generalize (elt down ((g - 1 : Nat) : Int)).i = v1 at *
      generalize (elt up (g : Int)).i = u at *
      generalize (elt down (g : Int)).i = v at *
      refine ⟨fun h => hb 1 (by rw [if_pos (by omega)]) (by decide), fun k1 => ⟨by omega, by omega, fun h => hb 1 (by rw [if_pos (by omega)]) (by decide), fun k2 => ⟨by omega, fun h => hb 1 (by rw [if_pos (by omega)]) (by decide), fun k3 => ⟨fun k4 => by omega, fun k4 => ?_⟩⟩⟩⟩
      exact hx (by rw [if_neg (by omega), if_neg (by omega)])
  · intro i hi
    obtain rfl : g = up.length := by omega
    have hb : ∀ e, bad2 parts i = e → e ≠ 0 → i < parts.length → e = checkZ p up down parts := fun e h h' hi' => (ck_b2 hp hg.2 hi.2 hi' h h').symm
    refine ⟨fun hlt => ⟨by omega, fun h => hb 1 (by unfold bad2 ei; rw [if_pos (by omega)]) (by decide) (by omega), fun k1 => ⟨by omega, fun h => hb 1 (by unfold bad2 ei; rw [if_pos (by omega)]) (by decide) (by omega), fun k2 => ⟨i + 1, ⟨by omega, errTo_next hi.2 (by unfold bad2 ei; rw [if_neg (by omega)])⟩, by omega, by rw [iadd_eq (by omega)]; rfl⟩⟩⟩, fun hge => ?_⟩
    obtain rfl : i = parts.length := by omega
    exact (ck_0 hp hg.2 hi.2).symm
theorem c18 : ConOK Try.prog 18 con18 := by
  refine conOK_of_exec (lp := lp18) (tb := tbN) (c := bodyOf Try.f18) ⟨tt_ok, tbN_ok⟩ mixed Try.func18 (by kernel_rfl) (by kernel_rfl) ?_
  intro dat hpre hwt
  obtain ⟨d0, d1, rfl, w0, w1⟩ := wts2 hwt
  refine Eq.mpr (vc18 d0 d1) ?_
  simp only [ile_t, ile_f, ilt_t, ilt_f, ieq_t, ieq_f, bnot_t, bnot_f, band_t, band_f, true_and, and_true, lenI]
  have hl := wt_len w0
  refine ⟨fun h => ?_, fun h => ⟨⟨0, ⟨by omega, fun i hi => by omega⟩, rfl⟩, fun g hg => ⟨fun h1 => ⟨by omega, by omega, fun h2 => ?_, fun h2 => ⟨g + 1, ⟨by omega, fun i hi => ?_⟩, by omega, ?_⟩⟩, fun h1 => ?_⟩⟩⟩
  · rw [← Bool.not_eq_true, sameZ_t]; omega
  · exact sameZ_f (by omega) h2
  · rcases Nat.lt_succ_iff_lt_or_eq.1 hi with h3 | rfl
    · exact hg.2 i h3
    · exact h2
  · rw [iadd_eq (by omega)]; rfl
  · rw [sameZ_t]; exact ⟨by omega, fun i hi => hg.2 i (by omega)⟩
end Go.Proofs.Ytoabcfpmjhjmfaa
