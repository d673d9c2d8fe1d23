/- Part of the proof of the laws of this seat: contracts of its functions, for every input. -/
import Derived.Test.YtoabcfpmjhjmfaaWD
set_option linter.all false
namespace Go.Proofs.Ytoabcfpmjhjmfaa
open Go Go.RX Go.Proofs
set_option maxRecDepth 100000
set_option linter.all false
section
variable {p : Int} {up down parts : List D}
theorem upTo_eq (h : checkZ p up down parts = 0) {c : Int} {u : Nat} (hu : u ≤ up.length) (h1 : ∀ j, j < u → ei up j ≤ c) (h2 : u < up.length → c < ei up u) : ∀ {n : Nat}, u ≤ n → n ≤ up.length → upTo up c n = u
  | 0, h3, _ => by rw [upTo]; omega
  | n + 1, h3, h4 => by
    rw [upTo]
    by_cases e : u = n + 1
    · rw [if_pos (h1 n (by omega)), e]
    · have hm : c < ei up n := by
        by_cases e2 : u = n
        · rw [← e2]; exact h2 (by omega)
        · have := (up_mono h (i := u) (j := n) (by omega) (by omega)).1
          have := h2 (by omega); omega
      rw [if_neg (by omega)]
      exact upTo_eq h hu h1 h2 (by omega) (by omega)
theorem clamp_eq {n : Nat} {l : Int} : imin (imax l 0) (n : Int) = (clampZ n l : Int) := by
  rw [imin_eq, imax_eq]; unfold clampZ; omega
theorem clamp_le {n : Nat} {l : Int} : clampZ n l ≤ n := by unfold clampZ; omega
theorem downZ_le {c : Int} : ∀ {n : Nat}, downZ down c n ≤ n
  | 0 => Nat.le_refl _
  | n + 1 => by
    rw [downZ]
    split
    · have := @downZ_le c n; omega
    · exact Nat.le_refl _
end
theorem c25 : ConOK Try.prog 25 con25 := by
  refine conOK_of_exec (lp := lp25) (tb := tbN) (c := bodyOf Try.f25) ⟨tt_ok, tbN_ok⟩ mixed Try.func25 (by kernel_rfl) (by kernel_rfl) ?_
  intro dat hpre hwt
  obtain ⟨d0, d1, d2, rfl, w0, w1, w2⟩ := wts3 hwt
  refine Eq.mpr (vc25 d0 d1 d2) ?_
  have hc : checkZ (d0.fld 0).i (d0.fld 1).l (d0.fld 2).l (d0.fld 3).l = 0 := hpre
  have ok := (ck_ok hc).1
  have ha := ok.a; have hd := ok.d; have he := ok.e
  simp only [ile_t, ile_f, ilt_t, ilt_f, ieq_t, ieq_f, bnot_t, bnot_f, band_t, band_f, true_and, and_true, lenI, clamp_eq]
  clear hpre hwt
  generalize (d0.fld 0).i = p at *
  generalize (d0.fld 1).l = up at *
  generalize (d0.fld 2).l = down at *
  generalize (d0.fld 3).l = parts at *
  have hcl := @clamp_le up.length d1.i
  have hmain : ∀ g : Nat, g ≤ up.length → (∀ j, j < g → ei up j ≤ d2.i) → (g < up.length → d2.i < ei up g) →
      nextZ up down d1.i d2.i = if clampZ up.length d1.i < g then g else downZ down d2.i (clampZ up.length d1.i) := fun g h1 h2 h3 => by
    unfold nextZ; rw [upTo_eq hc h1 h2 h3 h1 (Nat.le_refl _)]
  generalize clampZ up.length d1.i = cl at *
  have hrow : ∀ k : Nat, (k : Int) ≤ (cl : Int) → 0 < k → isub .i64 (k : Int) 1 = ((k - 1 : Nat) : Int) := fun k h1 h2 => by rw [isub_eq (by omega)]; omega
  have hdn : ∀ k : Nat, 0 < k → downZ down d2.i k = if d2.i < (elt down ((k - 1 : Nat) : Int)).i then downZ down d2.i (k - 1) else k := fun k h => by
    obtain ⟨j, rfl⟩ : ∃ j, k = j + 1 := ⟨k - 1, by omega⟩
    rfl
  refine ⟨⟨0, ⟨by omega, fun j hj => by omega⟩, rfl⟩, fun g hg => ⟨fun hlt => ⟨by omega, fun h => ⟨g + 1, ⟨by omega, fun j hj => ?_⟩, by omega, by rw [iadd_eq (by omega)]; rfl⟩, fun hcg => ?_⟩, fun hge => ?_⟩⟩
  · by_cases e : j = g
    · rw [e]; exact h
    · exact hg.2 j (by omega)
  all_goals
    have hm := hmain g hg.1 hg.2 (fun _ => by first | exact hcg | omega)
    clear hmain
    refine ⟨fun h => by rw [hm, if_pos (by omega)], fun h => ⟨⟨cl, ⟨Int.le_refl _, by rw [Int.toNat_natCast]⟩, rfl⟩, fun k hk => ⟨fun h0 => ?_, fun h0 => ?_⟩⟩⟩
    · rw [hrow k hk.1 (by omega)]
      have hkd := hdn k (by omega)
      refine ⟨by omega, fun hx => ⟨k - 1, ⟨by omega, ?_⟩, by omega, rfl⟩, fun hx => ?_⟩
      · rw [← hk.2, hkd, if_pos hx]
      · rw [hm, if_neg (by omega)]
        have := hk.2
        rw [Int.toNat_natCast] at this
        rw [← this, hkd, if_neg (by omega)]
    · rw [hm, if_neg (by omega)]
      have := hk.2
      rw [Int.toNat_natCast] at this
      rw [← this, show k = 0 by omega]; rfl
theorem sc_eq {d : D} (h : WT scT d) : D.agg [D.int (d.fld 0).i, D.list (d.fld 1).l, D.list (d.fld 2).l, D.list (d.fld 3).l] = d := by
  obtain ⟨a, r, rfl, ⟨n, rfl, _⟩, b, r2, e1, ⟨x, rfl, _⟩, c, r3, e2, ⟨y, rfl, _⟩, e, r4, e3, ⟨z, rfl, _⟩, h4⟩ := h
  injection e1 with e1; subst e1
  injection e2 with e2; subst e2
  injection e3 with e3; subst e3
  injection h4 with h4; subst h4
  rfl
theorem upTo_le {up : List D} {c : Int} : ∀ {n : Nat}, upTo up c n ≤ n
  | 0 => Nat.le_refl _
  | n + 1 => by
    rw [upTo]
    split
    · exact Nat.le_refl _
    · have := @upTo_le up c n; omega
theorem int_eta {d : D} (h : WT i64 d) : D.int d.i = d := (wt_i h).1.symm
theorem list_eta {d : D} (h : WT li d) : D.list d.l = d := (wt_sl h).1.symm
theorem tbP_ok : TabOK Try.prog tbP := fun f con h => by
  unfold tbP at h
  split at h
  · cases h; exact c12
  · cases h; exact c13
  · cases h; exact c27
  · cases h
theorem c17 : ConOK Try.prog 17 con17 := by
  refine conOK_of_exec (lp := lp17) (tb := tb17) (c := bodyOf Try.f17) ⟨tt_ok, tbP_ok⟩ mixed Try.func17 (by kernel_rfl) (by kernel_rfl) ?_
  intro dat hpre hwt
  obtain ⟨d0, d1, d2, rfl, w0, w1, w2⟩ := wts3 hwt
  refine Eq.mpr (vc17 d0 d1 d2) ?_
  simp only [ile_t, ile_f, ilt_t, ilt_f, ieq_t, ieq_f, bnot_t, bnot_f, band_t, band_f, true_and, and_true, lenI, sc_eq w0, clamp_eq]
  refine ⟨fun h => by unfold nextV; rw [if_pos h], fun hc => ⟨⟨fun h => ⟨(), by rw [imax_eq]; omega⟩, fun h => ⟨(), by rw [imax_eq]; omega⟩⟩, fun _ _ => ⟨⟨fun h => ⟨(), by rw [← clamp_eq, imin_eq]; omega⟩, fun h => ⟨(), by rw [← clamp_eq, imin_eq]; omega⟩⟩, fun _ _ => ?_⟩⟩⟩
  have hv : nextV d0 d1.i d2.i = (nextZ (d0.fld 1).l (d0.fld 2).l d1.i d2.i : Int) := by unfold nextV; rw [if_neg (by simp [hc])]; rfl
  rw [hv]
  have hc : checkZ (d0.fld 0).i (d0.fld 1).l (d0.fld 2).l (d0.fld 3).l = 0 := hc
  have ok := (ck_ok hc).1
  have ha := ok.a; have hd := ok.d; have he := ok.e
  clear hpre hwt hv
  generalize (d0.fld 0).i = p at *
  generalize (d0.fld 1).l = up at *
  generalize (d0.fld 2).l = down at *
  generalize (d0.fld 3).l = parts at *
  have hcl := @clamp_le up.length d1.i
  have hm : nextZ up down d1.i d2.i = if clampZ up.length d1.i < upTo up d2.i up.length then upTo up d2.i up.length else downZ down d2.i (clampZ up.length d1.i) := rfl
  generalize clampZ up.length d1.i = cl at *
  have hrow : ∀ k : Nat, (k : Int) ≤ (cl : Int) → 0 < k → isub .i64 (k : Int) 1 = ((k - 1 : Nat) : Int) := fun k h1 h2 => by rw [isub_eq (by omega)]; omega
  have hdn : ∀ k : Nat, 0 < k → downZ down d2.i k = if d2.i < (elt down ((k - 1 : Nat) : Int)).i then downZ down d2.i (k - 1) else k := fun k h => by
    obtain ⟨j, rfl⟩ : ∃ j, k = j + 1 := ⟨k - 1, by omega⟩
    rfl
  refine ⟨⟨0, by omega, rfl, rfl⟩, fun g hg => ⟨fun hlt => ?_, fun hge => ?_⟩⟩
  · have e1 : isub .i64 ((g : Int) + 1) 1 = (g : Int) := by rw [isub_eq (by omega)]; omega
    have e2 : iadd .i64 ((g : Int) + 1) 1 = ((g + 1 : Nat) : Int) + 1 := by rw [iadd_eq (by omega)]; omega
    have e3 : upTo up d2.i (g + 1) = if (elt up (g : Int)).i ≤ d2.i then g + 1 else upTo up d2.i g := rfl
    rw [e1, e2]
    exact ⟨by omega, fun h => ⟨g + 1, by omega, by omega, by rw [e3, if_pos h]; rfl, rfl⟩, fun h => ⟨g + 1, by omega, by omega, by rw [e3, if_neg (by omega)], rfl⟩⟩
  · obtain rfl : g = up.length := by omega
    have hul := @upTo_le up d2.i up.length
    refine ⟨fun h => by rw [hm, if_pos (by omega)], fun h => ⟨⟨cl, ⟨Int.le_refl _, by rw [Int.toNat_natCast]⟩, rfl⟩, fun k hk => ⟨fun h0 => ?_, fun h0 => ?_⟩⟩⟩
    · rw [hrow k hk.1 (by omega)]
      have hkd := hdn k (by omega)
      refine ⟨by omega, fun hx => ⟨k - 1, ⟨by omega, ?_⟩, by omega, rfl⟩, fun hx => ?_⟩
      · rw [← hk.2, hkd, if_pos hx]
      · rw [hm, if_neg (by omega)]
        have := hk.2
        rw [Int.toNat_natCast] at this
        rw [← this, hkd, if_neg (by omega)]
    · rw [hm, if_neg (by omega)]
      have := hk.2
      rw [Int.toNat_natCast] at this
      rw [← this, show k = 0 by omega]; rfl
theorem tbQ_ok : TabOK Try.prog tbQ := fun f con h => by
  unfold tbQ at h
  split at h
  · cases h; exact c12
  · cases h; exact c13
  · cases h; exact c27
  · cases h; exact c25
  · cases h; exact c17
  · cases h
theorem c14 : ConOK Try.prog 14 con14 := by
  refine conOK_of_exec (lp := noLp) (tb := tb14) (c := bodyOf Try.f14) ⟨tt_ok, tbQ_ok⟩ mixed Try.func14 (by kernel_rfl) (by kernel_rfl) ?_
  intro dat hpre hwt
  obtain ⟨d0, d1, rfl, w0, w1⟩ := wts2 hwt
  refine Eq.mpr (vc14 d0 d1) ?_
  simp only [ile_t, ile_f, ilt_t, ilt_f, ieq_t, ieq_f, bnot_t, bnot_f, band_t, band_f, true_and, and_true, lenI, sc_eq w0]
  have hr : rl d0 3 = (d0.fld 3).l := rfl
  unfold partV
  rw [hr]
  refine ⟨fun h => by rw [if_pos h], fun hc => ⟨fun h => by rw [if_neg (by simp [hc]), if_pos (.inl h)], fun h1 => ⟨fun h => by rw [if_neg (by simp [hc]), if_pos (.inr h)], fun h2 => ⟨⟨h1, h2⟩, by rw [if_neg (by simp [hc]), if_neg (by unfold lenI; omega)]⟩⟩⟩⟩
theorem c15 : ConOK Try.prog 15 con15 := by
  refine conOK_of_exec (lp := noLp) (tb := tb15) (c := bodyOf Try.f15) ⟨tt_ok, tbQ_ok⟩ mixed Try.func15 (by kernel_rfl) (by kernel_rfl) ?_
  intro dat hpre hwt
  obtain ⟨d0, d1, rfl, w0, w1⟩ := wts2 hwt
  refine Eq.mpr (vc15 d0 d1) ?_
  simp only [ile_t, ile_f, ilt_t, ilt_f, ieq_t, ieq_f, bnot_t, bnot_f, band_t, band_f, true_and, and_true, lenI, sc_eq w0]
  have hr : rl d0 3 = (d0.fld 3).l := rfl
  unfold partV
  rw [hr]
  refine ⟨fun h => by rw [if_pos h], fun hc => ⟨fun h => by rw [if_neg (by simp [hc]), if_pos (.inl h)], fun h1 => ⟨fun h => by rw [if_neg (by simp [hc]), if_pos (.inr h)], fun h2 => ⟨⟨h1, h2⟩, by rw [if_neg (by simp [hc]), if_neg (by unfold lenI; omega)]⟩⟩⟩⟩
theorem c16 : ConOK Try.prog 16 con16 := by
  refine conOK_of_exec (lp := noLp) (tb := tb16) (c := bodyOf Try.f16) ⟨tt_ok, tbQ_ok⟩ mixed Try.func16 (by kernel_rfl) (by kernel_rfl) ?_
  intro dat hpre hwt
  obtain ⟨d0, d1, d2, rfl, w0, w1, w2⟩ := wts3 hwt
  refine Eq.mpr (vc16 d0 d1 d2) ?_
  simp only [ile_t, ile_f, ilt_t, ilt_f, ieq_t, ieq_f, bnot_t, bnot_f, band_t, band_f, true_and, and_true, lenI, sc_eq w0]
  unfold nextV
  exact ⟨fun h => by rw [if_pos h], fun hc => ⟨hc, by rw [if_neg (by simp [hc])]; rfl⟩⟩
theorem lev_next {up down counts : List D} {g : Nat} : levZ up down counts (g + 1) = nextZ up down (levZ up down counts g : Int) (elt counts (g : Int)).i := rfl
theorem c19 : ConOK Try.prog 19 con19 := by
  refine conOK_of_exec (lp := lp19) (tb := tb19) (c := bodyOf Try.f19) ⟨tt_ok, tbQ_ok⟩ mixed Try.func19 (by kernel_rfl) (by kernel_rfl) ?_
  intro dat hpre hwt
  obtain ⟨d0, d1, rfl, w0, w1⟩ := wts2 hwt
  refine Eq.mpr (vc19 d0 d1) ?_
  have hlen : d1.l.length ≤ 1024 := hpre
  have hr1 : rl d0 1 = (d0.fld 1).l := rfl
  have hr2 : rl d0 2 = (d0.fld 2).l := rfl
  simp only [ile_t, ile_f, ilt_t, ilt_f, ieq_t, ieq_f, bnot_t, bnot_f, band_t, band_f, true_and, and_true, lenI, sc_eq w0, mkL_len, List.length_cons, List.length_nil]
  refine ⟨fun h => by unfold levV; rw [if_pos h], fun hc => ⟨by omega, ⟨0, by omega, ⟨rfl, rfl⟩, rfl⟩, fun g hg => ⟨fun hlt => ⟨by omega, by omega, hc, g + 1, by omega, by omega, ⟨rfl, by rw [iadd_eq (by omega)]; rfl⟩, mkL_snoc (f := fun j => .int (levZ (d0.fld 1).l (d0.fld 2).l d1.l j : Int))⟩, fun hge => ?_⟩⟩⟩
  obtain rfl : g = d1.l.length := by omega
  unfold levV; rw [if_neg (by simp [hc])]; rfl
theorem c20 : ConOK Try.prog 20 con20 := by
  refine conOK_of_exec (lp := lp20) (tb := tb20) (c := bodyOf Try.f20) ⟨tt_ok, tbQ_ok⟩ mixed Try.func20 (by kernel_rfl) (by kernel_rfl) ?_
  intro dat hpre hwt
  obtain ⟨d0, d1, rfl, w0, w1⟩ := wts2 hwt
  refine Eq.mpr (vc20 d0 d1) ?_
  have hlen : d1.l.length ≤ 1024 := hpre
  have hr1 : rl d0 1 = (d0.fld 1).l := rfl
  have hr2 : rl d0 2 = (d0.fld 2).l := rfl
  simp only [ile_t, ile_f, ilt_t, ilt_f, ieq_t, ieq_f, bnot_t, bnot_f, band_t, band_f, true_and, and_true, lenI, sc_eq w0, mkL_len, List.length_cons, List.length_nil]
  refine ⟨fun h => by unfold levV; rw [if_pos h], fun hc => ⟨⟨0, by omega, ⟨rfl, rfl⟩, rfl⟩, fun g hg => ⟨fun hlt => ⟨by omega, by omega, g + 1, by omega, by omega, ⟨by unfold nextV; rw [if_neg (by simp [hc])]; rfl, by rw [iadd_eq (by omega)]; rfl⟩, mkL_snoc (f := fun j => .int (levZ (d0.fld 1).l (d0.fld 2).l d1.l j : Int))⟩, fun hge => ?_⟩⟩⟩
  obtain rfl : g = d1.l.length := by omega
  unfold levV; rw [if_neg (by simp [hc])]; rfl
section
variable {p : Int} {times : List D} {from_ : Int} {n i : Nat}
theorem cntK_le {k : Nat} : ∀ {i : Nat}, cntK p times from_ i k ≤ i
  | 0 => Nat.le_refl _
  | i + 1 => by
    have := @cntK_le k i
    rw [cntK]; split <;> omega
theorem cntL_len : (cntL p times from_ n i).length = n := mkL_len
theorem cntL_out (h : ¬ (from_ ≤ ei times i ∧ (ei times i - from_) / p < (n : Int))) : cntL p times from_ n i = cntL p times from_ n (i + 1) := by
  refine mkL_congr fun k hk => ?_
  rw [cntK, if_neg (by omega)]
theorem cntL_in {q : Int} (hq : (ei times i - from_) / p = q) (h0 : 0 ≤ q) (hn : q < (n : Int)) (h : from_ ≤ ei times i) (hi : (i : Int) < 9223372036854775807) :
    xset (cntL p times from_ n i) q.toNat (.int (iadd .i64 (elt (cntL p times from_ n i) (q.toNat : Int)).i 1)) = cntL p times from_ n (i + 1) := by
  have hk : q.toNat < n := by omega
  have hle := @cntK_le p times from_ q.toNat i
  rw [cntL, elt_mkL hk, xset_mkL, D.i_int, iadd_eq (by omega)]
  refine mkL_congr fun k hk => ?_
  rw [cntK]
  split
  · rename_i e; subst e
    rw [if_pos ⟨h, by rw [hq]; omega⟩]; rfl
  · rename_i e
    rw [if_neg (by rw [hq]; omega)]
theorem cntL_zero : xrep (n : Int) (.int 0) = cntL p times from_ n 0 := by
  rw [xrep_mkL, Int.toNat_natCast]; rfl
end
theorem quo_of {t f p : Int} (h : f ≤ t) (hf : 0 ≤ f) (ht : t ≤ 9223372036854775807) (hp : 1 ≤ p) : iquo .i64 (isub .i64 t f) p = (t - f) / p ∧ 0 ≤ (t - f) / p := by
  rw [isub_eq (by omega), iquo_eq (by omega) (by omega) (by omega)]
  exact ⟨rfl, Int.ediv_nonneg (by omega) (by omega)⟩
theorem c26 : ConOK Try.prog 26 con26 := by
  refine conOK_of_exec (lp := lp26) (tb := tbN) (c := bodyOf Try.f26) ⟨tt_ok, tbN_ok⟩ mixed Try.func26 (by kernel_rfl) (by kernel_rfl) ?_
  intro dat hpre hwt
  obtain ⟨d0, d1, d2, d3, rfl, w0, w1, w2, w3⟩ := wts4 hwt
  refine Eq.mpr (vc26 d0 d1 d2 d3) ?_
  obtain ⟨hc, hf, hn, hn2⟩ : ckS d0 = 0 ∧ 0 ≤ d2.i ∧ 0 ≤ d3.i ∧ d3.i ≤ 1024 := hpre
  have hp := (ck_ok hc).1.b
  have hp' : (d0.fld 0).i = ri d0 0 := rfl
  have hl := wt_len w1
  have htm := (wt_sl w1).2.2
  simp only [ile_t, ile_f, ilt_t, ilt_f, ieq_t, ieq_f, bnot_t, bnot_f, band_t, band_f, true_and, and_true, lenI, hp', cntL_len]
  generalize ri d0 0 = p at *
  generalize d1.l = times at *
  obtain ⟨n, hn3⟩ : ∃ n : Nat, d3.i = (n : Int) := ⟨d3.i.toNat, by omega⟩
  rw [hn3, Int.toNat_natCast]
  refine ⟨by omega, ⟨0, by omega, rfl, cntL_zero⟩, fun g hg => ⟨fun hlt => ⟨by omega, ?_⟩, fun hge => by rw [show g = times.length by omega]⟩⟩
  have ht := wt_i64 (htm _ (elt_mem (xs := times) (i := g) (by omega)))
  have i1 : iadd .i64 (g : Int) 1 = ((g + 1 : Nat) : Int) := by rw [iadd_eq (by omega)]; rfl
  refine ⟨fun h => ⟨g + 1, by omega, by omega, i1, cntL_out (by unfold ei; omega)⟩, fun h => ⟨by omega, ?_⟩⟩
  obtain ⟨q1, q2⟩ := quo_of h hf ht.2 hp
  rw [q1]
  exact ⟨fun h2 => ⟨by omega, by omega, g + 1, by omega, by omega, i1, cntL_in rfl q2 h2 h (by omega)⟩, fun h2 => ⟨g + 1, by omega, by omega, i1, cntL_out (by unfold ei; omega)⟩⟩
theorem c22 : ConOK Try.prog 22 con22 := by
  refine conOK_of_exec (lp := lp22) (tb := tb22) (c := bodyOf Try.f22) ⟨tt_ok, tbQ_ok⟩ mixed Try.func22 (by kernel_rfl) (by kernel_rfl) ?_
  intro dat hpre hwt
  obtain ⟨d0, d1, d2, d3, rfl, w0, w1, w2, w3⟩ := wts4 hwt
  refine Eq.mpr (vc22 d0 d1 d2 d3) ?_
  have hl := wt_len w1
  have htm := (wt_sl w1).2.2
  have hp' : (d0.fld 0).i = ri d0 0 := rfl
  simp only [ile_t, ile_f, ilt_t, ilt_f, ieq_t, ieq_f, bnot_t, bnot_f, band_t, band_f, true_and, and_true, lenI, sc_eq w0, cntL_len]
  simp only [hp']
  unfold cntV
  refine ⟨fun h => by rw [if_pos (.inl h)], fun hc => ⟨fun h => by rw [if_pos (.inr (.inl h))], fun hti => ⟨fun h => by rw [if_pos (by omega)], fun hn => ⟨fun h => by rw [if_pos (by omega)], fun hn2 => ?_⟩⟩⟩⟩
  rw [if_neg (by simp only [hc, hti]; simp; omega)]
  have hf := hti
  rw [time_t] at hf
  have hp := (ck_ok hc).1.b
  replace hp : 1 ≤ ri d0 0 := hp
  generalize ri d0 0 = p at *
  generalize d1.l = times at *
  obtain ⟨n, hn3⟩ : ∃ n : Nat, d3.i = (n : Int) := ⟨d3.i.toNat, by omega⟩
  rw [hn3, Int.toNat_natCast]
  refine ⟨by omega, ⟨0, by omega, rfl, cntL_zero⟩, fun g hg => ⟨fun hlt => ⟨by omega, ?_⟩, fun hge => by rw [show g = times.length by omega]⟩⟩
  have ht := wt_i64 (htm _ (elt_mem (xs := times) (i := g) (by omega)))
  have i1 : iadd .i64 (g : Int) 1 = ((g + 1 : Nat) : Int) := by rw [iadd_eq (by omega)]; rfl
  refine ⟨fun h => ⟨by omega, by omega, ?_⟩, fun h => ⟨g + 1, by omega, by omega, i1, cntL_out (by unfold ei; omega)⟩⟩
  obtain ⟨q1, q2⟩ := quo_of h hf.1 ht.2 hp
  rw [q1]
  exact ⟨fun h2 => ⟨by omega, by omega, by omega, by omega, g + 1, by omega, by omega, i1, cntL_in rfl q2 h2 h (by omega)⟩, fun h2 => ⟨g + 1, by omega, by omega, i1, cntL_out (by unfold ei; omega)⟩⟩
end Go.Proofs.Ytoabcfpmjhjmfaa
