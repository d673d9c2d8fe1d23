/- Part of the proof of the laws of this seat: contracts of its functions, for every input. -/
import Derived.Test.YtngjkhnhnaohmaaWS
import Derived.Laws.BitsAllLaws
set_option linter.all false
namespace Go.Proofs.Ytngjkhnhnaohmaa
open Go Go.RX Go.Proofs
set_option maxRecDepth 100000
set_option linter.all false
theorem xor_u32 (a b : Int) : 0 ≤ bits .xor .u32 a b ∧ bits .xor .u32 a b ≤ 4294967295 := by
  unfold bits
  simp only
  rw [IntKind.wrap_u32]
  omega
theorem sumZ_range (l : List D) : 0 ≤ sumZ l ∧ sumZ l ≤ 4294967295 := by
  unfold sumZ
  have := xor_u32 (sumTo l l.length) 4294967295
  have e : iconv .i64 (bits .xor .u32 (sumTo l l.length) 4294967295) = bits .xor .u32 (sumTo l l.length) 4294967295 := iconv_eq (by omega)
  rw [e]; exact this
theorem shr_eq {s : Int} (n : Nat) (h : n ≤ 64) : ishr .i64 s (n : Int) = s / 2 ^ n := by
  unfold ishr
  have : min ((n : Int)).toNat IntKind.i64.bits = n := by
    show min ((n : Int)).toNat 64 = n
    omega
  rw [this, Int.fdiv_eq_ediv_of_nonneg _ (Int.le_of_lt (Int.pow_pos (by decide)))]
theorem conv_u8 (a : Int) : iconv .u8 a = a % 256 := wrap_u8 a
theorem putT_len {b : List D} {s : List UInt8} : (putT b s).length ≤ b.length + 11 + s.length := by
  have := @putI_len b (s.length : Int)
  simp [putT, bytesD_len]; omega
theorem strD_len {l : List D} : (strD l).length = l.length := by simp [strD]
theorem tb22_ok : TabOK Try.prog tb22 := fun f con h => by
  unfold tb22 at h
  split at h
  · cases h; exact c13
  · cases h; exact c24
  · cases h
theorem c22 : ConOK Try.prog 22 con22 := by
  refine conOK_of_exec (inl := noInl) noInl_ok (lp := noLp) (tb := tb22) (c := bodyOf Try.f22) ⟨tt_ok, tb22_ok⟩ mixed Try.func22 (by kernel_rfl) (by kernel_rfl) ?_
  intro dat hpre hwt
  obtain ⟨d0, d1, d2, rfl, w0, w1, w2⟩ := wts3 hwt
  refine Eq.mpr (vc22 d0 d1 d2) ?_
  obtain ⟨h1, h2⟩ : d0.l.length ≤ 1000000 ∧ d2.l.length ≤ 1000000 := hpre
  simp only [ile_t, ile_f, ilt_t, ilt_f, ieq_t, ieq_f, bnot_t, bnot_f, band_t, band_f, true_and, and_true, lenI, xcat_nil]
  have e0 := conv_u8 d1.i
  rw [e0]
  change _ ∧ _
  have eB : putT [.int (d1.i % 256)] (strD d2.l) = frB d1.i (strD d2.l) := rfl
  rw [eB]
  have hs := sumZ_range (frB d1.i (strD d2.l))
  have hl : (frB d1.i (strD d2.l)).length ≤ 1 + 11 + d2.l.length := by
    have := @putT_len [.int (d1.i % 256)] (strD d2.l)
    rw [strD_len] at this
    exact this
  have ef : putF d0.l d1.i (strD d2.l) = d0.l ++ (frB d1.i (strD d2.l) ++ be4L (sumZ (frB d1.i (strD d2.l)))) := rfl
  rw [ef]
  generalize frB d1.i (strD d2.l) = F at *
  have e1 : iconv .u8 (ishr .i64 (sumZ F) 24) = sumZ F / 16777216 := by
    rw [show (24 : Int) = ((24 : Nat) : Int) from rfl, shr_eq 24 (by omega), conv_u8]; omega
  have e2 : iconv .u8 (ishr .i64 (sumZ F) 16) = sumZ F / 65536 % 256 := by
    rw [show (16 : Int) = ((16 : Nat) : Int) from rfl, shr_eq 16 (by omega), conv_u8]; omega
  have e3 : iconv .u8 (ishr .i64 (sumZ F) 8) = sumZ F / 256 % 256 := by
    rw [show (8 : Int) = ((8 : Nat) : Int) from rfl, shr_eq 8 (by omega), conv_u8]; omega
  rw [e1, e2, e3, conv_u8]
  refine ⟨⟨by simp, by rw [strD_len]; exact h2⟩, by decide, by decide, by decide, ?_⟩
  simp only [List.length_cons, List.length_nil, xcat, List.length_append]
  exact ⟨by omega, by omega, by omega, rfl⟩
theorem tb23_ok : TabOK Try.prog tb23 := fun f con h => by
  unfold tb23 at h
  split at h
  · cases h; exact c11
  · cases h; exact c16
  · cases h; exact c25
  · cases h
theorem c23 : ConOK Try.prog 23 con23 := by
  refine conOK_of_exec (inl := noInl) noInl_ok (lp := noLp) (tb := tb23) (c := bodyOf Try.f23) ⟨tt_ok, tb23_ok⟩ mixed Try.func23 (by kernel_rfl) (by kernel_rfl) ?_
  intro dat hpre hwt
  obtain ⟨d0, d1, d2, rfl, w0, w1, w2⟩ := wts3 hwt
  refine Eq.mpr (vc23 d0 d1 d2) ?_
  obtain ⟨h1, h2⟩ : d0.l.length ≤ 1000000 ∧ d2.l.length ≤ 1000000 := hpre
  simp only [ile_t, ile_f, ilt_t, ilt_f, ieq_t, ieq_f, bnot_t, bnot_f, band_t, band_f, true_and, and_true, lenI, xcat_nil]
  have hi := wt_i64 w1
  have hr : irem d1.i 256 = if 0 ≤ d1.i then d1.i % 256 else -(-d1.i % 256) := by
    unfold irem
    split
    · rw [Int.tmod_eq_emod_of_nonneg (by assumption)]
    · rename_i h
      have := Int.neg_tmod (-d1.i) 256
      rw [Int.neg_neg] at this
      rw [this, Int.tmod_eq_emod_of_nonneg (by omega)]
  have k1 : irem d1.i 256 < 0 → iconv .u8 (iadd .i64 (irem d1.i 256) 256) = d1.i % 256 := fun h => by
    rw [iadd_eq (by split at hr <;> omega), conv_u8]
    split at hr <;> omega
  have k2 : 0 ≤ irem d1.i 256 → iconv .u8 (irem d1.i 256) = d1.i % 256 := fun h => by
    rw [conv_u8]
    split at hr <;> omega
  have eB : putT [.int (d1.i % 256)] (strD d2.l) = frB d1.i (strD d2.l) := rfl
  have hs := sumZ_range (frB d1.i (strD d2.l))
  have hl : (frB d1.i (strD d2.l)).length ≤ 1 + 11 + d2.l.length := by
    have := @putT_len [.int (d1.i % 256)] (strD d2.l)
    rw [strD_len] at this
    exact this
  have ef : putF d0.l d1.i (strD d2.l) = d0.l ++ (frB d1.i (strD d2.l) ++ be4L (sumZ (frB d1.i (strD d2.l)))) := rfl
  rw [ef]
  refine ⟨by decide, fun h => ?_, fun h => ?_⟩
  all_goals
    first | rw [k1 h, eB] | rw [k2 h, eB]
    generalize frB d1.i (strD d2.l) = F at *
    have q1 : iquo .i64 (sumZ F) 16777216 = sumZ F / 16777216 := iquo_eq (by omega) (by omega) (by omega)
    have q2 : iquo .i64 (sumZ F) 65536 = sumZ F / 65536 := iquo_eq (by omega) (by omega) (by omega)
    have q3 : iquo .i64 (sumZ F) 256 = sumZ F / 256 := iquo_eq (by omega) (by omega) (by omega)
    rw [q1, q2, q3, irem_eq (by omega), irem_eq (by omega), irem_eq (by omega), conv_u8, conv_u8, conv_u8, conv_u8]
    rw [show sumZ F / 16777216 % 256 = sumZ F / 16777216 by omega, Int.emod_emod_of_dvd _ (by decide), Int.emod_emod_of_dvd _ (by decide), Int.emod_emod_of_dvd _ (by decide)]
    refine ⟨by simp, ⟨by simp, by rw [strD_len]; exact h2⟩, by decide, by decide, by decide, by decide, by decide, by decide, ?_⟩
    simp only [List.length_cons, List.length_nil, xcat, List.length_append]
    exact ⟨by omega, by omega, by omega, rfl⟩
theorem tb28_ok : TabOK Try.prog tb28 := fun f con h => by
  unfold tb28 at h
  split at h
  · cases h; exact c14
  · cases h
theorem tb29_ok : TabOK Try.prog tb29 := fun f con h => by
  unfold tb29 at h
  split at h
  · cases h; exact c21
  · cases h; exact c25
  · cases h
theorem tb30_ok : TabOK Try.prog tb30 := fun f con h => by
  unfold tb30 at h
  split at h
  · cases h; exact c26
  · cases h
theorem c27 : ConOK Try.prog 27 con27 := by
  refine conOK_of_exec (inl := noInl) noInl_ok (lp := noLp) (tb := tbN) (c := bodyOf Try.f27) ⟨tt_ok, tbN_ok⟩ mixed Try.func27 (by kernel_rfl) (by kernel_rfl) ?_
  intro dat hpre hwt
  obtain ⟨d0, d1, rfl, w0, w1⟩ := wts2 hwt
  refine Eq.mpr (vc27 d0 d1) ?_
  have hn : 0 < d1.i := hpre
  have hi := wt_i64 w0
  have hj := wt_i64 w1
  simp only [ile_t, ile_f, ilt_t, ilt_f, ieq_t, ieq_f, bnot_t, bnot_f, band_t, band_f, true_and, and_true, lenI]
  have hr : irem d0.i d1.i = if 0 ≤ d0.i then d0.i % d1.i else -(-d0.i % d1.i) := by
    unfold irem
    split
    · rw [Int.tmod_eq_emod_of_nonneg (by assumption)]
    · have := Int.neg_tmod (-d0.i) d1.i
      rw [Int.neg_neg] at this
      rw [this, Int.tmod_eq_emod_of_nonneg (by omega)]
  have a1 := Int.emod_nonneg d0.i (b := d1.i) (by omega)
  have a2 := Int.emod_lt_of_pos d0.i hn
  have a3 := Int.emod_nonneg (-d0.i) (b := d1.i) (by omega)
  have a4 := Int.emod_lt_of_pos (-d0.i) hn
  have a5 := Int.emod_emod_of_dvd
  have hz : (-d0.i % d1.i) = 0 → d0.i % d1.i = 0 := fun h => by
    have := Int.dvd_of_emod_eq_zero h
    exact Int.emod_eq_zero_of_dvd ((Int.dvd_neg).1 this)
  have hsum : d0.i < 0 → 0 < -d0.i % d1.i → d0.i % d1.i = d1.i - (-d0.i % d1.i) := fun h h2 => by
    have e1 := Int.emod_def (-d0.i) d1.i
    have e2 := Int.add_mul_emod_self_left (a := d1.i - (-d0.i % d1.i)) (b := d1.i) (c := -((-d0.i) / d1.i) - 1)
    have e3 : (d1.i - (-d0.i % d1.i)) % d1.i = d1.i - (-d0.i % d1.i) := Int.emod_eq_of_lt (by omega) (by omega)
    rw [e3] at e2
    rw [Int.mul_sub, Int.mul_neg] at e2
    have e4 : d0.i = d1.i - (-d0.i % d1.i) + (-(d1.i * (-d0.i / d1.i)) - d1.i * 1) := by omega
    rw [← e2, ← e4]
  refine ⟨by omega, fun h => ?_, fun h => ?_⟩
  · change _ = d0.i % d1.i
    rw [iadd_eq (by split at hr <;> omega), hr]
    split at hr
    · omega
    · rw [if_neg (by assumption), hsum (by omega) (by omega)]; omega
  · change _ = d0.i % d1.i
    rw [hr] at h ⊢
    split at h
    · rw [if_pos (by assumption)]
    · rw [if_neg (by assumption), hz (by omega)]; omega
theorem c28 : ConOK Try.prog 28 con28 := by
  refine conOK_of_exec (inl := noInl) noInl_ok (lp := noLp) (tb := tb28) (c := bodyOf Try.f28) ⟨tt_ok, tb28_ok⟩ mixed Try.func28 (by kernel_rfl) (by kernel_rfl) ?_
  intro dat hpre hwt
  obtain ⟨d0, d1, d2, d3, rfl, w0, w1, w2, w3⟩ := wts4 hwt
  refine Eq.mpr (vc28 d0 d1 d2 d3) ?_
  have h0 : 0 ≤ d1.i := hpre
  simp only [ile_t, ile_f, ilt_t, ilt_f, ieq_t, ieq_f, bnot_t, bnot_f, band_t, band_f, true_and, and_true, lenI]
  refine ⟨fun h1 => ⟨fun h2 => ⟨⟨h0, h1, h2⟩, ?_⟩, fun h2 => ?_⟩, fun h1 => ?_⟩
  · unfold partZ; simp [h1, h2]
  · unfold partZ; simp [show ¬ d2.i ≤ d0.l.length by omega]
  · unfold partZ; simp [show ¬ d1.i ≤ d2.i by omega]
theorem c29 : ConOK Try.prog 29 con29 := by
  refine conOK_of_exec (inl := noInl) noInl_ok (lp := lp29) (tb := tb29) (c := bodyOf Try.f29) ⟨tt_ok, tb29_ok⟩ mixed Try.func29 (by kernel_rfl) (by kernel_rfl) ?_
  intro dat hpre hwt
  obtain ⟨d0, d1, rfl, w0, w1⟩ := wts2 hwt
  refine Eq.mpr (vc29 d0 d1) ?_
  have hl : d0.l.length ≤ 1000000 := hpre
  have hi := wt_i64 w1
  have hb : ∀ j, 0 ≤ ei d0.l j ∧ ei d0.l j ≤ 255 := fun j => ei_u8 w0 j
  simp only [ile_t, ile_f, ilt_t, ilt_f, ieq_t, ieq_f, bnot_t, bnot_f, band_t, band_f, true_and, and_true, lenI]
  refine ⟨fun h => ?_, fun h0 => ⟨fun h => ?_, fun h1 => ⟨fun h => ?_, fun h2 => ⟨hl, fun h => ?_, fun hg => ?_⟩⟩⟩⟩
  · have : frameZ d0.l d1.i = ⟨0, [], 0, 2⟩ := by unfold frameZ; rw [if_pos (.inl h)]
    rw [this]; exact ⟨rfl, rfl, rfl, rfl⟩
  · have : frameZ d0.l d1.i = ⟨0, [], 0, 2⟩ := by unfold frameZ; rw [if_pos (.inr h)]
    rw [this]; exact ⟨rfl, rfl, rfl, rfl⟩
  · have : frameZ d0.l d1.i = ⟨0, [], 0, 7⟩ := by unfold frameZ; rw [if_neg (by omega), if_pos (by omega)]
    rw [this]; exact ⟨rfl, rfl, rfl, rfl⟩
  all_goals have ep : iadd .i64 d1.i 1 = d1.i + 1 := iadd_eq (by omega)
  · rw [ep] at h ⊢
    have : frameZ d0.l d1.i = ⟨0, [], 0, (textZ d0.l (d1.i + 1)).e⟩ := by
      unfold frameZ; rw [if_neg (by omega), if_neg (by omega), if_pos h]
    rw [this]; exact ⟨rfl, rfl, rfl, rfl⟩
  rw [ep] at hg ⊢
  obtain ⟨_, _, _, y0, y1, y2, y3, _⟩ := textZ_x hg
  have f7 : (d0.l.length : Int) - (textZ d0.l (d1.i + 1)).x < 4 → frameZ d0.l d1.i = ⟨0, [], 0, 7⟩ := fun h => by
    unfold frameZ; rw [if_neg (by omega), if_neg (by omega), if_neg (by omega), if_pos h]
  have f8 : ¬ (d0.l.length : Int) - (textZ d0.l (d1.i + 1)).x < 4 → be4 d0.l (textZ d0.l (d1.i + 1)).x 4 ≠ sumZ (xsub d0.l d1.i (textZ d0.l (d1.i + 1)).x) → frameZ d0.l d1.i = ⟨0, [], 0, 8⟩ := fun h h2 => by
    unfold frameZ; rw [if_neg (by omega), if_neg (by omega), if_neg (by omega), if_neg h, if_pos h2]
  have f0 : ¬ (d0.l.length : Int) - (textZ d0.l (d1.i + 1)).x < 4 → be4 d0.l (textZ d0.l (d1.i + 1)).x 4 = sumZ (xsub d0.l d1.i (textZ d0.l (d1.i + 1)).x) → frameZ d0.l d1.i = ⟨ei d0.l d1.i.toNat, bytesD (textZ d0.l (d1.i + 1)).s, (textZ d0.l (d1.i + 1)).x + 4, 0⟩ := fun h h2 => by
    unfold frameZ; rw [if_neg (by omega), if_neg (by omega), if_neg (by omega), if_neg h, if_neg (by omega)]
  generalize textZ d0.l (d1.i + 1) = T at *
  have eq : isub .i64 (d0.l.length : Int) T.x = (d0.l.length : Int) - T.x := isub_eq (by omega)
  rw [eq]
  refine ⟨fun h => by rw [f7 h]; exact ⟨rfl, rfl, rfl, rfl⟩, fun h4 => ⟨⟨0, by omega, rfl, rfl⟩, fun g hg => ⟨fun hlt => ?_, fun hge => ⟨by omega, fun h => ?_, fun h => ?_⟩⟩⟩⟩
  · have e1 : iadd .i64 T.x (g : Int) = ((T.x.toNat + g : Nat) : Int) := by rw [iadd_eq (by omega)]; omega
    rw [e1]
    have e3 : (elt d0.l ((T.x.toNat + g : Nat) : Int)).i = ei d0.l (T.x.toNat + g) := rfl
    rw [e3]
    have hB := be4_small (a := T.x) hb (i := g) (by omega)
    have hE := hb (T.x.toNat + g)
    have e4 : iconv .i64 (ei d0.l (T.x.toNat + g)) = ei d0.l (T.x.toNat + g) := iconv_eq (by omega)
    have e5 : imul .i64 256 (be4 d0.l T.x g) = 256 * be4 d0.l T.x g := imul_eq (by omega)
    rw [e4, e5, iadd_eq (by omega)]
    exact ⟨by omega, g + 1, by omega, by omega, rfl, by rw [iadd_eq (by omega)]; rfl⟩
  all_goals obtain rfl : g = 4 := by omega
  · rw [f8 (by omega) h]; exact ⟨rfl, rfl, rfl, rfl⟩
  · rw [f0 (by omega) h]
    have e2 : d1.i = ((d1.i.toNat : Nat) : Int) := by omega
    have e3 : (elt d0.l d1.i).i = ei d0.l d1.i.toNat := by
      show _ = (elt d0.l ((d1.i.toNat : Nat) : Int)).i
      rw [← e2]
    have e4 : iconv .i64 (ei d0.l d1.i.toNat) = ei d0.l d1.i.toNat := iconv_eq (by have := hb d1.i.toNat; omega)
    rw [e3]
    exact ⟨by omega, e4, rfl, by rw [iadd_eq (by omega)], rfl⟩
theorem tb31_ok : TabOK Try.prog tb31 := fun f con h => by
  unfold tb31 at h
  split at h
  · cases h; exact c29
  · cases h
theorem frameZ_x {b : List D} {a : Int} (h : (frameZ b a).e = 0) : 0 ≤ a ∧ a < b.length ∧ (textZ b (a + 1)).e = 0 ∧ (textZ b (a + 1)).x + 4 ≤ b.length ∧ be4 b (textZ b (a + 1)).x 4 = sumZ (xsub b a (textZ b (a + 1)).x) ∧
    frameZ b a = ⟨ei b a.toNat, bytesD (textZ b (a + 1)).s, (textZ b (a + 1)).x + 4, 0⟩ := by
  unfold frameZ at h ⊢
  split at h
  · cases h
  · rename_i h1
    rw [if_neg h1]
    split at h
    · cases h
    · rename_i h2
      rw [if_neg h2]
      split at h
      · contradiction
      · rename_i h3
        rw [if_neg h3]
        split at h
        · cases h
        · rename_i h4
          rw [if_neg h4]
          split at h
          · cases h
          · rename_i h5
            rw [if_neg h5]
            exact ⟨by omega, by omega, by omega, by omega, by omega, rfl⟩
theorem frameZ_adv {b : List D} {a : Int} (h : (frameZ b a).e = 0) : 0 ≤ a ∧ a + 1 < (frameZ b a).x ∧ (frameZ b a).x ≤ b.length := by
  obtain ⟨h1, h2, h3, h4, h5, h6⟩ := frameZ_x h
  obtain ⟨_, _, _, y0, y1, y2, y3, _⟩ := textZ_x h3
  rw [h6]
  exact ⟨h1, by simp only; omega, by simp only; omega⟩
theorem in_stop {b : List D} {g : Nat × Int} (hg : inOk b g) (h : (frameZ b g.2).e ≠ 0) : (g.1 : Int) = (inZ b).n ∧ g.2 = (inZ b).x := by
  obtain ⟨h1, h2, h3⟩ := hg
  rw [← h3]
  obtain ⟨f, hf⟩ : ∃ f, b.length + 1 - g.1 = f + 1 := ⟨b.length - g.1, by omega⟩
  rw [hf, inF, if_pos h]
  exact ⟨rfl, rfl⟩
theorem in_next {b : List D} {g : Nat × Int} (hg : inOk b g) (h : (frameZ b g.2).e = 0) : inOk b (g.1 + 1, (frameZ b g.2).x) := by
  obtain ⟨h1, h2, h3⟩ := hg
  have := frameZ_adv h
  refine ⟨by simp only; omega, this.2.2, ?_⟩
  obtain ⟨f, hf⟩ : ∃ f, b.length + 1 - g.1 = f + 1 := ⟨b.length - g.1, by omega⟩
  rw [hf, inF, if_neg (by omega)] at h3
  simp only
  rw [show b.length + 1 - (g.1 + 1) = f by omega]
  exact h3
theorem inZ_ok {b : List D} : inOk b (0, 0) := ⟨by simp, by simp, rfl⟩
theorem frameZ_end {b : List D} : (frameZ b b.length).e ≠ 0 := by
  intro h
  have := (frameZ_adv h).2
  omega
theorem c30 : ConOK Try.prog 30 con30 := by
  refine conOK_of_exec (inl := noInl) noInl_ok (lp := lp30) (tb := tb30) (c := bodyOf Try.f30) ⟨tt_ok, tb30_ok⟩ mixed Try.func30 (by kernel_rfl) (by kernel_rfl) ?_
  intro dat hpre hwt
  obtain ⟨d0, rfl, w0⟩ := wts1 hwt
  refine Eq.mpr (vc30 d0) ?_
  have hl : d0.l.length ≤ 1000000 := hpre
  simp only [ile_t, ile_f, ilt_t, ilt_f, ieq_t, ieq_f, bnot_t, bnot_f, band_t, band_f, true_and, and_true, lenI]
  refine ⟨⟨(0, 0), inZ_ok, rfl, rfl⟩, fun g hg => ⟨hl, fun h => in_stop hg h, fun h => ?_⟩⟩
  have hn := in_next hg h
  have := hg.1
  have := hg.2.1
  have := (frameZ_adv h).2
  exact ⟨(g.1 + 1, (frameZ d0.l g.2).x), hn, by simp only; omega, by rw [iadd_eq (by omega)]; rfl, rfl⟩
theorem c31 : ConOK Try.prog 31 con31 := by
  refine conOK_of_exec (inl := noInl) noInl_ok (lp := lp31) (tb := tb31) (c := bodyOf Try.f31) ⟨tt_ok, tb31_ok⟩ mixed Try.func31 (by kernel_rfl) (by kernel_rfl) ?_
  intro dat hpre hwt
  obtain ⟨d0, rfl, w0⟩ := wts1 hwt
  refine Eq.mpr (vc31 d0) ?_
  have hl : d0.l.length ≤ 1000000 := hpre
  simp only [ile_t, ile_f, ilt_t, ilt_f, ieq_t, ieq_f, bnot_t, bnot_f, band_t, band_f, true_and, and_true, lenI]
  refine ⟨⟨(0, 0), inZ_ok, rfl, rfl⟩, fun g hg => ⟨fun hlt => ⟨hl, fun h => in_stop hg h, fun h => ?_⟩, fun hge => ?_⟩⟩
  · have hn := in_next hg h
    have := hg.1
    have := hg.2.1
    have := (frameZ_adv h).2
    exact ⟨(g.1 + 1, (frameZ d0.l g.2).x), hn, by simp only; omega, by rw [iadd_eq (by omega)]; rfl, rfl⟩
  · refine in_stop hg ?_
    rw [show g.2 = (d0.l.length : Int) from by have := hg.2.1; omega]
    exact frameZ_end
theorem c32 : ConOK Try.prog 32 con32 := by
  refine conOK_of_exec (inl := noInl) noInl_ok (lp := lp32) (tb := tbN) (c := bodyOf Try.f32) ⟨tt_ok, tbN_ok⟩ mixed Try.func32 (by kernel_rfl) (by kernel_rfl) ?_
  intro dat hpre hwt
  obtain ⟨d0, rfl, w0⟩ := wts1 hwt
  refine Eq.mpr (vc32 d0) ?_
  obtain ⟨h0, h7⟩ : 0 ≤ d0.i ∧ d0.i ≤ 7 := hpre
  simp only [ile_t, ile_f, ilt_t, ilt_f, ieq_t, ieq_f, bnot_t, bnot_f, band_t, band_f, true_and, and_true, lenI]
  refine ⟨⟨0, by omega, rfl, rfl⟩, fun g hg => ⟨fun hlt => ⟨g + 1, by omega, by omega, ?_, by rw [iadd_eq (by omega)]; rfl⟩, fun hge => ?_⟩⟩
  · have : g < 7 := by omega
    unfold imul
    rw [wrap_u8]
    obtain rfl | rfl | rfl | rfl | rfl | rfl | rfl : g = 0 ∨ g = 1 ∨ g = 2 ∨ g = 3 ∨ g = 4 ∨ g = 5 ∨ g = 6 := by omega
    all_goals decide
  · rw [show g = d0.i.toNat by omega]
end Go.Proofs.Ytngjkhnhnaohmaa
