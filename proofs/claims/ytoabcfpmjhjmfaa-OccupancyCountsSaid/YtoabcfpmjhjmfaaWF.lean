/- Part of the proof of the laws of this seat: contracts of its functions, for every input. -/
import Derived.Test.YtoabcfpmjhjmfaaWE
set_option linter.all false
namespace Go.Proofs.Ytoabcfpmjhjmfaa
open Go Go.RX Go.Proofs
set_option maxRecDepth 100000
set_option linter.all false
theorem tbR_ok : TabOK Try.prog tbR := fun f con h => by
  unfold tbR at h
  split at h
  · cases h; exact c12
  · cases h; exact c13
  · cases h; exact c25
  · cases h; exact c17
  · cases h; exact c26
  · cases h; exact c22
  · cases h; exact c27
  · cases h
theorem c21 : ConOK Try.prog 21 con21 := by
  refine conOK_of_exec (lp := noLp) (tb := tb21) (c := bodyOf Try.f21) ⟨tt_ok, tbR_ok⟩ mixed Try.func21 (by kernel_rfl) (by kernel_rfl) ?_
  intro dat hpre hwt
  obtain ⟨d0, d1, d2, d3, rfl, w0, w1, w2, w3⟩ := wts4 hwt
  refine Eq.mpr (vc21 d0 d1 d2 d3) ?_
  simp only [ile_t, ile_f, ilt_t, ilt_f, ieq_t, ieq_f, bnot_t, bnot_f, band_t, band_f, true_and, and_true, lenI, sc_eq w0]
  unfold cntV
  refine ⟨fun h => by rw [if_pos (.inl h)], fun hc => ⟨fun h => by rw [if_pos (.inr (.inl (by rw [time_f]; omega)))], fun h1 => ⟨fun h => by rw [if_pos (.inr (.inl (by rw [time_f]; omega)))], fun h2 => ⟨fun h => by rw [if_pos (by omega)], fun h3 => ⟨fun h => by rw [if_pos (by omega)], fun h4 => ⟨⟨hc, h1, h3, h4⟩, ?_⟩⟩⟩⟩⟩⟩
  rw [if_neg (by rw [time_f]; omega)]; rfl
theorem at_facts {p t : Int} (hp : 1 ≤ p) (h0 : 0 ≤ t) (h1 : t < 68719476736) : ∃ k : Nat, k ≤ 64 ∧ (min (t / p) 64).toNat = k ∧ iquo .i64 t p = t / p ∧ imin (t / p) 64 = (k : Int) ∧ isub .i64 (t / p) (k : Int) = t / p - k ∧
    imul .i64 (t / p - k) p = (t / p - min (t / p) 64) * p ∧ 0 ≤ (t / p - min (t / p) 64) * p ∧ (t / p - min (t / p) 64) * p < 68719476736 ∧ imax (isub .i64 (t / p) 64) 0 = t / p - k ∧ isub .i64 (t / p) (t / p - k) = k := by
  have q0 : 0 ≤ t / p := Int.ediv_nonneg h0 (by omega)
  have q1 : t / p ≤ t := Int.ediv_le_self p h0
  have q2 : t / p * p ≤ t := Int.ediv_mul_le t (by omega)
  have q3 : (t / p - min (t / p) 64) * p ≤ t / p * p := Int.mul_le_mul_of_nonneg_right (by omega) (by omega)
  have q4 : 0 ≤ (t / p - min (t / p) 64) * p := Int.mul_nonneg (by omega) (by omega)
  have q5 : ((min (t / p) 64).toNat : Int) = min (t / p) 64 := by omega
  refine ⟨(min (t / p) 64).toNat, by omega, rfl, iquo_eq h0 (by omega) (by omega), by rw [imin_eq]; omega, by rw [isub_eq (by omega)], ?_, q4, by omega, ?_, ?_⟩
  · rw [q5, imul_eq (by omega)]
  · rw [imax_eq, isub_eq (by omega)]; omega
  · rw [isub_eq (by omega)]; omega
theorem c23 : ConOK Try.prog 23 con23 := by
  refine conOK_of_exec (lp := lp23) (tb := tb23) (c := bodyOf Try.f23) ⟨tt_ok, tbR_ok⟩ mixed Try.func23 (by kernel_rfl) (by kernel_rfl) ?_
  intro dat hpre hwt
  obtain ⟨d0, d1, d2, rfl, w0, w1, w2⟩ := wts3 hwt
  refine Eq.mpr (vc23 d0 d1 d2) ?_
  simp only [ile_t, ile_f, ilt_t, ilt_f, ieq_t, ieq_f, bnot_t, bnot_f, band_t, band_f, true_and, and_true, lenI, sc_eq w0]
  unfold atV
  refine ⟨fun h => by rw [if_pos (.inl h)], fun hc => ⟨fun h => by rw [if_pos (.inr (by rw [time_f]; omega))], fun h1 => ⟨fun h => by rw [if_pos (.inr (by rw [time_f]; omega))], fun h2 => ?_⟩⟩⟩
  rw [if_neg (by rw [time_f]; omega)]
  have hp : 1 ≤ (d0.fld 0).i := (ck_ok hc).1.b
  have ha : atZ (ri d0 0) (rl d0 1) (rl d0 2) d1.l d2.i = levZ (d0.fld 1).l (d0.fld 2).l (cntL (d0.fld 0).i d1.l ((d2.i / (d0.fld 0).i - min (d2.i / (d0.fld 0).i) 64) * (d0.fld 0).i) (min (d2.i / (d0.fld 0).i) 64).toNat d1.l.length) (min (d2.i / (d0.fld 0).i) 64).toNat := rfl
  rw [ha]
  obtain ⟨k, k1, k2, k3, k4, k5, k6, k7, k8, k9, k10⟩ := at_facts hp h1 h2
  rw [k3, k4, k5, k6, k2, Int.toNat_natCast]
  simp only [cntL_len]
  refine ⟨by omega, ⟨hc, k7, by omega, by omega⟩, ⟨0, by omega, rfl, rfl⟩, fun g hg => ⟨fun hlt => ⟨by omega, hc, g + 1, by omega, by omega, rfl, by rw [iadd_eq (by omega)]; rfl⟩, fun hge => ?_⟩⟩
  rw [show g = k by omega]
theorem c24 : ConOK Try.prog 24 con24 := by
  refine conOK_of_exec (lp := lp24) (tb := tb24) (c := bodyOf Try.f24) ⟨tt_ok, tbR_ok⟩ mixed Try.func24 (by kernel_rfl) (by kernel_rfl) ?_
  intro dat hpre hwt
  obtain ⟨d0, d1, d2, rfl, w0, w1, w2⟩ := wts3 hwt
  refine Eq.mpr (vc24 d0 d1 d2) ?_
  simp only [ile_t, ile_f, ilt_t, ilt_f, ieq_t, ieq_f, bnot_t, bnot_f, band_t, band_f, true_and, and_true, lenI, sc_eq w0]
  unfold atV
  refine ⟨fun h => by rw [if_pos (.inl h)], fun hc => ⟨fun h => by rw [if_pos (.inr h)], fun ht => ?_⟩⟩
  have ht2 := ht
  rw [time_t] at ht2
  rw [if_neg (by simp [hc, ht])]
  have hp : 1 ≤ (d0.fld 0).i := (ck_ok hc).1.b
  have ha : atZ (ri d0 0) (rl d0 1) (rl d0 2) d1.l d2.i = levZ (d0.fld 1).l (d0.fld 2).l (cntL (d0.fld 0).i d1.l ((d2.i / (d0.fld 0).i - min (d2.i / (d0.fld 0).i) 64) * (d0.fld 0).i) (min (d2.i / (d0.fld 0).i) 64).toNat d1.l.length) (min (d2.i / (d0.fld 0).i) 64).toNat := rfl
  rw [ha]
  obtain ⟨k, k1, k2, k3, k4, k5, k6, k7, k8, k9, k10⟩ := at_facts hp ht2.1 ht2.2
  rw [k3, k9, k10, k6, k2]
  have hv : cntV d0 d1 ((d2.i / (d0.fld 0).i - min (d2.i / (d0.fld 0).i) 64) * (d0.fld 0).i) (k : Int) = cntL (d0.fld 0).i d1.l ((d2.i / (d0.fld 0).i - min (d2.i / (d0.fld 0).i) 64) * (d0.fld 0).i) k d1.l.length := by
    unfold cntV; rw [if_neg (by rw [time_f]; omega), Int.toNat_natCast]; rfl
  rw [list_eta w1, hv]
  simp only [cntL_len]
  have hq1 : d2.i / (d0.fld 0).i ≤ d2.i := Int.ediv_le_self _ ht2.1
  have hq0 : 0 ≤ d2.i / (d0.fld 0).i := Int.ediv_nonneg ht2.1 (by omega)
  have hi : isub .i64 (d2.i / (d0.fld 0).i) 64 = d2.i / (d0.fld 0).i - 64 := isub_eq (by omega)
  rw [hi]
  refine ⟨by omega, ⟨fun h => ⟨(), by omega⟩, fun h => ⟨(), by omega⟩⟩, fun _ _ => ⟨⟨0, by omega, rfl, rfl⟩, fun g hg => ⟨fun hlt => ⟨by omega, g + 1, by omega, by omega, by unfold nextV; rw [if_neg (by simp [hc])]; rfl, by rw [iadd_eq (by omega)]; rfl⟩, fun hge => ?_⟩⟩⟩
  rw [show g = k by omega]
end Go.Proofs.Ytoabcfpmjhjmfaa
