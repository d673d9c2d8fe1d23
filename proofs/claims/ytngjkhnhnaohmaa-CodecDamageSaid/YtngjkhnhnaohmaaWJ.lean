/- Part of the proof of the laws of this seat: contracts of its functions, for every input. -/
import Derived.Test.YtngjkhnhnaohmaaWH
set_option linter.all false
namespace Go.Proofs.Ytngjkhnhnaohmaa
open Go Go.RX Go.Proofs
set_option maxRecDepth 100000
set_option linter.all false
theorem noBytes : (ByteArray.mk (List.toArray ([] : List UInt8))).data.toList = [] := rfl
theorem c20 : ConOK Try.prog 20 con20 := by
  refine conOK_of_execD (inl := inl20) inl20_ok (lp := noLp) (tb := tbN) (c := bodyOf Try.f20) ⟨tt_ok, tbN_ok⟩ mixed Try.func20 (by kernel_rfl) (by kernel_rfl) ?_
  intro dat hpre hwt
  obtain ⟨d0, d1, rfl, w0, w1⟩ := wts2 hwt
  refine Eq.mpr (vc20 d0 d1) ?_
  have hl : d0.l.length ≤ 1000000 := hpre
  have hi := wt_i64 w1
  have hb : ∀ j, 0 ≤ ei d0.l j ∧ ei d0.l j ≤ 255 := fun j => ei_u8 w0 j
  simp only [ile_t, ile_f, ilt_t, ilt_f, ieq_t, ieq_f, bnot_t, bnot_f, band_t, band_f, true_and, and_true, lenI, noBytes]
  have t1 : (intZ d0.l d1.i).e ≠ 0 → textZ d0.l d1.i = ⟨[], 0, (intZ d0.l d1.i).e⟩ := fun h => by unfold textZ; rw [if_pos h]
  refine ⟨fun h => ?_, fun h0 => ⟨fun h => ?_, fun h1 => ⟨?_, fun g hg => ?_⟩⟩⟩
  · have : intZ d0.l d1.i = ⟨0, 0, 2⟩ := by unfold intZ; rw [if_pos (.inl h)]
    rw [t1 (by rw [this]; decide), this]; exact ⟨rfl, rfl, rfl⟩
  · have : intZ d0.l d1.i = ⟨0, 0, 2⟩ := by unfold intZ; rw [if_pos (.inr h)]
    rw [t1 (by rw [this]; decide), this]; exact ⟨rfl, rfl, rfl⟩
  · obtain ⟨a, ha⟩ : ∃ a : Nat, d1.i = a := ⟨d1.i.toNat, by omega⟩
    have hz : intZ d0.l d1.i = intA d0.l a := by unfold intZ; rw [if_neg (by omega), ha]; rfl
    have er : ∀ e : Int, e ≠ 0 → intA d0.l a = ⟨0, 0, e⟩ → [] = (textZ d0.l d1.i).s ∧ 0 = (textZ d0.l d1.i).x ∧ e = (textZ d0.l d1.i).e := fun e h1 h2 => by
      rw [t1 (by rw [hz, h2]; exact h1), hz, h2]; exact ⟨rfl, rfl, rfl⟩
    rw [hz]
    generalize textZ d0.l d1.i = T at *
    rw [ha] at h0 h1 hi ⊢
    simp only [Int.toNat_natCast]
    refine ⟨⟨0, ⟨by omega, by omega, fun j hj => by omega⟩, ⟨rfl, rfl⟩, by simp⟩, fun g hg => ?_⟩
    obtain ⟨g1, g2, g3⟩ := hg
    have e1 : iadd .i64 ((a : Int) + (g : Int)) 1 = ((a + g + 1 : Nat) : Int) := by rw [iadd_eq (by omega)]; omega
    have e2 : isub .i64 ((a + g + 1 : Nat) : Int) 1 = ((a + g : Nat) : Int) := by rw [isub_eq (by omega)]; omega
    have e3 : (elt d0.l ((a + g : Nat) : Int)).i = ei d0.l (a + g) := rfl
    have e4 : ((a : Int) + (g : Int)) = ((a + g : Nat) : Int) := rfl
    have e5 : imul .i64 7 (g : Int) = 7 * (g : Int) := imul_eq (by omega)
    have e6 : iadd .i64 (g : Int) 1 = ((g + 1 : Nat) : Int) := by rw [iadd_eq (by omega)]; rfl
    obtain ⟨hor, r7, r9, r0, rok, hC, hnx⟩ := num_facts hb g1 g2 g3
    rw [e1, e2, e3, e4, e6]
    have fin : ((a + g : Nat) : Int) < d0.l.length → ei d0.l (a + g) < 128 → ¬ (g = 9 ∧ 1 < ei d0.l (a + g)) → ¬ (0 < g ∧ ei d0.l (a + g) = 0) → (2 : Int) ≠ 0 ∧
        (irem (codeTo d0.l a (g + 1)) 2 = 1 → (2 : Int) ≠ 0 ∧ ∃ _ : Unit, (intA d0.l a).e = 0 ∧ isub .i64 (isub .i64 0 (iconv .i64 (iquo .u64 (codeTo d0.l a (g + 1)) 2))) 1 = (intA d0.l a).n ∧ ((a + g + 1 : Nat) : Int) = (intA d0.l a).x) ∧
        (irem (codeTo d0.l a (g + 1)) 2 ≠ 1 → (2 : Int) ≠ 0 ∧ ∃ _ : Unit, (intA d0.l a).e = 0 ∧ iconv .i64 (iquo .u64 (codeTo d0.l a (g + 1)) 2) = (intA d0.l a).n ∧ ((a + g + 1 : Nat) : Int) = (intA d0.l a).x) := fun h1 h2 h3 h4 => by
      rw [rok (by omega) h2 h3 h4]
      exact ⟨by decide, fun h => ⟨by decide, (), rfl, dec_t (hC h3) h, rfl⟩, fun h => ⟨by decide, (), rfl, dec_f (hC h3) h, rfl⟩⟩
    refine ⟨fun h => er 7 (by decide) (r7 (by omega)), fun hlt => ⟨by omega, fun h9 => ⟨fun hgt => er 5 (by decide) (r9 (by omega) (by omega) hgt), fun hle => ?_⟩, fun h9 => ?_⟩⟩
    · have hn : ¬ (g = 9 ∧ 1 < ei d0.l (a + g)) := by omega
      rw [hor hn, e5]
      exact ⟨by decide, by omega, fun h => by omega, fun h128 => ⟨fun h0 => ⟨fun hz0 => er 5 (by decide) (r0 (by omega) h128 (by omega) hz0), fun hz0 => fin hlt h128 hn (by omega)⟩, fun h0 => fin hlt h128 hn (by omega)⟩⟩
    · have hn : ¬ (g = 9 ∧ 1 < ei d0.l (a + g)) := by omega
      rw [hor hn, e5]
      exact ⟨by decide, by omega, fun h => hnx h (by omega) (by omega), fun h128 => ⟨fun h0 => ⟨fun hz0 => er 5 (by decide) (r0 (by omega) h128 (by omega) hz0), fun hz0 => fin hlt h128 hn (by omega)⟩, fun h0 => fin hlt h128 hn (by omega)⟩⟩
  · obtain ⟨x0, x1, x2, _⟩ := intZ_x hg
    have t2 : (intZ d0.l d1.i).n < 0 → textZ d0.l d1.i = ⟨[], 0, 5⟩ := fun h2 => by unfold textZ; rw [if_neg (by omega), if_pos h2]
    have t3 : 65536 < (intZ d0.l d1.i).n → textZ d0.l d1.i = ⟨[], 0, 4⟩ := fun h2 => by unfold textZ; rw [if_neg (by omega), if_neg (by omega), if_pos h2]
    have t4 : 0 ≤ (intZ d0.l d1.i).n → (intZ d0.l d1.i).n ≤ 65536 → (d0.l.length : Int) - (intZ d0.l d1.i).x < (intZ d0.l d1.i).n → textZ d0.l d1.i = ⟨[], 0, 7⟩ := fun h2 h3 h4 => by unfold textZ; rw [if_neg (by omega), if_neg (by omega), if_neg (by omega), if_pos h4]
    have t5 : 0 ≤ (intZ d0.l d1.i).n → (intZ d0.l d1.i).n ≤ 65536 → (intZ d0.l d1.i).n ≤ (d0.l.length : Int) - (intZ d0.l d1.i).x → textZ d0.l d1.i = ⟨strD (xsub d0.l (intZ d0.l d1.i).x ((intZ d0.l d1.i).x + (intZ d0.l d1.i).n)), (intZ d0.l d1.i).x + (intZ d0.l d1.i).n, 0⟩ :=
      fun h2 h3 h4 => by unfold textZ; rw [if_neg (by omega), if_neg (by omega), if_neg (by omega), if_neg (by omega)]
    generalize intZ d0.l d1.i = I at *
    have q : isub .i64 (d0.l.length : Int) I.x = (d0.l.length : Int) - I.x := isub_eq (by omega)
    rw [q]
    refine ⟨fun h => by rw [t2 h]; exact ⟨rfl, rfl, rfl⟩, fun h2 => ⟨fun h3 => by rw [t3 h3]; exact ⟨rfl, rfl, rfl⟩, fun h3 => ⟨fun h4 => by rw [t4 h2 h3 h4]; exact ⟨rfl, rfl, rfl⟩, fun h4 => ?_⟩⟩⟩
    have q2 : iadd .i64 I.x I.n = I.x + I.n := iadd_eq (by omega)
    have q3 : isub .i64 (I.x + I.n) I.n = I.x := by rw [isub_eq (by omega)]; omega
    rw [q2, q3, t5 h2 h3 h4]
    exact ⟨by omega, rfl, rfl, rfl⟩
end Go.Proofs.Ytngjkhnhnaohmaa
