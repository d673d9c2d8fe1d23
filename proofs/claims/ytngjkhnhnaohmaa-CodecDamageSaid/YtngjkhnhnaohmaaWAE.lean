/- Part of the proof of the laws of this seat: contracts of its functions, for every input. -/
import Derived.Test.YtngjkhnhnaohmaaWAD
import Derived.Test.YtngjkhnhnaohmaaWY
set_option linter.all false
namespace Go.Proofs.Ytngjkhnhnaohmaa
open Go Go.RX Go.Proofs
set_option maxRecDepth 100000
set_option linter.all false
theorem c10 : ConOK Try.prog 10 con10 := by
  refine conOK_of_exec (inl := noInl) noInl_ok (lp := lp10) (tb := tb10) (c := bodyOf Try.f10) ⟨tt_ok, tbF_ok⟩ mixed Try.func10 (by kernel_rfl) (by kernel_rfl) ?_
  intro dat hpre hwt
  obtain ⟨d0, d1, d2, d3, rfl, w0, w1, w2, w3⟩ := wts4 hwt
  refine Eq.mpr (vc10 d0 d1 d2 d3) ?_
  have hbit := wt_u16 w2
  have hmask := wt_u32 w3
  have hp := (wt_sl w1).2.2
  simp only [ile_t, ile_f, ilt_t, ilt_f, ieq_t, ieq_f, bnot_t, bnot_f, band_t, band_f, true_and, and_true, lenI]
  refine ⟨fun _ => trivial, fun h1 => ⟨fun _ => trivial, fun h2 => ⟨fun _ => trivial, fun h3 => ?_⟩⟩⟩
  have f3 : putF [] d0.i (strD d1.l) = frF d0.i (strD d1.l) := by unfold putF; rw [List.nil_append]
  rw [f3]
  have hpl : (strD d1.l).length = d1.l.length := strD_len
  have hfl : (frF d0.i (strD d1.l)).length = (frB d0.i (strD d1.l)).length + 4 := by simp [frF, be4L]
  have hbl : (frB d0.i (strD d1.l)).length = 1 + (encB (codeOf ((strD d1.l).length : Int))).length + (strD d1.l).length := by rw [frB_eq, tE_eq]; simp [bytesD_len]; omega
  have hel : (encB (codeOf ((strD d1.l).length : Int))).length ≤ 11 := encB_len
  have hw := frF_wt (k := d0.i) (p := strD d1.l) (by omega)
  obtain ⟨M, hM⟩ : ∃ M : Nat, d3.i = M := ⟨d3.i.toNat, by omega⟩
  rw [hM] at h3 hmask ⊢
  obtain ⟨B, hB⟩ : ∃ B : Nat, d2.i = B := ⟨d2.i.toNat, by omega⟩
  rw [hB] at hbit ⊢
  have q1 : isub .i64 (isub .i64 ((frF d0.i (strD d1.l)).length : Int) 4) (d1.l.length : Int) = (((frF d0.i (strD d1.l)).length - 4 - (strD d1.l).length : Nat) : Int) := by
    rw [isub_eq (a := ((frF d0.i (strD d1.l)).length : Int)) (b := 4) (by omega), isub_eq (by omega)]; omega
  have q2 : isub .i64 (imul .i64 8 (d1.l.length : Int)) 31 = 8 * (d1.l.length : Int) - 31 := by
    rw [imul_eq (by omega), isub_eq (by omega)]
  have q3 : iconv .i64 (B : Int) = (B : Int) := iconv_eq (by omega)
  rw [q1, q2, q3]
  have m1 := Int.emod_nonneg (B : Int) (b := 8 * (d1.l.length : Int) - 31) (by omega)
  have m2 := Int.emod_lt_of_pos (B : Int) (b := 8 * (d1.l.length : Int) - 31) (by omega)
  have q4 : irem (B : Int) (8 * (d1.l.length : Int) - 31) = (B : Int) % (8 * (d1.l.length : Int) - 31) := irem_eq (by omega)
  obtain ⟨fs, hfs⟩ : ∃ fs : Nat, (B : Int) % (8 * (d1.l.length : Int) - 31) = fs := ⟨((B : Int) % (8 * (d1.l.length : Int) - 31)).toNat, by omega⟩
  rw [q4, hfs]
  rw [hfs] at m1 m2
  simp only [Int.toNat_natCast]
  have hD := frame_damage (k := d0.i) (p := strD d1.l) (by omega) (fs := fs) (M := M) (by omega) (by omega) (by omega) hw
  have hO : ∀ i, i ≤ 32 → (dmg (frF d0.i (strD d1.l)) ((frF d0.i (strD d1.l)).length - 4 - (strD d1.l).length) fs (M : Int) i).length = (frF d0.i (strD d1.l)).length := fun i hi =>
    (dmg_ok hw (M := M) (fr := (frF d0.i (strD d1.l)).length - 4 - (strD d1.l).length) (n := (strD d1.l).length) (fs := fs) (by omega) (by omega) i hi).len
  refine ⟨⟨by simp, by omega⟩, fun h => by omega, fun _ => ⟨by omega, ⟨0, by omega, ⟨by simp, rfl⟩, rfl⟩, fun g hg => ⟨fun hlt => ?_, fun hge => ?_⟩⟩⟩
  · have e1 : iadd .i64 (fs : Int) (g : Int) = ((fs + g : Nat) : Int) := by rw [iadd_eq (by omega)]; rfl
    have e2 : iquo .i64 ((fs + g : Nat) : Int) 8 = (((fs + g) / 8 : Nat) : Int) := by rw [iquo_eq (by omega) (by omega) (by omega)]; rfl
    have e3 : irem ((fs + g : Nat) : Int) 8 = (((fs + g) % 8 : Nat) : Int) := by rw [irem_eq (by omega)]; rfl
    rw [e1, e2, e3]
    have e4 : iadd .i64 (((frF d0.i (strD d1.l)).length - 4 - (strD d1.l).length : Nat) : Int) (((fs + g) / 8 : Nat) : Int) = (((frF d0.i (strD d1.l)).length - 4 - (strD d1.l).length + (fs + g) / 8 : Nat) : Int) := by rw [iadd_eq (by omega)]; omega
    rw [e4]
    simp only [Int.toNat_natCast]
    have hl := hO g (by omega)
    have eM : (M : Int) / 2 ^ g = ((M / 2 ^ g : Nat) : Int) := by simp
    have eM2 : (M : Int) / 2 ^ (g + 1) = ((M / 2 ^ g / 2 : Nat) : Int) := by
      rw [Nat.div_div_eq_div_mul, ← Nat.pow_succ]; simp
    have hMg : M / 2 ^ g ≤ M := Nat.div_le_self _ _
    obtain ⟨X, hX⟩ : ∃ X, M / 2 ^ g = X := ⟨_, rfl⟩
    rw [hX] at eM eM2 hMg
    have e5 : iquo .u32 ((M : Int) / 2 ^ g) 2 = (M : Int) / 2 ^ (g + 1) := by
      rw [eM, eM2]
      unfold iquo
      rw [Int.tdiv_eq_ediv_of_nonneg (by omega), IntKind.wrap_u32]
      omega
    have e6 : irem ((M : Int) / 2 ^ g) 2 = (M : Int) / 2 ^ g % 2 := irem_eq (by rw [eM]; omega)
    have e7 : iadd .i64 (g : Int) 1 = ((g + 1 : Nat) : Int) := by rw [iadd_eq (by omega)]; rfl
    rw [e5, e6, e7]
    refine ⟨by decide, fun h => ⟨by decide, by decide, ⟨by omega, by omega⟩, by decide, ⟨by omega, by omega⟩, ⟨by omega, by omega⟩, by decide, g + 1, by omega, by omega, ⟨rfl, rfl⟩, ?_⟩, fun h => ⟨by decide, g + 1, by omega, by omega, ⟨rfl, rfl⟩, ?_⟩⟩
    · conv => rhs; rw [dmg, if_pos h]
      rfl
    · conv => rhs; rw [dmg, if_neg h]
  · obtain rfl : g = 32 := by omega
    rw [inZ_none (by omega)]
    have hl := hO 32 (by omega)
    refine ⟨by omega, by omega, fun _ => ?_, fun h => h hD⟩
    simp
end Go.Proofs.Ytngjkhnhnaohmaa
