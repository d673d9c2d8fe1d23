/- Part of the proof of the laws of this seat: contracts of its functions, for every input. -/
import Derived.Test.YtngjkhnhnaohmaaWD
set_option linter.all false
namespace Go.Proofs.Ytngjkhnhnaohmaa
open Go Go.RX Go.Proofs
set_option maxRecDepth 100000
set_option linter.all false
theorem grpTo_zero {b : List D} {a : Nat} : ∀ {i : Nat}, grpTo b a i = 0 → ∀ j, j < i → ¬ (a + j < b.length ∧ ei b (a + j) < 128)
  | 0, _, j, hj => by omega
  | i + 1, h, j, hj => by
    rw [grpTo] at h
    split at h
    · rename_i h1; exact absurd h h1
    · rename_i h1
      split at h
      · omega
      · rename_i h2
        by_cases e : j = i
        · rw [e]; exact h2
        · exact grpTo_zero (Classical.not_not.1 h1) j (by omega)
theorem grpTo_none {b : List D} {a : Nat} : ∀ {i : Nat}, (∀ j, j < i → ¬ (a + j < b.length ∧ ei b (a + j) < 128)) → grpTo b a i = 0
  | 0, _ => rfl
  | i + 1, h => by
    rw [grpTo, grpTo_none fun j hj => h j (by omega), if_neg (by simp), if_neg (h i (by omega))]
theorem grpTo_found {b : List D} {a i : Nat} (h : grpTo b a i = 0) (h1 : a + i < b.length ∧ ei b (a + i) < 128) : ∀ {n : Nat}, i < n → grpTo b a n = i + 1
  | 0, hn => by omega
  | n + 1, hn => by
    by_cases e : i = n
    · subst e; rw [grpTo, if_neg (by simp [h]), if_pos h1]
    · have := grpTo_found h h1 (n := n) (by omega)
      rw [grpTo, if_pos (by rw [this]; omega), this]
theorem grpTo_cases {b : List D} {a : Nat} : ∀ {n : Nat}, grpTo b a n ≠ 0 → ∃ i, i < n ∧ grpTo b a n = i + 1 ∧ grpTo b a i = 0 ∧ a + i < b.length ∧ ei b (a + i) < 128
  | 0, h => absurd rfl h
  | n + 1, h => by
    rw [grpTo] at h ⊢
    split at h
    · rename_i h1
      rw [if_pos h1]
      obtain ⟨i, h2, h3⟩ := grpTo_cases h1
      exact ⟨i, by omega, h3⟩
    · rename_i h1
      rw [if_neg h1]
      split at h
      · rename_i h2
        rw [if_pos h2]
        exact ⟨n, by omega, rfl, Classical.not_not.1 h1, h2.1, h2.2⟩
      · exact absurd rfl h
theorem c36 : ConOK Try.prog 36 con36 := by
  refine conOK_of_exec (inl := noInl) noInl_ok (lp := lp36) (tb := tbN) (c := bodyOf Try.f36) ⟨tt_ok, tbN_ok⟩ mixed Try.func36 (by kernel_rfl) (by kernel_rfl) ?_
  intro dat hpre hwt
  obtain ⟨d0, d1, rfl, w0, w1⟩ := wts2 hwt
  refine Eq.mpr (vc36 d0 d1) ?_
  obtain ⟨hl, ha0, ha1⟩ : d0.l.length ≤ 1000000 ∧ 0 ≤ d1.i ∧ d1.i ≤ lenI d0.l := hpre
  simp only [ile_t, ile_f, ilt_t, ilt_f, ieq_t, ieq_f, bnot_t, bnot_f, band_t, band_f, true_and, and_true, lenI] at ha1 ⊢
  obtain ⟨a, ha⟩ : ∃ a : Nat, d1.i = a := ⟨d1.i.toNat, by omega⟩
  rw [ha] at ha0 ha1 ⊢
  rw [Int.toNat_natCast]
  refine ⟨⟨0, ⟨by omega, rfl⟩, rfl⟩, fun g hg => ⟨fun hlt => ?_, fun hge => ?_⟩⟩
  · have ea : iadd .i64 (a : Int) (g : Int) = ((a + g : Nat) : Int) := by rw [iadd_eq (by omega)]; rfl
    rw [ea]
    refine ⟨fun h1 => ⟨by omega, fun h2 => ?_, fun h2 => ⟨g + 1, ⟨by omega, ?_⟩, by omega, by rw [iadd_eq (by omega)]; rfl⟩⟩, fun h1 => ?_⟩
    · rw [grpZ, grpTo_found hg.2 ⟨by omega, h2⟩ (by omega), iadd_eq (by omega)]; rfl
    · refine grpTo_none fun j hj => ?_
      by_cases ej : j = g
      · rw [ej]; exact fun h => absurd h2 (by have := h.2; unfold ei at this; omega)
      · exact grpTo_zero hg.2 j (by omega)
    · rw [grpZ, grpTo_none]; rfl
      intro j hj
      by_cases ej : j < g
      · exact grpTo_zero hg.2 j ej
      · omega
  · rw [grpZ, show 10 = g by omega, hg.2]; rfl
theorem tb19_ok : TabOK Try.prog tb19 := fun f con h => by
  unfold tb19 at h
  split at h
  · cases h; exact c36
  · cases h
theorem codeTo_div {b : List D} {a : Nat} (hb : ∀ j, 0 ≤ ei b j) : ∀ {i : Nat}, 0 ≤ codeTo b a i ∧ codeTo b a i < 128 ^ i
  | 0 => by simp [codeTo]
  | i + 1 => by
    obtain ⟨h1, h2⟩ := codeTo_div (a := a) hb (i := i)
    rw [codeTo, Int.pow_succ]
    have h3 : 0 ≤ ei b (a + i) % 128 ∧ ei b (a + i) % 128 ≤ 127 := by omega
    have hp : (0 : Int) < 128 ^ i := Int.pow_pos (by decide)
    generalize (128 : Int) ^ i = p at *
    generalize ei b (a + i) % 128 = m at *
    have h4 : 0 ≤ m * p := Int.mul_nonneg h3.1 (by omega)
    have h5 : m * p ≤ 127 * p := Int.mul_le_mul_of_nonneg_right h3.2 (by omega)
    omega
/-- The high digits, one more each time. -/
theorem code_step {b : List D} {a : Nat} (hb : ∀ j, 0 ≤ ei b j) {k : Nat} : ∀ {n : Nat}, k < n → codeTo b a n / 128 ^ k = 128 * (codeTo b a n / 128 ^ (k + 1)) + ei b (a + k) % 128
  | 0, h => by omega
  | n + 1, h => by
    have hp : (0 : Int) < 128 ^ k := Int.pow_pos (by decide)
    by_cases e : k = n
    · subst e
      obtain ⟨h1, h2⟩ := codeTo_div (b := b) (a := a) hb (i := k)
      have e1 : codeTo b a (k + 1) / 128 ^ k = ei b (a + k) % 128 := by
        rw [codeTo, Int.add_mul_ediv_right _ _ (by omega), Int.ediv_eq_zero_of_lt h1 h2]; omega
      rw [div_pow', e1]
      omega
    · have ih := code_step hb (a := a) (k := k) (n := n) (by omega)
      rw [div_pow'] at ih
      obtain ⟨d, rfl⟩ : ∃ d, n = k + 1 + d := ⟨n - k - 1, by omega⟩
      have e2 : ei b (a + (k + 1 + d)) % 128 * 128 ^ (k + 1 + d) = (128 * (ei b (a + (k + 1 + d)) % 128 * 128 ^ d)) * 128 ^ k := by
        rw [Int.pow_add, Int.pow_add]
        simp only [Int.pow_one]
        rw [Int.mul_comm ((128 : Int) ^ k) 128, Int.mul_assoc 128 _ _, Int.mul_comm ((128 : Int) ^ k) _]
        simp only [Int.mul_assoc, Int.mul_left_comm]
      rw [div_pow', codeTo, e2, Int.add_mul_ediv_right _ _ (by omega)]
      omega
theorem code_bound {b : List D} {a n : Nat} (hb : ∀ j, 0 ≤ ei b j ∧ ei b j ≤ 255) (hn : n < 10) (h : ¬ (n = 9 ∧ 1 < ei b (a + 9))) : 0 ≤ codeTo b a (n + 1) ∧ codeTo b a (n + 1) ≤ 18446744073709551615 := by
  obtain ⟨h1, h2⟩ := codeTo_div (a := a) (b := b) (fun j => (hb j).1) (i := n + 1)
  refine ⟨h1, ?_⟩
  by_cases e : n = 9
  · subst e
    obtain ⟨h3, h4⟩ := codeTo_div (a := a) (b := b) (fun j => (hb j).1) (i := 9)
    have := hb (a + 9)
    rw [codeTo]
    omega
  · have : (128 : Int) ^ (n + 1) ≤ 128 ^ 9 := by
      obtain rfl | rfl | rfl | rfl | rfl | rfl | rfl | rfl | rfl : n = 0 ∨ n = 1 ∨ n = 2 ∨ n = 3 ∨ n = 4 ∨ n = 5 ∨ n = 6 ∨ n = 7 ∨ n = 8 := by omega
      all_goals decide
    omega
theorem ei_u8 {d : D} (h : WT lb d) (j : Nat) : 0 ≤ ei d.l j ∧ ei d.l j ≤ 255 := by
  unfold ei
  by_cases hj : j < d.l.length
  · rw [elt_get hj]; exact wt_u8 ((wt_sl h).2.2 _ (List.getElem_mem hj))
  · have : elt d.l (j : Int) = .int 0 := by unfold elt; simp [hj]
    rw [this]; simp [D.i]
theorem c19 : ConOK Try.prog 19 con19 := by
  refine conOK_of_exec (inl := noInl) noInl_ok (lp := lp19) (tb := tb19) (c := bodyOf Try.f19) ⟨tt_ok, tb19_ok⟩ mixed Try.func19 (by kernel_rfl) (by kernel_rfl) ?_
  intro dat hpre hwt
  obtain ⟨d0, d1, rfl, w0, w1⟩ := wts2 hwt
  refine Eq.mpr (vc19 d0 d1) ?_
  have hl : d0.l.length ≤ 1000000 := hpre
  have hi := wt_i64 w1
  simp only [ile_t, ile_f, ilt_t, ilt_f, ieq_t, ieq_f, bnot_t, bnot_f, band_t, band_f, true_and, and_true, lenI]
  refine ⟨fun h => ?_, fun h0 => ⟨fun h => ?_, fun h1 => ?_⟩⟩
  · unfold intZ; rw [if_pos (.inl h)]; exact ⟨rfl, rfl, rfl⟩
  · unfold intZ; rw [if_pos (.inr h)]; exact ⟨rfl, rfl, rfl⟩
  have hz : intZ d0.l d1.i = intA d0.l d1.i.toNat := by unfold intZ; rw [if_neg (by omega)]
  rw [hz]
  obtain ⟨a, ha⟩ : ∃ a : Nat, d1.i = a := ⟨d1.i.toNat, by omega⟩
  rw [ha] at h0 h1 hi ⊢
  simp only [Int.toNat_natCast]
  have hb : ∀ j, 0 ≤ ei d0.l j ∧ ei d0.l j ≤ 255 := fun j => ei_u8 w0 j
  have hne : ∀ {P : Prop}, ¬ P → ∃ g : Unit, ¬ P := fun h => ⟨(), h⟩
  have h5 : (grpZ d0.l a = 0 ∨ (grpZ d0.l a = 10 ∧ 1 < ei d0.l (a + 9)) ∨ (1 < grpZ d0.l a ∧ ei d0.l (a + grpZ d0.l a - 1) = 0)) → ¬ (grpZ d0.l a = 0 ∧ d0.l.length < a + 10) → intA d0.l a = ⟨0, 0, 5⟩ := fun h h' => by
    unfold intA; rw [if_neg h', if_pos h]
  have h7 : grpZ d0.l a = 0 ∧ d0.l.length < a + 10 → intA d0.l a = ⟨0, 0, 7⟩ := fun h => by unfold intA; rw [if_pos h]
  have e1 : isub .i64 (d0.l.length : Int) (a : Int) = (d0.l.length : Int) - a := isub_eq (by omega)
  have e2 : iadd .i64 (a : Int) 9 = ((a + 9 : Nat) : Int) := by rw [iadd_eq (by omega)]; rfl
  rw [e1, e2]
  have hg : ∀ n, grpZ d0.l a = n + 1 → n < 10 ∧ a + n < d0.l.length ∧ grpTo d0.l a n = 0 := fun n hn => by
    obtain ⟨i, h2, h3, h4, h6, _⟩ := grpTo_cases (b := d0.l) (a := a) (n := 10) (by unfold grpZ at hn; omega)
    unfold grpZ at hn
    obtain rfl : i = n := by omega
    exact ⟨h2, h6, h4⟩
  by_cases hz0 : grpZ d0.l a = 0
  · rw [hz0] at h5 h7 ⊢
    refine ⟨by omega, ⟨fun _ => ⟨fun h => ?_, fun h => ⟨(), by omega⟩⟩, fun h => by omega⟩, fun _ hok => ⟨⟨fun _ => ?_, fun h => by omega⟩, fun _ h => by omega⟩⟩
    · rw [h7 ⟨rfl, by omega⟩]; exact ⟨rfl, rfl, rfl⟩
    · rw [h5 (.inl rfl) (by omega)]; exact ⟨rfl, rfl, rfl⟩
  · obtain ⟨n, hn⟩ : ∃ n, grpZ d0.l a = n + 1 := ⟨grpZ d0.l a - 1, by omega⟩
    obtain ⟨g1, g2, g3⟩ := hg n hn
    have h0' : intA d0.l a = if ((n = 9 ∧ 1 < ei d0.l (a + 9)) ∨ (0 < n ∧ ei d0.l (a + n) = 0)) then ⟨0, 0, 5⟩ else ⟨decZ (codeTo d0.l a (n + 1)), ((a + (n + 1) : Nat) : Int), 0⟩ := by
      unfold intA
      rw [hn, if_neg (by omega)]
      rw [show a + (n + 1) - 1 = a + n by omega]
      split <;> split <;> first | rfl | (exfalso; omega)
    rw [h0', hn]
    have e3 : iadd .i64 (a : Int) ((n + 1 : Nat) : Int) = ((a + (n + 1) : Nat) : Int) := by rw [iadd_eq (by omega)]; rfl
    have e4 : isub .i64 ((a + (n + 1) : Nat) : Int) 1 = ((a + n : Nat) : Int) := by rw [isub_eq (by omega)]; omega
    rw [e3, e4]
    simp only [show a + (n + 1) - 1 = a + n from by omega]
    have e5 : (elt d0.l ((a + n : Nat) : Int)).i = ei d0.l (a + n) := rfl
    have e6 : (elt d0.l ((a + 9 : Nat) : Int)).i = ei d0.l (a + 9) := rfl
    rw [e5, e6]
    have hbad : ((n = 9 ∧ 1 < ei d0.l (a + 9)) ∨ (0 < n ∧ ei d0.l (a + n) = 0)) → (if ((n = 9 ∧ 1 < ei d0.l (a + 9)) ∨ (0 < n ∧ ei d0.l (a + n) = 0)) then (⟨0, 0, 5⟩ : IR) else ⟨decZ (codeTo d0.l a (n + 1)), ((a + (n + 1) : Nat) : Int), 0⟩) = ⟨0, 0, 5⟩ := fun h => if_pos h
    refine ⟨by omega, ⟨fun h => by omega, fun _ => ⟨(), by omega⟩⟩, fun _ _ => ⟨⟨fun h => by omega, fun _ => ⟨fun hn9 => ⟨by omega, fun h => ?_, fun h => ⟨fun h2 => ⟨by omega, fun h3 => ?_, fun h3 => ⟨(), by omega, by omega, by omega⟩⟩, fun h2 => by omega⟩⟩, fun hn9 => ⟨fun h2 => ⟨by omega, fun h3 => ?_, fun h3 => ⟨(), by omega, by omega, by omega⟩⟩, fun h2 => ⟨(), by omega, by omega, by omega⟩⟩⟩⟩, fun _ hok => ?_⟩⟩
    · rw [hbad (.inl ⟨by omega, h⟩)]; exact ⟨rfl, rfl, rfl⟩
    · rw [hbad (.inr ⟨by omega, h3⟩)]; exact ⟨rfl, rfl, rfl⟩
    · rw [hbad (.inr ⟨by omega, h3⟩)]; exact ⟨rfl, rfl, rfl⟩
    · have hgood : (if ((n = 9 ∧ 1 < ei d0.l (a + 9)) ∨ (0 < n ∧ ei d0.l (a + n) = 0)) then (⟨0, 0, 5⟩ : IR) else ⟨decZ (codeTo d0.l a (n + 1)), ((a + (n + 1) : Nat) : Int), 0⟩) = ⟨decZ (codeTo d0.l a (n + 1)), ((a + (n + 1) : Nat) : Int), 0⟩ := if_neg (by omega)
      rw [hgood]
      have hC := code_bound hb g1 (show ¬ (n = 9 ∧ 1 < ei d0.l (a + 9)) by omega)
      have hst : ∀ k, k < n + 1 → codeTo d0.l a (n + 1) / 128 ^ k = 128 * (codeTo d0.l a (n + 1) / 128 ^ (k + 1)) + ei d0.l (a + k) % 128 := fun k hk => code_step (fun j => (hb j).1) hk
      have hlow : codeTo d0.l a (n + 1) / 128 ^ (n + 1) = 0 := by
        obtain ⟨h1, h2⟩ := codeTo_div (a := a) (b := d0.l) (fun j => (hb j).1) (i := n + 1)
        exact Int.ediv_eq_zero_of_lt h1 h2
      generalize codeTo d0.l a (n + 1) = C at *
      refine ⟨⟨0, by omega, by rw [Nat.sub_zero, hlow], by rw [isub_eq (by omega)]; omega⟩, fun j hj => ⟨fun hlt => ?_, fun hge => ?_⟩⟩
      · have q0 : ((n + 1 : Nat) : Int) - 1 - (j : Int) = ((n - j : Nat) : Int) := by omega
        have q1 : iadd .i64 (a : Int) ((n - j : Nat) : Int) = ((a + (n - j) : Nat) : Int) := by rw [iadd_eq (by omega)]; rfl
        have q2 : (elt d0.l ((a + (n - j) : Nat) : Int)).i = ei d0.l (a + (n - j)) := rfl
        have q3 := hst (n - j) (by omega)
        have q4 := div_le hC.1 (n - j)
        have q5 := div_nonneg hC.1 (n - j + 1)
        have q6 := hb (a + (n - j))
        rw [q0, q1, q2, show n + 1 - j = n - j + 1 by omega]
        refine ⟨by omega, by decide, j + 1, by omega, by omega, ?_, by rw [isub_eq (by omega)]; omega⟩
        rw [show n + 1 - (j + 1) = n - j by omega, q3]
        generalize C / 128 ^ (n - j + 1) = X at *
        generalize ei d0.l (a + (n - j)) = z at *
        rw [irem_eq q6.1]
        unfold iadd imul iconv
        rw [wrap_u64 (a := 128 * X) (by omega), wrap_u64 (a := z % 128) (by omega), wrap_u64 (by omega)]
      · obtain rfl : j = n + 1 := by omega
        rw [Nat.sub_self, Int.pow_zero, Int.ediv_one]
        have e7 : irem C 2 = C % 2 := irem_eq hC.1
        have e8 : iquo .u64 C 2 = C / 2 := iquo_u64 hC.1 hC.2 (by decide)
        have e9 : iconv .i64 (C / 2) = C / 2 := iconv_eq (by omega)
        rw [e7, e8, e9]
        unfold decZ
        refine ⟨by decide, fun h => ⟨by decide, ?_, rfl, rfl⟩, fun h => ⟨by decide, ?_, rfl, rfl⟩⟩
        · rw [if_pos h]
          have q1 : isub .i64 0 (C / 2) = 0 - C / 2 := isub_eq (by omega)
          have q2 : isub .i64 (0 - C / 2) 1 = 0 - C / 2 - 1 := isub_eq (by omega)
          rw [q1, q2]
          simp only
          omega
        · rw [if_neg h]
theorem tb21_ok : TabOK Try.prog tb21 := fun f con h => by
  unfold tb21 at h
  split at h
  · cases h; exact c19
  · cases h
theorem intZ_x {b : List D} {a : Int} (h : (intZ b a).e = 0) : 0 ≤ a ∧ a < (intZ b a).x ∧ (intZ b a).x ≤ b.length ∧ (intZ b a).x = a + (grpZ b a.toNat : Int) ∧ (intZ b a).n = decZ (codeTo b a.toNat (grpZ b a.toNat)) := by
  unfold intZ at h ⊢
  split at h
  · cases h
  · rename_i h1
    rw [if_neg h1]
    unfold intA at h ⊢
    split at h
    · cases h
    · rename_i h2
      rw [if_neg h2]
      split at h
      · cases h
      · rename_i h3
        rw [if_neg h3]
        obtain ⟨i, h4, h5, h6, h7, _⟩ := grpTo_cases (b := b) (a := a.toNat) (n := 10) (by unfold grpZ at h3; omega)
        simp only
        unfold grpZ
        rw [h5]
        exact ⟨by omega, by omega, by omega, by omega, trivial⟩
theorem c21 : ConOK Try.prog 21 con21 := by
  refine conOK_of_exec (inl := noInl) noInl_ok (lp := noLp) (tb := tb21) (c := bodyOf Try.f21) ⟨tt_ok, tb21_ok⟩ mixed Try.func21 (by kernel_rfl) (by kernel_rfl) ?_
  intro dat hpre hwt
  obtain ⟨d0, d1, rfl, w0, w1⟩ := wts2 hwt
  refine Eq.mpr (vc21 d0 d1) ?_
  have hl : d0.l.length ≤ 1000000 := hpre
  simp only [ile_t, ile_f, ilt_t, ilt_f, ieq_t, ieq_f, bnot_t, bnot_f, band_t, band_f, true_and, and_true, lenI]
  have hx := @intZ_x d0.l d1.i
  have t1 : (intZ d0.l d1.i).e ≠ 0 → textZ d0.l d1.i = ⟨[], 0, (intZ d0.l d1.i).e⟩ := fun h => by unfold textZ; rw [if_pos h]
  have t2 : (intZ d0.l d1.i).e = 0 → (intZ d0.l d1.i).n < 0 → textZ d0.l d1.i = ⟨[], 0, 5⟩ := fun h h2 => by unfold textZ; rw [if_neg (by omega), if_pos h2]
  have t3 : (intZ d0.l d1.i).e = 0 → 65536 < (intZ d0.l d1.i).n → textZ d0.l d1.i = ⟨[], 0, 4⟩ := fun h h2 => by unfold textZ; rw [if_neg (by omega), if_neg (by omega), if_pos h2]
  have t4 : (intZ d0.l d1.i).e = 0 → 0 ≤ (intZ d0.l d1.i).n → (intZ d0.l d1.i).n ≤ 65536 → (d0.l.length : Int) - (intZ d0.l d1.i).x < (intZ d0.l d1.i).n → textZ d0.l d1.i = ⟨[], 0, 7⟩ := fun h h2 h3 h4 => by unfold textZ; rw [if_neg (by omega), if_neg (by omega), if_neg (by omega), if_pos h4]
  have t5 : (intZ d0.l d1.i).e = 0 → 0 ≤ (intZ d0.l d1.i).n → (intZ d0.l d1.i).n ≤ 65536 → (intZ d0.l d1.i).n ≤ (d0.l.length : Int) - (intZ d0.l d1.i).x → textZ d0.l d1.i = ⟨strD (xsub d0.l (intZ d0.l d1.i).x ((intZ d0.l d1.i).x + (intZ d0.l d1.i).n)), (intZ d0.l d1.i).x + (intZ d0.l d1.i).n, 0⟩ :=
    fun h h2 h3 h4 => by unfold textZ; rw [if_neg (by omega), if_neg (by omega), if_neg (by omega), if_neg (by omega)]
  generalize intZ d0.l d1.i = I at *
  have q : I.e = 0 → isub .i64 (d0.l.length : Int) I.x = (d0.l.length : Int) - I.x := fun h => by have := hx h; exact isub_eq (by omega)
  refine ⟨hl, fun h => by rw [t1 h]; exact ⟨rfl, rfl, rfl⟩, fun h => ⟨fun h2 => by rw [t2 h h2]; exact ⟨rfl, rfl, rfl⟩, fun h2 => ⟨fun h3 => by rw [t3 h h3]; exact ⟨rfl, rfl, rfl⟩, fun h3 => ?_⟩⟩⟩
  have hx := hx h
  rw [q h]
  refine ⟨fun h4 => by rw [t4 h h2 h3 h4]; exact ⟨rfl, rfl, rfl⟩, fun h4 => ?_⟩
  have q2 : iadd .i64 I.x I.n = I.x + I.n := iadd_eq (by omega)
  rw [q2, t5 h h2 h3 h4]
  exact ⟨by omega, rfl, rfl, rfl⟩
end Go.Proofs.Ytngjkhnhnaohmaa
