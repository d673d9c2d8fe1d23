/- Part of the proof of the laws of this seat: contracts of its functions, for every input. -/
import Derived.Test.YtngjkhnhnaohmaaWG
import Derived.Laws.Bits64b
set_option linter.all false
namespace Go.Proofs.Ytngjkhnhnaohmaa
open Go Go.RX Go.Proofs
set_option maxRecDepth 100000
set_option linter.all false
theorem or_step {b : List D} {a g : Nat} (hb : ∀ j, 0 ≤ ei b j ∧ ei b j ≤ 255) (hg : g ≤ 9) (h : g = 9 → ei b (a + g) ≤ 1) :
    bits .or .u64 (codeTo b a g) (ishl .u64 (iconv .u64 (irem (ei b (a + g)) 128)) (imul .i64 7 (g : Int))) = codeTo b a (g + 1) := by
  obtain ⟨h1, h2⟩ := codeTo_div (a := a) (b := b) (fun j => (hb j).1) (i := g)
  have hB := code_bound (a := a) hb (n := g) (by omega) (fun ⟨e, h3⟩ => by subst e; have := h rfl; omega)
  have hc := hb (a + g)
  rw [codeTo] at hB ⊢
  have e1 : imul .i64 7 (g : Int) = ((7 * g : Nat) : Int) := by rw [imul_eq (by omega)]; omega
  have e2 : iconv .u64 (irem (ei b (a + g)) 128) = ei b (a + g) % 128 := by rw [irem_eq hc.1]; exact wrap_u64 (by omega)
  rw [e1, e2]
  have e3 : min ((7 * g : Nat) : Int).toNat IntKind.u64.bits = 7 * g := by
    show min _ 64 = _
    omega
  have e4 : (128 : Int) ^ g = ((2 ^ (7 * g) : Nat) : Int) := by
    rw [Nat.pow_mul]
    simp
  unfold ishl
  rw [e3]
  have e5 : (2 : Int) ^ (7 * g) = ((2 ^ (7 * g) : Nat) : Int) := by simp
  rw [e5]
  rw [e4] at h2 hB ⊢
  obtain ⟨x, hx⟩ : ∃ x : Nat, codeTo b a g = x := ⟨(codeTo b a g).toNat, by omega⟩
  obtain ⟨y, hy⟩ : ∃ y : Nat, ei b (a + g) % 128 = y := ⟨(ei b (a + g) % 128).toNat, by omega⟩
  rw [hx] at h1 h2 hB ⊢
  rw [hy] at hB ⊢
  generalize hp : 2 ^ (7 * g) = p at *
  have hm : (y : Int) * (p : Int) = ((y * p : Nat) : Int) := by simp
  rw [hm] at hB ⊢
  rw [wrap_u64 (by omega), bits_or_u64_nat _ _ (by omega) (by omega)]
  have := Nat.two_pow_add_eq_or_of_lt (i := 7 * g) (b := x) (by omega) y
  rw [hp, Nat.mul_comm p y] at this
  rw [Nat.or_comm, ← this]
  omega
theorem inlR_ok : InlOK Try.prog inlR := fun f I h => by
  unfold inlR at h
  split at h
  · cases h; exact ⟨Try.func33, by kernel_rfl, by kernel_rfl⟩
  · cases h; exact ⟨Try.func37, by kernel_rfl, by kernel_rfl⟩
  · cases h; exact ⟨Try.func39, by kernel_rfl, by kernel_rfl⟩
  · cases h; exact ⟨Try.func34, by kernel_rfl, by kernel_rfl⟩
  · cases h; exact ⟨Try.func35, by kernel_rfl, by kernel_rfl⟩
  · cases h; exact ⟨Try.func38, by kernel_rfl, by kernel_rfl⟩
  · cases h; exact ⟨Try.func40, by kernel_rfl, by kernel_rfl⟩
  · cases h
theorem inl18_ok : InlOK Try.prog inl18 := inlR_ok
theorem inl20_ok : InlOK Try.prog inl20 := inlR_ok
theorem inl26_ok : InlOK Try.prog inl26 := inlR_ok
theorem dec_t {C : Int} (h : 0 ≤ C ∧ C ≤ 18446744073709551615) (h1 : irem C 2 = 1) : isub .i64 (isub .i64 0 (iconv .i64 (iquo .u64 C 2))) 1 = decZ C := by
  rw [irem_eq h.1] at h1
  have e9 : iconv .i64 (C / 2) = C / 2 := iconv_eq (by omega)
  rw [iquo_u64 h.1 h.2 (by decide), e9]
  have q1 : isub .i64 0 (C / 2) = 0 - C / 2 := isub_eq (by omega)
  have q2 : isub .i64 (0 - C / 2) 1 = 0 - C / 2 - 1 := isub_eq (by omega)
  rw [q1, q2]
  unfold decZ
  rw [if_pos h1]; omega
theorem dec_f {C : Int} (h : 0 ≤ C ∧ C ≤ 18446744073709551615) (h1 : irem C 2 ≠ 1) : iconv .i64 (iquo .u64 C 2) = decZ C := by
  rw [irem_eq h.1] at h1
  have e9 : iconv .i64 (C / 2) = C / 2 := iconv_eq (by omega)
  rw [iquo_u64 h.1 h.2 (by decide), e9]
  unfold decZ
  rw [if_neg h1]
structure NF (b : List D) (a g : Nat) : Prop where
  or : ¬ (g = 9 ∧ 1 < ei b (a + g)) → bits .or .u64 (codeTo b a g) (ishl .u64 (iconv .u64 (irem (ei b (a + g)) 128)) (imul .i64 7 (g : Int))) = codeTo b a (g + 1)
  r7 : b.length ≤ a + g → intA b a = ⟨0, 0, 7⟩
  r9 : a + g < b.length → g = 9 → 1 < ei b (a + g) → intA b a = ⟨0, 0, 5⟩
  r0 : a + g < b.length → ei b (a + g) < 128 → 0 < g → ei b (a + g) = 0 → intA b a = ⟨0, 0, 5⟩
  rok : a + g < b.length → ei b (a + g) < 128 → ¬ (g = 9 ∧ 1 < ei b (a + g)) → ¬ (0 < g ∧ ei b (a + g) = 0) → intA b a = ⟨decZ (codeTo b a (g + 1)), ((a + g + 1 : Nat) : Int), 0⟩
  C : ¬ (g = 9 ∧ 1 < ei b (a + g)) → 0 ≤ codeTo b a (g + 1) ∧ codeTo b a (g + 1) ≤ 18446744073709551615
  nx : 128 ≤ ei b (a + g) → a + g < b.length → g < 9 → (∃ g', (g' ≤ 9 ∧ a + g' ≤ b.length ∧ allHi b a g') ∧ 10 - g' < 10 - g ∧ (codeTo b a (g + 1) = codeTo b a g' ∧ ((g + 1 : Nat) : Int) = (g' : Int)) ∧ ((a + g + 1 : Nat) : Int) = (a : Int) + (g' : Int))
theorem num_facts {b : List D} {a g : Nat} (hb : ∀ j, 0 ≤ ei b j ∧ ei b j ≤ 255) (g1 : g ≤ 9) (g2 : a + g ≤ b.length) (g3 : allHi b a g) : NF b a g := by
  have hz : grpTo b a g = 0 := grpTo_none fun j hj h => by have := g3 j hj; omega
  have hor : ¬ (g = 9 ∧ 1 < ei b (a + g)) → bits .or .u64 (codeTo b a g) (ishl .u64 (iconv .u64 (irem (ei b (a + g)) 128)) (imul .i64 7 (g : Int))) = codeTo b a (g + 1) := fun h => or_step hb g1 fun e => by omega
  have r7 : b.length ≤ a + g → intA b a = ⟨0, 0, 7⟩ := fun h => by
    have : grpZ b a = 0 := grpTo_none fun j hj h2 => by
      by_cases ej : j < g
      · have := g3 j ej; omega
      · omega
    unfold intA
    rw [if_pos (by omega)]
  have r9 : a + g < b.length → g = 9 → 1 < ei b (a + g) → intA b a = ⟨0, 0, 5⟩ := fun h1 h2 h3 => by
    subst h2
    unfold intA
    by_cases h4 : ei b (a + 9) < 128
    · have : grpZ b a = 10 := grpTo_found hz ⟨h1, h4⟩ (by omega)
      rw [if_neg (by omega), if_pos (by omega)]
    · have : grpZ b a = 0 := grpTo_none fun j hj h2 => by
        by_cases ej : j < 9
        · have := g3 j ej; omega
        · obtain rfl : j = 9 := by omega
          omega
      rw [if_neg (by omega), if_pos (by omega)]
  have rg : a + g < b.length → ei b (a + g) < 128 → grpZ b a = g + 1 := fun h1 h2 => grpTo_found hz ⟨h1, h2⟩ (by omega)
  have r0 : a + g < b.length → ei b (a + g) < 128 → 0 < g → ei b (a + g) = 0 → intA b a = ⟨0, 0, 5⟩ := fun h1 h2 h3 h4 => by
    have := rg h1 h2
    unfold intA
    rw [this, show a + (g + 1) - 1 = a + g by omega, if_neg (by omega), if_pos (by omega)]
  have rok : a + g < b.length → ei b (a + g) < 128 → ¬ (g = 9 ∧ 1 < ei b (a + g)) → ¬ (0 < g ∧ ei b (a + g) = 0) → intA b a = ⟨decZ (codeTo b a (g + 1)), ((a + g + 1 : Nat) : Int), 0⟩ := fun h1 h2 h3 h4 => by
    have := rg h1 h2
    unfold intA
    rw [this, show a + (g + 1) - 1 = a + g by omega, if_neg (by omega), if_neg]
    · rfl
    · rintro (h | ⟨h, h5⟩ | ⟨h, h5⟩)
      · omega
      · obtain rfl : g = 9 := by omega
        exact h3 ⟨rfl, h5⟩
      · omega
  have hC : ¬ (g = 9 ∧ 1 < ei b (a + g)) → 0 ≤ codeTo b a (g + 1) ∧ codeTo b a (g + 1) ≤ 18446744073709551615 := fun h => code_bound hb (by omega) fun ⟨e, h2⟩ => by subst e; exact h ⟨rfl, h2⟩
  have hnx : 128 ≤ ei b (a + g) → a + g < b.length → g < 9 → (∃ g', (g' ≤ 9 ∧ a + g' ≤ b.length ∧ allHi b a g') ∧ 10 - g' < 10 - g ∧ (codeTo b a (g + 1) = codeTo b a g' ∧ ((g + 1 : Nat) : Int) = (g' : Int)) ∧ ((a + g + 1 : Nat) : Int) = (a : Int) + (g' : Int)) := fun h1 h2 h3 =>
    ⟨g + 1, ⟨by omega, by omega, fun j hj => by
      by_cases ej : j = g
      · rw [ej]; exact h1
      · exact g3 j (by omega)⟩, by omega, ⟨rfl, rfl⟩, by omega⟩
  exact ⟨hor, r7, r9, r0, rok, hC, hnx⟩
theorem c18 : ConOK Try.prog 18 con18 := by
  refine conOK_of_execD (inl := inl18) inl18_ok (lp := noLp) (tb := tbN) (c := bodyOf Try.f18) ⟨tt_ok, tbN_ok⟩ mixed Try.func18 (by kernel_rfl) (by kernel_rfl) ?_
  intro dat hpre hwt
  obtain ⟨d0, d1, rfl, w0, w1⟩ := wts2 hwt
  refine Eq.mpr (vc18 d0 d1) ?_
  have hl : d0.l.length ≤ 1000000 := hpre
  have hi := wt_i64 w1
  have hb : ∀ j, 0 ≤ ei d0.l j ∧ ei d0.l j ≤ 255 := fun j => ei_u8 w0 j
  simp only [ile_t, ile_f, ilt_t, ilt_f, ieq_t, ieq_f, bnot_t, bnot_f, band_t, band_f, true_and, and_true, lenI]
  refine ⟨fun h => ?_, fun h0 => ⟨fun h => ?_, fun h1 => ?_⟩⟩
  · unfold intZ; rw [if_pos (.inl h)]; exact ⟨rfl, rfl, rfl⟩
  · unfold intZ; rw [if_pos (.inr h)]; exact ⟨rfl, rfl, rfl⟩
  have hz : intZ d0.l d1.i = intA d0.l d1.i.toNat := by unfold intZ; rw [if_neg (by omega)]
  rw [hz]
  obtain ⟨a, ha⟩ : ∃ a : Nat, d1.i = a := ⟨d1.i.toNat, by omega⟩
  rw [ha] at h0 h1 hi ⊢
  simp only [Int.toNat_natCast]
  refine ⟨⟨0, ⟨by omega, by omega, fun j hj => by omega⟩, ⟨rfl, rfl⟩, by simp⟩, fun g hg => ?_⟩
  obtain ⟨g1, g2, g3⟩ := hg
  have e1 : iadd .i64 ((a : Int) + (g : Int)) 1 = ((a + g + 1 : Nat) : Int) := by rw [iadd_eq (by omega)]; omega
  have e2 : isub .i64 ((a + g + 1 : Nat) : Int) 1 = ((a + g : Nat) : Int) := by rw [isub_eq (by omega)]; omega
  have e3 : (elt d0.l ((a + g : Nat) : Int)).i = ei d0.l (a + g) := rfl
  have e4 : ((a : Int) + (g : Int)) = ((a + g : Nat) : Int) := rfl
  have e5 : imul .i64 7 (g : Int) = 7 * (g : Int) := imul_eq (by omega)
  have e6 : iadd .i64 (g : Int) 1 = ((g + 1 : Nat) : Int) := by rw [iadd_eq (by omega)]; rfl
  obtain ⟨hor, r7, r9, r0, rok, hC, hnx⟩ := num_facts hb g1 g2 g3
  rw [e1, e2, e3, e4, e6]
  have fin : ((a + g : Nat) : Int) < d0.l.length → ei d0.l (a + g) < 128 → ¬ (g = 9 ∧ 1 < ei d0.l (a + g)) → ¬ (0 < g ∧ ei d0.l (a + g) = 0) → (2 : Int) ≠ 0 ∧
      (irem (codeTo d0.l a (g + 1)) 2 = 1 → (2 : Int) ≠ 0 ∧ isub .i64 (isub .i64 0 (iconv .i64 (iquo .u64 (codeTo d0.l a (g + 1)) 2))) 1 = (intA d0.l a).n ∧ ((a + g + 1 : Nat) : Int) = (intA d0.l a).x ∧ 0 = (intA d0.l a).e) ∧
      (irem (codeTo d0.l a (g + 1)) 2 ≠ 1 → (2 : Int) ≠ 0 ∧ iconv .i64 (iquo .u64 (codeTo d0.l a (g + 1)) 2) = (intA d0.l a).n ∧ ((a + g + 1 : Nat) : Int) = (intA d0.l a).x ∧ 0 = (intA d0.l a).e) := fun h1 h2 h3 h4 => by
    rw [rok (by omega) h2 h3 h4]
    exact ⟨by decide, fun h => ⟨by decide, dec_t (hC h3) h, rfl, rfl⟩, fun h => ⟨by decide, dec_f (hC h3) h, rfl, rfl⟩⟩
  refine ⟨fun h => by rw [r7 (by omega)]; exact ⟨rfl, rfl, rfl⟩, fun hlt => ⟨by omega, fun h9 => ⟨fun hgt => by rw [r9 (by omega) (by omega) hgt]; exact ⟨rfl, rfl, rfl⟩, fun hle => ?_⟩, fun h9 => ?_⟩⟩
  · have hn : ¬ (g = 9 ∧ 1 < ei d0.l (a + g)) := by omega
    rw [hor hn, e5]
    exact ⟨by decide, by omega, fun h => by omega, fun h128 => ⟨fun h0 => ⟨fun hz0 => by rw [r0 (by omega) h128 (by omega) hz0]; exact ⟨rfl, rfl, rfl⟩, fun hz0 => fin hlt h128 hn (by omega)⟩, fun h0 => fin hlt h128 hn (by omega)⟩⟩
  · have hn : ¬ (g = 9 ∧ 1 < ei d0.l (a + g)) := by omega
    rw [hor hn, e5]
    exact ⟨by decide, by omega, fun h => hnx h (by omega) (by omega), fun h128 => ⟨fun h0 => ⟨fun hz0 => by rw [r0 (by omega) h128 (by omega) hz0]; exact ⟨rfl, rfl, rfl⟩, fun hz0 => fin hlt h128 hn (by omega)⟩, fun h0 => fin hlt h128 hn (by omega)⟩⟩
end Go.Proofs.Ytngjkhnhnaohmaa
