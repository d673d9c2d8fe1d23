/- Part of the proof of the laws of this seat: contracts of its functions, for every input. -/
import Derived.Test.YtngjkhnhnaohmaaWC
set_option linter.all false
namespace Go.Proofs.Ytngjkhnhnaohmaa
open Go Go.RX Go.Proofs
set_option maxRecDepth 100000
set_option linter.all false
theorem wt_len {e : Ty} {d : D} (h : WT (.slice e) d) : (d.l.length : Int) ≤ 9223372036854775807 := by
  have := (wt_sl h).2.1
  simp only [maxLen] at this
  omega
theorem wrap_u64 {a : Int} (h : 0 ≤ a ∧ a ≤ 18446744073709551615) : IntKind.wrap .u64 a = a := by
  rw [IntKind.wrap_u64]; omega
theorem wrap_u8 (a : Int) : IntKind.wrap .u8 a = a % 256 := by
  rw [IntKind.wrap_u8]
theorem div_pow (c : Int) (k : Nat) : c / 128 ^ (k + 1) = c / 128 / 128 ^ k := by
  rw [Int.pow_succ, Int.mul_comm, Int.ediv_ediv_of_nonneg (by decide)]
theorem div_pow' (c : Int) (k : Nat) : c / 128 ^ (k + 1) = c / 128 ^ k / 128 := by
  rw [Int.pow_succ, Int.ediv_ediv_of_nonneg (Int.le_of_lt (Int.pow_pos (by decide)))]
theorem glF_spec : ∀ {f : Nat} {c : Int}, 0 ≤ c → c < 128 ^ f → ∀ k, k ≤ glF f c → (128 ≤ c / 128 ^ k ↔ k < glF f c)
  | 0, c, h0, h, k, hk => by
    rw [glF] at hk ⊢
    obtain rfl : k = 0 := by omega
    simp only [Int.pow_zero, Int.ediv_one] at h ⊢
    omega
  | f + 1, c, h0, h, k, hk => by
    rw [glF] at hk ⊢
    split at hk
    · rename_i h1
      rw [if_pos h1]
      obtain rfl : k = 0 := by omega
      simp only [Int.pow_zero, Int.ediv_one]
      omega
    · rename_i h1
      rw [if_neg h1]
      cases k with
      | zero => simp only [Int.pow_zero, Int.ediv_one]; omega
      | succ k =>
        rw [div_pow]
        have := glF_spec (f := f) (c := c / 128) (by omega) (by rw [Int.pow_succ] at h; omega) k (by omega)
        omega
theorem code_range {n : Int} (h : -9223372036854775808 ≤ n ∧ n ≤ 9223372036854775807) : 0 ≤ codeOf n ∧ codeOf n ≤ 18446744073709551615 := by
  unfold codeOf; split <;> omega
theorem glen_spec {c : Int} (h : 0 ≤ c ∧ c ≤ 18446744073709551615) {k : Nat} (hk : k ≤ glen c) : 128 ≤ c / 128 ^ k ↔ k < glen c :=
  glF_spec h.1 (Int.lt_of_le_of_lt h.2 (by decide)) k hk
theorem glF_le : ∀ {f : Nat} {c : Int}, glF f c ≤ f
  | 0, _ => Nat.le_refl _
  | f + 1, c => by rw [glF]; split <;> have := @glF_le f (c / 128) <;> omega
theorem glen_le {c : Int} : glen c ≤ 10 := glF_le
theorem div_nonneg {c : Int} (h : 0 ≤ c) (k : Nat) : 0 ≤ c / 128 ^ k := Int.ediv_nonneg h (Int.le_of_lt (Int.pow_pos (by decide)))
theorem div_le {c : Int} (h : 0 ≤ c) (k : Nat) : c / 128 ^ k ≤ c := Int.ediv_le_self _ h
theorem encP_len {c : Int} {k : Nat} : (encP c k).length = k := mkL_len
theorem enc_byte {x : Int} (h : 0 ≤ x) : iadd .u8 (iconv .u8 (irem x 128)) 128 = x % 128 + 128 := by
  unfold iadd iconv
  rw [irem_eq h, wrap_u8, wrap_u8]; omega
theorem enc_last {x : Int} (h : 0 ≤ x) (h1 : x < 128) : iconv .u8 x = x := by
  unfold iconv; rw [wrap_u8]; omega
theorem encP_snoc {c : Int} {k : Nat} : xcat (encP c k) [.int (c / 128 ^ k % 128 + 128)] = encP c (k + 1) := mkL_snoc (f := fun i => .int (c / 128 ^ i % 128 + 128))
theorem xcat_assoc {a b c : List D} : xcat (xcat a b) c = xcat a (xcat b c) := by simp [xcat]
theorem xcat_nil {a : List D} : xcat [] a = a := rfl
theorem xcat_nil' {a : List D} : xcat a [] = a := by simp [xcat]
theorem enc_done {b : List D} {c : Int} : xcat (xcat b (encP c (glen c))) [.int (c / 128 ^ glen c)] = b ++ encB c := by simp [xcat, encB]
theorem iquo_u64 {a : Int} (ha : 0 ≤ a) (h : a ≤ 18446744073709551615) {b : Int} (hb : 0 < b) : iquo .u64 a b = a / b := by
  unfold iquo
  rw [Int.tdiv_eq_ediv_of_nonneg ha, wrap_u64]
  exact ⟨Int.ediv_nonneg ha (by omega), Int.le_trans (Int.ediv_le_self _ ha) h⟩
theorem c11 : ConOK Try.prog 11 con11 := by
  refine conOK_of_exec (inl := noInl) noInl_ok (lp := noLp) (tb := tbN) (c := bodyOf Try.f11) ⟨tt_ok, tbN_ok⟩ mixed Try.func11 (by kernel_rfl) (by kernel_rfl) ?_
  intro dat hpre hwt
  obtain ⟨d0, rfl, w0⟩ := wts1 hwt
  refine Eq.mpr (vc11 d0) ?_
  simp only [ile_t, ile_f, ilt_t, ilt_f, ieq_t, ieq_f, bnot_t, bnot_f, band_t, band_f, true_and, and_true, lenI]
  have : d0.l.length ≤ 10000000 := hpre
  omega
theorem enc_round {b : List D} {c : Int} (hc : 0 ≤ c ∧ c ≤ 18446744073709551615) {k : Nat} (hk : k < glen c) :
    iquo .u64 (c / 128 ^ k) 128 = c / 128 ^ (k + 1) ∧ xcat (xcat b (encP c k)) [.int (iadd .u8 (iconv .u8 (irem (c / 128 ^ k) 128)) 128)] = xcat b (encP c (k + 1)) := by
  have h0 := div_nonneg hc.1 k
  have h1 := div_le hc.1 k
  exact ⟨by rw [iquo_u64 h0 (by omega) (by decide), div_pow'], by rw [enc_byte h0, xcat_assoc, encP_snoc]⟩
theorem Int_mul_comm' {k : IntKind} {a b : Int} : imul k a b = imul k b a := by unfold imul; rw [Int.mul_comm]
theorem code_neg {n : Int} (hn : -9223372036854775808 ≤ n ∧ n ≤ 9223372036854775807) (h : n < 0) : iadd .u64 (imul .u64 (iconv .u64 (isub .i64 0 (iadd .i64 n 1))) 2) 1 = codeOf n := by
  rw [iadd_eq (by omega), isub_eq (by omega)]
  unfold iadd imul iconv codeOf
  rw [if_pos h, wrap_u64 (a := 0 - (n + 1)) (by omega), wrap_u64 (a := (0 - (n + 1)) * 2) (by omega), wrap_u64 (by omega)]
  omega
theorem code_pos {n : Int} (hn : -9223372036854775808 ≤ n ∧ n ≤ 9223372036854775807) (h : 0 ≤ n) : imul .u64 (iconv .u64 n) 2 = codeOf n := by
  unfold imul iconv codeOf
  rw [if_neg (by omega), wrap_u64 (a := n) (by omega), wrap_u64 (by omega)]
  omega
theorem c12 : ConOK Try.prog 12 con12 := by
  refine conOK_of_exec (inl := noInl) noInl_ok (lp := lp12) (tb := tbN) (c := bodyOf Try.f12) ⟨tt_ok, tbN_ok⟩ mixed Try.func12 (by kernel_rfl) (by kernel_rfl) ?_
  intro dat hpre hwt
  obtain ⟨d0, d1, rfl, w0, w1⟩ := wts2 hwt
  refine Eq.mpr (vc12 d0 d1) ?_
  have hl : d0.l.length ≤ 1000000 := hpre
  have hn := wt_i64 w1
  have hc := code_range hn
  simp only [ile_t, ile_f, ilt_t, ilt_f, ieq_t, ieq_f, bnot_t, bnot_f, band_t, band_f, true_and, and_true, lenI, xcat_nil]
  refine ⟨⟨fun h => ⟨(), ?_⟩, fun h => ⟨(), ?_⟩⟩, fun _ _ => ⟨by omega, ⟨0, by omega, by simp, by simp [encP, mkL, xcat]⟩, fun k hk => ⟨fun h1 => ?_, fun h1 => ?_⟩⟩⟩
  · exact code_neg hn h
  · rw [code_pos hn h]
  · have hk' := (glen_spec hc hk).1 h1
    obtain ⟨e1, e2⟩ := enc_round (b := d0.l) hc hk'
    have := @glen_le (codeOf d1.i)
    refine ⟨by decide, by simp [xcat, encP_len]; omega, by decide, k + 1, by omega, by omega, e1, e2⟩
  · have hk' : k = glen (codeOf d1.i) := by
      have := mt (glen_spec hc hk).2 (by omega); omega
    have := @glen_le (codeOf d1.i)
    refine ⟨by simp [xcat, encP_len]; omega, ?_⟩
    rw [enc_last (div_nonneg hc.1 k) h1, hk']
    exact enc_done
theorem tb13_ok : TabOK Try.prog tb13 := fun f con h => by
  unfold tb13 at h
  split at h
  · cases h; exact c12
  · cases h
theorem tb15_ok : TabOK Try.prog tb15 := fun f con h => by
  unfold tb15 at h
  split at h
  · cases h; exact c11
  · cases h
theorem encB_len {c : Int} : (encB c).length ≤ 11 := by
  have := @glen_le c
  simp [encB, encP_len]; omega
theorem putI_len {b : List D} {n : Int} : (putI b n).length ≤ b.length + 11 := by
  have := @encB_len (codeOf n)
  simp [putI]; omega
theorem bytesD_len {s : List UInt8} : (bytesD s).length = s.length := by simp [bytesD]
theorem c13 : ConOK Try.prog 13 con13 := by
  refine conOK_of_exec (inl := noInl) noInl_ok (lp := noLp) (tb := tb13) (c := bodyOf Try.f13) ⟨tt_ok, tb13_ok⟩ mixed Try.func13 (by kernel_rfl) (by kernel_rfl) ?_
  intro dat hpre hwt
  obtain ⟨d0, d1, rfl, w0, w1⟩ := wts2 hwt
  refine Eq.mpr (vc13 d0 d1) ?_
  obtain ⟨h1, h2⟩ : d0.l.length ≤ 1000000 ∧ d1.s.length ≤ 1000000 := hpre
  simp only [ile_t, ile_f, ilt_t, ilt_f, ieq_t, ieq_f, bnot_t, bnot_f, band_t, band_f, true_and, and_true, lenI, bytesD_len]
  have := @putI_len d0.l (lenS d1.s)
  exact ⟨h1, by omega, rfl⟩
theorem c15 : ConOK Try.prog 15 con15 := by
  refine conOK_of_exec (inl := noInl) noInl_ok (lp := lp15) (tb := tb15) (c := bodyOf Try.f15) ⟨tt_ok, tb15_ok⟩ mixed Try.func15 (by kernel_rfl) (by kernel_rfl) ?_
  intro dat hpre hwt
  obtain ⟨d0, d1, rfl, w0, w1⟩ := wts2 hwt
  refine Eq.mpr (vc15 d0 d1) ?_
  have hl : d0.l.length ≤ 1000000 := hpre
  have hn := wt_i64 w1
  have hc := code_range hn
  simp only [ile_t, ile_f, ilt_t, ilt_f, ieq_t, ieq_f, bnot_t, bnot_f, band_t, band_f, true_and, and_true, lenI, xcat_nil]
  refine ⟨by omega, ⟨fun h => ⟨(), ?_⟩, fun h => ⟨(), ?_⟩⟩, fun _ _ => ⟨⟨0, by omega, by simp, by simp [encP, mkL, xcat]⟩, fun k hk => ⟨fun h1 => ?_, fun h1 => ?_⟩⟩⟩
  · rw [Int_mul_comm']; exact code_neg hn h
  · rw [Int_mul_comm', code_pos hn h]
  · have hk' := (glen_spec hc hk).1 h1
    obtain ⟨e1, e2⟩ := enc_round (b := d0.l) hc hk'
    have := @glen_le (codeOf d1.i)
    refine ⟨by decide, by simp [xcat, encP_len]; omega, by decide, k + 1, by omega, by omega, e1, e2⟩
  · have hk' : k = glen (codeOf d1.i) := by
      have := mt (glen_spec hc hk).2 (by omega); omega
    have := @glen_le (codeOf d1.i)
    refine ⟨by simp [xcat, encP_len]; omega, ?_⟩
    rw [enc_last (div_nonneg hc.1 k) h1, hk']
    exact enc_done
theorem tb16_ok : TabOK Try.prog tb16 := fun f con h => by
  unfold tb16 at h
  split at h
  · cases h; exact c15
  · cases h
theorem bytes_mkL {s : List UInt8} : mkL s.length (fun i => .int (sget s (i : Int))) = bytesD s := by
  refine (mkL_eq bytesD_len fun i hi => ?_).symm
  rw [elt_get (by rw [bytesD_len]; exact hi)]
  simp [bytesD, sget, List.getD, hi]
theorem c16 : ConOK Try.prog 16 con16 := by
  refine conOK_of_exec (inl := noInl) noInl_ok (lp := lp16) (tb := tb16) (c := bodyOf Try.f16) ⟨tt_ok, tb16_ok⟩ mixed Try.func16 (by kernel_rfl) (by kernel_rfl) ?_
  intro dat hpre hwt
  obtain ⟨d0, d1, rfl, w0, w1⟩ := wts2 hwt
  refine Eq.mpr (vc16 d0 d1) ?_
  obtain ⟨h1, h2⟩ : d0.l.length ≤ 1000000 ∧ d1.s.length ≤ 1000000 := hpre
  simp only [ile_t, ile_f, ilt_t, ilt_f, ieq_t, ieq_f, bnot_t, bnot_f, band_t, band_f, true_and, and_true, lenI, lenS]
  have := @putI_len d0.l (d1.s.length : Int)
  refine ⟨h1, ⟨0, by omega, rfl, by rw [mkL_zero, xcat_nil']⟩, fun g hg => ⟨fun hlt => ⟨by omega, by simp [xcat, mkL_len]; omega, g + 1, by omega, by omega, by rw [iadd_eq (by omega)]; rfl, ?_⟩, fun hge => ?_⟩⟩
  · rw [xcat_assoc, mkL_snoc (f := fun i => .int (sget d1.s (i : Int)))]
  · rw [show g = d1.s.length by omega, bytes_mkL]; rfl
theorem c14 : ConOK Try.prog 14 con14 := by
  refine conOK_of_exec (inl := noInl) noInl_ok (lp := lp14) (tb := tbN) (c := bodyOf Try.f14) ⟨tt_ok, tbN_ok⟩ mixed Try.func14 (by kernel_rfl) (by kernel_rfl) ?_
  intro dat hpre hwt
  obtain ⟨d0, d1, rfl, w0, w1⟩ := wts2 hwt
  refine Eq.mpr (vc14 d0 d1) ?_
  simp only [ile_t, ile_f, ilt_t, ilt_f, ieq_t, ieq_f, bnot_t, bnot_f, band_t, band_f, true_and, and_true, lenI]
  have hl := wt_len w0
  refine ⟨fun h => ?_, fun h => ⟨⟨0, ⟨by omega, fun i hi => by omega⟩, rfl⟩, fun g hg => ⟨fun h1 => ⟨by omega, by omega, fun h2 => ?_, fun h2 => ⟨g + 1, ⟨by omega, fun i hi => ?_⟩, by omega, ?_⟩⟩, fun h1 => ?_⟩⟩⟩
  · rw [← Bool.not_eq_true, sameZ_t]; omega
  · exact sameZ_f (by omega) h2
  · rcases Nat.lt_succ_iff_lt_or_eq.1 hi with h3 | rfl
    · exact hg.2 i h3
    · exact h2
  · rw [iadd_eq (by omega)]; rfl
  · rw [sameZ_t]; exact ⟨by omega, fun i hi => hg.2 i (by omega)⟩
theorem xor_comm' {k : IntKind} {a b : Int} : bits .xor k a b = bits .xor k b a := by
  unfold bits
  simp only
  rw [BitVec.xor_comm]
theorem crc1_t {x : Int} (h : irem x 2 = 1) : crc1 x = bits .xor .u32 (iquo .u32 x 2) 2197175160 := by unfold crc1; rw [if_pos h]
theorem crc1_f {x : Int} (h : irem x 2 ≠ 1) : crc1 x = iquo .u32 x 2 := by unfold crc1; rw [if_neg h]
theorem c24 : ConOK Try.prog 24 con24 := by
  refine conOK_of_exec (inl := noInl) noInl_ok (lp := lp24) (tb := tbN) (c := bodyOf Try.f24) ⟨tt_ok, tbN_ok⟩ mixed Try.func24 (by kernel_rfl) (by kernel_rfl) ?_
  intro dat hpre hwt
  obtain ⟨d0, rfl, w0⟩ := wts1 hwt
  refine Eq.mpr (vc24 d0) ?_
  simp only [ile_t, ile_f, ilt_t, ilt_f, ieq_t, ieq_f, bnot_t, bnot_f, band_t, band_f, true_and, and_true, lenI]
  have hl := wt_len w0
  refine ⟨⟨0, by omega, rfl, rfl⟩, fun g hg => ⟨fun hlt => ⟨by omega, ⟨0, by omega, rfl, rfl⟩, fun k hk => ⟨fun hk8 => ⟨by decide, by decide, fun h => ⟨k + 1, by omega, by omega, ?_, by rw [iadd_eq (by omega)]; rfl⟩, fun h => ⟨k + 1, by omega, by omega, ?_, by rw [iadd_eq (by omega)]; rfl⟩⟩, fun hk8 => ⟨g + 1, by omega, by omega, ?_, by rw [iadd_eq (by omega)]; rfl⟩⟩⟩, fun hge => ?_⟩⟩
  · rw [crcK, crc1_t h]
  · rw [crcK, crc1_f h]
  · obtain rfl : k = 8 := by omega
    rfl
  · rw [show g = d0.l.length by omega, xor_comm']; rfl
theorem c25 : ConOK Try.prog 25 con25 := by
  refine conOK_of_exec (inl := noInl) noInl_ok (lp := lp25) (tb := tbN) (c := bodyOf Try.f25) ⟨tt_ok, tbN_ok⟩ mixed Try.func25 (by kernel_rfl) (by kernel_rfl) ?_
  intro dat hpre hwt
  obtain ⟨d0, rfl, w0⟩ := wts1 hwt
  refine Eq.mpr (vc25 d0) ?_
  simp only [ile_t, ile_f, ilt_t, ilt_f, ieq_t, ieq_f, bnot_t, bnot_f, band_t, band_f, true_and, and_true, lenI]
  have hl := wt_len w0
  refine ⟨⟨0, by omega, rfl, rfl⟩, fun g hg => ⟨fun hlt => ⟨by omega, ⟨0, by omega, rfl, rfl⟩, fun k hk => ⟨fun hk8 => ⟨by decide, by decide, fun h => ⟨k + 1, by omega, by omega, ?_, by rw [iadd_eq (by omega)]; rfl⟩, fun h => ⟨k + 1, by omega, by omega, ?_, by rw [iadd_eq (by omega)]; rfl⟩⟩, fun hk8 => ⟨g + 1, by omega, by omega, ?_, by rw [iadd_eq (by omega)]; rfl⟩⟩⟩, fun hge => ?_⟩⟩
  · rw [crcK, crc1_t h]
  · rw [crcK, crc1_f h]
  · obtain rfl : k = 8 := by omega
    rfl
  · rw [show g = d0.l.length by omega]; rfl
end Go.Proofs.Ytngjkhnhnaohmaa
