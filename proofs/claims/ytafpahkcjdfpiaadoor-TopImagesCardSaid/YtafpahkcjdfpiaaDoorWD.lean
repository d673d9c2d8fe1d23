/- Part of the proof of the laws of this seat: contracts of its functions, for every input. -/
import Derived.Test.YtafpahkcjdfpiaaDoorWC
set_option linter.all false
namespace Go.Proofs.YtafpahkcjdfpiaaDoor
open Go Go.RX Go.Proofs
set_option maxRecDepth 100000
set_option linter.all false
theorem wt_len {e : Ty} {d : D} (h : WT (.slice e) d) : (d.l.length : Int) ≤ 9223372036854775807 := by
  have := (wt_sl h).2.1
  simp only [maxLen] at this
  omega
theorem int_eta {k : IntKind} {d : D} (h : WT (.int k) d) : D.int d.i = d := (wt_i h).1.symm
theorem list_eta {e : Ty} {d : D} (h : WT (.slice e) d) : D.list d.l = d := (wt_sl h).1.symm
theorem inl27_ok : InlOK Tryd.prog inl27 := fun f I h => by
  unfold inl27 at h
  split at h
  · cases h; exact ⟨Tryd.func50, by kernel_rfl, by kernel_rfl⟩
  · cases h
theorem c36 : ConOK Tryd.prog 36 con36 := by
  refine conOK_of_exec (inl := noInl) noInl_ok (lp := lp36) (tb := tbN) (c := bodyOf Tryd.f36) ⟨tt_ok, tbN_ok⟩ mixed Tryd.func36 (by kernel_rfl) (by kernel_rfl) ?_
  intro dat hpre hwt
  have hw0 := wts1 hwt
  obtain ⟨d0, rfl, w0⟩ := hw0
  refine Eq.mpr (vc36 d0) ?_
  simp only [ile_t, ile_f, ilt_t, ilt_f, ieq_t, ieq_f, bnot_t, bnot_f, band_t, band_f, true_and, and_true, lenI]
  have hl := wt_len w0
  refine ⟨⟨0, by omega, rfl, rfl⟩, fun g hg => ⟨fun hlt => ⟨by omega, g + 1, by omega, by omega, rfl, by rw [iadd_eq (by omega)]; rfl⟩, fun hge => ?_⟩⟩
  rw [show g = d0.l.length by omega]; rfl
theorem c26 : ConOK Tryd.prog 26 con26 := by
  refine conOK_of_exec (inl := noInl) noInl_ok (lp := lp26) (tb := tbN) (c := bodyOf Tryd.f26) ⟨tt_ok, tbN_ok⟩ mixed Tryd.func26 (by kernel_rfl) (by kernel_rfl) ?_
  intro dat hpre hwt
  have hw0 := wts1 hwt
  obtain ⟨d0, rfl, w0⟩ := hw0
  refine Eq.mpr (vc26 d0) ?_
  simp only [ile_t, ile_f, ilt_t, ilt_f, ieq_t, ieq_f, bnot_t, bnot_f, band_t, band_f, true_and, and_true, lenI]
  have hl := wt_len w0
  refine ⟨⟨0, by omega, rfl, rfl⟩, fun g hg => ⟨fun hlt => ⟨by omega, g + 1, by omega, by omega, rfl, by rw [iadd_eq (by omega)]; rfl⟩, fun hge => ?_⟩⟩
  rw [show g = d0.l.length by omega]; rfl
theorem tb46_ok : TabOK Tryd.prog tb46 := fun f con h => by
  unfold tb46 at h
  split at h
  · cases h; exact c36
  · cases h
theorem tb27_ok : TabOK Tryd.prog tb27 := fun f con h => by
  unfold tb27 at h
  split at h
  · cases h; exact c26
  · cases h
theorem wrap_u64 {a : Int} (h : 0 ≤ a ∧ a ≤ 18446744073709551615) : IntKind.wrap .u64 a = a := by
  rw [IntKind.wrap_u64]; omega
theorem wrap_u8 (a : Int) : IntKind.wrap .u8 a = a % 256 := by
  rw [IntKind.wrap_u8]
theorem byte_shr {x : Int} (h : 0 ≤ x) {k : Nat} (hk : k < 8) : iconv .u8 (ishr .u64 x (isub .i64 56 (imul .i64 8 (k : Int)))) = byteOf x k := by
  rw [imul_eq (by omega), isub_eq (by omega)]
  unfold iconv ishr byteOf
  have e : min ((56 : Int) - 8 * (k : Int)).toNat IntKind.u64.bits = 56 - 8 * k := by
    show min _ 64 = _
    omega
  rw [e, wrap_u8, Int.fdiv_eq_ediv_of_nonneg x (Int.le_of_lt (Int.pow_pos (by decide)))]
theorem c46 : ConOK Tryd.prog 46 con46 := by
  refine conOK_of_exec (inl := noInl) noInl_ok (lp := lp46) (tb := tb46) (c := bodyOf Tryd.f46) ⟨tt_ok, tb46_ok⟩ mixed Tryd.func46 (by kernel_rfl) (by kernel_rfl) ?_
  intro dat hpre hwt
  have hw0 := wts2 hwt
  obtain ⟨d0, d1, rfl, w0, w1⟩ := hw0
  refine Eq.mpr (vc46 d0 d1) ?_
  have hx := wt_u64 w0
  have hy := wt_u64 w1
  simp only [ile_t, ile_f, ilt_t, ilt_f, ieq_t, ieq_f, bnot_t, bnot_f, band_t, band_f, true_and, and_true, lenI, mkL_len, List.length_cons, List.length_nil, Int.toNat_natCast]
  refine ⟨⟨0, by omega, rfl, rfl⟩, fun g hg => ⟨fun hlt => ⟨by omega, ⟨0, by omega, rfl, rfl⟩, fun k hk => ⟨fun hkl => ⟨?_, by omega, k + 1, by omega, by omega, by rw [iadd_eq (by omega)]; rfl, ?_⟩, fun hkg => ⟨g + 1, by omega, by omega, by rw [iadd_eq (by omega)]; rfl, ?_⟩⟩⟩, fun hge => ?_⟩⟩
  · rw [imul_eq (by omega), isub_eq (by omega)]; omega
  · have e : D.int (iconv .u8 (ishr .u64 (elt [D.int d0.i, D.int d1.i] (g : Int)).i (isub .i64 56 (imul .i64 8 (k : Int))))) = jf (ei [D.int d0.i, D.int d1.i] 0) (ei [D.int d0.i, D.int d1.i] 1) (8 * g + k) := by
      obtain rfl | rfl : g = 0 ∨ g = 1 := by omega
      · rw [show (elt [D.int d0.i, D.int d1.i] ((0 : Nat) : Int)).i = d0.i from rfl, byte_shr hx.1 (by omega)]
        unfold jf
        rw [if_pos (by omega), show (8 * 0 + k) % 8 = k by omega]; rfl
      · rw [show (elt [D.int d0.i, D.int d1.i] ((1 : Nat) : Int)).i = d1.i from rfl, byte_shr hy.1 (by omega)]
        unfold jf
        rw [if_neg (by omega), show (8 * 1 + k) % 8 = k by omega]; rfl
    rw [e]; exact mkL_snoc
  · obtain rfl : k = 8 := by omega
    rfl
  · obtain rfl : g = 2 := by omega
    rfl
theorem byK_pos : ∀ k : Nat, k < 8 → byK k ≠ 0 ∧ byK k = 2 ^ (56 - 8 * k) ∧ 0 < byK k ∧ byK k ≤ 72057594037927936 ∧ iquo .u64 (byK k) 256 = byK (k + 1) := by
  intro k hk
  obtain rfl | rfl | rfl | rfl | rfl | rfl | rfl | rfl : k = 0 ∨ k = 1 ∨ k = 2 ∨ k = 3 ∨ k = 4 ∨ k = 5 ∨ k = 6 ∨ k = 7 := by omega
  all_goals exact ⟨by decide, by decide, by decide, by decide, by decide⟩
theorem byte_quo {x : Int} (h : 0 ≤ x ∧ x ≤ 18446744073709551615) {k : Nat} (hk : k < 8) : iconv .u8 (irem (iquo .u64 x (byK k)) 256) = byteOf x k := by
  obtain ⟨h0, h1, h2, _, _⟩ := byK_pos k hk
  have q0 : 0 ≤ x / byK k := Int.ediv_nonneg h.1 (by omega)
  have q1 : x / byK k ≤ x := Int.ediv_le_self _ h.1
  unfold iconv iquo byteOf
  rw [Int.tdiv_eq_ediv_of_nonneg h.1, wrap_u64 (by omega), irem_eq q0, wrap_u8, h1]
  omega
theorem c27 : ConOK Tryd.prog 27 con27 := by
  refine conOK_of_exec (inl := inl27) inl27_ok (lp := noLp) (tb := tb27) (c := bodyOf Tryd.f27) ⟨tt_ok, tb27_ok⟩ mixed Tryd.func27 (by kernel_rfl) (by kernel_rfl) ?_
  intro dat hpre hwt
  have hw0 := wts2 hwt
  obtain ⟨d0, d1, rfl, w0, w1⟩ := hw0
  refine Eq.mpr (vc27 d0 d1) ?_
  have hx := wt_u64 w0
  have hy := wt_u64 w1
  have nil : ∀ l : List D, xcat [] l = l := fun l => rfl
  simp only [ile_t, ile_f, ilt_t, ilt_f, ieq_t, ieq_f, bnot_t, bnot_f, band_t, band_f, true_and, and_true, lenI, nil, mkL_len, List.length_cons, List.length_nil, xcat_len]
  have main : ∀ k : Nat, k < 8 → byK k ≠ 0 ∧ (256 : Int) ≠ 0 := fun k hk => ⟨(byK_pos k hk).1, by decide⟩
  refine ⟨⟨0, by omega, ⟨rfl, rfl⟩, rfl⟩, fun g hg => ⟨fun hlt => ⟨(byK_pos g (by omega)).1, by decide, by omega, by decide, g + 1, by omega, by omega, ⟨(byK_pos g (by omega)).2.2.2.2, by rw [iadd_eq (by omega)]; rfl⟩, ?_⟩, fun hge => ?_⟩⟩
  · rw [byte_quo hx (by omega)]; exact mkL_snoc (f := fun j => .int (byteOf d0.i j))
  · obtain rfl : g = 8 := by omega
    refine ⟨⟨0, by omega, ⟨rfl, rfl⟩, by rw [mkL_zero]; simp [xcat]⟩, fun k hk => ⟨fun hlt => ⟨(byK_pos k (by omega)).1, by decide, by omega, by decide, k + 1, by omega, by omega, ⟨(byK_pos k (by omega)).2.2.2.2, by rw [iadd_eq (by omega)]; rfl⟩, ?_⟩, fun hge2 => ?_⟩⟩
    · rw [byte_quo hy (by omega), ← mkL_snoc (f := fun j => .int (byteOf d1.i j))]
      simp [xcat]
    · obtain rfl : k = 8 := by omega
      rfl
theorem tb69_ok : TabOK Tryd.prog tb69 := fun f con h => by
  unfold tb69 at h
  split at h
  · cases h; exact c36
  · cases h; exact c46
  · cases h
theorem tb72_ok : TabOK Tryd.prog tb72 := fun f con h => by
  unfold tb72 at h
  split at h
  · cases h; exact c26
  · cases h; exact c27
  · cases h
theorem c28 : ConOK Tryd.prog 28 con28 := by
  refine conOK_of_exec (inl := noInl) noInl_ok (lp := lp28) (tb := tbN) (c := bodyOf Tryd.f28) ⟨tt_ok, tbN_ok⟩ mixed Tryd.func28 (by kernel_rfl) (by kernel_rfl) ?_
  intro dat hpre hwt
  have hw0 := wts2 hwt
  obtain ⟨d0, d1, rfl, w0, w1⟩ := hw0
  refine Eq.mpr (vc28 d0 d1) ?_
  simp only [ile_t, ile_f, ilt_t, ilt_f, ieq_t, ieq_f, bnot_t, bnot_f, band_t, band_f, true_and, and_true, lenI]
  have hl := wt_len w0
  refine ⟨fun h => ?_, fun h => ⟨⟨0, ⟨by omega, fun i hi => by omega⟩, rfl⟩, fun g hg => ⟨fun h1 => ⟨by omega, by omega, fun h2 => ?_, fun h2 => ⟨g + 1, ⟨by omega, fun i hi => ?_⟩, by omega, ?_⟩⟩, fun h1 => ?_⟩⟩⟩
  · rw [← Bool.not_eq_true, sameZ_t]; omega
  · exact sameZ_f (by omega) h2
  · rcases Nat.lt_succ_iff_lt_or_eq.1 hi with h3 | rfl
    · exact hg.2 i h3
    · exact h2
  · rw [iadd_eq (by omega)]; rfl
  · rw [sameZ_t]; exact ⟨by omega, fun i hi => hg.2 i (by omega)⟩
theorem c69 : ConOK Tryd.prog 69 con69 := by
  refine conOK_of_exec (inl := noInl) noInl_ok (lp := lp69) (tb := tb69) (c := bodyOf Tryd.f69) ⟨tt_ok, tb69_ok⟩ mixed Tryd.func69 (by kernel_rfl) (by kernel_rfl) ?_
  intro dat hpre hwt
  have hw0 := wts2 hwt
  obtain ⟨d0, d1, rfl, w0, w1⟩ := hw0
  refine Eq.mpr (vc69 d0 d1) ?_
  have hl : d1.l.length ≤ 1000000 := hpre
  simp only [ile_t, ile_f, ilt_t, ilt_f, ieq_t, ieq_f, bnot_t, bnot_f, band_t, band_f, true_and, and_true, lenI, mkL_len, List.length_cons, List.length_nil]
  refine ⟨⟨0, by omega, ⟨rfl, rfl⟩, rfl⟩, fun g hg => ⟨fun hlt => ⟨by omega, by omega, g + 1, by omega, by omega, ⟨rfl, by rw [iadd_eq (by omega)]; rfl⟩, mkL_snoc (f := fun i => .int (chTo d0.i d1.l (i + 1)))⟩, fun hge => ?_⟩⟩
  rw [show g = d1.l.length by omega]; rfl
theorem c72 : ConOK Tryd.prog 72 con72 := by
  refine conOK_of_exec (inl := noInl) noInl_ok (lp := lp72) (tb := tb72) (c := bodyOf Tryd.f72) ⟨tt_ok, tb72_ok⟩ mixed Tryd.func72 (by kernel_rfl) (by kernel_rfl) ?_
  intro dat hpre hwt
  have hw0 := wts2 hwt
  obtain ⟨d0, d1, rfl, w0, w1⟩ := hw0
  refine Eq.mpr (vc72 d0 d1) ?_
  have hl : d1.l.length ≤ 1000000 := hpre
  simp only [ile_t, ile_f, ilt_t, ilt_f, ieq_t, ieq_f, bnot_t, bnot_f, band_t, band_f, true_and, and_true, lenI, mkL_len, List.length_cons, List.length_nil]
  refine ⟨⟨0, by omega, ⟨rfl, rfl⟩, rfl⟩, fun g hg => ⟨fun hlt => ⟨by omega, by omega, g + 1, by omega, by omega, ⟨rfl, by rw [iadd_eq (by omega)]; rfl⟩, mkL_snoc (f := fun i => .int (chTo d0.i d1.l (i + 1)))⟩, fun hge => ?_⟩⟩
  rw [show g = d1.l.length by omega]; rfl
theorem div_pow (c : Int) (k : Nat) : c / 128 ^ (k + 1) = c / 128 / 128 ^ k := by
  rw [Int.pow_succ, Int.mul_comm, Int.ediv_ediv_of_nonneg (by decide)]
theorem div_pow' (c : Int) (k : Nat) : c / 128 ^ (k + 1) = c / 128 ^ k / 128 := by
  rw [Int.pow_succ, Int.ediv_ediv_of_nonneg (Int.le_of_lt (Int.pow_pos (by decide)))]
theorem glF_spec : ∀ {f : Nat} {c : Int}, 0 ≤ c → c < 128 ^ f → ∀ k, k ≤ glF f c → (128 ≤ c / 128 ^ k ↔ k < glF f c)
  | 0, c, h0, h, k, hk => by
    rw [glF] at hk ⊢
    obtain rfl : k = 0 := by omega
    simp only [Int.pow_zero, Int.ediv_one] at h ⊢
    omega
  | f + 1, c, h0, h, k, hk => by
    rw [glF] at hk ⊢
    split at hk
    · rename_i h1
      rw [if_pos h1]
      obtain rfl : k = 0 := by omega
      simp only [Int.pow_zero, Int.ediv_one]
      omega
    · rename_i h1
      rw [if_neg h1]
      cases k with
      | zero => simp only [Int.pow_zero, Int.ediv_one]; omega
      | succ k =>
        rw [div_pow]
        have := glF_spec (f := f) (c := c / 128) (by omega) (by rw [Int.pow_succ] at h; omega) k (by omega)
        omega
theorem code_range {n : Int} (h : -9223372036854775808 ≤ n ∧ n ≤ 9223372036854775807) : 0 ≤ codeOf n ∧ codeOf n ≤ 18446744073709551615 := by
  unfold codeOf; split <;> omega
theorem glen_spec {c : Int} (h : 0 ≤ c ∧ c ≤ 18446744073709551615) {k : Nat} (hk : k ≤ glen c) : 128 ≤ c / 128 ^ k ↔ k < glen c :=
  glF_spec h.1 (Int.lt_of_le_of_lt h.2 (by decide)) k hk
theorem glF_le : ∀ {f : Nat} {c : Int}, glF f c ≤ f
  | 0, _ => Nat.le_refl _
  | f + 1, c => by rw [glF]; split <;> have := @glF_le f (c / 128) <;> omega
theorem glen_le {c : Int} : glen c ≤ 10 := glF_le
theorem div_nonneg {c : Int} (h : 0 ≤ c) (k : Nat) : 0 ≤ c / 128 ^ k := Int.ediv_nonneg h (Int.le_of_lt (Int.pow_pos (by decide)))
theorem div_le {c : Int} (h : 0 ≤ c) (k : Nat) : c / 128 ^ k ≤ c := Int.ediv_le_self _ h
theorem encP_len {c : Int} {k : Nat} : (encP c k).length = k := mkL_len
theorem enc_byte {x : Int} (h : 0 ≤ x) : iadd .u8 (iconv .u8 (irem x 128)) 128 = x % 128 + 128 := by
  unfold iadd iconv
  rw [irem_eq h, wrap_u8, wrap_u8]; omega
theorem enc_last {x : Int} (h : 0 ≤ x) (h1 : x < 128) : iconv .u8 x = x := by
  unfold iconv; rw [wrap_u8]; omega
theorem encP_snoc {c : Int} {k : Nat} : xcat (encP c k) [.int (c / 128 ^ k % 128 + 128)] = encP c (k + 1) := mkL_snoc (f := fun i => .int (c / 128 ^ i % 128 + 128))
theorem xcat_assoc {a b c : List D} : xcat (xcat a b) c = xcat a (xcat b c) := by simp [xcat]
theorem xcat_nil {a : List D} : xcat [] a = a := rfl
theorem xcat_nil' {a : List D} : xcat a [] = a := by simp [xcat]
theorem enc_done {b : List D} {c : Int} : xcat (xcat b (encP c (glen c))) [.int (c / 128 ^ glen c)] = b ++ encB c := by simp [xcat, encB]
theorem iquo_u64 {a : Int} (ha : 0 ≤ a) (h : a ≤ 18446744073709551615) {b : Int} (hb : 0 < b) : iquo .u64 a b = a / b := by
  unfold iquo
  rw [Int.tdiv_eq_ediv_of_nonneg ha, wrap_u64]
  exact ⟨Int.ediv_nonneg ha (by omega), Int.le_trans (Int.ediv_le_self _ ha) h⟩
theorem c77 : ConOK Tryd.prog 77 con77 := by
  refine conOK_of_exec (inl := noInl) noInl_ok (lp := noLp) (tb := tbN) (c := bodyOf Tryd.f77) ⟨tt_ok, tbN_ok⟩ mixed Tryd.func77 (by kernel_rfl) (by kernel_rfl) ?_
  intro dat hpre hwt
  have hw0 := wts1 hwt
  obtain ⟨d0, rfl, w0⟩ := hw0
  refine Eq.mpr (vc77 d0) ?_
  simp only [ile_t, ile_f, ilt_t, ilt_f, ieq_t, ieq_f, bnot_t, bnot_f, band_t, band_f, true_and, and_true, lenI]
  have : d0.l.length ≤ 10000000 := hpre
  omega
theorem enc_round {b : List D} {c : Int} (hc : 0 ≤ c ∧ c ≤ 18446744073709551615) {k : Nat} (hk : k < glen c) :
    iquo .u64 (c / 128 ^ k) 128 = c / 128 ^ (k + 1) ∧ xcat (xcat b (encP c k)) [.int (iadd .u8 (iconv .u8 (irem (c / 128 ^ k) 128)) 128)] = xcat b (encP c (k + 1)) := by
  have h0 := div_nonneg hc.1 k
  have h1 := div_le hc.1 k
  exact ⟨by rw [iquo_u64 h0 (by omega) (by decide), div_pow'], by rw [enc_byte h0, xcat_assoc, encP_snoc]⟩
theorem Int_mul_comm' {k : IntKind} {a b : Int} : imul k a b = imul k b a := by unfold imul; rw [Int.mul_comm]
theorem code_neg {n : Int} (hn : -9223372036854775808 ≤ n ∧ n ≤ 9223372036854775807) (h : n < 0) : iadd .u64 (imul .u64 (iconv .u64 (isub .i64 0 (iadd .i64 n 1))) 2) 1 = codeOf n := by
  rw [iadd_eq (by omega), isub_eq (by omega)]
  unfold iadd imul iconv codeOf
  rw [if_pos h, wrap_u64 (a := 0 - (n + 1)) (by omega), wrap_u64 (a := (0 - (n + 1)) * 2) (by omega), wrap_u64 (by omega)]
  omega
theorem code_pos {n : Int} (hn : -9223372036854775808 ≤ n ∧ n ≤ 9223372036854775807) (h : 0 ≤ n) : imul .u64 (iconv .u64 n) 2 = codeOf n := by
  unfold imul iconv codeOf
  rw [if_neg (by omega), wrap_u64 (a := n) (by omega), wrap_u64 (by omega)]
  omega
theorem c65 : ConOK Tryd.prog 65 con65 := by
  refine conOK_of_exec (inl := noInl) noInl_ok (lp := lp65) (tb := tbN) (c := bodyOf Tryd.f65) ⟨tt_ok, tbN_ok⟩ mixed Tryd.func65 (by kernel_rfl) (by kernel_rfl) ?_
  intro dat hpre hwt
  have hw0 := wts2 hwt
  obtain ⟨d0, d1, rfl, w0, w1⟩ := hw0
  refine Eq.mpr (vc65 d0 d1) ?_
  have hl : d0.l.length ≤ 1000000 := hpre
  have hn := wt_i64 w1
  have hc := code_range hn
  simp only [ile_t, ile_f, ilt_t, ilt_f, ieq_t, ieq_f, bnot_t, bnot_f, band_t, band_f, true_and, and_true, lenI, xcat_nil]
  refine ⟨⟨fun h => ⟨(), ?_⟩, fun h => ⟨(), ?_⟩⟩, fun _ _ => ⟨by omega, ⟨0, by omega, by simp, by simp [encP, mkL, xcat]⟩, fun k hk => ⟨fun h1 => ?_, fun h1 => ?_⟩⟩⟩
  · exact code_neg hn h
  · rw [code_pos hn h]
  · have hk' := (glen_spec hc hk).1 h1
    obtain ⟨e1, e2⟩ := enc_round (b := d0.l) hc hk'
    have := @glen_le (codeOf d1.i)
    refine ⟨by decide, by simp [xcat, encP_len]; omega, by decide, k + 1, by omega, by omega, e1, e2⟩
  · have hk' : k = glen (codeOf d1.i) := by
      have := mt (glen_spec hc hk).2 (by omega); omega
    have := @glen_le (codeOf d1.i)
    refine ⟨by simp [xcat, encP_len]; omega, ?_⟩
    rw [enc_last (div_nonneg hc.1 k) h1, hk']
    exact enc_done
theorem tb64_ok : TabOK Tryd.prog tb64 := fun f con h => by
  unfold tb64 at h
  split at h
  · cases h; exact c65
  · cases h
theorem tb63_ok : TabOK Tryd.prog tb63 := fun f con h => by
  unfold tb63 at h
  split at h
  · cases h; exact c77
  · cases h
theorem encB_len {c : Int} : (encB c).length ≤ 11 := by
  have := @glen_le c
  simp [encB, encP_len]; omega
theorem putI_len {b : List D} {n : Int} : (putI b n).length ≤ b.length + 11 := by
  have := @encB_len (codeOf n)
  simp [putI]; omega
theorem bytesD_len {s : List UInt8} : (bytesD s).length = s.length := by simp [bytesD]
theorem c64 : ConOK Tryd.prog 64 con64 := by
  refine conOK_of_exec (inl := noInl) noInl_ok (lp := noLp) (tb := tb64) (c := bodyOf Tryd.f64) ⟨tt_ok, tb64_ok⟩ mixed Tryd.func64 (by kernel_rfl) (by kernel_rfl) ?_
  intro dat hpre hwt
  have hw0 := wts2 hwt
  obtain ⟨d0, d1, rfl, w0, w1⟩ := hw0
  refine Eq.mpr (vc64 d0 d1) ?_
  obtain ⟨h1, h2⟩ : d0.l.length ≤ 1000000 ∧ d1.s.length ≤ 1000000 := hpre
  simp only [ile_t, ile_f, ilt_t, ilt_f, ieq_t, ieq_f, bnot_t, bnot_f, band_t, band_f, true_and, and_true, lenI, bytesD_len]
  have := @putI_len d0.l (lenS d1.s)
  exact ⟨h1, by omega, rfl⟩
theorem c63 : ConOK Tryd.prog 63 con63 := by
  refine conOK_of_exec (inl := noInl) noInl_ok (lp := lp63) (tb := tb63) (c := bodyOf Tryd.f63) ⟨tt_ok, tb63_ok⟩ mixed Tryd.func63 (by kernel_rfl) (by kernel_rfl) ?_
  intro dat hpre hwt
  have hw0 := wts2 hwt
  obtain ⟨d0, d1, rfl, w0, w1⟩ := hw0
  refine Eq.mpr (vc63 d0 d1) ?_
  have hl : d0.l.length ≤ 1000000 := hpre
  have hn := wt_i64 w1
  have hc := code_range hn
  simp only [ile_t, ile_f, ilt_t, ilt_f, ieq_t, ieq_f, bnot_t, bnot_f, band_t, band_f, true_and, and_true, lenI, xcat_nil]
  refine ⟨by omega, ⟨fun h => ⟨(), ?_⟩, fun h => ⟨(), ?_⟩⟩, fun _ _ => ⟨⟨0, by omega, by simp, by simp [encP, mkL, xcat]⟩, fun k hk => ⟨fun h1 => ?_, fun h1 => ?_⟩⟩⟩
  · rw [Int_mul_comm']; exact code_neg hn h
  · rw [Int_mul_comm', code_pos hn h]
  · have hk' := (glen_spec hc hk).1 h1
    obtain ⟨e1, e2⟩ := enc_round (b := d0.l) hc hk'
    have := @glen_le (codeOf d1.i)
    refine ⟨by decide, by simp [xcat, encP_len]; omega, by decide, k + 1, by omega, by omega, e1, e2⟩
  · have hk' : k = glen (codeOf d1.i) := by
      have := mt (glen_spec hc hk).2 (by omega); omega
    have := @glen_le (codeOf d1.i)
    refine ⟨by simp [xcat, encP_len]; omega, ?_⟩
    rw [enc_last (div_nonneg hc.1 k) h1, hk']
    exact enc_done
theorem tb62_ok : TabOK Tryd.prog tb62 := fun f con h => by
  unfold tb62 at h
  split at h
  · cases h; exact c63
  · cases h
theorem bytes_mkL {s : List UInt8} : mkL s.length (fun i => .int (sget s (i : Int))) = bytesD s := by
  refine (mkL_eq bytesD_len fun i hi => ?_).symm
  rw [elt_get (by rw [bytesD_len]; exact hi)]
  simp [bytesD, sget, List.getD, hi]
theorem c62 : ConOK Tryd.prog 62 con62 := by
  refine conOK_of_exec (inl := noInl) noInl_ok (lp := lp62) (tb := tb62) (c := bodyOf Tryd.f62) ⟨tt_ok, tb62_ok⟩ mixed Tryd.func62 (by kernel_rfl) (by kernel_rfl) ?_
  intro dat hpre hwt
  have hw0 := wts2 hwt
  obtain ⟨d0, d1, rfl, w0, w1⟩ := hw0
  refine Eq.mpr (vc62 d0 d1) ?_
  obtain ⟨h1, h2⟩ : d0.l.length ≤ 1000000 ∧ d1.s.length ≤ 1000000 := hpre
  simp only [ile_t, ile_f, ilt_t, ilt_f, ieq_t, ieq_f, bnot_t, bnot_f, band_t, band_f, true_and, and_true, lenI, lenS]
  have := @putI_len d0.l (d1.s.length : Int)
  refine ⟨h1, ⟨0, by omega, rfl, by rw [mkL_zero, xcat_nil']⟩, fun g hg => ⟨fun hlt => ⟨by omega, by simp [xcat, mkL_len]; omega, g + 1, by omega, by omega, by rw [iadd_eq (by omega)]; rfl, ?_⟩, fun hge => ?_⟩⟩
  · rw [xcat_assoc, mkL_snoc (f := fun i => .int (sget d1.s (i : Int)))]
  · rw [show g = d1.s.length by omega, bytes_mkL]; rfl
theorem c34 : ConOK Tryd.prog 34 con34 := by
  refine conOK_of_exec (inl := noInl) noInl_ok (lp := lp34) (tb := tbN) (c := bodyOf Tryd.f34) ⟨tt_ok, tbN_ok⟩ mixed Tryd.func34 (by kernel_rfl) (by kernel_rfl) ?_
  intro dat hpre hwt
  have hw0 := wts2 hwt
  obtain ⟨d0, d1, rfl, w0, w1⟩ := hw0
  refine Eq.mpr (vc34 d0 d1) ?_
  simp only [ile_t, ile_f, ilt_t, ilt_f, ieq_t, ieq_f, bnot_t, bnot_f, band_t, band_f, true_and, and_true, lenI]
  have hl := wt_len w0
  refine ⟨fun h => ?_, fun h => ⟨⟨0, ⟨by omega, fun i hi => by omega⟩, rfl⟩, fun g hg => ⟨fun h1 => ⟨by omega, by omega, fun h2 => ?_, fun h2 => ⟨g + 1, ⟨by omega, fun i hi => ?_⟩, by omega, ?_⟩⟩, fun h1 => ?_⟩⟩⟩
  · rw [← Bool.not_eq_true, sameZ_t]; omega
  · exact sameZ_f (by omega) h2
  · rcases Nat.lt_succ_iff_lt_or_eq.1 hi with h3 | rfl
    · exact hg.2 i h3
    · exact h2
  · rw [iadd_eq (by omega)]; rfl
  · rw [sameZ_t]; exact ⟨by omega, fun i hi => hg.2 i (by omega)⟩
end Go.Proofs.YtafpahkcjdfpiaaDoor
