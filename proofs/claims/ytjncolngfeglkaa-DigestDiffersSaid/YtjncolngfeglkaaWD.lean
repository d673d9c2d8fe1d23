/- Part of the proof of the laws of this seat: contracts of its functions, for every input. -/
import Derived.Test.YtjncolngfeglkaaWC
set_option linter.all false
namespace Go.Proofs.Ytjncolngfeglkaa
open Go Go.RX Go.Proofs
set_option maxRecDepth 100000
set_option linter.all false
theorem wt_len {e : Ty} {d : D} (h : WT (.slice e) d) : (d.l.length : Int) ≤ 9223372036854775807 := by
  have := (wt_sl h).2.1
  simp only [maxLen] at this
  omega
theorem int_eta {k : IntKind} {d : D} (h : WT (.int k) d) : D.int d.i = d := (wt_i h).1.symm
theorem list_eta {e : Ty} {d : D} (h : WT (.slice e) d) : D.list d.l = d := (wt_sl h).1.symm
theorem inl14_ok : InlOK Try.prog inl14 := fun f I h => by
  unfold inl14 at h
  split at h
  · cases h; exact ⟨Try.func29, by kernel_rfl, by kernel_rfl⟩
  · cases h
theorem c11 : ConOK Try.prog 11 con11 := by
  refine conOK_of_exec (inl := noInl) noInl_ok (lp := lp11) (tb := tbN) (c := bodyOf Try.f11) ⟨tt_ok, tbN_ok⟩ mixed Try.func11 (by kernel_rfl) (by kernel_rfl) ?_
  intro dat hpre hwt
  have hw0 := wts1 hwt
  obtain ⟨d0, rfl, w0⟩ := hw0
  refine Eq.mpr (vc11 d0) ?_
  simp only [ile_t, ile_f, ilt_t, ilt_f, ieq_t, ieq_f, bnot_t, bnot_f, band_t, band_f, true_and, and_true, lenI]
  have hl := wt_len w0
  refine ⟨⟨0, by omega, rfl, rfl⟩, fun g hg => ⟨fun hlt => ⟨by omega, g + 1, by omega, by omega, rfl, by rw [iadd_eq (by omega)]; rfl⟩, fun hge => ?_⟩⟩
  rw [show g = d0.l.length by omega]; rfl
theorem c12 : ConOK Try.prog 12 con12 := by
  refine conOK_of_exec (inl := noInl) noInl_ok (lp := lp12) (tb := tbN) (c := bodyOf Try.f12) ⟨tt_ok, tbN_ok⟩ mixed Try.func12 (by kernel_rfl) (by kernel_rfl) ?_
  intro dat hpre hwt
  have hw0 := wts1 hwt
  obtain ⟨d0, rfl, w0⟩ := hw0
  refine Eq.mpr (vc12 d0) ?_
  simp only [ile_t, ile_f, ilt_t, ilt_f, ieq_t, ieq_f, bnot_t, bnot_f, band_t, band_f, true_and, and_true, lenI]
  have hl := wt_len w0
  refine ⟨⟨0, by omega, rfl, rfl⟩, fun g hg => ⟨fun hlt => ⟨by omega, g + 1, by omega, by omega, rfl, by rw [iadd_eq (by omega)]; rfl⟩, fun hge => ?_⟩⟩
  rw [show g = d0.l.length by omega]; rfl
theorem tbH_ok : TabOK Try.prog tbH := fun f con h => by
  unfold tbH at h
  split at h
  · cases h; exact c11
  · cases h; exact c12
  · cases h
theorem wrap_u64 {a : Int} (h : 0 ≤ a ∧ a ≤ 18446744073709551615) : IntKind.wrap .u64 a = a := by
  rw [IntKind.wrap_u64]; omega
theorem wrap_u8 (a : Int) : IntKind.wrap .u8 a = a % 256 := by
  rw [IntKind.wrap_u8]
theorem byte_shr {x : Int} (h : 0 ≤ x) {k : Nat} (hk : k < 8) : iconv .u8 (ishr .u64 x (isub .i64 56 (imul .i64 8 (k : Int)))) = byteOf x k := by
  rw [imul_eq (by omega), isub_eq (by omega)]
  unfold iconv ishr byteOf
  have e : min ((56 : Int) - 8 * (k : Int)).toNat IntKind.u64.bits = 56 - 8 * k := by
    show min _ 64 = _
    omega
  rw [e, wrap_u8, Int.fdiv_eq_ediv_of_nonneg x (Int.le_of_lt (Int.pow_pos (by decide)))]
theorem c13 : ConOK Try.prog 13 con13 := by
  refine conOK_of_exec (inl := noInl) noInl_ok (lp := lp13) (tb := tb13) (c := bodyOf Try.f13) ⟨tt_ok, tbH_ok⟩ mixed Try.func13 (by kernel_rfl) (by kernel_rfl) ?_
  intro dat hpre hwt
  have hw0 := wts2 hwt
  obtain ⟨d0, d1, rfl, w0, w1⟩ := hw0
  refine Eq.mpr (vc13 d0 d1) ?_
  have hx := wt_u64 w0
  have hy := wt_u64 w1
  simp only [ile_t, ile_f, ilt_t, ilt_f, ieq_t, ieq_f, bnot_t, bnot_f, band_t, band_f, true_and, and_true, lenI, mkL_len, List.length_cons, List.length_nil, Int.toNat_natCast]
  refine ⟨⟨0, by omega, rfl, rfl⟩, fun g hg => ⟨fun hlt => ⟨by omega, ⟨0, by omega, rfl, rfl⟩, fun k hk => ⟨fun hkl => ⟨?_, by omega, k + 1, by omega, by omega, by rw [iadd_eq (by omega)]; rfl, ?_⟩, fun hkg => ⟨g + 1, by omega, by omega, by rw [iadd_eq (by omega)]; rfl, ?_⟩⟩⟩, fun hge => ?_⟩⟩
  · rw [imul_eq (by omega), isub_eq (by omega)]; omega
  · have e : D.int (iconv .u8 (ishr .u64 (elt [D.int d0.i, D.int d1.i] (g : Int)).i (isub .i64 56 (imul .i64 8 (k : Int))))) = jf (ei [D.int d0.i, D.int d1.i] 0) (ei [D.int d0.i, D.int d1.i] 1) (8 * g + k) := by
      obtain rfl | rfl : g = 0 ∨ g = 1 := by omega
      · rw [show (elt [D.int d0.i, D.int d1.i] ((0 : Nat) : Int)).i = d0.i from rfl, byte_shr hx.1 (by omega)]
        unfold jf
        rw [if_pos (by omega), show (8 * 0 + k) % 8 = k by omega]; rfl
      · rw [show (elt [D.int d0.i, D.int d1.i] ((1 : Nat) : Int)).i = d1.i from rfl, byte_shr hy.1 (by omega)]
        unfold jf
        rw [if_neg (by omega), show (8 * 1 + k) % 8 = k by omega]; rfl
    rw [e]; exact mkL_snoc
  · obtain rfl : k = 8 := by omega
    rfl
  · obtain rfl : g = 2 := by omega
    rfl
theorem byK_pos : ∀ k : Nat, k < 8 → byK k ≠ 0 ∧ byK k = 2 ^ (56 - 8 * k) ∧ 0 < byK k ∧ byK k ≤ 72057594037927936 ∧ iquo .u64 (byK k) 256 = byK (k + 1) := by
  intro k hk
  obtain rfl | rfl | rfl | rfl | rfl | rfl | rfl | rfl : k = 0 ∨ k = 1 ∨ k = 2 ∨ k = 3 ∨ k = 4 ∨ k = 5 ∨ k = 6 ∨ k = 7 := by omega
  all_goals exact ⟨by decide, by decide, by decide, by decide, by decide⟩
theorem byte_quo {x : Int} (h : 0 ≤ x ∧ x ≤ 18446744073709551615) {k : Nat} (hk : k < 8) : iconv .u8 (irem (iquo .u64 x (byK k)) 256) = byteOf x k := by
  obtain ⟨h0, h1, h2, _, _⟩ := byK_pos k hk
  have q0 : 0 ≤ x / byK k := Int.ediv_nonneg h.1 (by omega)
  have q1 : x / byK k ≤ x := Int.ediv_le_self _ h.1
  unfold iconv iquo byteOf
  rw [Int.tdiv_eq_ediv_of_nonneg h.1, wrap_u64 (by omega), irem_eq q0, wrap_u8, h1]
  omega
theorem c14 : ConOK Try.prog 14 con14 := by
  refine conOK_of_exec (inl := inl14) inl14_ok (lp := noLp) (tb := tb14) (c := bodyOf Try.f14) ⟨tt_ok, tbH_ok⟩ mixed Try.func14 (by kernel_rfl) (by kernel_rfl) ?_
  intro dat hpre hwt
  have hw0 := wts2 hwt
  obtain ⟨d0, d1, rfl, w0, w1⟩ := hw0
  refine Eq.mpr (vc14 d0 d1) ?_
  have hx := wt_u64 w0
  have hy := wt_u64 w1
  have nil : ∀ l : List D, xcat [] l = l := fun l => rfl
  simp only [ile_t, ile_f, ilt_t, ilt_f, ieq_t, ieq_f, bnot_t, bnot_f, band_t, band_f, true_and, and_true, lenI, nil, mkL_len, List.length_cons, List.length_nil, xcat_len]
  have main : ∀ k : Nat, k < 8 → byK k ≠ 0 ∧ (256 : Int) ≠ 0 := fun k hk => ⟨(byK_pos k hk).1, by decide⟩
  refine ⟨⟨0, by omega, ⟨rfl, rfl⟩, rfl⟩, fun g hg => ⟨fun hlt => ⟨(byK_pos g (by omega)).1, by decide, by omega, by decide, g + 1, by omega, by omega, ⟨(byK_pos g (by omega)).2.2.2.2, by rw [iadd_eq (by omega)]; rfl⟩, ?_⟩, fun hge => ?_⟩⟩
  · rw [byte_quo hx (by omega)]; exact mkL_snoc (f := fun j => .int (byteOf d0.i j))
  · obtain rfl : g = 8 := by omega
    refine ⟨⟨0, by omega, ⟨rfl, rfl⟩, by rw [mkL_zero]; simp [xcat]⟩, fun k hk => ⟨fun hlt => ⟨(byK_pos k (by omega)).1, by decide, by omega, by decide, k + 1, by omega, by omega, ⟨(byK_pos k (by omega)).2.2.2.2, by rw [iadd_eq (by omega)]; rfl⟩, ?_⟩, fun hge2 => ?_⟩⟩
    · rw [byte_quo hy (by omega), ← mkL_snoc (f := fun j => .int (byteOf d1.i j))]
      simp [xcat]
    · obtain rfl : k = 8 := by omega
      rfl
theorem c31 : ConOK Try.prog 31 con31 := by
  refine conOK_of_exec (inl := noInl) noInl_ok (lp := noLp) (tb := tbN) (c := bodyOf Try.f31) ⟨tt_ok, tbN_ok⟩ mixed Try.func31 (by kernel_rfl) (by kernel_rfl) ?_
  intro dat hpre hwt
  have hw0 := wts2 hwt
  obtain ⟨d0, d1, rfl, w0, w1⟩ := hw0
  refine Eq.mpr (vc31 d0 d1) ?_
  simp only [ile_t, ile_f, ilt_t, ilt_f, ieq_t, ieq_f, bnot_t, bnot_f, band_t, band_f, true_and, and_true, lenI]
  unfold sibI sibB
  exact ⟨by decide, fun h => by rw [if_pos h, if_pos h]; exact ⟨rfl, rfl⟩, fun h => by rw [if_neg h, if_neg h]; exact ⟨rfl, rfl⟩⟩
theorem tbJ_ok : TabOK Try.prog tbJ := fun f con h => by
  unfold tbJ at h
  split at h
  · cases h; exact c11
  · cases h; exact c12
  · cases h; exact c13
  · cases h; exact c14
  · cases h; exact c31
  · cases h
theorem c35 : ConOK Try.prog 35 con35 := by
  refine conOK_of_exec (inl := noInl) noInl_ok (lp := lp35) (tb := tb35) (c := bodyOf Try.f35) ⟨tt_ok, tbJ_ok⟩ mixed Try.func35 (by kernel_rfl) (by kernel_rfl) ?_
  intro dat hpre hwt
  have hw0 := wts1 hwt
  obtain ⟨d0, rfl, w0⟩ := hw0
  refine Eq.mpr (vc35 d0) ?_
  have hl : d0.l.length ≤ 1000000 := hpre
  simp only [ile_t, ile_f, ilt_t, ilt_f, ieq_t, ieq_f, bnot_t, bnot_f, band_t, band_f, true_and, and_true, lenI, mkL_len, List.length_cons, List.length_nil]
  have e1 : iquo .i64 (iadd .i64 (d0.l.length : Int) 1) 2 = (((d0.l.length + 1) / 2 : Nat) : Int) := by
    rw [iadd_eq (by omega), iquo_eq (by omega) (by omega) (by omega)]; omega
  rw [e1]
  refine ⟨by decide, ⟨0, by omega, rfl, rfl⟩, fun g hg => ⟨fun hlt => ?_, fun hge => ?_⟩⟩
  · have e2 : imul .i64 2 (g : Int) = ((2 * g : Nat) : Int) := by rw [imul_eq (by omega)]; omega
    have e3 : iadd .i64 ((2 * g : Nat) : Int) 1 = ((2 * g + 1 : Nat) : Int) := by rw [iadd_eq (by omega)]; omega
    have i1 : iadd .i64 (g : Int) 1 = ((g + 1 : Nat) : Int) := by rw [iadd_eq (by omega)]; rfl
    rw [e2, e3]
    refine ⟨fun h => ⟨by omega, by omega, g + 1, by omega, by omega, i1, ?_⟩, fun h => ⟨by omega, by omega, by omega, g + 1, by omega, by omega, i1, ?_⟩⟩
    · have : D.int (elt d0.l ((2 * g : Nat) : Int)).i = D.int (upF d0.l g) := by unfold upF; rw [if_neg (by omega)]; rfl
      rw [this]; exact mkL_snoc (f := fun i => .int (upF d0.l i))
    · have : D.int (joinZ (elt d0.l ((2 * g : Nat) : Int)).i (elt d0.l ((2 * g + 1 : Nat) : Int)).i) = D.int (upF d0.l g) := by unfold upF; rw [if_pos (by omega)]; rfl
      rw [this]; exact mkL_snoc (f := fun i => .int (upF d0.l i))
  · rw [show g = (d0.l.length + 1) / 2 by omega]; rfl
theorem c32 : ConOK Try.prog 32 con32 := by
  refine conOK_of_exec (inl := noInl) noInl_ok (lp := lp32) (tb := tb32) (c := bodyOf Try.f32) ⟨tt_ok, tbJ_ok⟩ mixed Try.func32 (by kernel_rfl) (by kernel_rfl) ?_
  intro dat hpre hwt
  have hw0 := wts1 hwt
  obtain ⟨d0, rfl, w0⟩ := hw0
  refine Eq.mpr (vc32 d0) ?_
  have hl : d0.l.length ≤ 1000000 := hpre
  simp only [ile_t, ile_f, ilt_t, ilt_f, ieq_t, ieq_f, bnot_t, bnot_f, band_t, band_f, true_and, and_true, lenI, mkL_len, List.length_cons, List.length_nil]
  refine ⟨⟨0, by omega, rfl, rfl⟩, fun g hg => ⟨fun hlt => ?_, fun hge => ?_⟩⟩
  · have e2 : (2 : Int) * (g : Int) = ((2 * g : Nat) : Int) := by omega
    have e3 : iadd .i64 ((2 * g : Nat) : Int) 1 = ((2 * g + 1 : Nat) : Int) := by rw [iadd_eq (by omega)]; omega
    have i1 : iadd .i64 ((2 * g : Nat) : Int) 2 = 2 * ((g + 1 : Nat) : Int) := by rw [iadd_eq (by omega)]; omega
    rw [e2, e3]
    refine ⟨fun h => ⟨by omega, by omega, by omega, g + 1, by omega, by omega, i1, ?_⟩, fun h => ⟨by omega, by omega, g + 1, by omega, by omega, i1, ?_⟩⟩
    · have : D.int (joinZ (elt d0.l ((2 * g : Nat) : Int)).i (elt d0.l ((2 * g + 1 : Nat) : Int)).i) = D.int (upF d0.l g) := by unfold upF; rw [if_pos (by omega)]; rfl
      rw [this]; exact mkL_snoc (f := fun i => .int (upF d0.l i))
    · have : D.int (elt d0.l ((2 * g : Nat) : Int)).i = D.int (upF d0.l g) := by unfold upF; rw [if_neg (by omega)]; rfl
      rw [this]; exact mkL_snoc (f := fun i => .int (upF d0.l i))
  · rw [show g = (d0.l.length + 1) / 2 by omega]; rfl
theorem c20 : ConOK Try.prog 20 con20 := by
  refine conOK_of_exec (inl := noInl) noInl_ok (lp := lp20) (tb := tbN) (c := bodyOf Try.f20) ⟨tt_ok, tbN_ok⟩ mixed Try.func20 (by kernel_rfl) (by kernel_rfl) ?_
  intro dat hpre hwt
  have hw0 := wts2 hwt
  obtain ⟨d0, d1, rfl, w0, w1⟩ := hw0
  refine Eq.mpr (vc20 d0 d1) ?_
  simp only [ile_t, ile_f, ilt_t, ilt_f, ieq_t, ieq_f, bnot_t, bnot_f, band_t, band_f, true_and, and_true, lenI]
  have hl := wt_len w0
  refine ⟨fun h => ?_, fun h => ⟨⟨0, ⟨by omega, fun i hi => by omega⟩, rfl⟩, fun g hg => ⟨fun h1 => ⟨by omega, by omega, fun h2 => ?_, fun h2 => ⟨g + 1, ⟨by omega, fun i hi => ?_⟩, by omega, ?_⟩⟩, fun h1 => ?_⟩⟩⟩
  · rw [← Bool.not_eq_true, sameZ_t]; omega
  · exact sameZ_f (by omega) h2
  · rcases Nat.lt_succ_iff_lt_or_eq.1 hi with h3 | rfl
    · exact hg.2 i h3
    · exact h2
  · rw [iadd_eq (by omega)]; rfl
  · rw [sameZ_t]; exact ⟨by omega, fun i hi => hg.2 i (by omega)⟩
theorem c25 : ConOK Try.prog 25 con25 := by
  refine conOK_of_exec (inl := noInl) noInl_ok (lp := lp25) (tb := tbN) (c := bodyOf Try.f25) ⟨tt_ok, tbN_ok⟩ mixed Try.func25 (by kernel_rfl) (by kernel_rfl) ?_
  intro dat hpre hwt
  have hw0 := wts2 hwt
  obtain ⟨d0, d1, rfl, w0, w1⟩ := hw0
  refine Eq.mpr (vc25 d0 d1) ?_
  simp only [ile_t, ile_f, ilt_t, ilt_f, ieq_t, ieq_f, bnot_t, bnot_f, band_t, band_f, true_and, and_true, lenI]
  have hl := wt_len w0
  refine ⟨fun h => ?_, fun h => ⟨⟨0, ⟨by omega, fun i hi => by omega⟩, rfl⟩, fun g hg => ⟨fun h1 => ⟨by omega, by omega, fun h2 => ?_, fun h2 => ⟨g + 1, ⟨by omega, fun i hi => ?_⟩, by omega, ?_⟩⟩, fun h1 => ?_⟩⟩⟩
  · rw [← Bool.not_eq_true, sameZ_t]; omega
  · exact sameZ_f (by omega) h2
  · rcases Nat.lt_succ_iff_lt_or_eq.1 hi with h3 | rfl
    · exact hg.2 i h3
    · exact h2
  · rw [iadd_eq (by omega)]; rfl
  · rw [sameZ_t]; exact ⟨by omega, fun i hi => hg.2 i (by omega)⟩
theorem c27 : ConOK Try.prog 27 con27 := by
  refine conOK_of_exec (inl := noInl) noInl_ok (lp := lp27) (tb := tb27) (c := bodyOf Try.f27) ⟨tt_ok, tbJ_ok⟩ mixed Try.func27 (by kernel_rfl) (by kernel_rfl) ?_
  intro dat hpre hwt
  have hw0 := wts2 hwt
  obtain ⟨d0, d1, rfl, w0, w1⟩ := hw0
  refine Eq.mpr (vc27 d0 d1) ?_
  have hl : d1.l.length ≤ 1000000 := hpre
  simp only [ile_t, ile_f, ilt_t, ilt_f, ieq_t, ieq_f, bnot_t, bnot_f, band_t, band_f, true_and, and_true, lenI, mkL_len, List.length_cons, List.length_nil]
  refine ⟨⟨0, by omega, ⟨rfl, rfl⟩, rfl⟩, fun g hg => ⟨fun hlt => ⟨by omega, by omega, g + 1, by omega, by omega, ⟨rfl, by rw [iadd_eq (by omega)]; rfl⟩, mkL_snoc (f := fun i => .int (chTo d0.i d1.l (i + 1)))⟩, fun hge => ?_⟩⟩
  rw [show g = d1.l.length by omega]; rfl
theorem c28 : ConOK Try.prog 28 con28 := by
  refine conOK_of_exec (inl := noInl) noInl_ok (lp := lp28) (tb := tb28) (c := bodyOf Try.f28) ⟨tt_ok, tbJ_ok⟩ mixed Try.func28 (by kernel_rfl) (by kernel_rfl) ?_
  intro dat hpre hwt
  have hw0 := wts2 hwt
  obtain ⟨d0, d1, rfl, w0, w1⟩ := hw0
  refine Eq.mpr (vc28 d0 d1) ?_
  have hl : d1.l.length ≤ 1000000 := hpre
  simp only [ile_t, ile_f, ilt_t, ilt_f, ieq_t, ieq_f, bnot_t, bnot_f, band_t, band_f, true_and, and_true, lenI, mkL_len, List.length_cons, List.length_nil]
  refine ⟨⟨0, by omega, ⟨rfl, rfl⟩, rfl⟩, fun g hg => ⟨fun hlt => ⟨by omega, by omega, g + 1, by omega, by omega, ⟨rfl, by rw [iadd_eq (by omega)]; rfl⟩, mkL_snoc (f := fun i => .int (chTo d0.i d1.l (i + 1)))⟩, fun hge => ?_⟩⟩
  rw [show g = d1.l.length by omega]; rfl
end Go.Proofs.Ytjncolngfeglkaa
