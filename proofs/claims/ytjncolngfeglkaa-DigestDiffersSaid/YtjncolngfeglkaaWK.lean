/- Part of the proof of the laws of this seat: contracts of its functions, for every input. -/
import Derived.Test.YtjncolngfeglkaaWJ
set_option linter.all false
namespace Go.Proofs.Ytjncolngfeglkaa
open Go Go.RX Go.Proofs
set_option maxRecDepth 100000
set_option linter.all false
theorem tbA_ok : TabOK Try.prog tbA := fun f con h => by
  unfold tbA at h
  split at h
  · cases h; exact c11
  · cases h; exact c13
  · cases h; exact c16
  · cases h; exact c18
  · cases h; exact c20
  · cases h; exact c21
  · cases h; exact c23
  · cases h; exact c25
  · cases h
theorem c15 : ConOK Try.prog 15 con15 := by
  refine conOK_of_exec (inl := noInl) noInl_ok (lp := noLp) (tb := tb15) (c := bodyOf Try.f15) ⟨tt_ok, tbA_ok⟩ mixed Try.func15 (by kernel_rfl) (by kernel_rfl) ?_
  intro dat hpre hwt
  obtain rfl := wts0 hwt
  refine Eq.mpr (vc15) ?_
  simp
theorem c26 : ConOK Try.prog 26 con26 := by
  refine conOK_of_exec (inl := noInl) noInl_ok (lp := lp26) (tb := tbN) (c := bodyOf Try.f26) ⟨tt_ok, tbN_ok⟩ mixed Try.func26 (by kernel_rfl) (by kernel_rfl) ?_
  intro dat hpre hwt
  have hw0 := wts1 hwt
  obtain ⟨d0, rfl, w0⟩ := hw0
  refine Eq.mpr (vc26 d0) ?_
  simp only [ile_t, ile_f, ilt_t, ilt_f, ieq_t, ieq_f, bnot_t, bnot_f, band_t, band_f, true_and, and_true, lenI]
  refine ⟨fun h => ?_, fun h => ⟨⟨0, ⟨by omega, fun j hj => by omega⟩, rfl⟩, fun g hg => ⟨fun hlt => ⟨by omega, fun h1 => ?_, fun h1 => ⟨g + 1, ⟨by omega, fun j hj => ?_⟩, by omega, by rw [iadd_eq (by omega)]; rfl⟩⟩, fun hge => ?_⟩⟩⟩
  · unfold fewZ; rw [decide_eq_false (by omega)]; rfl
  · unfold fewZ; rw [decide_eq_false (p := fewTo _ _) (fun hf => by have := hf g (by omega); omega), Bool.and_false]
  · by_cases e : j = g
    · subst e; omega
    · exact hg.2 j (by omega)
  · unfold fewZ
    obtain ⟨g1, g2⟩ := hg
    rw [decide_eq_true (by omega), Bool.true_and]
    rw [show d0.l.length = g by omega]
    exact decide_eq_true g2
theorem few_len {l : List D} (h : fewZ l = true) : l.length ≤ 100 := by
  unfold fewZ at h
  simp only [Bool.and_eq_true, decide_eq_true_eq] at h
  exact h.1
theorem tbL_ok : TabOK Try.prog tbL := fun f con h => by
  unfold tbL at h
  split at h
  · cases h; exact c12
  · cases h; exact c14
  · cases h; exact c15
  · cases h; exact c17
  · cases h; exact c19
  · cases h; exact c22
  · cases h; exact c26
  · cases h; exact c27
  · cases h; exact c28
  · exact tbA_ok _ _ h
theorem c3 : ConOK Try.prog 3 con3 := by
  refine conOK_of_exec (inl := noInl) noInl_ok (lp := noLp) (tb := tb3) (c := bodyOf Try.f3) ⟨tt_ok, tbL_ok⟩ mixed Try.func3 (by kernel_rfl) (by kernel_rfl) ?_
  intro dat hpre hwt
  have hw0 := wts3 hwt
  obtain ⟨d0, d1, d2, rfl, w0, w1, w2⟩ := hw0
  refine Eq.mpr (vc3 d0 d1 d2) ?_
  simp only [ile_t, ile_f, ilt_t, ilt_f, ieq_t, ieq_f, bnot_t, bnot_f, band_t, band_f, true_and, and_true, lenI]
  simp [sameZ_self]
theorem c4 : ConOK Try.prog 4 con4 := by
  refine conOK_of_exec (inl := noInl) noInl_ok (lp := noLp) (tb := tb4) (c := bodyOf Try.f4) ⟨tt_ok, tbL_ok⟩ mixed Try.func4 (by kernel_rfl) (by kernel_rfl) ?_
  intro dat hpre hwt
  have hw0 := wts2 hwt
  obtain ⟨d0, d1, rfl, w0, w1⟩ := hw0
  refine Eq.mpr (vc4 d0 d1) ?_
  simp only [ile_t, ile_f, ilt_t, ilt_f, ieq_t, ieq_f, bnot_t, bnot_f, band_t, band_f, true_and, and_true, lenI]
  simp [sameZ_self]
  omega
theorem c5 : ConOK Try.prog 5 con5 := by
  refine conOK_of_exec (inl := noInl) noInl_ok (lp := noLp) (tb := tb5) (c := bodyOf Try.f5) ⟨tt_ok, tbL_ok⟩ mixed Try.func5 (by kernel_rfl) (by kernel_rfl) ?_
  intro dat hpre hwt
  have hw0 := wts1 hwt
  obtain ⟨d0, rfl, w0⟩ := hw0
  refine Eq.mpr (vc5 d0) ?_
  simp only [ile_t, ile_f, ilt_t, ilt_f, ieq_t, ieq_f, bnot_t, bnot_f, band_t, band_f, true_and, and_true, lenI]
  simp [sameZ_self, beqB]
theorem c9 : ConOK Try.prog 9 con9 := by
  refine conOK_of_exec (inl := noInl) noInl_ok (lp := noLp) (tb := tb9) (c := bodyOf Try.f9) ⟨tt_ok, tbL_ok⟩ mixed Try.func9 (by kernel_rfl) (by kernel_rfl) ?_
  intro dat hpre hwt
  have hw0 := wts2 hwt
  obtain ⟨d0, d1, rfl, w0, w1⟩ := hw0
  refine Eq.mpr (vc9 d0 d1) ?_
  simp only [ile_t, ile_f, ilt_t, ilt_f, ieq_t, ieq_f, bnot_t, bnot_f, band_t, band_f, true_and, and_true, lenI]
  simp [sameZ_self]
  intro h
  have := few_len h
  omega
theorem chTo_take {s : Int} {l : List D} {k : Nat} : ∀ {i : Nat}, i ≤ k → k ≤ l.length → chTo s (xsub l 0 (k : Int)) i = chTo s l i
  | 0, _, _ => rfl
  | i + 1, h, hk => by
    rw [chTo, chTo, chTo_take (by omega) hk]
    have : elt (xsub l 0 (k : Int)) (i : Int) = elt l (i : Int) := by
      have hl : (xsub l 0 (k : Int)).length = k := by simp [xsub]; omega
      rw [elt_get (by omega), elt_get (by omega)]
      simp [xsub]
    rw [this]
theorem chTo_drop {s : Int} {l : List D} {k : Nat} : ∀ {i : Nat}, k + i ≤ l.length → chTo (chTo s l k) (xsub l (k : Int) (l.length : Int)) i = chTo s l (k + i)
  | 0, _ => rfl
  | i + 1, h => by
    rw [chTo, chTo_drop (by omega), ← Nat.add_assoc, chTo]
    have : elt (xsub l (k : Int) (l.length : Int)) (i : Int) = elt l ((k + i : Nat) : Int) := by
      have hl : (xsub l (k : Int) (l.length : Int)).length = l.length - k := by simp [xsub]
      rw [elt_get (by omega), elt_get (by omega)]
      simp [xsub]
    rw [this]
theorem chainZ_len {s : Int} {l : List D} : (chainZ s l).length = l.length := mkL_len
theorem chain_parts {s : Int} {l : List D} {k : Nat} (h : k ≤ l.length) : xcat (chainZ s (xsub l 0 (k : Int))) (chainZ (chTo s l k) (xsub l (k : Int) (l.length : Int))) = chainZ s l := by
  have hl1 : (xsub l 0 (k : Int)).length = k := by simp [xsub]; omega
  have hl2 : (xsub l (k : Int) (l.length : Int)).length = l.length - k := by simp [xsub]
  refine mkL_eq (by simp [xcat, chainZ_len, hl1, hl2]; omega) fun i hi => ?_
  by_cases e : i < k
  · have e1 : elt (xcat (chainZ s (xsub l 0 (k : Int))) (chainZ (chTo s l k) (xsub l (k : Int) (l.length : Int)))) (i : Int) = elt (chainZ s (xsub l 0 (k : Int))) (i : Int) := by
      rw [elt_get (by simp [xcat, chainZ_len, hl1, hl2]; omega), elt_get (by rw [chainZ_len, hl1]; exact e)]
      exact List.getElem_append_left _
    rw [e1, chainZ, elt_mkL (by omega), chTo_take (by omega) h]
  · have e1 : elt (xcat (chainZ s (xsub l 0 (k : Int))) (chainZ (chTo s l k) (xsub l (k : Int) (l.length : Int)))) (i : Int) = elt (chainZ (chTo s l k) (xsub l (k : Int) (l.length : Int))) ((i - k : Nat) : Int) := by
      rw [elt_get (by simp [xcat, chainZ_len, hl1, hl2]; omega), elt_get (by rw [chainZ_len, hl2]; omega)]
      simp only [xcat]
      rw [List.getElem_append_right (by rw [chainZ_len, hl1]; omega)]
      simp [chainZ_len, hl1]
    rw [e1, chainZ, elt_mkL (by omega), chTo_drop (by omega), show k + (i - k + 1) = i + 1 by omega]
theorem c10 : ConOK Try.prog 10 con10 := by
  refine conOK_of_exec (inl := noInl) noInl_ok (lp := noLp) (tb := tb10) (c := bodyOf Try.f10) ⟨tt_ok, tbL_ok⟩ mixed Try.func10 (by kernel_rfl) (by kernel_rfl) ?_
  intro dat hpre hwt
  have hw0 := wts3 hwt
  obtain ⟨d0, d1, d2, rfl, w0, w1, w2⟩ := hw0
  refine Eq.mpr (vc10 d0 d1 d2) ?_
  simp only [ile_t, ile_f, ilt_t, ilt_f, ieq_t, ieq_f, bnot_t, bnot_f, band_t, band_f, true_and, and_true, lenI]
  have hu := (wt_u8 w2)
  refine ⟨fun _ => trivial, fun hf => ?_⟩
  have hl := few_len hf
  have ek : irem (iconv .i64 d2.i) (iadd .i64 (d1.l.length : Int) 1) = ((d2.i.toNat % (d1.l.length + 1) : Nat) : Int) := by
    obtain ⟨m, hm⟩ : ∃ m : Nat, d2.i = m := ⟨d2.i.toNat, by omega⟩
    rw [iconv_eq (by omega), iadd_eq (by omega), irem_eq (by omega), hm, Int.toNat_natCast, Int.natCast_emod]; rfl
  have hk : d2.i.toNat % (d1.l.length + 1) ≤ d1.l.length := by have := Nat.mod_lt d2.i.toNat (show 0 < d1.l.length + 1 by omega); omega
  rw [ek]
  generalize d2.i.toNat % (d1.l.length + 1) = k at *
  have hl1 : (xsub d1.l 0 (k : Int)).length = k := by simp [xsub]; omega
  have hl2 : (xsub d1.l (k : Int) (d1.l.length : Int)).length = d1.l.length - k := by simp [xsub]
  have hp := chain_parts (s := d0.i) hk
  simp only [chainZ_len, hl1, hl2]
  refine ⟨by rw [iadd_eq (by omega)]; omega, by omega, ⟨by omega, by omega, by omega⟩, by omega, fun h => h rfl, fun _ => ⟨fun h0 => ?_, fun h0 => ?_⟩⟩
  · have e1 : isub .i64 (k : Int) 1 = ((k - 1 : Nat) : Int) := by rw [isub_eq (by omega)]; omega
    have e2 : (elt (chainZ d0.i (xsub d1.l 0 (k : Int))) ((k - 1 : Nat) : Int)).i = chTo d0.i d1.l k := by
      rw [chainZ, elt_mkL (by omega), chTo_take (by omega) hk, show k - 1 + 1 = k by omega]; rfl
    rw [e1, Int.toNat_natCast, e2, hp]
    refine ⟨⟨by omega, by omega⟩, fun _ => ⟨⟨by omega, by omega, by omega⟩, by omega, by omega, fun _ => trivial, fun h => ?_⟩, fun h => h rfl⟩
    rw [sameZ_self] at h; cases h
  · obtain rfl : k = 0 := by omega
    have e0 : chTo d0.i d1.l 0 = d0.i := rfl
    rw [e0] at hp
    rw [hp]
    refine ⟨fun _ => ⟨⟨by omega, by omega, by omega⟩, by omega, by omega, fun _ => trivial, fun h => ?_⟩, fun h => h rfl⟩
    rw [sameZ_self] at h; cases h
end Go.Proofs.Ytjncolngfeglkaa
