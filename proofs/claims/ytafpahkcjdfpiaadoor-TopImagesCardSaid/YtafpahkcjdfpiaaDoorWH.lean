/- Part of the proof of the laws of this seat: contracts of its functions, for every input. -/
import Derived.Test.YtafpahkcjdfpiaaDoorWG
set_option linter.all false
namespace Go.Proofs.YtafpahkcjdfpiaaDoor
open Go Go.RX Go.Proofs
set_option maxRecDepth 100000
set_option linter.all false
set_option maxHeartbeats 1000000
theorem seq_t {a b : List UInt8} : (seq' a b = true) = (a = b) := by simp [seq']
theorem seq_f {a b : List UInt8} : (seq' a b = false) = (a ≠ b) := by simp [seq']
theorem txs_len {l : List D} : (txs l).length = l.length := by simp [txs]
theorem ims_len {l : List D} : (ims l).length = l.length := by simp [ims]
theorem txs_get {l : List D} {i : Nat} (h : i < l.length) : (txs l)[i]? = some (elt l (i : Int)).s := by
  rw [elt_get h]; simp [txs, h]
theorem ims_get {l : List D} {i : Nat} (h : i < l.length) : (ims l)[i]? = some (imOf (elt l (i : Int))) := by
  rw [elt_get h]; simp [ims, h]
theorem txs_eq {a b : List D} (h : a.length = b.length) (h2 : ∀ i, i < a.length → (elt a (i : Int)).s = (elt b (i : Int)).s) : txs a = txs b := by
  apply List.ext_getElem?
  intro i
  by_cases hi : i < a.length
  · rw [txs_get hi, txs_get (by omega), h2 i hi]
  · rw [List.getElem?_eq_none (by rw [txs_len]; omega), List.getElem?_eq_none (by rw [txs_len]; omega)]
theorem txs_ne {a b : List D} {i : Nat} (h : i < a.length) (h' : i < b.length) (h2 : (elt a (i : Int)).s ≠ (elt b (i : Int)).s) : txs a ≠ txs b := fun e => by
  have := congrArg (fun l => l[i]?) e
  simp only [txs_get h, txs_get h', Option.some.injEq] at this
  exact h2 this
theorem c49 : ConOK Tryd.prog 49 con49 := by
  refine conOK_of_exec (inl := noInl) noInl_ok (lp := lp49) (tb := tbN) (c := bodyOf Tryd.f49) ⟨tt_ok, tbN_ok⟩ mixed Tryd.func49 (by kernel_rfl) (by kernel_rfl) ?_
  intro dat hpre hwt
  have hw0 := wts2 hwt
  obtain ⟨d0, d1, rfl, w0, w1⟩ := hw0
  refine Eq.mpr (vc49 d0 d1) ?_
  simp only [ile_t, ile_f, ilt_t, ilt_f, ieq_t, ieq_f, bnot_t, bnot_f, band_t, band_f, true_and, and_true, lenI, seq_t, seq_f]
  have hl := wt_len w0
  refine ⟨fun h => decide_eq_false fun e => ?_, fun h => ⟨⟨0, ⟨by omega, fun j hj => by omega⟩, rfl⟩, fun g hg => ⟨fun h1 => ⟨by omega, by omega, fun h2 => decide_eq_false (txs_ne (by omega) (by omega) h2), fun h2 => ⟨g + 1, ⟨by omega, fun i hi => ?_⟩, by omega, by rw [iadd_eq (by omega)]; rfl⟩⟩, fun h1 => ?_⟩⟩⟩
  · have := congrArg List.length e
    rw [txs_len, txs_len] at this; omega
  · rcases Nat.lt_succ_iff_lt_or_eq.1 hi with h3 | rfl
    · exact hg.2 i h3
    · exact h2
  · exact decide_eq_true (txs_eq (by omega) fun i hi => hg.2 i (by omega))
theorem c73 : ConOK Tryd.prog 73 con73 := by
  refine conOK_of_exec (inl := noInl) noInl_ok (lp := lp73) (tb := tbN) (c := bodyOf Tryd.f73) ⟨tt_ok, tbN_ok⟩ mixed Tryd.func73 (by kernel_rfl) (by kernel_rfl) ?_
  intro dat hpre hwt
  have hw0 := wts2 hwt
  obtain ⟨d0, d1, rfl, w0, w1⟩ := hw0
  refine Eq.mpr (vc73 d0 d1) ?_
  simp only [ile_t, ile_f, ilt_t, ilt_f, ieq_t, ieq_f, bnot_t, bnot_f, band_t, band_f, true_and, and_true, lenI, seq_t, seq_f]
  have hl := wt_len w0
  refine ⟨fun h => decide_eq_false fun e => ?_, fun h => ⟨⟨0, ⟨by omega, fun j hj => by omega⟩, rfl⟩, fun g hg => ⟨fun h1 => ⟨by omega, by omega, fun h2 => decide_eq_false (txs_ne (by omega) (by omega) h2), fun h2 => ⟨g + 1, ⟨by omega, fun i hi => ?_⟩, by omega, by rw [iadd_eq (by omega)]; rfl⟩⟩, fun h1 => ?_⟩⟩⟩
  · have := congrArg List.length e
    rw [txs_len, txs_len] at this; omega
  · rcases Nat.lt_succ_iff_lt_or_eq.1 hi with h3 | rfl
    · exact hg.2 i h3
    · exact h2
  · exact decide_eq_true (txs_eq (by omega) fun i hi => hg.2 i (by omega))
theorem c71 : ConOK Tryd.prog 71 con71 := by
  refine conOK_of_exec (inl := noInl) noInl_ok (lp := noLp) (tb := tbN) (c := bodyOf Tryd.f71) ⟨tt_ok, tbN_ok⟩ mixed Tryd.func71 (by kernel_rfl) (by kernel_rfl) ?_
  intro dat hpre hwt
  have hw0 := wts1 hwt
  obtain ⟨d0, rfl, w0⟩ := hw0
  refine Eq.mpr (vc71 d0) ?_
  simp only [ile_t, ile_f, ilt_t, ilt_f, ieq_t, ieq_f, bnot_t, bnot_f, band_t, band_f, true_and, and_true, lenI]
  exact ⟨fun h => by simp [timeZ, ilt, h], fun h => by simp [timeZ]; omega⟩
theorem c47 : ConOK Tryd.prog 47 con47 := by
  refine conOK_of_exec (inl := noInl) noInl_ok (lp := lp47) (tb := tbN) (c := bodyOf Tryd.f47) ⟨tt_ok, tbN_ok⟩ mixed Tryd.func47 (by kernel_rfl) (by kernel_rfl) ?_
  intro dat hpre hwt
  have hw0 := wts2 hwt
  obtain ⟨d0, d1, rfl, w0, w1⟩ := hw0
  refine Eq.mpr (vc47 d0 d1) ?_
  simp only [ile_t, ile_f, ilt_t, ilt_f, ieq_t, ieq_f, bnot_t, bnot_f, band_t, band_f, true_and, and_true, lenI]
  have hl := wt_len w0
  refine ⟨fun h => ?_, fun h => ⟨⟨0, ⟨by omega, fun i hi => by omega⟩, rfl⟩, fun g hg => ⟨fun h1 => ⟨by omega, by omega, fun h2 => ?_, fun h2 => ⟨g + 1, ⟨by omega, fun i hi => ?_⟩, by omega, ?_⟩⟩, fun h1 => ?_⟩⟩⟩
  · rw [← Bool.not_eq_true, sameZ_t]; omega
  · exact sameZ_f (by omega) h2
  · rcases Nat.lt_succ_iff_lt_or_eq.1 hi with h3 | rfl
    · exact hg.2 i h3
    · exact h2
  · rw [iadd_eq (by omega)]; rfl
  · rw [sameZ_t]; exact ⟨by omega, fun i hi => hg.2 i (by omega)⟩
theorem mem_txs {l : List D} {x : List UInt8} (h : x ∈ txs l) : ∃ j, j < l.length ∧ x = (elt l (j : Int)).s := by
  obtain ⟨j, hj, rfl⟩ := List.getElem_of_mem h
  rw [txs_len] at hj
  refine ⟨j, hj, ?_⟩
  have := txs_get hj
  rw [List.getElem?_eq_getElem (by rw [txs_len]; exact hj)] at this
  exact Option.some.inj this
theorem txs_mem {l : List D} {j : Nat} (h : j < l.length) : (elt l (j : Int)).s ∈ txs l := List.mem_of_getElem? (txs_get h)
theorem oneI_t {i : Im} : (oneI i = true) = ((∀ x ∈ i.h, x.length ≤ 100) ∧ i.id.length ≤ 600 ∧ i.h.length ≤ 8) := by simp [oneI]
theorem oneI_f {i : Im} : (oneI i = false) = ¬ ((∀ x ∈ i.h, x.length ≤ 100) ∧ i.id.length ≤ 600 ∧ i.h.length ≤ 8) := by rw [← oneI_t]; simp
theorem wtIm {d : D} (h : WT imT d) : WT .str (d.fld 0) ∧ WT i64 (d.fld 1) ∧ WT i64 (d.fld 2) ∧ WT ls (d.fld 3) ∧ WT u64 (d.fld 4) ∧ d = .agg [d.fld 0, d.fld 1, d.fld 2, d.fld 3, d.fld 4] := by
  obtain ⟨x0, r0, rfl, h0, x1, r1, e1, h1, x2, r2, e2, h2, x3, r3, e3, h3, x4, r4, e4, h4, e5⟩ := h
  cases e1; cases e2; cases e3; cases e4; cases e5
  exact ⟨h0, h1, h2, h3, h4, rfl⟩
theorem c11 : ConOK Tryd.prog 11 con11 := by
  refine conOK_of_exec (inl := noInl) noInl_ok (lp := lp11) (tb := tbN) (c := bodyOf Tryd.f11) ⟨tt_ok, tbN_ok⟩ mixed Tryd.func11 (by kernel_rfl) (by kernel_rfl) ?_
  intro dat hpre hwt
  have hw0 := wts1 hwt
  obtain ⟨d0, rfl, w0⟩ := hw0
  refine Eq.mpr (vc11 d0) ?_
  have hl := wt_len (wtIm w0).2.2.2.1
  have e1 : (imOf d0).h = txs (d0.fld 3).l := rfl
  have e2 : (imOf d0).id = (d0.fld 0).s := rfl
  simp only [ile_t, ile_f, ilt_t, ilt_f, ieq_t, ieq_f, bnot_t, bnot_f, band_t, band_f, true_and, and_true, lenI, lenS, oneI_f, e1, e2]
  refine ⟨⟨0, ⟨by omega, fun j hj => by omega⟩, rfl⟩, fun g hg => ⟨fun h1 => ⟨by omega, fun h2 h3 => ?_, fun h2 => ⟨g + 1, ⟨by omega, fun i hi => ?_⟩, by omega, by rw [iadd_eq (by omega)]; rfl⟩⟩, fun h1 => ⟨fun h2 => bool_eq ?_, fun h2 => by omega⟩⟩⟩
  · have := h3.1 _ (txs_mem (l := (d0.fld 3).l) (j := g) (by omega))
    omega
  · rcases Nat.lt_succ_iff_lt_or_eq.1 hi with h3 | rfl
    · exact hg.2 i h3
    · omega
  · rw [ile_t, oneI_t, e1, e2, txs_len]
    refine ⟨fun h => ⟨fun x hx => ?_, by omega, by omega⟩, fun h => by omega⟩
    obtain ⟨j, hj, rfl⟩ := mem_txs hx
    exact hg.2 j (by omega)
theorem tb15_ok : TabOK Tryd.prog tb15 := fun f con h => by
  unfold tb15 at h
  split at h
  · cases h; exact c11
  · cases h
theorem fewI_t {l : List Im} : (fewI l = true) = ((∀ i ∈ l, oneI i = true) ∧ l.length ≤ 20) := by simp [fewI]
theorem fewI_f {l : List Im} : (fewI l = false) = ¬ ((∀ i ∈ l, oneI i = true) ∧ l.length ≤ 20) := by rw [← fewI_t]; simp
theorem mem_ims {l : List D} {x : Im} (h : x ∈ ims l) : ∃ j, j < l.length ∧ x = imOf (elt l (j : Int)) := by
  obtain ⟨j, hj, rfl⟩ := List.getElem_of_mem h
  rw [ims_len] at hj
  refine ⟨j, hj, ?_⟩
  have := ims_get hj
  rw [List.getElem?_eq_getElem (by rw [ims_len]; exact hj)] at this
  exact Option.some.inj this
theorem ims_mem {l : List D} {j : Nat} (h : j < l.length) : imOf (elt l (j : Int)) ∈ ims l := List.mem_of_getElem? (ims_get h)
theorem c15 : ConOK Tryd.prog 15 con15 := by
  refine conOK_of_exec (inl := noInl) noInl_ok (lp := lp15) (tb := tb15) (c := bodyOf Tryd.f15) ⟨tt_ok, tb15_ok⟩ mixed Tryd.func15 (by kernel_rfl) (by kernel_rfl) ?_
  intro dat hpre hwt
  have hw0 := wts1 hwt
  obtain ⟨d0, rfl, w0⟩ := hw0
  refine Eq.mpr (vc15 d0) ?_
  have hl := wt_len w0
  simp only [ile_t, ile_f, ilt_t, ilt_f, ieq_t, ieq_f, bnot_t, bnot_f, band_t, band_f, true_and, and_true, lenI, imOf_mk, imOf_eta, fewI_f]
  refine ⟨⟨0, ⟨by omega, fun j hj => by omega⟩, rfl⟩, fun g hg => ⟨fun h1 => ⟨by omega, fun h2 h3 => ?_, fun h2 => ⟨g + 1, ⟨by omega, fun i hi => ?_⟩, by omega, by rw [iadd_eq (by omega)]; rfl⟩⟩, fun h1 => bool_eq ?_⟩⟩
  · have := h3.1 _ (ims_mem (l := d0.l) (j := g) (by omega))
    rw [this] at h2; cases h2
  · rcases Nat.lt_succ_iff_lt_or_eq.1 hi with h3 | rfl
    · exact hg.2 i h3
    · exact h2
  · rw [ile_t, fewI_t, ims_len]
    refine ⟨fun h => ⟨fun x hx => ?_, by omega⟩, fun h => by omega⟩
    obtain ⟨j, hj, rfl⟩ := mem_ims hx
    exact hg.2 j (by omega)
end Go.Proofs.YtafpahkcjdfpiaaDoor
