/- Part of the proof of the laws of this seat: contracts of its functions, for every input. -/
import Derived.Test.YtafpahkcjdfpiaaDoorWH
set_option linter.all false
namespace Go.Proofs.YtafpahkcjdfpiaaDoor
open Go Go.RX Go.Proofs
set_option maxRecDepth 100000
set_option linter.all false
set_option maxHeartbeats 1000000
theorem tb25_ok : TabOK Tryd.prog tb25 := fun f con h => by
  unfold tb25 at h
  split at h
  · cases h; exact c49
  · cases h
theorem tb48_ok : TabOK Tryd.prog tb48 := fun f con h => by
  unfold tb48 at h
  split at h
  · cases h; exact c73
  · cases h
theorem im_eq {a b : D} : (imOf a = imOf b) = ((a.fld 0).s = (b.fld 0).s ∧ (a.fld 1).i = (b.fld 1).i ∧ (a.fld 2).i = (b.fld 2).i ∧ (a.fld 4).i = (b.fld 4).i ∧ txs (a.fld 3).l = txs (b.fld 3).l) := by
  refine propext ⟨fun h => ?_, fun h => ?_⟩
  · have h1 := congrArg Im.id h; have h2 := congrArg Im.t h; have h3 := congrArg Im.p h; have h4 := congrArg Im.g h; have h5 := congrArg Im.h h
    exact ⟨h1, h2, h3, h4, h5⟩
  · obtain ⟨h1, h2, h3, h4, h5⟩ := h
    show (⟨(a.fld 0).s, (a.fld 1).i, (a.fld 2).i, txs (a.fld 3).l, (a.fld 4).i⟩ : Im) = ⟨(b.fld 0).s, (b.fld 1).i, (b.fld 2).i, txs (b.fld 3).l, (b.fld 4).i⟩
    rw [h1, h2, h3, h4, h5]
theorem c25 : ConOK Tryd.prog 25 con25 := by
  refine conOK_of_exec (inl := noInl) noInl_ok (lp := noLp) (tb := tb25) (c := bodyOf Tryd.f25) ⟨tt_ok, tb25_ok⟩ mixed Tryd.func25 (by kernel_rfl) (by kernel_rfl) ?_
  intro dat hpre hwt
  have hw0 := wts2 hwt
  obtain ⟨d0, d1, rfl, w0, w1⟩ := hw0
  refine Eq.mpr (vc25 d0 d1) ?_
  simp only [ile_t, ile_f, ilt_t, ilt_f, ieq_t, ieq_f, bnot_t, bnot_f, band_t, band_f, true_and, and_true, lenI, seq_t, seq_f]
  simp only [im_eq]
  exact ⟨fun h0 => ⟨fun h1 => ⟨fun h2 => ⟨fun h4 => decide_eq_decide.2 ⟨fun h => ⟨h0, h1, h2, h4, h⟩, fun h => h.2.2.2.2⟩, fun h => decide_eq_false fun e => h e.2.2.2.1⟩, fun h => decide_eq_false fun e => h e.2.2.1⟩, fun h => decide_eq_false fun e => h e.2.1⟩, fun h => decide_eq_false fun e => h e.1⟩
theorem c48 : ConOK Tryd.prog 48 con48 := by
  refine conOK_of_exec (inl := noInl) noInl_ok (lp := noLp) (tb := tb48) (c := bodyOf Tryd.f48) ⟨tt_ok, tb48_ok⟩ mixed Tryd.func48 (by kernel_rfl) (by kernel_rfl) ?_
  intro dat hpre hwt
  have hw0 := wts2 hwt
  obtain ⟨d0, d1, rfl, w0, w1⟩ := hw0
  refine Eq.mpr (vc48 d0 d1) ?_
  simp only [ile_t, ile_f, ilt_t, ilt_f, ieq_t, ieq_f, bnot_t, bnot_f, band_t, band_f, true_and, and_true, lenI, seq_t, seq_f]
  simp only [im_eq]
  exact ⟨fun h0 => ⟨fun h1 => ⟨fun h2 => ⟨fun h4 => decide_eq_decide.2 ⟨fun h => ⟨h0, h1, h2, h4, h⟩, fun h => h.2.2.2.2⟩, fun h => decide_eq_false fun e => h e.2.2.2.1⟩, fun h => decide_eq_false fun e => h e.2.2.1⟩, fun h => decide_eq_false fun e => h e.2.1⟩, fun h => decide_eq_false fun e => h e.1⟩
theorem tb23_ok : TabOK Tryd.prog tb23 := fun f con h => by
  unfold tb23 at h
  split at h
  · cases h; exact c25
  · cases h
theorem tb24_ok : TabOK Tryd.prog tb24 := fun f con h => by
  unfold tb24 at h
  split at h
  · cases h; exact c48
  · cases h
theorem first_pre : ∀ {a b : List Im} {k : Nat}, preI a b k → (k < a.length ∨ k < b.length) → a[k]? ≠ b[k]? → firstZ a b = k
  | [], [], k, _, h, _ => by simp at h
  | [], y :: b, k, h, hl, hn => by
    cases k with
    | zero => simp [firstZ]
    | succ k => have := h 0 (by omega); simp at this
  | x :: a, [], k, h, hl, hn => by
    cases k with
    | zero => simp [firstZ]
    | succ k => have := h 0 (by omega); simp at this
  | x :: a, y :: b, k, h, hl, hn => by
    cases k with
    | zero => simp at hn; simp [firstZ, hn]
    | succ k =>
      have h0 := h 0 (by omega)
      simp at h0
      have ih := first_pre (a := a) (b := b) (k := k) (fun j hj => by have := h (j + 1) (by omega); simpa using this) (by simpa using hl) (by simpa using hn)
      simp only [firstZ]
      rw [if_pos h0, ih, if_neg (by omega)]
      omega
theorem first_none : ∀ {a b : List Im}, a = b → firstZ a b = -1
  | [], _, h => by subst h; rfl
  | x :: a, _, h => by
    subst h
    simp only [firstZ, if_true]
    rw [first_none (a := a) rfl]; rfl
theorem first_neg : ∀ {a b : List Im}, firstZ a b < 0 → a = b
  | [], [], _ => rfl
  | [], y :: b, h => by simp [firstZ] at h
  | x :: a, [], h => by simp [firstZ] at h
  | x :: a, y :: b, h => by
    simp only [firstZ] at h
    split at h
    · rename_i e
      split at h
      · rename_i h2; rw [e, first_neg h2]
      · omega
    · omega
theorem pre_all {a b : List Im} (h : preI a b (max a.length b.length)) : a = b := by
  apply List.ext_getElem?
  intro i
  by_cases hi : i < max a.length b.length
  · exact h i hi
  · rw [List.getElem?_eq_none (by omega), List.getElem?_eq_none (by omega)]
theorem first_out {a b : List D} {g : Nat} (hg : preI (ims a) (ims b) g) (h : (g < a.length ∧ b.length ≤ g) ∨ (g < b.length ∧ a.length ≤ g)) : (g : Int) = firstZ (ims a) (ims b) := by
  refine (first_pre hg (by rw [ims_len, ims_len]; omega) ?_).symm
  rcases h with ⟨h1, h2⟩ | ⟨h1, h2⟩
  · rw [ims_get h1, List.getElem?_eq_none (by rw [ims_len]; omega)]; simp
  · rw [ims_get h1, List.getElem?_eq_none (by rw [ims_len]; omega)]; simp
theorem first_in {a b : List D} {g : Nat} (hg : preI (ims a) (ims b) g) (h1 : g < a.length) (h2 : g < b.length) (h : imOf (elt a (g : Int)) ≠ imOf (elt b (g : Int))) : (g : Int) = firstZ (ims a) (ims b) := by
  refine (first_pre hg (by rw [ims_len, ims_len]; omega) ?_).symm
  rw [ims_get h1, ims_get h2]
  exact fun e => h (Option.some.inj e)
theorem pre_snoc {a b : List D} {g : Nat} (hg : preI (ims a) (ims b) g) (h1 : g < a.length) (h2 : g < b.length) (h : imOf (elt a (g : Int)) = imOf (elt b (g : Int))) : preI (ims a) (ims b) (g + 1) := fun j hj => by
  rcases Nat.lt_succ_iff_lt_or_eq.1 hj with h3 | rfl
  · exact hg j h3
  · rw [ims_get h1, ims_get h2, h]
theorem wtPk {d : D} (h : WT pkT d) : WT .str (d.fld 0) ∧ WT lim (d.fld 1) ∧ WT lu (d.fld 2) := by
  obtain ⟨x0, r0, rfl, h0, x1, r1, e1, h1, x2, r2, e2, h2, _⟩ := h
  cases e1; cases e2
  exact ⟨h0, h1, h2⟩
theorem c24 : ConOK Tryd.prog 24 con24 := by
  refine conOK_of_exec (inl := noInl) noInl_ok (lp := lp24) (tb := tb24) (c := bodyOf Tryd.f24) ⟨tt_ok, tb24_ok⟩ mixed Tryd.func24 (by kernel_rfl) (by kernel_rfl) ?_
  intro dat hpre hwt
  have hw0 := wts2 hwt
  obtain ⟨d0, d1, rfl, w0, w1⟩ := hw0
  refine Eq.mpr (vc24 d0 d1) ?_
  have hl := wt_len (wtPk w0).2.1
  have hl2 := wt_len (wtPk w1).2.1
  simp only [ile_t, ile_f, ilt_t, ilt_f, ieq_t, ieq_f, bnot_t, bnot_f, band_t, band_f, true_and, and_true, lenI, imOf_mk, imOf_eta, decide_eq_true_eq, decide_eq_false_iff_not, imax_eq]
  refine ⟨⟨0, ⟨by omega, fun j hj => by omega⟩, rfl⟩, fun g hg => ⟨fun h1 => ⟨fun h2 => first_out hg.2 (by omega), fun h2 => ⟨fun h3 => first_out hg.2 (by omega), fun h3 => ⟨by omega, by omega, fun h4 => first_in hg.2 (by omega) (by omega) h4, fun h4 => ⟨g + 1, ⟨by omega, pre_snoc hg.2 (by omega) (by omega) h4⟩, by omega, by rw [iadd_eq (by omega)]; rfl⟩⟩⟩⟩, fun h1 => ?_⟩⟩
  have : g = max (ims (d0.fld 1).l).length (ims (d1.fld 1).l).length := by rw [ims_len, ims_len]; omega
  rw [first_none (pre_all (by rw [← this]; exact hg.2))]
theorem c23 : ConOK Tryd.prog 23 con23 := by
  refine conOK_of_exec (inl := noInl) noInl_ok (lp := lp23) (tb := tb23) (c := bodyOf Tryd.f23) ⟨tt_ok, tb23_ok⟩ mixed Tryd.func23 (by kernel_rfl) (by kernel_rfl) ?_
  intro dat hpre hwt
  have hw0 := wts2 hwt
  obtain ⟨d0, d1, rfl, w0, w1⟩ := hw0
  refine Eq.mpr (vc23 d0 d1) ?_
  have hl := wt_len (wtPk w0).2.1
  have hl2 := wt_len (wtPk w1).2.1
  simp only [ile_t, ile_f, ilt_t, ilt_f, ieq_t, ieq_f, bnot_t, bnot_f, band_t, band_f, true_and, and_true, lenI, imOf_mk, imOf_eta, decide_eq_true_eq, decide_eq_false_iff_not, imax_eq]
  have i1 : ∀ g : Nat, g < max (d0.fld 1).l.length (d1.fld 1).l.length → iadd .i64 (g : Int) 1 = ((g + 1 : Nat) : Int) := fun g hg => by rw [iadd_eq (by omega)]; rfl
  refine ⟨⟨0, ⟨by omega, fun j hj => by omega⟩, rfl⟩, fun g hg => ⟨fun h1 => ⟨fun h2 => by omega, fun h2 => ⟨fun h3 => first_out hg.2 (by omega), fun h3 => ⟨by omega, by omega, fun h4 => first_in hg.2 (by omega) (by omega) h4, fun h4 => ⟨g + 1, ⟨by omega, pre_snoc hg.2 (by omega) (by omega) h4⟩, by omega, i1 g (by omega)⟩⟩⟩⟩, fun h1 => ⟨fun h2 => ⟨fun h3 => first_out hg.2 (by omega), fun h3 => by omega⟩, fun h2 => ?_⟩⟩⟩
  have : g = max (ims (d0.fld 1).l).length (ims (d1.fld 1).l).length := by rw [ims_len, ims_len]; omega
  rw [first_none (pre_all (by rw [← this]; exact hg.2))]
theorem tb18_ok : TabOK Tryd.prog tb18 := fun f con h => by
  unfold tb18 at h
  split at h
  · cases h; exact c23
  · cases h; exact c28
  · cases h
theorem c18 : ConOK Tryd.prog 18 con18 := by
  refine conOK_of_exec (inl := noInl) noInl_ok (lp := noLp) (tb := tb18) (c := bodyOf Tryd.f18) ⟨tt_ok, tb18_ok⟩ mixed Tryd.func18 (by kernel_rfl) (by kernel_rfl) ?_
  intro dat hpre hwt
  have hw0 := wts2 hwt
  obtain ⟨d0, d1, rfl, w0, w1⟩ := hw0
  refine Eq.mpr (vc18 d0 d1) ?_
  simp only [ile_t, ile_f, ilt_t, ilt_f, ieq_t, ieq_f, bnot_t, bnot_f, band_t, band_f, true_and, and_true, lenI, seq_t, seq_f]
  exact ⟨fun h0 => ⟨fun h1 => by simp [h0, h1], fun h1 => by simp [h0]; omega⟩, fun h0 => by simp [h0]⟩
theorem tb39_ok : TabOK Tryd.prog tb39 := fun f con h => by
  unfold tb39 at h
  split at h
  · cases h; exact c38
  · cases h
theorem right_5 {i : Im} (h : oneZ i.id = false) : rightZ i = 5 := by unfold rightZ; rw [if_pos h]
theorem right_12 {i : Im} (h : oneZ i.id = true) (h2 : i.t < 0 ∨ 68719476736 ≤ i.t) : rightZ i = 12 := by unfold rightZ; rw [if_neg (by simp [h]), if_pos h2]
theorem right_1 {i : Im} (h : oneZ i.id = true) (h2 : ¬ (i.t < 0 ∨ 68719476736 ≤ i.t)) (h3 : i.p < 1 ∨ 4 < i.p) : rightZ i = 1 := by unfold rightZ; rw [if_neg (by simp [h]), if_neg h2, if_pos h3]
theorem right_3 {i : Im} (h : oneZ i.id = true) (h2 : ¬ (i.t < 0 ∨ 68719476736 ≤ i.t)) (h3 : ¬ (i.p < 1 ∨ 4 < i.p)) (h4 : 1024 < i.h.length) : rightZ i = 3 := by unfold rightZ; rw [if_neg (by simp [h]), if_neg h2, if_neg h3, if_pos h4]
theorem right_0 {i : Im} (h : oneZ i.id = true) (h2 : ¬ (i.t < 0 ∨ 68719476736 ≤ i.t)) (h3 : ¬ (i.p < 1 ∨ 4 < i.p)) (h4 : ¬ 1024 < i.h.length) : rightZ i = 0 := by unfold rightZ; rw [if_neg (by simp [h]), if_neg h2, if_neg h3, if_neg h4]
theorem c39 : ConOK Tryd.prog 39 con39 := by
  refine conOK_of_exec (inl := noInl) noInl_ok (lp := noLp) (tb := tb39) (c := bodyOf Tryd.f39) ⟨tt_ok, tb39_ok⟩ mixed Tryd.func39 (by kernel_rfl) (by kernel_rfl) ?_
  intro dat hpre hwt
  have hw0 := wts1 hwt
  obtain ⟨d0, rfl, w0⟩ := hw0
  refine Eq.mpr (vc39 d0) ?_
  simp only [ile_t, ile_f, ilt_t, ilt_f, ieq_t, ieq_f, bnot_t, bnot_f, band_t, band_f, true_and, and_true, lenI, seq_t, seq_f]
  have q0 : (d0.fld 0).s = (imOf d0).id := rfl
  have q1 : (d0.fld 1).i = (imOf d0).t := rfl
  have q2 : (d0.fld 2).i = (imOf d0).p := rfl
  have q3 : (d0.fld 3).l.length = (imOf d0).h.length := by show _ = (txs (d0.fld 3).l).length; rw [txs_len]
  rw [q0, q1, q2, q3]
  generalize imOf d0 = I
  exact ⟨fun h => (right_5 h).symm, fun h0 => ⟨fun h => (right_12 h0 (.inl h)).symm, fun h1 => ⟨fun h => (right_12 h0 (.inr h)).symm, fun h2 => ⟨fun h => (right_1 h0 (by omega) (.inl h)).symm, fun h3 => ⟨fun h => (right_1 h0 (by omega) (.inr h)).symm, fun h4 => ⟨fun h => (right_3 h0 (by omega) (by omega) (by omega)).symm, fun h => (right_0 h0 (by omega) (by omega) (by omega)).symm⟩⟩⟩⟩⟩⟩
theorem tb44_ok : TabOK Tryd.prog tb44 := fun f con h => by
  unfold tb44 at h
  split at h
  · cases h; exact c43
  · cases h; exact c71
  · cases h
theorem timeZ_t {n : Int} : (timeZ n = true) = (0 ≤ n ∧ n < 68719476736) := by simp [timeZ]
theorem timeZ_f {n : Int} : (timeZ n = false) = ¬ (0 ≤ n ∧ n < 68719476736) := by rw [← timeZ_t]; simp
theorem chk_r {l : List Im} {i : Im} {e : Int} (h : rightZ i = e) (he : e ≠ 0) : e = chkZ l i := by unfold chkZ; rw [if_pos (by rw [h]; exact he), h]
theorem chk_9 {l : List Im} {i : Im} (h : rightZ i = 0) (h2 : hasZ l i.id = true) : 9 = chkZ l i := by unfold chkZ; rw [if_neg (by simp [h]), if_pos h2]
theorem chk_0 {l : List Im} {i : Im} (h : rightZ i = 0) (h2 : hasZ l i.id = false) : 0 = chkZ l i := by unfold chkZ; rw [if_neg (by simp [h]), if_neg (by simp [h2])]
theorem has_t {l : List D} {id : List UInt8} {g : Nat} (hg : g < l.length) (h : ((elt l (g : Int)).fld 0).s = id) : hasZ (ims l) id = true := by
  unfold hasZ
  rw [List.any_eq_true]
  exact ⟨_, ims_mem hg, decide_eq_true h⟩
theorem has_f {l : List D} {id : List UInt8} (h : ∀ j : Nat, j < l.length → ((elt l (j : Int)).fld 0).s ≠ id) : hasZ (ims l) id = false := by
  unfold hasZ
  rw [List.any_eq_false]
  intro x hx
  obtain ⟨j, hj, rfl⟩ := mem_ims hx
  rw [decide_eq_true_eq]
  exact h j hj
theorem c44 : ConOK Tryd.prog 44 con44 := by
  refine conOK_of_exec (inl := noInl) noInl_ok (lp := lp44) (tb := tb44) (c := bodyOf Tryd.f44) ⟨tt_ok, tb44_ok⟩ mixed Tryd.func44 (by kernel_rfl) (by kernel_rfl) ?_
  intro dat hpre hwt
  have hw0 := wts2 hwt
  obtain ⟨d0, d1, rfl, w0, w1⟩ := hw0
  refine Eq.mpr (vc44 d0 d1) ?_
  have hl := wt_len w0
  simp only [ile_t, ile_f, ilt_t, ilt_f, ieq_t, ieq_f, bnot_t, bnot_f, band_t, band_f, true_and, and_true, lenI, seq_t, seq_f, timeZ_t, timeZ_f]
  have q0 : (d1.fld 0).s = (imOf d1).id := rfl
  have q1 : (d1.fld 1).i = (imOf d1).t := rfl
  have q2 : (d1.fld 2).i = (imOf d1).p := rfl
  have q3 : (d1.fld 3).l.length = (imOf d1).h.length := by show _ = (txs (d1.fld 3).l).length; rw [txs_len]
  rw [q0, q1, q2, q3]
  generalize imOf d1 = I
  refine ⟨fun h => chk_r (right_5 h) (by decide), fun h0 => ⟨fun h => chk_r (right_12 h0 (by omega)) (by decide), fun h1 => ⟨fun h => chk_r (right_1 h0 (by omega) (.inl h)) (by decide), fun h3 => ⟨fun h => chk_r (right_1 h0 (by omega) (.inr h)) (by decide), fun h4 => ⟨fun h => chk_r (right_3 h0 (by omega) (by omega) (by omega)) (by decide), fun h5 => ?_⟩⟩⟩⟩⟩
  have hr := right_0 h0 (by omega) (by omega) (show ¬ 1024 < I.h.length by omega)
  refine ⟨⟨0, ⟨by omega, fun j hj => by omega⟩, rfl⟩, fun g hg => ⟨fun hlt => ⟨by omega, fun h => chk_9 hr (has_t (by omega) h), fun h => ⟨g + 1, ⟨by omega, fun j hj => ?_⟩, by omega, by rw [iadd_eq (by omega)]; rfl⟩⟩, fun hge => chk_0 hr (has_f fun j hj => hg.2 j (by omega))⟩⟩
  rcases Nat.lt_succ_iff_lt_or_eq.1 hj with h3 | rfl
  · exact hg.2 j h3
  · exact h
end Go.Proofs.YtafpahkcjdfpiaaDoor
