/- Part of the proof of the laws of this seat: contracts of its functions, for every input. -/
import Derived.Test.YtafpahkcjdfpiaaDoorWQ
set_option linter.all false
namespace Go.Proofs.YtafpahkcjdfpiaaDoor
open Go Go.RX Go.Proofs
set_option maxRecDepth 100000
set_option linter.all false
set_option maxHeartbeats 1000000
theorem tb12_ok : TabOK Tryd.prog tb12 := fun f con h => by
  unfold tb12 at h
  split at h
  · cases h; exact c13
  · cases h; exact c16
  · cases h; exact c19
  · cases h; exact c21
  · cases h; exact c24
  · cases h; exact c26
  · cases h; exact c27
  · cases h; exact c34
  · cases h; exact c35
  · cases h
theorem aw_b : bldZ [118, 49] [] = ⟨[118, 49], [], [], 0⟩ := by kernel_rfl
theorem aw_a : addZ [118, 49] [] [] (D.agg [D.str [97], D.int 5, D.int 2, D.list [D.str [120]], D.int 258]) = ⟨[118, 49], [D.agg [D.str [97], D.int 5, D.int 2, D.list [D.str [120]], D.int 258]], [D.int 3825325742477316376], 0⟩ := by kernel_rfl
theorem aw_i : smI ⟨[97], 5, 2, txs [D.str [120]], 258⟩ := ⟨by decide, by decide, by decide⟩
theorem aw_0 : smL (ims []) := ⟨by decide, fun i hi => by simp [ims] at hi⟩
theorem aw_1 : smL (ims [D.agg [D.str [97], D.int 5, D.int 2, D.list [D.str [120]], D.int 258]]) := ⟨by decide, fun i hi => by
  have : i = ⟨[97], 5, 2, txs [D.str [120]], 258⟩ := by simpa [ims, imOf_mk] using hi
  rw [this]; exact aw_i⟩
theorem c12 : ConOK Tryd.prog 12 con12 := by
  refine conOK_of_exec (inl := noInl) noInl_ok (lp := noLp) (tb := tb12) (c := bodyOf Tryd.f12) ⟨tt_ok, tb12_ok⟩ mixed Tryd.func12 (by kernel_rfl) (by kernel_rfl) ?_
  intro dat hpre hwt
  obtain rfl := wts0 hwt
  refine Eq.mpr (vc12) ?_
  simp only [ile_t, ile_f, ilt_t, ilt_f, ieq_t, ieq_f, bnot_t, bnot_f, band_t, band_f, true_and, and_true, lenI, implies_true, imp_false, not_true_eq_false, not_false_eq_true, and_self, and_false, false_and, Int.not_lt, Int.not_le, Classical.not_not, aw_b, aw_a, aw_i, aw_0, aw_1]
  simp
theorem tb3_ok : TabOK Tryd.prog tb3 := fun f con h => by
  unfold tb3 at h
  split at h
  · cases h; exact c11
  · cases h; exact c12
  · cases h; exact c13
  · cases h; exact c14
  · cases h
theorem tb4_ok : TabOK Tryd.prog tb4 := fun f con h => by
  unfold tb4 at h
  split at h
  · cases h; exact c12
  · cases h; exact c15
  · cases h; exact c16
  · cases h; exact c17
  · cases h; exact c18
  · cases h
theorem tb5_ok : TabOK Tryd.prog tb5 := fun f con h => by
  unfold tb5 at h
  split at h
  · cases h; exact c11
  · cases h; exact c12
  · cases h; exact c15
  · cases h; exact c18
  · cases h; exact c19
  · cases h; exact c20
  · cases h; exact c21
  · cases h; exact c22
  · cases h
theorem tb6_ok : TabOK Tryd.prog tb6 := fun f con h => by
  unfold tb6 at h
  split at h
  · cases h; exact c12
  · cases h; exact c15
  · cases h; exact c23
  · cases h; exact c24
  · cases h
theorem tb7_ok : TabOK Tryd.prog tb7 := fun f con h => by
  unfold tb7 at h
  split at h
  · cases h; exact c12
  · cases h; exact c15
  · cases h; exact c16
  · cases h; exact c18
  · cases h; exact c19
  · cases h; exact c21
  · cases h
theorem tb8_ok : TabOK Tryd.prog tb8 := fun f con h => by
  unfold tb8 at h
  split at h
  · cases h; exact c11
  · cases h; exact c12
  · cases h; exact c14
  · cases h; exact c15
  · cases h; exact c16
  · cases h; exact c21
  · cases h; exact c24
  · cases h; exact c25
  · cases h; exact c26
  · cases h; exact c27
  · cases h
theorem tb9_ok : TabOK Tryd.prog tb9 := fun f con h => by
  unfold tb9 at h
  split at h
  · cases h; exact c12
  · cases h; exact c15
  · cases h; exact c16
  · cases h; exact c24
  · cases h; exact c28
  · cases h
theorem ieq_self (a : Int) : ieq a a = true := by simp [ieq]
theorem beqB_self (a : Bool) : beqB a a = true := by cases a <;> rfl
theorem one_sm {i : Im} (h : oneI i = true) : smI i := by
  rw [oneI_t] at h
  exact ⟨by omega, by omega, fun x hx => by have := h.1 x hx; omega⟩
theorem few_sm {l : List Im} (h : fewI l = true) : smL l := by
  rw [fewI_t] at h
  exact ⟨by omega, fun i hi => one_sm (h.1 i hi)⟩
theorem firstZ_self (a : List Im) : firstZ a a = -1 := first_none rfl
theorem first_symm : ∀ {a b : List Im}, firstZ a b = firstZ b a
  | [], [] => rfl
  | [], _ :: _ => rfl
  | _ :: _, [] => rfl
  | x :: a, y :: b => by
    simp only [firstZ]
    rw [@first_symm a b]
    by_cases h : x = y
    · rw [if_pos h, if_pos h.symm]
    · rw [if_neg h, if_neg (fun e => h e.symm)]
theorem c3 : ConOK Tryd.prog 3 con3 := by
  refine conOK_of_exec (inl := noInl) noInl_ok (lp := noLp) (tb := tb3) (c := bodyOf Tryd.f3) ⟨tt_ok, tb3_ok⟩ mixed Tryd.func3 (by kernel_rfl) (by kernel_rfl) ?_
  intro dat hpre hwt
  have hw0 := wts1 hwt
  obtain ⟨d0, rfl, w0⟩ := hw0
  refine Eq.mpr (vc3 d0) ?_
  simp only [ile_t, ile_f, ilt_t, ilt_f, ieq_t, ieq_f, bnot_t, bnot_f, band_t, band_f, true_and, and_true, lenI, implies_true, imp_false, not_true_eq_false, not_false_eq_true, and_self, and_false, false_and, Int.not_lt, Int.not_le, Classical.not_not, imOf_mk, imOf_eta, ieq_self]
  exact fun h => ⟨one_sm h, one_sm h, by simp⟩
theorem c4 : ConOK Tryd.prog 4 con4 := by
  refine conOK_of_exec (inl := noInl) noInl_ok (lp := noLp) (tb := tb4) (c := bodyOf Tryd.f4) ⟨tt_ok, tb4_ok⟩ mixed Tryd.func4 (by kernel_rfl) (by kernel_rfl) ?_
  intro dat hpre hwt
  have hw0 := wts2 hwt
  obtain ⟨d0, d1, rfl, w0, w1⟩ := hw0
  refine Eq.mpr (vc4 d0 d1) ?_
  simp only [ile_t, ile_f, ilt_t, ilt_f, ieq_t, ieq_f, bnot_t, bnot_f, band_t, band_f, true_and, and_true, lenI, implies_true, imp_false, not_true_eq_false, not_false_eq_true, and_self, and_false, false_and, Int.not_lt, Int.not_le, Classical.not_not, ieq_self, sameZ_self, firstZ_self]
  exact fun h _ => ⟨few_sm h, few_sm h, by simp, by simp⟩
theorem c5 : ConOK Tryd.prog 5 con5 := by
  refine conOK_of_exec (inl := noInl) noInl_ok (lp := noLp) (tb := tb5) (c := bodyOf Tryd.f5) ⟨tt_ok, tb5_ok⟩ mixed Tryd.func5 (by kernel_rfl) (by kernel_rfl) ?_
  intro dat hpre hwt
  have hw0 := wts2 hwt
  obtain ⟨d0, d1, rfl, w0, w1⟩ := hw0
  refine Eq.mpr (vc5 d0 d1) ?_
  simp only [ile_t, ile_f, ilt_t, ilt_f, ieq_t, ieq_f, bnot_t, bnot_f, band_t, band_f, true_and, and_true, lenI, implies_true, imp_false, not_true_eq_false, not_false_eq_true, and_self, and_false, false_and, Int.not_lt, Int.not_le, Classical.not_not, imOf_mk, imOf_eta, ieq_self, sameZ_self, firstZ_self, beqB_self]
  intro h h2 h3 h4
  have h5 := h
  rw [fewI_t, ims_len] at h5
  have h6 := few_sm h
  have h7 := one_sm h4
  refine ⟨⟨h6, h7, by omega, by omega⟩, ⟨h6, h7, by omega, by omega⟩, ⟨fun _ => ⟨fun _ => ⟨h6, h6, by simp⟩, by simp⟩, by simp⟩⟩
theorem c6 : ConOK Tryd.prog 6 con6 := by
  refine conOK_of_exec (inl := noInl) noInl_ok (lp := noLp) (tb := tb6) (c := bodyOf Tryd.f6) ⟨tt_ok, tb6_ok⟩ mixed Tryd.func6 (by kernel_rfl) (by kernel_rfl) ?_
  intro dat hpre hwt
  have hw0 := wts2 hwt
  obtain ⟨d0, d1, rfl, w0, w1⟩ := hw0
  refine Eq.mpr (vc6 d0 d1) ?_
  simp only [ile_t, ile_f, ilt_t, ilt_f, ieq_t, ieq_f, bnot_t, bnot_f, band_t, band_f, true_and, and_true, lenI, implies_true, imp_false, not_true_eq_false, not_false_eq_true, and_self, and_false, false_and, Int.not_lt, Int.not_le, Classical.not_not, ieq_self]
  exact fun _ _ _ _ => ⟨fun _ => first_symm, by simp⟩
theorem bld_0 {id : List UInt8} {l : List D} (h : (bldZ id l).e = 0) : bldE id (ims l) = 0 := by
  by_cases h1 : bldE id (ims l) = 0
  · exact h1
  · rw [← (bld_err (l := l) rfl h1).2] at h; exact h
theorem first_nn : ∀ {a b : List Im}, 0 ≤ firstZ a b → firstZ a b ≤ a.length ∧ firstZ a b ≤ b.length ∧ ∀ j : Nat, (j : Int) < firstZ a b → a[j]? = b[j]?
  | [], [], h => by simp [firstZ] at h
  | [], y :: b, h => by simp only [firstZ]; exact ⟨by simp, by simp; omega, fun j hj => by omega⟩
  | x :: a, [], h => by simp only [firstZ]; exact ⟨by simp; omega, by simp, fun j hj => by omega⟩
  | x :: a, y :: b, h => by
    simp only [firstZ] at h ⊢
    by_cases e : x = y
    · rw [if_pos e] at h ⊢
      by_cases h2 : firstZ a b < 0
      · rw [if_pos h2] at h; omega
      · rw [if_neg h2] at h ⊢
        obtain ⟨h3, h4, h5⟩ := first_nn (a := a) (b := b) (by omega)
        refine ⟨by simp; omega, by simp; omega, fun j hj => ?_⟩
        cases j with
        | zero => simp [e]
        | succ j => simpa using h5 j (by omega)
    · rw [if_neg e]; exact ⟨by simp; omega, by simp; omega, fun j hj => by omega⟩
theorem chTo_pre {s : Int} {a b : List D} : ∀ {i : Nat}, (∀ j : Nat, j < i → (elt a (j : Int)).l = (elt b (j : Int)).l) → chTo s a i = chTo s b i
  | 0, _ => rfl
  | i + 1, h => by rw [chTo, chTo, chTo_pre fun j hj => h j (by omega), h i (by omega)]
theorem chZ_len {c : List UInt8} {L : List Im} : (chZ c L).length = L.length := by simp [chZ, chainZ, mkL_len]
theorem ch_elt {L : List Im} {j : Nat} : elt (L.map fun i => D.list (desZ i)) (j : Int) = match L[j]? with | some i => .list (desZ i) | none => elt ([] : List D) (j : Int) := by
  unfold elt
  cases h : L[j]? with
  | none => simp [List.getD, h]
  | some i => simp [List.getD, h]
theorem xsub_mkL {n k : Nat} {f : Nat → D} (h : k ≤ n) : xsub (mkL n f) 0 (k : Int) = mkL k f := by
  refine mkL_eq (by simp [xsub, mkL_len]; omega) fun i hi => ?_
  rw [elt_get (by simp [xsub, mkL_len]; omega)]
  simp [xsub, mkL]
theorem ch_pre {c : List UInt8} {A B : List Im} {k : Nat} (hA : k ≤ A.length) (hB : k ≤ B.length) (h : ∀ j, j < k → A[j]? = B[j]?) : xsub (chZ c A) 0 (k : Int) = xsub (chZ c B) 0 (k : Int) := by
  unfold chZ chainZ
  rw [xsub_mkL (by simpa using hA), xsub_mkL (by simpa using hB)]
  refine mkL_congr fun i hi => ?_
  rw [chTo_pre (b := B.map fun i => D.list (desZ i)) fun j hj => by rw [ch_elt, ch_elt, h j (by omega)]]
theorem c9 : ConOK Tryd.prog 9 con9 := by
  refine conOK_of_exec (inl := noInl) noInl_ok (lp := noLp) (tb := tb9) (c := bodyOf Tryd.f9) ⟨tt_ok, tb9_ok⟩ mixed Tryd.func9 (by kernel_rfl) (by kernel_rfl) ?_
  intro dat hpre hwt
  have hw0 := wts3 hwt
  obtain ⟨d0, d1, d2, rfl, w0, w1, w2⟩ := hw0
  refine Eq.mpr (vc9 d0 d1 d2) ?_
  simp only [ile_t, ile_f, ilt_t, ilt_f, ieq_t, ieq_f, bnot_t, bnot_f, band_t, band_f, true_and, and_true, lenI]
  refine ⟨fun _ => trivial, fun h1 => ⟨fun _ => trivial, fun h2 => ⟨fun _ => trivial, fun h3 => ⟨few_sm h1, few_sm h2, fun _ => trivial, fun e1 => ⟨fun _ => trivial, fun e2 => ?_⟩⟩⟩⟩⟩
  rw [bld_ok (bld_0 e1), bld_ok (bld_0 e2)]
  simp only [chZ_len]
  generalize ims d1.l = A
  generalize ims d2.l = B
  refine ⟨fun hn => ?_, fun hn => ?_⟩
  · rw [first_neg hn, sameZ_self]; simp
  · obtain ⟨f1, f2, f3⟩ := first_nn hn
    obtain ⟨k, hk⟩ : ∃ k : Nat, firstZ A B = k := ⟨(firstZ A B).toNat, by omega⟩
    rw [hk] at f1 f2 f3 ⊢
    refine ⟨fun _ => ⟨fun _ => ⟨by omega, by omega, fun _ => trivial, fun h => ?_⟩, fun h => by omega⟩, fun h => by omega⟩
    rw [ch_pre (B := B) (by omega) (by omega) (fun j hj => f3 j (by omega)), sameZ_self] at h
    cases h
end Go.Proofs.YtafpahkcjdfpiaaDoor
