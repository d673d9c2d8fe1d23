/- Part of the proof of the laws of this seat: contracts of its functions, for every input. -/
import Derived.Test.YtkjohnjhdfblcaaDoorWD
set_option linter.all false
namespace Go.Proofs.YtkjohnjhdfblcaaDoor
open Go Go.RX Go.Proofs
set_option maxRecDepth 100000
set_option linter.all false
theorem noBytes : (ByteArray.mk (List.toArray ([] : List UInt8))).data.toList = [] := rfl
theorem wrap_u8' {a : Int} (h : 0 ≤ a ∧ a ≤ 255) : IntKind.wrap .u8 a = a := by rw [IntKind.wrap_u8]; omega
theorem sget_get {s : List UInt8} {j : Nat} (h : j < s.length) : sget s (j : Int) = (s[j].toNat : Int) := by
  unfold sget
  rw [Int.toNat_natCast, List.getD_eq_getElem?_getD, List.getElem?_eq_getElem h]
  rfl
theorem sget_range (s : List UInt8) (j : Nat) : 0 ≤ sget s (j : Int) ∧ sget s (j : Int) ≤ 255 := by
  unfold sget
  have := (s.getD (j : Int).toNat 0).toNat_lt
  omega
theorem all_get {p : UInt8 → Bool} {s : List UInt8} : s.all p = true ↔ ∀ j (h : j < s.length), p s[j] = true := by
  rw [List.all_eq_true]
  exact ⟨fun h j hj => h _ (List.getElem_mem hj), fun h x hx => by obtain ⟨j, hj, rfl⟩ := List.getElem_of_mem hx; exact h j hj⟩
theorem allOk {s : List UInt8} : s.all okC = true ↔ ∀ j, j < s.length → 32 ≤ sget s (j : Int) ∧ sget s (j : Int) ≤ 126 := by
  rw [all_get]
  refine ⟨fun h j hj => ?_, fun h j hj => ?_⟩
  · have := h j hj
    simp only [okC, Bool.and_eq_true, decide_eq_true_eq] at this
    rw [sget_get hj]; omega
  · have := h j hj
    rw [sget_get hj] at this
    simp only [okC, Bool.and_eq_true, decide_eq_true_eq]; omega
theorem allDg {s : List UInt8} : dgAll s = true ↔ ∀ j, j < s.length → 48 ≤ sget s (j : Int) ∧ sget s (j : Int) ≤ 57 := by
  unfold dgAll
  rw [all_get]
  refine ⟨fun h j hj => ?_, fun h j hj => ?_⟩
  · have := h j hj
    simp only [dg, Bool.and_eq_true, decide_eq_true_eq] at this
    rw [sget_get hj]; omega
  · have := h j hj
    rw [sget_get hj] at this
    simp only [dg, Bool.and_eq_true, decide_eq_true_eq]; omega
theorem oneZ_t {s : List UInt8} : oneZ s = true ↔ 1 ≤ s.length ∧ s.length ≤ 512 ∧ ∀ j, j < s.length → 33 ≤ sget s (j : Int) ∧ sget s (j : Int) ≤ 126 := by
  unfold oneZ
  rw [Bool.and_eq_true, Bool.and_eq_true, all_get, decide_eq_true_eq, decide_eq_true_eq]
  refine and_congr Iff.rfl (and_congr Iff.rfl ⟨fun h j hj => ?_, fun h j hj => ?_⟩)
  · have := h j hj
    simp only [Bool.and_eq_true, decide_eq_true_eq] at this
    rw [sget_get hj]; omega
  · have := h j hj
    rw [sget_get hj] at this
    simp only [Bool.and_eq_true, decide_eq_true_eq]; omega
theorem seq_nil {s : List UInt8} : (seq' s [] = true) = (s = []) := by simp [seq']
theorem seq_nil_f {s : List UInt8} : (seq' s [] = false) = (s ≠ []) := by simp [seq']
theorem snoc_all {p : Nat → Prop} {g : Nat} (h : ∀ j, j < g → p j) (hg : p g) : ∀ j, j < g + 1 → p j := fun j hj => by
  rcases Nat.lt_succ_iff_lt_or_eq.1 hj with h3 | rfl
  · exact h j h3
  · exact hg
theorem splitD_len {s : List UInt8} : (splitD s).length = s.count 32 + 1 := by
  have hk := Lib.splitB_all blank (by decide) 0 _ ⟨⟨s⟩⟩ rfl
  unfold splitD
  rw [List.length_map, hk]
  congr 1
  exact Lib.count_one 32 s
theorem splitD_one {s : List UInt8} (h : s.count 32 = 0) : splitD s = [.str s] := by
  have e : Lib.countB ⟨⟨s⟩⟩ blank = 0 := (Lib.count_one 32 s).trans h
  unfold splitD
  rw [e]
  rfl
theorem tb62_ok : TabOK Tryd.prog tb62 := fun f con h => by
  unfold tb62 at h
  split at h
  · cases h; exact c70
  · cases h
theorem c62 : ConOK Tryd.prog 62 con62 := by
  refine conOK_of_exec (inl := noInl) noInl_ok (lp := lp62) (tb := tb62) (c := bodyOf Tryd.f62) ⟨tt_ok, tb62_ok⟩ mixed Tryd.func62 (by kernel_rfl) (by kernel_rfl) ?_
  intro dat hpre hwt
  obtain ⟨d0, rfl, w0⟩ := wts1 hwt
  refine Eq.mpr (vc62 d0) ?_
  have hs := (wt_s w0).2
  simp only [ile_t, ile_f, ilt_t, ilt_f, ieq_t, ieq_f, bnot_t, bnot_f, band_t, band_f, true_and, and_true, lenI, noBytes, lenS, seq_nil, seq_nil_f, Int.toNat_natCast]
  generalize d0.s = s at *
  have f4 : 512 < s.length → fieldsZ s = ⟨[], 4⟩ := fun h => by unfold fieldsZ; rw [if_pos h]
  refine ⟨fun h => by rw [f4 (by omega)]; exact ⟨rfl, rfl⟩, fun h1 => ⟨fun h => ?_, fun h2 => ?_⟩⟩
  · have : fieldsZ s = ⟨[], 0⟩ := by unfold fieldsZ; rw [if_neg (by omega), if_pos h]
    rw [this]; exact ⟨rfl, rfl⟩
  have f5 : ∀ g, g < s.length → ¬ (32 ≤ sget s (g : Int) ∧ sget s (g : Int) ≤ 126) → fieldsZ s = ⟨[], 5⟩ := fun g hg h => by
    unfold fieldsZ; rw [if_neg (by omega), if_neg h2, if_pos]
    rw [← Bool.not_eq_true, allOk]
    exact fun h3 => h (h3 g hg)
  refine ⟨⟨0, ⟨by omega, fun j hj => by omega⟩, rfl⟩, fun g hg => ⟨fun hlt => ⟨by omega, fun h => ?_, fun h => ⟨by omega, fun h' => ?_, fun h' => ⟨g + 1, ⟨by omega, snoc_all hg.2 ⟨h, h'⟩⟩, by omega, by rw [iadd_eq (by omega)]; rfl⟩⟩⟩, fun hge => ⟨by omega, ⟨0, ⟨by omega, fun j hj => by omega⟩, rfl⟩, fun k hk => ⟨fun hlt => ⟨by omega, fun h => ?_, fun h => ⟨k + 1, ⟨by omega, snoc_all hk.2 h⟩, by omega, ?_⟩⟩, fun hge2 => ?_⟩⟩⟩⟩
  · rw [f5 g (by omega) (by omega)]; exact ⟨rfl, rfl⟩
  · rw [f5 g (by omega) (by omega)]; exact ⟨rfl, rfl⟩
  · have ha : s.all okC = true := allOk.2 fun j hj => hg.2 j (by omega)
    have : fieldsZ s = ⟨[], 5⟩ := by
      unfold fieldsZ; rw [if_neg (by omega), if_neg h2, if_neg (by simp [ha]), if_pos]
      rw [List.all_eq_false]
      exact ⟨elt (splitD s) (k : Int), elt_mem (by omega), by simp [h]⟩
    rw [this]; exact ⟨rfl, rfl⟩
  · have hl := @splitD_len s
    have hc : s.count 32 ≤ s.length := List.count_le_length
    rw [iadd_eq (by omega)]; rfl
  · have ha : s.all okC = true := allOk.2 fun j hj => hg.2 j (by omega)
    have : fieldsZ s = ⟨splitD s, 0⟩ := by
      unfold fieldsZ; rw [if_neg (by omega), if_neg h2, if_neg (by simp [ha]), if_neg]
      rw [List.all_eq_false]
      rintro ⟨x, hx, h3⟩
      obtain ⟨j, hj, rfl⟩ := List.getElem_of_mem hx
      have := hk.2 j (by omega)
      rw [elt_get hj] at this
      simp at h3
      exact this h3
    rw [this]; exact ⟨rfl, rfl⟩
theorem tb47_ok : TabOK Tryd.prog tb47 := fun f con h => by
  unfold tb47 at h
  split at h
  · cases h; exact c62
  · cases h
theorem one1 {s : List UInt8} : ((fieldsZ s).e = 0 ∧ (fieldsZ s).l.length = 1) ↔ oneZ s = true := by
  have hl := @splitD_len s
  rw [oneZ_t]
  unfold fieldsZ
  by_cases h1 : 512 < s.length
  · rw [if_pos h1]; simp; omega
  rw [if_neg h1]
  by_cases h2 : s = []
  · rw [if_pos h2]; subst h2; simp
  rw [if_neg h2]
  by_cases h3 : s.all okC = true
  · rw [if_neg (by simp [h3])]
    rw [allOk] at h3
    have hpos : 1 ≤ s.length := by cases s with
      | nil => exact absurd rfl h2
      | cons => simp
    by_cases h4 : s.count 32 = 0
    · have h5 := splitD_one h4
      rw [if_neg (by rw [h5]; simp [h2, D.s])]
      have h6 : ∀ j, j < s.length → sget s (j : Int) ≠ 32 := fun j hj e => by
        rw [sget_get hj] at e
        have : s[j] = 32 := by
          apply UInt8.toNat_inj.1
          show _ = 32
          omega
        have h7 := List.count_pos_iff.2 (List.getElem_mem hj)
        rw [this] at h7
        omega
      simp only
      refine ⟨fun _ => ⟨hpos, by omega, fun j hj => ?_⟩, fun _ => ⟨trivial, by omega⟩⟩
      have := h3 j hj
      have := h6 j hj
      omega
    · refine ⟨fun h => ?_, fun h => ?_⟩
      · exfalso
        split at h
        · exact absurd h.1 (by simp)
        · have := h.2
          simp only at this
          omega
      · exfalso
        obtain ⟨j, hj, e⟩ := List.getElem_of_mem (List.count_pos_iff.1 (Nat.pos_of_ne_zero h4))
        have := h.2.2 j hj
        rw [sget_get hj, e] at this
        exact absurd this.1 (by decide)
  · rw [if_pos (by simpa using h3)]
    simp only
    refine ⟨fun h => absurd h.1 (by decide), fun h => ?_⟩
    exfalso
    apply h3
    rw [allOk]
    intro j hj
    have := h.2.2 j hj
    omega
theorem c47 : ConOK Tryd.prog 47 con47 := by
  refine conOK_of_exec (inl := noInl) noInl_ok (lp := noLp) (tb := tb47) (c := bodyOf Tryd.f47) ⟨tt_ok, tb47_ok⟩ mixed Tryd.func47 (by kernel_rfl) (by kernel_rfl) ?_
  intro dat hpre hwt
  obtain ⟨d0, rfl, w0⟩ := wts1 hwt
  refine Eq.mpr (vc47 d0) ?_
  simp only [ile_t, ile_f, ilt_t, ilt_f, ieq_t, ieq_f, bnot_t, bnot_f, band_t, band_f, true_and, and_true, lenI]
  have h := @one1 d0.s
  refine ⟨fun h1 => ?_, fun h1 => ?_⟩
  · refine bool_eq ?_
    rw [ieq_t, ← h]
    constructor
    · intro h2; exact ⟨h1, by omega⟩
    · intro h2; omega
  · rw [← Bool.not_eq_true, ← h]
    exact fun h2 => h1 h2.1
theorem c66 : ConOK Tryd.prog 66 con66 := by
  refine conOK_of_exec (inl := noInl) noInl_ok (lp := lp66) (tb := tbN) (c := bodyOf Tryd.f66) ⟨tt_ok, tbN_ok⟩ mixed Tryd.func66 (by kernel_rfl) (by kernel_rfl) ?_
  intro dat hpre hwt
  obtain ⟨d0, rfl, w0⟩ := wts1 hwt
  refine Eq.mpr (vc66 d0) ?_
  have hs : d0.s.length ≤ 1000 := hpre
  simp only [ile_t, ile_f, ilt_t, ilt_f, ieq_t, ieq_f, bnot_t, bnot_f, band_t, band_f, true_and, and_true, lenI, noBytes, lenS]
  generalize d0.s = s at *
  have hno : ∀ g, g < s.length → ¬ (48 ≤ sget s (g : Int) ∧ sget s (g : Int) ≤ 57) → sumZ s = -1 := fun g hg h => by
    unfold sumZ; rw [if_neg]
    rw [allDg]
    exact fun h3 => h (h3 g hg)
  have hR : ∀ g, g ≤ s.length → (∀ j, j < g → 48 ≤ sget s (j : Int) ∧ sget s (j : Int) ≤ 57) → 0 ≤ luTo s g ∧ luTo s g ≤ 9 * g := fun g => by
    induction g with
    | zero => intro _ _; simp [luTo]
    | succ g ih =>
      intro h1 h2
      have := ih (by omega) fun j hj => h2 j (by omega)
      have := h2 g (by omega)
      rw [luTo]
      unfold luD
      split <;> (try split) <;> omega
  refine ⟨⟨0, ⟨by omega, fun j hj => by omega⟩, rfl, rfl⟩, fun g hg => ⟨fun hlt => ⟨by omega, fun h => (hno g (by omega) (by omega)).symm, fun h => ⟨by omega, fun h' => (hno g (by omega) (by omega)).symm, fun h' => ?_⟩⟩, fun hge => ?_⟩⟩
  · have e1 : isub .u8 (sget s (g : Int)) 48 = sget s (g : Int) - 48 := wrap_u8' (by omega)
    have e2 : iconv .i64 (sget s (g : Int) - 48) = sget s (g : Int) - 48 := iconv_eq (by omega)
    have e3 : imul .i64 2 (sget s (g : Int) - 48) = 2 * (sget s (g : Int) - 48) := imul_eq (by omega)
    have e4 : irem (g : Int) 2 = ((g % 2 : Nat) : Int) := by rw [irem_eq (by omega)]; rfl
    have e5 : isub .i64 (2 * (sget s (g : Int) - 48)) 9 = 2 * (sget s (g : Int) - 48) - 9 := isub_eq (by omega)
    have e6 : iadd .i64 (g : Int) 1 = ((g + 1 : Nat) : Int) := by rw [iadd_eq (by omega)]; rfl
    have hr := hR g hg.1 hg.2
    rw [e1, e2, e3, e4, e5, e6]
    have hN : luTo s (g + 1) = luTo s g + luD (sget s (g : Int)) g := rfl
    have nx : ∀ x, luD (sget s (g : Int)) g = x → iadd .i64 (luTo s g) x = luTo s (g + 1) := fun x hx => by
      rw [hN, hx, iadd_eq]
      have := hR (g + 1) (by omega) (snoc_all hg.2 ⟨h, h'⟩)
      rw [hN, hx] at this
      omega
    refine ⟨by omega, by decide, fun hp => ⟨fun h9 => ⟨g + 1, ⟨by omega, snoc_all hg.2 ⟨h, h'⟩⟩, by omega, nx _ ?_, rfl⟩, fun h9 => ⟨g + 1, ⟨by omega, snoc_all hg.2 ⟨h, h'⟩⟩, by omega, nx _ ?_, rfl⟩⟩, fun hp => ⟨fun h9 => by omega, fun h9 => ⟨g + 1, ⟨by omega, snoc_all hg.2 ⟨h, h'⟩⟩, by omega, nx _ ?_, rfl⟩⟩⟩
    · unfold luD; rw [if_pos (by omega), if_pos h9]
    · unfold luD; rw [if_pos (by omega), if_neg (by omega)]
    · unfold luD; rw [if_neg (by omega)]
  · obtain rfl : g = s.length := by omega
    unfold sumZ; rw [if_pos (allDg.2 hg.2)]
theorem tb49_ok : TabOK Tryd.prog tb49 := fun f con h => by
  unfold tb49 at h
  split at h
  · cases h; exact c63
  · cases h; exact c64
  · cases h
theorem tb53_ok : TabOK Tryd.prog tb53 := fun f con h => by
  unfold tb53 at h
  split at h
  · cases h; exact c66
  · cases h
theorem c49 : ConOK Tryd.prog 49 con49 := by
  refine conOK_of_exec (inl := noInl) noInl_ok (lp := noLp) (tb := tb49) (c := bodyOf Tryd.f49) ⟨tt_ok, tb49_ok⟩ mixed Tryd.func49 (by kernel_rfl) (by kernel_rfl) ?_
  intro dat hpre hwt
  obtain ⟨d0, rfl, w0⟩ := wts1 hwt
  refine Eq.mpr (vc49 d0) ?_
  simp only [ile_t, ile_f, ilt_t, ilt_f, ieq_t, ieq_f, bnot_t, bnot_f, band_t, band_f, true_and, and_true, lenI]
  simp only [Bool.and_eq_true, Bool.and_eq_false_iff, decide_eq_true_eq, decide_eq_false_iff_not]
  generalize d0.s = s at *
  have c0 : s.length = 12 ∧ dgAll s = true ∧ luTo s 12 % 10 = 0 → tagZ s = 0 := fun h => by unfold tagZ; rw [if_pos h]
  have c1 : ¬ (s.length = 12 ∧ dgAll s = true ∧ luTo s 12 % 10 = 0) → tagZ s = 18 := fun h => by unfold tagZ; rw [if_neg h]
  refine ⟨fun h => ?_, fun h => ?_⟩
  · rw [c1]
    rintro ⟨h1, h2, _⟩
    rcases h with h | h
    · rw [h2] at h; cases h
    · omega
  · obtain ⟨h1, h2⟩ := h
    have h3 : s.length = 12 := by omega
    have hr := luTo_range (s := ⟨⟨s⟩⟩) h1 (i := s.length) (Nat.le_refl _)
    have hr1 : 0 ≤ luTo s s.length := hr.1
    rw [h3] at hr1 ⊢
    have e : irem (luTo s 12) 10 = luTo s 12 % 10 := irem_eq hr1
    rw [e]
    exact ⟨⟨h1, by omega⟩, by decide, fun h => (c1 (fun h4 => h h4.2.2)).symm, fun h => (c0 ⟨h3, h1, h⟩).symm⟩
theorem c53 : ConOK Tryd.prog 53 con53 := by
  refine conOK_of_exec (inl := noInl) noInl_ok (lp := noLp) (tb := tb53) (c := bodyOf Tryd.f53) ⟨tt_ok, tb53_ok⟩ mixed Tryd.func53 (by kernel_rfl) (by kernel_rfl) ?_
  intro dat hpre hwt
  obtain ⟨d0, rfl, w0⟩ := wts1 hwt
  refine Eq.mpr (vc53 d0) ?_
  simp only [ile_t, ile_f, ilt_t, ilt_f, ieq_t, ieq_f, bnot_t, bnot_f, band_t, band_f, true_and, and_true, lenI, lenS]
  generalize d0.s = s at *
  have c0 : s.length = 12 ∧ dgAll s = true ∧ luTo s 12 % 10 = 0 → tagZ s = 0 := fun h => by unfold tagZ; rw [if_pos h]
  have c1 : ¬ (s.length = 12 ∧ dgAll s = true ∧ luTo s 12 % 10 = 0) → tagZ s = 18 := fun h => by unfold tagZ; rw [if_neg h]
  refine ⟨fun h => (c1 (fun h2 => by omega)).symm, fun h => ?_⟩
  have h3 : s.length = 12 := by omega
  by_cases hd : dgAll s = true
  · have hr := luTo_range (s := ⟨⟨s⟩⟩) hd (i := s.length) (Nat.le_refl _)
    have hr1 : 0 ≤ luTo s s.length := hr.1
    have e0 : sumZ s = luTo s 12 := by unfold sumZ; rw [if_pos hd, h3]
    rw [h3] at hr1
    have e : irem (luTo s 12) 10 = luTo s 12 % 10 := irem_eq hr1
    rw [e0, e]
    exact ⟨by omega, fun h => by omega, fun _ => ⟨by decide, fun h => (c1 (fun h4 => h h4.2.2)).symm, fun h => (c0 ⟨h3, hd, h⟩).symm⟩⟩
  · have e0 : sumZ s = -1 := by unfold sumZ; rw [if_neg hd]
    rw [e0]
    exact ⟨by omega, fun _ => (c1 (fun h4 => hd h4.2.1)).symm, fun h => by omega⟩
theorem skC_t {c : Int} : (skC c = true) = (c = 32 ∨ c = 45) := by simp [skC]
theorem alC_t {c : Int} : (alC c = true) = ((65 ≤ c ∧ c ≤ 90) ∨ (48 ≤ c ∧ c ≤ 57)) := by simp [alC]
theorem up_lo {c : Int} (h : 97 ≤ c) (h' : c ≤ 122) : isub .u8 c 32 = upC c := by
  unfold upC; rw [if_pos ⟨h, h'⟩]
  exact wrap_u8' (by omega)
theorem up_id {c : Int} (h : ¬ (97 ≤ c ∧ c ≤ 122)) : c = upC c := by unfold upC; rw [if_neg h]
theorem up_sk {c : Int} (h : upC c = 32 ∨ upC c = 45) : skC c = true := by
  rw [skC_t]
  unfold upC at h
  split at h <;> omega
theorem out_mono {s : List UInt8} {i : Nat} : ∀ {j : Nat}, i ≤ j → (outTo s i).length ≤ (outTo s j).length
  | 0, h => by obtain rfl : i = 0 := by omega
               exact Nat.le_refl _
  | j + 1, h => by
    by_cases e : i = j + 1
    · rw [e]; exact Nat.le_refl _
    · have := out_mono (s := s) (i := i) (j := j) (by omega)
      rw [outTo]
      split
      · exact this
      · rw [xcat_len]; simp; omega
theorem pl_bad {s : List UInt8} {g : Nat} (hg : g < s.length) (h : badAt s g = true) : plZ s = ⟨[], 19⟩ := by
  unfold plZ; rw [if_pos]
  exact .inl (List.any_eq_true.2 ⟨g, List.mem_range.2 hg, h⟩)
theorem pl_ok {s : List UInt8} (h : ∀ j, j < s.length → badAt s j = false) : plZ s = if (outTo s s.length).length < 2 ∨ 10 < (outTo s s.length).length then ⟨[], 19⟩ else ⟨strD (outTo s s.length), 0⟩ := by
  have hn : ¬ (List.range s.length).any (badAt s) = true := by
    rw [List.any_eq_true]
    rintro ⟨x, hx, h2⟩
    rw [h x (List.mem_range.1 hx)] at h2
    cases h2
  unfold plZ
  by_cases hc : (outTo s s.length).length < 2 ∨ 10 < (outTo s s.length).length
  · rw [if_pos (.inr hc), if_pos hc]
  · rw [if_neg (fun h3 => h3.elim hn hc), if_neg hc]
theorem pl_long {s : List UInt8} (h : 10 < (outTo s s.length).length) : plZ s = ⟨[], 19⟩ := by
  unfold plZ; rw [if_pos (.inr (.inr h))]
theorem bad_sk {s : List UInt8} {g : Nat} (h : skC (sget s (g : Int)) = true) : badAt s g = false := by unfold badAt; rw [h]; rfl
theorem bad_al {s : List UInt8} {g : Nat} (h : alC (upC (sget s (g : Int))) = true) : badAt s g = false := by unfold badAt; rw [h]; simp
theorem bad_no {s : List UInt8} {g : Nat} (h : ¬ skC (sget s (g : Int)) = true) (h' : ¬ alC (upC (sget s (g : Int))) = true) : badAt s g = true := by
  unfold badAt; simp at h h'; rw [h, h']; rfl
theorem c48 : ConOK Tryd.prog 48 con48 := by
  refine conOK_of_exec (inl := noInl) noInl_ok (lp := lp48) (tb := tbN) (c := bodyOf Tryd.f48) ⟨tt_ok, tbN_ok⟩ mixed Tryd.func48 (by kernel_rfl) (by kernel_rfl) ?_
  intro dat hpre hwt
  obtain ⟨d0, rfl, w0⟩ := wts1 hwt
  refine Eq.mpr (vc48 d0) ?_
  have hs : d0.s.length ≤ 1000000 := hpre
  simp only [ile_t, ile_f, ilt_t, ilt_f, ieq_t, ieq_f, bnot_t, bnot_f, band_t, band_f, true_and, and_true, lenI, noBytes, lenS]
  generalize d0.s = s at *
  refine ⟨⟨0, ⟨by omega, by simp [outTo], fun j hj => by omega⟩, rfl, rfl⟩, fun g hg => ⟨fun hlt => ?_, fun hge => ?_⟩⟩
  · obtain ⟨g1, g2, g3⟩ := hg
    have e6 : iadd .i64 (g : Int) 1 = ((g + 1 : Nat) : Int) := by rw [iadd_eq (by omega)]; rfl
    have hR := sget_range s g
    have hO1 : skC (sget s (g : Int)) = true → outTo s (g + 1) = outTo s g := fun h => by rw [outTo, if_pos h]
    have hO2 : ¬ skC (sget s (g : Int)) = true → outTo s (g + 1) = xcat (outTo s g) [.int (upC (sget s (g : Int)))] := fun h => by rw [outTo, if_neg h]
    have hsk : skC (sget s (g : Int)) = true → ∃ g', (g' ≤ s.length ∧ (outTo s g').length ≤ 10 ∧ ∀ j, j < g' → badAt s j = false) ∧ s.length - g' < s.length - g ∧ iadd .i64 (g : Int) 1 = (g' : Int) ∧ outTo s g = outTo s g' := fun h =>
      ⟨g + 1, ⟨by omega, by rw [hO1 h]; exact g2, snoc_all g3 (bad_sk h)⟩, by omega, e6, (hO1 h).symm⟩
    have hbad : ¬ skC (sget s (g : Int)) = true → ¬ alC (upC (sget s (g : Int))) = true → [] = (plZ s).s ∧ 19 = (plZ s).e := fun h h' => by
      rw [pl_bad (by omega) (bad_no h h')]; exact ⟨rfl, rfl⟩
    have hten : ¬ skC (sget s (g : Int)) = true → (outTo s g).length = 10 → [] = (plZ s).s ∧ 19 = (plZ s).e := fun h h' => by
      have h1 := @out_mono s (g + 1) s.length (by omega)
      rw [hO2 h, xcat_len] at h1
      simp at h1
      rw [pl_long (by omega)]; exact ⟨rfl, rfl⟩
    refine ⟨by omega, ⟨fun h => ⟨fun h' => ⟨(), up_lo h h'⟩, fun h' => ⟨(), up_id (by omega)⟩⟩, fun h => ⟨(), up_id (by omega)⟩⟩, fun _ _ => ⟨fun h => hsk (up_sk (.inl h)), fun h1 => ⟨fun h => hsk (up_sk (.inr h)), fun h2 => ?_⟩⟩⟩
    have hns : ¬ skC (sget s (g : Int)) = true := fun h => by
      rw [skC_t] at h
      have := @up_id (sget s (g : Int)) (by omega)
      omega
    generalize hu : upC (sget s (g : Int)) = u at *
    have aly : (65 ≤ u ∧ u ≤ 90) ∨ (48 ≤ u ∧ u ≤ 57) → alC u = true := fun h => by rw [alC_t]; exact h
    have aln : ¬ ((65 ≤ u ∧ u ≤ 90) ∨ (48 ≤ u ∧ u ≤ 57)) → ¬ alC u = true := fun h => by rw [alC_t]; exact h
    refine ⟨⟨fun q1 => ⟨fun q2 => hbad hns (aln (by omega)), fun q2 => ⟨fun q3 => hbad hns (aln (by omega)), fun q3 => ⟨fun q4 => hten hns (by omega), fun q4 => ⟨(), aly (by omega), by omega⟩⟩⟩⟩, fun q1 => ⟨fun q2 => ⟨fun q3 => hbad hns (aln (by omega)), fun q3 => ⟨fun q4 => hbad hns (aln (by omega)), fun q4 => by omega⟩⟩, fun q2 => ⟨fun q4 => hten hns (by omega), fun q4 => ⟨(), aly (by omega), by omega⟩⟩⟩⟩, fun _ hal => ⟨?_, g + 1, ⟨by omega, ?_, snoc_all g3 (bad_al (by rw [hu]; exact hal.1))⟩, by omega, e6, ?_⟩⟩
    · simp; omega
    · rw [hO2 hns, xcat_len]; simp; omega
    · rw [hO2 hns]
  · obtain rfl : g = s.length := by omega
    rw [pl_ok hg.2.2]
    refine ⟨fun h => ?_, fun h => ?_⟩
    · rw [if_pos (by omega)]; exact ⟨rfl, rfl⟩
    · rw [if_neg (by omega)]; exact ⟨rfl, rfl⟩
theorem out_le {s : List UInt8} : ∀ {i : Nat}, (outTo s i).length ≤ i
  | 0 => Nat.le_refl _
  | i + 1 => by
    have := @out_le s i
    rw [outTo]
    split
    · omega
    · rw [xcat_len]; simp; omega
theorem c52 : ConOK Tryd.prog 52 con52 := by
  refine conOK_of_exec (inl := noInl) noInl_ok (lp := lp52) (tb := tbN) (c := bodyOf Tryd.f52) ⟨tt_ok, tbN_ok⟩ mixed Tryd.func52 (by kernel_rfl) (by kernel_rfl) ?_
  intro dat hpre hwt
  obtain ⟨d0, rfl, w0⟩ := wts1 hwt
  refine Eq.mpr (vc52 d0) ?_
  have hs : d0.s.length ≤ 1000000 := hpre
  simp only [ile_t, ile_f, ilt_t, ilt_f, ieq_t, ieq_f, bnot_t, bnot_f, band_t, band_f, true_and, and_true, lenI, noBytes, lenS]
  generalize d0.s = s at *
  refine ⟨⟨0, ⟨by omega, fun j hj => by omega⟩, rfl, rfl⟩, fun g hg => ⟨fun hlt => ?_, fun hge => ?_⟩⟩
  · obtain ⟨g1, g3⟩ := hg
    have e6 : iadd .i64 (g : Int) 1 = ((g + 1 : Nat) : Int) := by rw [iadd_eq (by omega)]; rfl
    have hR := sget_range s g
    have hO1 : skC (sget s (g : Int)) = true → outTo s (g + 1) = outTo s g := fun h => by rw [outTo, if_pos h]
    have hO2 : ¬ skC (sget s (g : Int)) = true → outTo s (g + 1) = xcat (outTo s g) [.int (upC (sget s (g : Int)))] := fun h => by rw [outTo, if_neg h]
    have hsk : skC (sget s (g : Int)) = true → ∃ g', (g' ≤ s.length ∧ ∀ j, j < g' → badAt s j = false) ∧ s.length - g' < s.length - g ∧ iadd .i64 (g : Int) 1 = (g' : Int) ∧ outTo s g = outTo s g' := fun h =>
      ⟨g + 1, ⟨by omega, snoc_all g3 (bad_sk h)⟩, by omega, e6, (hO1 h).symm⟩
    have hbad : ¬ skC (sget s (g : Int)) = true → ¬ alC (upC (sget s (g : Int))) = true → [] = (plZ s).s ∧ 19 = (plZ s).e := fun h h' => by
      rw [pl_bad (by omega) (bad_no h h')]; exact ⟨rfl, rfl⟩
    have hol := @out_le s g
    refine ⟨by omega, fun h => hsk (by rw [skC_t]; exact .inl h), fun h1 => ⟨fun h => hsk (by rw [skC_t]; exact .inr h), fun h2 => ⟨⟨fun h => ⟨fun h' => ⟨(), up_lo h h'⟩, fun h' => ⟨(), up_id (by omega)⟩⟩, fun h => ⟨(), up_id (by omega)⟩⟩, fun _ _ => ?_⟩⟩⟩
    have hns : ¬ skC (sget s (g : Int)) = true := fun h => by
      rw [skC_t] at h
      omega
    generalize hu : upC (sget s (g : Int)) = u at *
    have aly : (65 ≤ u ∧ u ≤ 90) ∨ (48 ≤ u ∧ u ≤ 57) → alC u = true := fun h => by rw [alC_t]; exact h
    have aln : ¬ ((65 ≤ u ∧ u ≤ 90) ∨ (48 ≤ u ∧ u ≤ 57)) → ¬ alC u = true := fun h => by rw [alC_t]; exact h
    refine ⟨⟨fun q1 => ⟨fun q2 => ⟨(), aly (by omega)⟩, fun q2 => ⟨fun q3 => ⟨fun q4 => hbad hns (aln (by omega)), fun q4 => ⟨(), aly (by omega)⟩⟩, fun q3 => hbad hns (aln (by omega))⟩⟩, fun q1 => ⟨fun q3 => ⟨fun q4 => hbad hns (aln (by omega)), fun q4 => ⟨(), aly (by omega)⟩⟩, fun q3 => hbad hns (aln (by omega))⟩⟩, fun _ hal => ⟨?_, g + 1, ⟨by omega, snoc_all g3 (bad_al (by rw [hu]; exact hal))⟩, by omega, e6, ?_⟩⟩
    · simp; omega
    · rw [hO2 hns]
  · obtain rfl : g = s.length := by omega
    rw [pl_ok hg.2]
    refine ⟨fun h => ?_, fun h => ⟨fun h' => ?_, fun h' => ?_⟩⟩
    · rw [if_pos (by omega)]; exact ⟨rfl, rfl⟩
    · rw [if_pos (by omega)]; exact ⟨rfl, rfl⟩
    · rw [if_neg (by omega)]; exact ⟨rfl, rfl⟩
theorem pc_bounds {s : List UInt8} : ∀ {i : Nat}, (pcTo s i).st ≤ i ∧ (pcTo s i).l.length ≤ i
  | 0 => by simp [pcTo]
  | i + 1 => by
    have := @pc_bounds s i
    rw [pcTo]
    split
    · simp only [xcat_len]; simp; omega
    · omega
theorem pc_mono {s : List UInt8} {i : Nat} : ∀ {j : Nat}, i ≤ j → (pcTo s i).l.length ≤ (pcTo s j).l.length
  | 0, h => by obtain rfl : i = 0 := by omega
               exact Nat.le_refl _
  | j + 1, h => by
    by_cases e : i = j + 1
    · rw [e]; exact Nat.le_refl _
    · have := pc_mono (s := s) (i := i) (j := j) (by omega)
      rw [pcTo]
      split
      · simp only [xcat_len]; simp; omega
      · exact this
theorem sepAt_t {s : List UInt8} {i : Nat} : (sepAt s i = true) = (i = s.length ∨ sget s (i : Int) = 32) := by simp [sepAt]
theorem errAt_t {s : List UInt8} {i : Nat} : (errAt s i = true) = ((i < s.length ∧ (sget s (i : Int) < 32 ∨ 126 < sget s (i : Int))) ∨ (sepAt s i = true ∧ i = (pcTo s i).st)) := by simp [errAt]
theorem errAt_f {s : List UInt8} {i : Nat} : (errAt s i = false) = ¬ ((i < s.length ∧ (sget s (i : Int) < 32 ∨ 126 < sget s (i : Int))) ∨ (sepAt s i = true ∧ i = (pcTo s i).st)) := by
  rw [← errAt_t]; simp
theorem c65 : ConOK Tryd.prog 65 con65 := by
  refine conOK_of_exec (inl := noInl) noInl_ok (lp := lp65) (tb := tbN) (c := bodyOf Tryd.f65) ⟨tt_ok, tbN_ok⟩ mixed Tryd.func65 (by kernel_rfl) (by kernel_rfl) ?_
  intro dat hpre hwt
  obtain ⟨d0, rfl, w0⟩ := wts1 hwt
  refine Eq.mpr (vc65 d0) ?_
  have hs := (wt_s w0).2
  simp only [ile_t, ile_f, ilt_t, ilt_f, ieq_t, ieq_f, bnot_t, bnot_f, band_t, band_f, true_and, and_true, lenI, noBytes, lenS, seq_nil, seq_nil_f]
  generalize d0.s = s at *
  have f4 : 512 < s.length → fields2 s = ⟨[], 4⟩ := fun h => by unfold fields2; rw [if_pos h]
  refine ⟨fun h => by rw [f4 (by omega)]; exact ⟨rfl, rfl⟩, fun h1 => ⟨fun h => ?_, fun h2 => ?_⟩⟩
  · have : fields2 s = ⟨[], 0⟩ := by unfold fields2; rw [if_neg (by omega), if_pos h]
    rw [this]; exact ⟨rfl, rfl⟩
  have f5 : ∀ g, g ≤ s.length → ((g < s.length ∧ (sget s (g : Int) < 32 ∨ 126 < sget s (g : Int))) ∨ ((g = s.length ∨ sget s (g : Int) = 32) ∧ g = (pcTo s g).st)) → (fields2 s).l = [] ∧ 5 = (fields2 s).e := fun g hg h => by
    have : fields2 s = ⟨[], 5⟩ := by
      unfold fields2; rw [if_neg (by omega), if_neg h2, if_pos]
      exact List.any_eq_true.2 ⟨g, List.mem_range.2 (by omega), by rw [errAt_t, sepAt_t]; exact h⟩
    rw [this]; exact ⟨rfl, rfl⟩
  refine ⟨⟨0, ⟨by omega, fun j hj => by omega⟩, ⟨rfl, rfl⟩, rfl⟩, fun g hg => ⟨fun hle => ?_, fun hgt => ?_⟩⟩
  · have e6 : iadd .i64 (g : Int) 1 = ((g + 1 : Nat) : Int) := by rw [iadd_eq (by omega)]; rfl
    have hb := @pc_bounds s g
    rw [e6]
    have hS : (g = s.length ∨ sget s (g : Int) = 32) → pcTo s (g + 1) = ⟨xcat (pcTo s g).l [.str (ssub s ((pcTo s g).st : Int) (g : Int))], g + 1⟩ := fun h => by rw [pcTo, if_pos (by rw [sepAt_t]; exact h)]
    have hN : ¬ (g = s.length ∨ sget s (g : Int) = 32) → pcTo s (g + 1) = pcTo s g := fun h => by rw [pcTo, if_neg (by rw [sepAt_t]; exact h)]
    have step : (g < s.length → 32 ≤ sget s (g : Int) ∧ sget s (g : Int) ≤ 126) → (g = s.length ∨ sget s (g : Int) = 32) → g ≠ (pcTo s g).st →
        (0 ≤ ((pcTo s g).st : Int) ∧ ((pcTo s g).st : Int) ≤ (g : Int) ∧ (g : Int) ≤ (s.length : Int)) ∧
          ((((pcTo s g).l.length : Nat) : Int) + (([D.str (ssub s ((pcTo s g).st : Int) (g : Int))].length : Nat) : Int)) * ((16 : Nat) : Int) ≤ 140737488355328 ∧
            ∃ g' : Nat, (g' ≤ s.length + 1 ∧ ∀ j, j < g' → errAt s j = false) ∧ s.length + 1 - g' < s.length + 1 - g ∧ ((((g + 1 : Nat) : Int)) = ((pcTo s g').st : Int) ∧ (((g + 1 : Nat) : Int)) = (g' : Int)) ∧ xcat (pcTo s g).l [D.str (ssub s ((pcTo s g).st : Int) (g : Int))] = (pcTo s g').l := fun h3 h4 h5 => by
      refine ⟨by omega, by simp; omega, g + 1, ⟨by omega, snoc_all hg.2 ?_⟩, by omega, ⟨by rw [hS h4], rfl⟩, by rw [hS h4]⟩
      rw [errAt_f]
      rintro (⟨h6, h7⟩ | ⟨_, h7⟩)
      · have := h3 h6; omega
      · exact h5 h7
    have skip : (g < s.length → 32 ≤ sget s (g : Int) ∧ sget s (g : Int) ≤ 126) → ¬ (g = s.length ∨ sget s (g : Int) = 32) →
        ∃ g' : Nat, (g' ≤ s.length + 1 ∧ ∀ j, j < g' → errAt s j = false) ∧ s.length + 1 - g' < s.length + 1 - g ∧ (((pcTo s g).st : Int) = ((pcTo s g').st : Int) ∧ (((g + 1 : Nat) : Int)) = (g' : Int)) ∧ (pcTo s g).l = (pcTo s g').l := fun h3 h4 => by
      refine ⟨g + 1, ⟨by omega, snoc_all hg.2 ?_⟩, by omega, ⟨by rw [hN h4], rfl⟩, by rw [hN h4]⟩
      rw [errAt_f, sepAt_t]
      rintro (⟨h6, h7⟩ | ⟨h7, _⟩)
      · have := h3 h6; omega
      · exact h4 h7
    refine ⟨fun hlt => ⟨by omega, fun h => f5 g (by omega) (.inl ⟨by omega, .inl h⟩), fun h => ⟨by omega, fun h' => f5 g (by omega) (.inl ⟨by omega, .inr h'⟩), fun h' => ⟨fun q => by omega, fun q => ⟨by omega, fun q2 => ⟨fun q3 => f5 g (by omega) (.inr ⟨.inr q2, by omega⟩), fun q3 => step (fun _ => ⟨h, h'⟩) (.inr q2) (by omega)⟩, fun q2 => skip (fun _ => ⟨h, h'⟩) (by omega)⟩⟩⟩⟩, fun hge => ⟨fun q => ⟨fun q3 => f5 g (by omega) (.inr ⟨.inl (by omega), by omega⟩), fun q3 => step (fun h => by omega) (.inl (by omega)) (by omega)⟩, fun q => by omega⟩⟩
  · obtain rfl : g = s.length + 1 := by omega
    have : fields2 s = ⟨(pcTo s (s.length + 1)).l, 0⟩ := by
      unfold fields2; rw [if_neg (by omega), if_neg h2, if_neg]
      rw [List.any_eq_true]
      rintro ⟨x, hx, h3⟩
      rw [hg.2 x (List.mem_range.1 hx)] at h3
      cases h3
    rw [this]; exact ⟨rfl, rfl⟩
theorem tb51_ok : TabOK Tryd.prog tb51 := fun f con h => by
  unfold tb51 at h
  split at h
  · cases h; exact c65
  · cases h
theorem one2 {s : List UInt8} : ((fields2 s).e = 0 ∧ (fields2 s).l.length = 1) ↔ oneZ s = true := by
  rw [oneZ_t]
  unfold fields2
  by_cases h1 : 512 < s.length
  · rw [if_pos h1]; simp; omega
  rw [if_neg h1]
  by_cases h2 : s = []
  · rw [if_pos h2]; subst h2; simp
  rw [if_neg h2]
  have hpos : 1 ≤ s.length := by cases s with
    | nil => exact absurd rfl h2
    | cons => simp
  have hone : (∀ j, j < s.length → sget s (j : Int) ≠ 32) → ∀ i, i ≤ s.length → pcTo s i = ⟨[], 0⟩ := fun h i => by
    induction i with
    | zero => intro _; rfl
    | succ i ih =>
      intro hi
      have := h i (by omega)
      rw [pcTo, if_neg, ih (by omega)]
      rw [sepAt_t]; omega
  have hlast : (pcTo s (s.length + 1)).l.length = (pcTo s s.length).l.length + 1 := by
    rw [pcTo, if_pos (by rw [sepAt_t]; exact .inl rfl)]
    simp [xcat_len]
  by_cases h3 : (List.range (s.length + 1)).any (errAt s) = true
  · rw [if_pos h3]
    simp only
    refine ⟨fun h => absurd h.1 (by decide), fun h => ?_⟩
    exfalso
    obtain ⟨g, hg, he⟩ := List.any_eq_true.1 h3
    have hg' := List.mem_range.1 hg
    rw [errAt_t, sepAt_t] at he
    have hp := hone (fun j hj => by have := h.2.2 j hj; omega) g (by omega)
    rw [hp] at he
    rcases he with ⟨h4, h5⟩ | ⟨h4, h5⟩
    · have := h.2.2 g h4; omega
    · simp only at h5
      rcases h4 with h4 | h4
      · omega
      · have := h.2.2 g (by omega); omega
  · rw [if_neg h3]
    simp only
    have hno : ∀ j, j ≤ s.length → ¬ errAt s j = true := fun j hj he => h3 (List.any_eq_true.2 ⟨j, List.mem_range.2 (by omega), he⟩)
    refine ⟨fun h => ⟨hpos, by omega, fun j hj => ?_⟩, fun h => ⟨trivial, ?_⟩⟩
    · have h4 := hno j (by omega)
      rw [errAt_t] at h4
      have h5 : sget s (j : Int) ≠ 32 := fun e => by
        have h6 : pcTo s (j + 1) = ⟨xcat (pcTo s j).l [.str (ssub s ((pcTo s j).st : Int) (j : Int))], j + 1⟩ := by rw [pcTo, if_pos (by rw [sepAt_t]; exact .inr e)]
        have h7 := @pc_mono s (j + 1) s.length (by omega)
        rw [h6] at h7
        simp only [xcat_len] at h7
        simp at h7
        omega
      omega
    · rw [hlast, hone (fun j hj => by have := h.2.2 j hj; omega) s.length (Nat.le_refl _)]
      rfl
theorem c51 : ConOK Tryd.prog 51 con51 := by
  refine conOK_of_exec (inl := noInl) noInl_ok (lp := noLp) (tb := tb51) (c := bodyOf Tryd.f51) ⟨tt_ok, tb51_ok⟩ mixed Tryd.func51 (by kernel_rfl) (by kernel_rfl) ?_
  intro dat hpre hwt
  obtain ⟨d0, rfl, w0⟩ := wts1 hwt
  refine Eq.mpr (vc51 d0) ?_
  simp only [ile_t, ile_f, ilt_t, ilt_f, ieq_t, ieq_f, bnot_t, bnot_f, band_t, band_f, true_and, and_true, lenI]
  have h := @one2 d0.s
  refine ⟨fun h1 => ?_, fun h1 => ?_⟩
  · refine bool_eq ?_
    rw [ieq_t, ← h]
    constructor
    · intro h2; exact ⟨h1, by omega⟩
    · intro h2; omega
  · rw [← Bool.not_eq_true, ← h]
    exact fun h2 => h1 h2.1
theorem tb21_ok : TabOK Tryd.prog tb21 := fun f con h => by
  unfold tb21 at h
  split at h
  · cases h; exact c47
  · cases h; exact c48
  · cases h; exact c49
  · cases h; exact c50
  · cases h
theorem tb22_ok : TabOK Tryd.prog tb22 := fun f con h => by
  unfold tb22 at h
  split at h
  · cases h; exact c51
  · cases h; exact c52
  · cases h; exact c53
  · cases h; exact c54
  · cases h
theorem newZ_5 {id pl key : List UInt8} {n d : Int} (h : oneZ id = false) : newZ id pl key n d = ⟨cs0, 5⟩ := by unfold newZ; rw [if_pos h]
theorem newZ_19 {id pl key : List UInt8} {n d : Int} (h : oneZ id = true) (h2 : ((plZ pl).e ≠ 0 ∨ (plZ pl).s ≠ pl) ∧ tagZ pl ≠ 0) : newZ id pl key n d = ⟨cs0, 19⟩ := by unfold newZ; rw [if_neg (by simp [h]), if_pos h2]
theorem newZ_r {id pl key : List UInt8} {n d : Int} (h : oneZ id = true) (h2 : ¬ (((plZ pl).e ≠ 0 ∨ (plZ pl).s ≠ pl) ∧ tagZ pl ≠ 0)) : newZ id pl key n d =
    if oneZ key = false then ⟨cs0, 5⟩ else if n < 1 ∨ 1125899906842624 < n then ⟨cs0, 13⟩ else if dayOk d = false then ⟨cs0, 12⟩ else ⟨⟨id, pl, key, d, d, 1, n, 0, 0, 0, 0, 0⟩, 0⟩ := by
  unfold newZ; rw [if_neg (by simp [h]), if_neg h2]
theorem newZ_tail {id pl key : List UInt8} {n d : Int} (h : oneZ id = true) (h2 : ¬ (((plZ pl).e ≠ 0 ∨ (plZ pl).s ≠ pl) ∧ tagZ pl ≠ 0)) :
    (oneZ key = false → cs0 = (newZ id pl key n d).c ∧ 5 = (newZ id pl key n d).e) ∧
      (oneZ key = true → (n < 1 → cs0 = (newZ id pl key n d).c ∧ 13 = (newZ id pl key n d).e) ∧
        (1 ≤ n → (1125899906842624 < n → cs0 = (newZ id pl key n d).c ∧ 13 = (newZ id pl key n d).e) ∧
          (n ≤ 1125899906842624 → (dayOk d = false → cs0 = (newZ id pl key n d).c ∧ 12 = (newZ id pl key n d).e) ∧
            (dayOk d = true → ⟨id, pl, key, d, d, 1, n, 0, 0, 0, 0, 0⟩ = (newZ id pl key n d).c ∧ 0 = (newZ id pl key n d).e)))) := by
  rw [newZ_r h h2]
  refine ⟨fun q1 => ?_, fun q1 => ⟨fun q2 => ?_, fun q2 => ⟨fun q3 => ?_, fun q3 => ⟨fun q4 => ?_, fun q4 => ?_⟩⟩⟩⟩
  · rw [if_pos q1]; exact ⟨rfl, rfl⟩
  · rw [if_neg (by simp [q1]), if_pos (.inl q2)]; exact ⟨rfl, rfl⟩
  · rw [if_neg (by simp [q1]), if_pos (.inr q3)]; exact ⟨rfl, rfl⟩
  · rw [if_neg (by simp [q1]), if_neg (by omega), if_pos q4]; exact ⟨rfl, rfl⟩
  · rw [if_neg (by simp [q1]), if_neg (by omega), if_neg (by simp [q4])]; exact ⟨rfl, rfl⟩
theorem c21 : ConOK Tryd.prog 21 con21 := by
  refine conOK_of_exec (inl := noInl) noInl_ok (lp := noLp) (tb := tb21) (c := bodyOf Tryd.f21) ⟨tt_ok, tb21_ok⟩ mixed Tryd.func21 (by kernel_rfl) (by kernel_rfl) ?_
  intro dat hpre hwt
  obtain ⟨d0, d1, d2, d3, d4, rfl, w0, w1, w2, w3, w4⟩ := wts5 hwt
  refine Eq.mpr (vc21 d0 d1 d2 d3 d4) ?_
  have hs : d1.s.length ≤ 1000000 := hpre
  simp only [↓csEq, ile_t, ile_f, ilt_t, ilt_f, ieq_t, ieq_f, bnot_t, bnot_f, band_t, band_f, true_and, and_true, lenI, seq', beq_eq_false_iff_ne, beq_iff_eq]
  refine ⟨fun h => by rw [newZ_5 h]; exact ⟨rfl, rfl⟩, fun h => ⟨hs, fun p1 => ⟨fun p2 => by rw [newZ_19 h ⟨.inl p1, p2⟩]; exact ⟨rfl, rfl⟩, fun p2 => newZ_tail h (fun h2 => h2.2 p2)⟩, fun p1 => ⟨fun p2 => ⟨fun p3 => by rw [newZ_19 h ⟨.inr p2, p3⟩]; exact ⟨rfl, rfl⟩, fun p3 => newZ_tail h (fun h2 => h2.2 p3)⟩, fun p2 => newZ_tail h (fun h2 => h2.1.elim (fun h3 => h3 p1) (fun h3 => h3 p2))⟩⟩⟩
theorem c22 : ConOK Tryd.prog 22 con22 := by
  refine conOK_of_exec (inl := noInl) noInl_ok (lp := noLp) (tb := tb22) (c := bodyOf Tryd.f22) ⟨tt_ok, tb22_ok⟩ mixed Tryd.func22 (by kernel_rfl) (by kernel_rfl) ?_
  intro dat hpre hwt
  obtain ⟨d0, d1, d2, d3, d4, rfl, w0, w1, w2, w3, w4⟩ := wts5 hwt
  refine Eq.mpr (vc22 d0 d1 d2 d3 d4) ?_
  have hs : d1.s.length ≤ 1000000 := hpre
  simp only [↓csEq, ile_t, ile_f, ilt_t, ilt_f, ieq_t, ieq_f, bnot_t, bnot_f, band_t, band_f, true_and, and_true, lenI, seq', beq_eq_false_iff_ne, beq_iff_eq]
  refine ⟨fun h => by rw [newZ_5 h]; exact ⟨rfl, rfl⟩, fun h => ⟨hs, fun p1 => ⟨fun p2 => by rw [newZ_19 h ⟨.inl p1, p2⟩]; exact ⟨rfl, rfl⟩, fun p2 => newZ_tail h (fun h2 => h2.2 p2)⟩, fun p1 => ⟨fun p2 => ⟨fun p3 => by rw [newZ_19 h ⟨.inr p2, p3⟩]; exact ⟨rfl, rfl⟩, fun p3 => newZ_tail h (fun h2 => h2.2 p3)⟩, fun p2 => newZ_tail h (fun h2 => h2.1.elim (fun h3 => h3 p1) (fun h3 => h3 p2))⟩⟩⟩
end Go.Proofs.YtkjohnjhdfblcaaDoor
