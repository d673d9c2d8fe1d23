/- Part of the proof of the laws of this seat: contracts of its functions, for every input. -/
import Derived.Test.YtkfghnflbehecaaDoorWC
set_option linter.all false
namespace Go.Proofs.YtkfghnflbehecaaDoor
open Go Go.RX Go.Proofs
set_option maxRecDepth 100000
set_option linter.all false
set_option maxHeartbeats 1000000
theorem wt_len {e : Ty} {d : D} (h : WT (.slice e) d) : (d.l.length : Int) ≤ 9223372036854775807 := by
  have := (wt_sl h).2.1
  simp only [maxLen] at this
  omega
theorem le_wt {e : Ty} {d : D} (h : WT (.slice e) d) : (d.l.length : Int) ≤ 9223372036854775807 := by
  have := (wt_sl h).2.1
  simp only [maxLen] at this
  omega
theorem noBytes : (ByteArray.mk (List.toArray ([] : List UInt8))).data.toList = [] := rfl
theorem wrap_u8' {a : Int} (h : 0 ≤ a ∧ a ≤ 255) : IntKind.wrap .u8 a = a := by rw [IntKind.wrap_u8]; omega
theorem sget_get {s : List UInt8} {j : Nat} (h : j < s.length) : sget s (j : Int) = (s[j].toNat : Int) := by
  unfold sget
  rw [Int.toNat_natCast, List.getD_eq_getElem?_getD, List.getElem?_eq_getElem h]
  rfl
theorem sget_range (s : List UInt8) (j : Nat) : 0 ≤ sget s (j : Int) ∧ sget s (j : Int) ≤ 255 := by
  unfold sget
  have := (s.getD (j : Int).toNat 0).toNat_lt
  omega
theorem all_get {p : UInt8 → Bool} {s : List UInt8} : s.all p = true ↔ ∀ j (h : j < s.length), p s[j] = true := by
  rw [List.all_eq_true]
  exact ⟨fun h j hj => h _ (List.getElem_mem hj), fun h x hx => by obtain ⟨j, hj, rfl⟩ := List.getElem_of_mem hx; exact h j hj⟩
theorem allOk {s : List UInt8} : s.all okC = true ↔ ∀ j, j < s.length → 32 ≤ sget s (j : Int) ∧ sget s (j : Int) ≤ 126 := by
  rw [all_get]
  refine ⟨fun h j hj => ?_, fun h j hj => ?_⟩
  · have := h j hj
    simp only [okC, Bool.and_eq_true, decide_eq_true_eq] at this
    rw [sget_get hj]; omega
  · have := h j hj
    rw [sget_get hj] at this
    simp only [okC, Bool.and_eq_true, decide_eq_true_eq]; omega
theorem oneZ_t {s : List UInt8} : oneZ s = true ↔ 1 ≤ s.length ∧ s.length ≤ 512 ∧ ∀ j, j < s.length → 33 ≤ sget s (j : Int) ∧ sget s (j : Int) ≤ 126 := by
  unfold oneZ
  rw [Bool.and_eq_true, Bool.and_eq_true, all_get, decide_eq_true_eq, decide_eq_true_eq]
  refine and_congr Iff.rfl (and_congr Iff.rfl ⟨fun h j hj => ?_, fun h j hj => ?_⟩)
  · have := h j hj
    simp only [Bool.and_eq_true, decide_eq_true_eq] at this
    rw [sget_get hj]; omega
  · have := h j hj
    rw [sget_get hj] at this
    simp only [Bool.and_eq_true, decide_eq_true_eq]; omega
theorem seq_nil {s : List UInt8} : (seq' s [] = true) = (s = []) := by simp [seq']
theorem seq_nil_f {s : List UInt8} : (seq' s [] = false) = (s ≠ []) := by simp [seq']
theorem snoc_all {p : Nat → Prop} {g : Nat} (h : ∀ j, j < g → p j) (hg : p g) : ∀ j, j < g + 1 → p j := fun j hj => by
  rcases Nat.lt_succ_iff_lt_or_eq.1 hj with h3 | rfl
  · exact h j h3
  · exact hg
theorem splitD_len {s : List UInt8} : (splitD s).length = s.count 32 + 1 := by
  have hk := Lib.splitB_all blank (by decide) 0 _ ⟨⟨s⟩⟩ rfl
  unfold splitD
  rw [List.length_map, hk]
  congr 1
  exact Lib.count_one 32 s
theorem splitD_one {s : List UInt8} (h : s.count 32 = 0) : splitD s = [.str s] := by
  have e : Lib.countB ⟨⟨s⟩⟩ blank = 0 := (Lib.count_one 32 s).trans h
  unfold splitD
  rw [e]
  rfl
theorem tb36_ok : TabOK Tryd.prog tb36 := fun f con h => by
  unfold tb36 at h
  split at h
  · cases h; exact c47
  · cases h
theorem c36 : ConOK Tryd.prog 36 con36 := by
  refine conOK_of_exec (inl := noInl) noInl_ok (lp := lp36) (tb := tb36) (c := bodyOf Tryd.f36) ⟨tt_ok, tb36_ok⟩ mixed Tryd.func36 (by kernel_rfl) (by kernel_rfl) ?_
  intro dat hpre hwt
  have hw0 := wts1 hwt
  obtain ⟨d0, rfl, w0⟩ := hw0
  refine Eq.mpr (vc36 d0) ?_
  have hs := (wt_s w0).2
  simp only [ile_t, ile_f, ilt_t, ilt_f, ieq_t, ieq_f, bnot_t, bnot_f, band_t, band_f, true_and, and_true, lenI, noBytes, lenS, seq_nil, seq_nil_f, Int.toNat_natCast]
  generalize d0.s = s at *
  have f4 : 512 < s.length → fieldsZ s = ⟨[], 4⟩ := fun h => by unfold fieldsZ; rw [if_pos h]
  refine ⟨fun h => by rw [f4 (by omega)]; exact ⟨rfl, rfl⟩, fun h1 => ⟨fun h => ?_, fun h2 => ?_⟩⟩
  · have : fieldsZ s = ⟨[], 0⟩ := by unfold fieldsZ; rw [if_neg (by omega), if_pos h]
    rw [this]; exact ⟨rfl, rfl⟩
  have f5 : ∀ g, g < s.length → ¬ (32 ≤ sget s (g : Int) ∧ sget s (g : Int) ≤ 126) → fieldsZ s = ⟨[], 5⟩ := fun g hg h => by
    unfold fieldsZ; rw [if_neg (by omega), if_neg h2, if_pos]
    rw [← Bool.not_eq_true, allOk]
    exact fun h3 => h (h3 g hg)
  refine ⟨⟨0, ⟨by omega, fun j hj => by omega⟩, rfl⟩, fun g hg => ⟨fun hlt => ⟨by omega, fun h => ?_, fun h => ⟨by omega, fun h' => ?_, fun h' => ⟨g + 1, ⟨by omega, snoc_all hg.2 ⟨h, h'⟩⟩, by omega, by rw [iadd_eq (by omega)]; rfl⟩⟩⟩, fun hge => ⟨by omega, ⟨0, ⟨by omega, fun j hj => by omega⟩, rfl⟩, fun k hk => ⟨fun hlt => ⟨by omega, fun h => ?_, fun h => ⟨k + 1, ⟨by omega, snoc_all hk.2 h⟩, by omega, ?_⟩⟩, fun hge2 => ?_⟩⟩⟩⟩
  · rw [f5 g (by omega) (by omega)]; exact ⟨rfl, rfl⟩
  · rw [f5 g (by omega) (by omega)]; exact ⟨rfl, rfl⟩
  · have ha : s.all okC = true := allOk.2 fun j hj => hg.2 j (by omega)
    have : fieldsZ s = ⟨[], 5⟩ := by
      unfold fieldsZ; rw [if_neg (by omega), if_neg h2, if_neg (by simp [ha]), if_pos]
      rw [List.all_eq_false]
      exact ⟨elt (splitD s) (k : Int), elt_mem (by omega), by simp [h]⟩
    rw [this]; exact ⟨rfl, rfl⟩
  · have hl := @splitD_len s
    have hc : s.count 32 ≤ s.length := List.count_le_length
    rw [iadd_eq (by omega)]; rfl
  · have ha : s.all okC = true := allOk.2 fun j hj => hg.2 j (by omega)
    have : fieldsZ s = ⟨splitD s, 0⟩ := by
      unfold fieldsZ; rw [if_neg (by omega), if_neg h2, if_neg (by simp [ha]), if_neg]
      rw [List.all_eq_false]
      rintro ⟨x, hx, h3⟩
      obtain ⟨j, hj, rfl⟩ := List.getElem_of_mem hx
      have := hk.2 j (by omega)
      rw [elt_get hj] at this
      simp at h3
      exact this h3
    rw [this]; exact ⟨rfl, rfl⟩
theorem one1 {s : List UInt8} : ((fieldsZ s).e = 0 ∧ (fieldsZ s).l.length = 1) ↔ oneZ s = true := by
  have hl := @splitD_len s
  rw [oneZ_t]
  unfold fieldsZ
  by_cases h1 : 512 < s.length
  · rw [if_pos h1]; simp; omega
  rw [if_neg h1]
  by_cases h2 : s = []
  · rw [if_pos h2]; subst h2; simp
  rw [if_neg h2]
  by_cases h3 : s.all okC = true
  · rw [if_neg (by simp [h3])]
    rw [allOk] at h3
    have hpos : 1 ≤ s.length := by cases s with
      | nil => exact absurd rfl h2
      | cons => simp
    by_cases h4 : s.count 32 = 0
    · have h5 := splitD_one h4
      rw [if_neg (by rw [h5]; simp [h2, D.s])]
      have h6 : ∀ j, j < s.length → sget s (j : Int) ≠ 32 := fun j hj e => by
        rw [sget_get hj] at e
        have : s[j] = 32 := by
          apply UInt8.toNat_inj.1
          show _ = 32
          omega
        have h7 := List.count_pos_iff.2 (List.getElem_mem hj)
        rw [this] at h7
        omega
      simp only
      refine ⟨fun _ => ⟨hpos, by omega, fun j hj => ?_⟩, fun _ => ⟨trivial, by omega⟩⟩
      have := h3 j hj
      have := h6 j hj
      omega
    · refine ⟨fun h => ?_, fun h => ?_⟩
      · exfalso
        split at h
        · exact absurd h.1 (by simp)
        · have := h.2
          simp only at this
          omega
      · exfalso
        obtain ⟨j, hj, e⟩ := List.getElem_of_mem (List.count_pos_iff.1 (Nat.pos_of_ne_zero h4))
        have := h.2.2 j hj
        rw [sget_get hj, e] at this
        exact absurd this.1 (by decide)
  · rw [if_pos (by simpa using h3)]
    simp only
    refine ⟨fun h => absurd h.1 (by decide), fun h => ?_⟩
    exfalso
    apply h3
    rw [allOk]
    intro j hj
    have := h.2.2 j hj
    omega
theorem seq_t {a b : List UInt8} : (seq' a b = true) = (a = b) := by simp [seq']
theorem seq_f {a b : List UInt8} : (seq' a b = false) = (a ≠ b) := by simp [seq']
theorem refZ_t {s : List UInt8} : refZ s = true ↔ 1 ≤ s.length ∧ s.length ≤ 64 ∧ ∀ j, j < s.length → 33 ≤ sget s (j : Int) ∧ sget s (j : Int) ≤ 126 := by
  unfold refZ
  rw [Bool.and_eq_true, oneZ_t, decide_eq_true_eq]
  exact ⟨fun h => ⟨h.1.1, h.2, h.1.2.2⟩, fun h => ⟨⟨h.1, by omega, h.2.2⟩, h.2.1⟩⟩
theorem refZ_f {s : List UInt8} {g : Nat} (hg : g < s.length) (h : ¬ (33 ≤ sget s (g : Int) ∧ sget s (g : Int) ≤ 126)) : refZ s = false := by
  rw [← Bool.not_eq_true, refZ_t]
  exact fun h1 => h (h1.2.2 g hg)
theorem tb19_ok : TabOK Tryd.prog tb19 := fun f con h => by
  unfold tb19 at h
  split at h
  · cases h; exact c36
  · cases h
theorem c19 : ConOK Tryd.prog 19 con19 := by
  refine conOK_of_exec (inl := noInl) noInl_ok (lp := noLp) (tb := tb19) (c := bodyOf Tryd.f19) ⟨tt_ok, tb19_ok⟩ mixed Tryd.func19 (by kernel_rfl) (by kernel_rfl) ?_
  intro dat hpre hwt
  have hw0 := wts1 hwt
  obtain ⟨d0, rfl, w0⟩ := hw0
  refine Eq.mpr (vc19 d0) ?_
  simp only [ile_t, ile_f, ilt_t, ilt_f, ieq_t, ieq_f, bnot_t, bnot_f, band_t, band_f, true_and, and_true, lenI, lenS]
  have h1 := @one1 d0.s
  have hz : refZ d0.s = (oneZ d0.s && decide (d0.s.length ≤ 64)) := rfl
  generalize d0.s = s at *
  refine ⟨fun he => ⟨fun hl => ?_, fun hl => ?_⟩, fun he => ?_⟩
  · have : oneZ s = true := h1.1 ⟨he, by omega⟩
    rw [hz, this, Bool.true_and]
    refine bool_eq ?_
    rw [ile_t, decide_eq_true_eq]; omega
  · rw [hz, Bool.and_eq_false_iff]
    refine .inl ?_
    rw [← Bool.not_eq_true, ← h1]
    rintro ⟨_, h⟩; omega
  · rw [hz, Bool.and_eq_false_iff]
    refine .inl ?_
    rw [← Bool.not_eq_true, ← h1]
    rintro ⟨h, _⟩; exact he h
theorem c22 : ConOK Tryd.prog 22 con22 := by
  refine conOK_of_exec (inl := noInl) noInl_ok (lp := lp22) (tb := tbN) (c := bodyOf Tryd.f22) ⟨tt_ok, tbN_ok⟩ mixed Tryd.func22 (by kernel_rfl) (by kernel_rfl) ?_
  intro dat hpre hwt
  have hw0 := wts1 hwt
  obtain ⟨d0, rfl, w0⟩ := hw0
  refine Eq.mpr (vc22 d0) ?_
  have hs := (wt_s w0).2
  simp only [ile_t, ile_f, ilt_t, ilt_f, ieq_t, ieq_f, bnot_t, bnot_f, band_t, band_f, true_and, and_true, lenI, lenS]
  generalize d0.s = s at *
  unfold maxLen at hs
  refine ⟨⟨0, ⟨by omega, fun j hj => by omega⟩, rfl⟩, fun g hg => ⟨fun hlt => ⟨by omega, fun h => ?_, fun h => ⟨by omega, fun h' => ?_, fun h' => ⟨g + 1, ⟨by omega, snoc_all hg.2 ⟨h, h'⟩⟩, by omega, by rw [iadd_eq (by omega)]; rfl⟩⟩⟩, fun hge => ⟨fun h1 => ?_, fun h1 => ?_⟩⟩⟩
  · exact refZ_f (g := g) (by omega) (by omega)
  · exact refZ_f (g := g) (by omega) (by omega)
  · refine bool_eq ?_
    rw [ile_t, refZ_t]
    exact ⟨fun h => ⟨by omega, by omega, fun j hj => hg.2 j (by omega)⟩, fun h => by omega⟩
  · rw [← Bool.not_eq_true, refZ_t]; omega
theorem timeZ_t {t : Int} : (timeZ t = true) = (0 ≤ t ∧ t < 68719476736) := by simp [timeZ]
theorem timeZ_f {t : Int} : (timeZ t = false) = (t < 0 ∨ 68719476736 ≤ t) := by
  rw [← Bool.not_eq_true, timeZ_t]; simp; omega
theorem centsZ_t {t : Int} : (centsZ t = true) = (1 ≤ t ∧ t ≤ 1125899906842624) := by simp [centsZ]
theorem centsZ_f {t : Int} : (centsZ t = false) = (t < 1 ∨ 1125899906842624 < t) := by
  rw [← Bool.not_eq_true, centsZ_t]; simp; omega
theorem c31 : ConOK Tryd.prog 31 con31 := by
  refine conOK_of_exec (inl := noInl) noInl_ok (lp := noLp) (tb := tbN) (c := bodyOf Tryd.f31) ⟨tt_ok, tbN_ok⟩ mixed Tryd.func31 (by kernel_rfl) (by kernel_rfl) ?_
  intro dat hpre hwt
  have hw0 := wts1 hwt
  obtain ⟨d0, rfl, w0⟩ := hw0
  refine Eq.mpr (vc31 d0) ?_
  simp only [ile_t, ile_f, ilt_t, ilt_f, ieq_t, ieq_f, bnot_t, bnot_f, band_t, band_f, true_and, and_true, lenI]
  refine ⟨fun h => bool_eq ?_, fun h => ?_⟩
  · rw [ilt_t, timeZ_t]; omega
  · rw [timeZ_f]; omega
theorem c39 : ConOK Tryd.prog 39 con39 := by
  refine conOK_of_exec (inl := noInl) noInl_ok (lp := noLp) (tb := tbN) (c := bodyOf Tryd.f39) ⟨tt_ok, tbN_ok⟩ mixed Tryd.func39 (by kernel_rfl) (by kernel_rfl) ?_
  intro dat hpre hwt
  have hw0 := wts1 hwt
  obtain ⟨d0, rfl, w0⟩ := hw0
  refine Eq.mpr (vc39 d0) ?_
  simp only [ile_t, ile_f, ilt_t, ilt_f, ieq_t, ieq_f, bnot_t, bnot_f, band_t, band_f, true_and, and_true, lenI]
  refine ⟨fun h => bool_eq ?_, fun h => ?_⟩
  · rw [ilt_t, timeZ_t]; omega
  · rw [timeZ_f]; omega
theorem c40 : ConOK Tryd.prog 40 con40 := by
  refine conOK_of_exec (inl := noInl) noInl_ok (lp := noLp) (tb := tbN) (c := bodyOf Tryd.f40) ⟨tt_ok, tbN_ok⟩ mixed Tryd.func40 (by kernel_rfl) (by kernel_rfl) ?_
  intro dat hpre hwt
  have hw0 := wts1 hwt
  obtain ⟨d0, rfl, w0⟩ := hw0
  refine Eq.mpr (vc40 d0) ?_
  simp only [ile_t, ile_f, ilt_t, ilt_f, ieq_t, ieq_f, bnot_t, bnot_f, band_t, band_f, true_and, and_true, lenI]
  refine ⟨fun h => bool_eq ?_, fun h => ?_⟩
  · rw [ile_t, centsZ_t]; omega
  · rw [centsZ_f]; omega
theorem c44 : ConOK Tryd.prog 44 con44 := by
  refine conOK_of_exec (inl := noInl) noInl_ok (lp := noLp) (tb := tbN) (c := bodyOf Tryd.f44) ⟨tt_ok, tbN_ok⟩ mixed Tryd.func44 (by kernel_rfl) (by kernel_rfl) ?_
  intro dat hpre hwt
  have hw0 := wts3 hwt
  obtain ⟨d0, d1, d2, rfl, w0, w1, w2⟩ := hw0
  refine Eq.mpr (vc44 d0 d1 d2) ?_
  obtain ⟨p1, p2, p3⟩ : 0 ≤ d0.i ∧ 0 ≤ d2.i ∧ d2.i ≤ 1000 := hpre
  have h0 := wt_i64 w0
  refine bool_eq ?_
  rw [ilt_t, imul_eq (by omega), isub_eq (by omega), decide_eq_true_eq]
theorem fnd_le (k : List UInt8) : ∀ l : List D, fnd k l ≤ l.length
  | [] => Nat.le_refl _
  | d :: r => by
    have := fnd_le k r
    unfold fnd; split
    · exact Nat.zero_le _
    · simp only [List.length_cons]; omega
theorem elt_cons {d : D} {r : List D} {j : Nat} : elt (d :: r) ((j + 1 : Nat) : Int) = elt r (j : Int) := by
  unfold elt; rw [Int.toNat_natCast, Int.toNat_natCast]; rfl
theorem fnd_ne (k : List UInt8) : ∀ (l : List D) (j : Nat), j < fnd k l → ((elt l (j : Int)).fld 0).s ≠ k
  | [], j, h => by simp [fnd] at h
  | d :: r, j, h => by
    unfold fnd at h
    split at h
    · omega
    · rename_i hd
      cases j with
      | zero => exact hd
      | succ j => rw [elt_cons]; exact fnd_ne k r j (by omega)
theorem fnd_at (k : List UInt8) : ∀ (l : List D), fnd k l < l.length → ((elt l (fnd k l : Int)).fld 0).s = k
  | [], h => by simp at h
  | d :: r, h => by
    unfold fnd at h ⊢
    split at h
    · rename_i hd; rw [if_pos hd]; exact hd
    · rename_i hd
      rw [if_neg hd, elt_cons]
      exact fnd_at k r (by simp only [List.length_cons] at h; omega)
theorem findZ_some {l : List D} {k : List UInt8} {g : Nat} (hg : g < l.length) (h : ∀ j : Nat, j < g → ((elt l (j : Int)).fld 0).s ≠ k) (he : ((elt l (g : Int)).fld 0).s = k) : findZ l k = g := by
  have e : fnd k l = g := by
    rcases Nat.lt_trichotomy (fnd k l) g with h1 | h1 | h1
    · exact absurd (fnd_at k l (by omega)) (h _ h1)
    · exact h1
    · exact absurd he (fnd_ne k l g h1)
  unfold findZ
  rw [e, if_pos hg]
theorem findZ_none {l : List D} {k : List UInt8} (h : ∀ j : Nat, j < l.length → ((elt l (j : Int)).fld 0).s ≠ k) : findZ l k = -1 := by
  unfold findZ
  rw [if_neg]
  intro h1
  exact h _ h1 (fnd_at k l h1)
theorem findZ_cases (l : List D) (k : List UInt8) : (∃ g : Nat, findZ l k = g ∧ g < l.length ∧ ((elt l (g : Int)).fld 0).s = k ∧ ∀ j : Nat, j < g → ((elt l (j : Int)).fld 0).s ≠ k) ∨ (findZ l k = -1 ∧ ∀ j : Nat, j < l.length → ((elt l (j : Int)).fld 0).s ≠ k) := by
  by_cases h : fnd k l < l.length
  · exact .inl ⟨fnd k l, by unfold findZ; rw [if_pos h], h, fnd_at k l h, fnd_ne k l⟩
  · refine .inr ⟨by unfold findZ; rw [if_neg h], fun j hj => fnd_ne k l j ?_⟩
    have := fnd_le k l; omega
theorem c23 : ConOK Tryd.prog 23 con23 := by
  refine conOK_of_exec (inl := noInl) noInl_ok (lp := lp23) (tb := tbN) (c := bodyOf Tryd.f23) ⟨tt_ok, tbN_ok⟩ mixed Tryd.func23 (by kernel_rfl) (by kernel_rfl) ?_
  intro dat hpre hwt
  have hw0 := wts2 hwt
  obtain ⟨d0, d1, rfl, w0, w1⟩ := hw0
  refine Eq.mpr (vc23 d0 d1) ?_
  have hl := wt_len w0
  simp only [ile_t, ile_f, ilt_t, ilt_f, ieq_t, ieq_f, bnot_t, bnot_f, band_t, band_f, true_and, and_true, lenI, seq_t, seq_f]
  refine ⟨⟨0, ⟨by omega, fun j hj => by omega⟩, rfl⟩, fun g hg => ⟨fun hlt => ⟨by omega, fun h => ?_, fun h => ⟨g + 1, ⟨by omega, snoc_all hg.2 h⟩, by omega, by rw [iadd_eq (by omega)]; rfl⟩⟩, fun hge => ?_⟩⟩
  · exact (findZ_some (by omega) hg.2 h).symm
  · exact (findZ_none fun j hj => hg.2 j (by omega)).symm
theorem hasZ_t {l : List D} {s : List UInt8} : hasZ l s = true ↔ ∃ j : Nat, j < l.length ∧ (elt l (j : Int)).s = s := by
  unfold hasZ
  rw [List.any_eq_true]
  constructor
  · rintro ⟨x, hx, h⟩
    obtain ⟨j, hj, rfl⟩ := List.getElem_of_mem hx
    exact ⟨j, hj, by rw [elt_get hj]; exact of_decide_eq_true h⟩
  · rintro ⟨j, hj, h⟩
    exact ⟨_, elt_mem hj, decide_eq_true h⟩
theorem c41 : ConOK Tryd.prog 41 con41 := by
  refine conOK_of_exec (inl := noInl) noInl_ok (lp := lp41) (tb := tbN) (c := bodyOf Tryd.f41) ⟨tt_ok, tbN_ok⟩ mixed Tryd.func41 (by kernel_rfl) (by kernel_rfl) ?_
  intro dat hpre hwt
  have hw0 := wts2 hwt
  obtain ⟨d0, d1, rfl, w0, w1⟩ := hw0
  refine Eq.mpr (vc41 d0 d1) ?_
  have hl := wt_len w0
  simp only [ile_t, ile_f, ilt_t, ilt_f, ieq_t, ieq_f, bnot_t, bnot_f, band_t, band_f, true_and, and_true, lenI, seq_t, seq_f]
  refine ⟨⟨0, ⟨by omega, fun j hj => by omega⟩, rfl⟩, fun g hg => ⟨fun hlt => ⟨by omega, fun h => ?_, fun h => ⟨g + 1, ⟨by omega, snoc_all hg.2 h⟩, by omega, by rw [iadd_eq (by omega)]; rfl⟩⟩, fun hge => ?_⟩⟩
  · exact hasZ_t.2 ⟨g, by omega, h⟩
  · rw [← Bool.not_eq_true, hasZ_t]
    rintro ⟨j, hj, h⟩
    exact hg.2 j (by omega) h
theorem tb34_ok : TabOK Tryd.prog tb34 := fun f con h => by
  unfold tb34 at h
  split at h
  · cases h; exact c31
  · cases h
theorem c34 : ConOK Tryd.prog 34 con34 := by
  refine conOK_of_exec (inl := noInl) noInl_ok (lp := noLp) (tb := tb34) (c := bodyOf Tryd.f34) ⟨tt_ok, tb34_ok⟩ mixed Tryd.func34 (by kernel_rfl) (by kernel_rfl) ?_
  intro dat hpre hwt
  have hw0 := wts3 hwt
  obtain ⟨d0, d1, d2, rfl, w0, w1, w2⟩ := hw0
  refine Eq.mpr (vc34 d0 d1 d2) ?_
  obtain ⟨p1, p2⟩ : 0 ≤ d2.i ∧ d2.i ≤ 100000000 := hpre
  simp only [ile_t, ile_f, ilt_t, ilt_f, ieq_t, ieq_f, bnot_t, bnot_f, band_t, band_f, true_and, and_true, lenI]
  generalize (d0.fld 1).i = tm
  unfold lateZ
  refine ⟨fun h => by rw [if_pos h], fun h => ?_⟩
  rw [if_neg (by simp [h])]
  rw [timeZ_t] at h
  rw [isub_eq (by omega)]
  refine ⟨fun h1 => by rw [if_pos h1], fun h1 => ⟨fun h2 => by rw [if_neg (by omega), if_pos h2], fun h2 => by rw [if_neg (by omega), if_neg (by omega)]⟩⟩
theorem op_none {l : List D} {k : List UInt8} (h : findZ l k < 0) : opI l k = 0 ∧ opE l k = 10 := by
  have e : opE l k = 10 := by unfold opE; rw [if_pos h]
  exact ⟨by unfold opI; rw [e, if_neg (by decide)], e⟩
theorem op_state {l : List D} {k : List UInt8} (h : 0 ≤ findZ l k) (h1 : ((elt l (findZ l k)).fld 3).i ≠ 1) : opI l k = 0 ∧ opE l k = 11 := by
  have e : opE l k = 11 := by unfold opE; rw [if_neg (Int.not_lt.2 h), if_pos h1]
  exact ⟨by unfold opI; rw [e, if_neg (by decide)], e⟩
theorem op_ok {l : List D} {k : List UInt8} (h : 0 ≤ findZ l k) (h1 : ((elt l (findZ l k)).fld 3).i = 1) : opI l k = findZ l k ∧ opE l k = 0 := by
  have e : opE l k = 0 := by unfold opE; rw [if_neg (Int.not_lt.2 h), if_neg (by simp [h1])]
  exact ⟨by unfold opI; rw [e, if_pos rfl], e⟩
theorem findZ_lt (l : List D) (k : List UInt8) : findZ l k < l.length := by
  rcases findZ_cases l k with ⟨g, h1, h2, _⟩ | ⟨h1, _⟩ <;> omega
theorem tb43_ok : TabOK Tryd.prog tb43 := fun f con h => by
  unfold tb43 at h
  split at h
  · cases h; exact c23
  · cases h
theorem c43 : ConOK Tryd.prog 43 con43 := by
  refine conOK_of_exec (inl := noInl) noInl_ok (lp := noLp) (tb := tb43) (c := bodyOf Tryd.f43) ⟨tt_ok, tb43_ok⟩ mixed Tryd.func43 (by kernel_rfl) (by kernel_rfl) ?_
  intro dat hpre hwt
  have hw0 := wts2 hwt
  obtain ⟨d0, d1, rfl, w0, w1⟩ := hw0
  refine Eq.mpr (vc43 d0 d1) ?_
  simp only [ile_t, ile_f, ilt_t, ilt_f, ieq_t, ieq_f, bnot_t, bnot_f, band_t, band_f, true_and, and_true, lenI]
  have hc := findZ_lt d0.l d1.s
  refine ⟨fun h => ?_, fun h => ⟨⟨h, hc⟩, fun h1 => ?_, fun h1 => ?_⟩⟩
  · obtain ⟨e1, e2⟩ := op_none h
    rw [e1, e2]; exact ⟨rfl, rfl⟩
  · obtain ⟨e1, e2⟩ := op_state h h1
    rw [e1, e2]; exact ⟨rfl, rfl⟩
  · obtain ⟨e1, e2⟩ := op_ok h h1
    rw [e1, e2]; exact ⟨rfl, rfl⟩
end Go.Proofs.YtkfghnflbehecaaDoor
