/- Part of the proof of the laws of this seat: contracts of its functions, for every input. -/
import Derived.Test.YtafpahkcjdfpiaaDoorWD
set_option linter.all false
namespace Go.Proofs.YtafpahkcjdfpiaaDoor
open Go Go.RX Go.Proofs
set_option maxRecDepth 100000
set_option linter.all false
set_option maxHeartbeats 1000000
theorem le_wt {e : Ty} {d : D} (h : WT (.slice e) d) : (d.l.length : Int) ≤ 9223372036854775807 := by
  have := (wt_sl h).2.1
  simp only [maxLen] at this
  omega
theorem noBytes : (ByteArray.mk (List.toArray ([] : List UInt8))).data.toList = [] := rfl
theorem wrap_u8' {a : Int} (h : 0 ≤ a ∧ a ≤ 255) : IntKind.wrap .u8 a = a := by rw [IntKind.wrap_u8]; omega
theorem sget_get {s : List UInt8} {j : Nat} (h : j < s.length) : sget s (j : Int) = (s[j].toNat : Int) := by
  unfold sget
  rw [Int.toNat_natCast, List.getD_eq_getElem?_getD, List.getElem?_eq_getElem h]
  rfl
theorem sget_range (s : List UInt8) (j : Nat) : 0 ≤ sget s (j : Int) ∧ sget s (j : Int) ≤ 255 := by
  unfold sget
  have := (s.getD (j : Int).toNat 0).toNat_lt
  omega
theorem all_get {p : UInt8 → Bool} {s : List UInt8} : s.all p = true ↔ ∀ j (h : j < s.length), p s[j] = true := by
  rw [List.all_eq_true]
  exact ⟨fun h j hj => h _ (List.getElem_mem hj), fun h x hx => by obtain ⟨j, hj, rfl⟩ := List.getElem_of_mem hx; exact h j hj⟩
theorem allOk {s : List UInt8} : s.all okC = true ↔ ∀ j, j < s.length → 32 ≤ sget s (j : Int) ∧ sget s (j : Int) ≤ 126 := by
  rw [all_get]
  refine ⟨fun h j hj => ?_, fun h j hj => ?_⟩
  · have := h j hj
    simp only [okC, Bool.and_eq_true, decide_eq_true_eq] at this
    rw [sget_get hj]; omega
  · have := h j hj
    rw [sget_get hj] at this
    simp only [okC, Bool.and_eq_true, decide_eq_true_eq]; omega
theorem oneZ_t {s : List UInt8} : oneZ s = true ↔ 1 ≤ s.length ∧ s.length ≤ 512 ∧ ∀ j, j < s.length → 33 ≤ sget s (j : Int) ∧ sget s (j : Int) ≤ 126 := by
  unfold oneZ
  rw [Bool.and_eq_true, Bool.and_eq_true, all_get, decide_eq_true_eq, decide_eq_true_eq]
  refine and_congr Iff.rfl (and_congr Iff.rfl ⟨fun h j hj => ?_, fun h j hj => ?_⟩)
  · have := h j hj
    simp only [Bool.and_eq_true, decide_eq_true_eq] at this
    rw [sget_get hj]; omega
  · have := h j hj
    rw [sget_get hj] at this
    simp only [Bool.and_eq_true, decide_eq_true_eq]; omega
theorem seq_nil {s : List UInt8} : (seq' s [] = true) = (s = []) := by simp [seq']
theorem seq_nil_f {s : List UInt8} : (seq' s [] = false) = (s ≠ []) := by simp [seq']
theorem snoc_all {p : Nat → Prop} {g : Nat} (h : ∀ j, j < g → p j) (hg : p g) : ∀ j, j < g + 1 → p j := fun j hj => by
  rcases Nat.lt_succ_iff_lt_or_eq.1 hj with h3 | rfl
  · exact h j h3
  · exact hg
theorem splitD_len {s : List UInt8} : (splitD s).length = s.count 32 + 1 := by
  have hk := Lib.splitB_all blank (by decide) 0 _ ⟨⟨s⟩⟩ rfl
  unfold splitD
  rw [List.length_map, hk]
  congr 1
  exact Lib.count_one 32 s
theorem splitD_one {s : List UInt8} (h : s.count 32 = 0) : splitD s = [.str s] := by
  have e : Lib.countB ⟨⟨s⟩⟩ blank = 0 := (Lib.count_one 32 s).trans h
  unfold splitD
  rw [e]
  rfl
theorem tb66_ok : TabOK Tryd.prog tb66 := fun f con h => by
  unfold tb66 at h
  split at h
  · cases h; exact c78
  · cases h
theorem c66 : ConOK Tryd.prog 66 con66 := by
  refine conOK_of_exec (inl := noInl) noInl_ok (lp := lp66) (tb := tb66) (c := bodyOf Tryd.f66) ⟨tt_ok, tb66_ok⟩ mixed Tryd.func66 (by kernel_rfl) (by kernel_rfl) ?_
  intro dat hpre hwt
  have hw0 := wts1 hwt
  obtain ⟨d0, rfl, w0⟩ := hw0
  refine Eq.mpr (vc66 d0) ?_
  have hs := (wt_s w0).2
  simp only [ile_t, ile_f, ilt_t, ilt_f, ieq_t, ieq_f, bnot_t, bnot_f, band_t, band_f, true_and, and_true, lenI, noBytes, lenS, seq_nil, seq_nil_f, Int.toNat_natCast]
  generalize d0.s = s at *
  have f4 : 512 < s.length → fieldsZ s = ⟨[], 4⟩ := fun h => by unfold fieldsZ; rw [if_pos h]
  refine ⟨fun h => by rw [f4 (by omega)]; exact ⟨rfl, rfl⟩, fun h1 => ⟨fun h => ?_, fun h2 => ?_⟩⟩
  · have : fieldsZ s = ⟨[], 0⟩ := by unfold fieldsZ; rw [if_neg (by omega), if_pos h]
    rw [this]; exact ⟨rfl, rfl⟩
  have f5 : ∀ g, g < s.length → ¬ (32 ≤ sget s (g : Int) ∧ sget s (g : Int) ≤ 126) → fieldsZ s = ⟨[], 5⟩ := fun g hg h => by
    unfold fieldsZ; rw [if_neg (by omega), if_neg h2, if_pos]
    rw [← Bool.not_eq_true, allOk]
    exact fun h3 => h (h3 g hg)
  refine ⟨⟨0, ⟨by omega, fun j hj => by omega⟩, rfl⟩, fun g hg => ⟨fun hlt => ⟨by omega, fun h => ?_, fun h => ⟨by omega, fun h' => ?_, fun h' => ⟨g + 1, ⟨by omega, snoc_all hg.2 ⟨h, h'⟩⟩, by omega, by rw [iadd_eq (by omega)]; rfl⟩⟩⟩, fun hge => ⟨by omega, ⟨0, ⟨by omega, fun j hj => by omega⟩, rfl⟩, fun k hk => ⟨fun hlt => ⟨by omega, fun h => ?_, fun h => ⟨k + 1, ⟨by omega, snoc_all hk.2 h⟩, by omega, ?_⟩⟩, fun hge2 => ?_⟩⟩⟩⟩
  · rw [f5 g (by omega) (by omega)]; exact ⟨rfl, rfl⟩
  · rw [f5 g (by omega) (by omega)]; exact ⟨rfl, rfl⟩
  · have ha : s.all okC = true := allOk.2 fun j hj => hg.2 j (by omega)
    have : fieldsZ s = ⟨[], 5⟩ := by
      unfold fieldsZ; rw [if_neg (by omega), if_neg h2, if_neg (by simp [ha]), if_pos]
      rw [List.all_eq_false]
      exact ⟨elt (splitD s) (k : Int), elt_mem (by omega), by simp [h]⟩
    rw [this]; exact ⟨rfl, rfl⟩
  · have hl := @splitD_len s
    have hc : s.count 32 ≤ s.length := List.count_le_length
    rw [iadd_eq (by omega)]; rfl
  · have ha : s.all okC = true := allOk.2 fun j hj => hg.2 j (by omega)
    have : fieldsZ s = ⟨splitD s, 0⟩ := by
      unfold fieldsZ; rw [if_neg (by omega), if_neg h2, if_neg (by simp [ha]), if_neg]
      rw [List.all_eq_false]
      rintro ⟨x, hx, h3⟩
      obtain ⟨j, hj, rfl⟩ := List.getElem_of_mem hx
      have := hk.2 j (by omega)
      rw [elt_get hj] at this
      simp at h3
      exact this h3
    rw [this]; exact ⟨rfl, rfl⟩
theorem tb38_ok : TabOK Tryd.prog tb38 := fun f con h => by
  unfold tb38 at h
  split at h
  · cases h; exact c66
  · cases h
theorem one1 {s : List UInt8} : ((fieldsZ s).e = 0 ∧ (fieldsZ s).l.length = 1) ↔ oneZ s = true := by
  have hl := @splitD_len s
  rw [oneZ_t]
  unfold fieldsZ
  by_cases h1 : 512 < s.length
  · rw [if_pos h1]; simp; omega
  rw [if_neg h1]
  by_cases h2 : s = []
  · rw [if_pos h2]; subst h2; simp
  rw [if_neg h2]
  by_cases h3 : s.all okC = true
  · rw [if_neg (by simp [h3])]
    rw [allOk] at h3
    have hpos : 1 ≤ s.length := by cases s with
      | nil => exact absurd rfl h2
      | cons => simp
    by_cases h4 : s.count 32 = 0
    · have h5 := splitD_one h4
      rw [if_neg (by rw [h5]; simp [h2, D.s])]
      have h6 : ∀ j, j < s.length → sget s (j : Int) ≠ 32 := fun j hj e => by
        rw [sget_get hj] at e
        have : s[j] = 32 := by
          apply UInt8.toNat_inj.1
          show _ = 32
          omega
        have h7 := List.count_pos_iff.2 (List.getElem_mem hj)
        rw [this] at h7
        omega
      simp only
      refine ⟨fun _ => ⟨hpos, by omega, fun j hj => ?_⟩, fun _ => ⟨trivial, by omega⟩⟩
      have := h3 j hj
      have := h6 j hj
      omega
    · refine ⟨fun h => ?_, fun h => ?_⟩
      · exfalso
        split at h
        · exact absurd h.1 (by simp)
        · have := h.2
          simp only at this
          omega
      · exfalso
        obtain ⟨j, hj, e⟩ := List.getElem_of_mem (List.count_pos_iff.1 (Nat.pos_of_ne_zero h4))
        have := h.2.2 j hj
        rw [sget_get hj, e] at this
        exact absurd this.1 (by decide)
  · rw [if_pos (by simpa using h3)]
    simp only
    refine ⟨fun h => absurd h.1 (by decide), fun h => ?_⟩
    exfalso
    apply h3
    rw [allOk]
    intro j hj
    have := h.2.2 j hj
    omega
theorem c38 : ConOK Tryd.prog 38 con38 := by
  refine conOK_of_exec (inl := noInl) noInl_ok (lp := noLp) (tb := tb38) (c := bodyOf Tryd.f38) ⟨tt_ok, tb38_ok⟩ mixed Tryd.func38 (by kernel_rfl) (by kernel_rfl) ?_
  intro dat hpre hwt
  have hw0 := wts1 hwt
  obtain ⟨d0, rfl, w0⟩ := hw0
  refine Eq.mpr (vc38 d0) ?_
  simp only [ile_t, ile_f, ilt_t, ilt_f, ieq_t, ieq_f, bnot_t, bnot_f, band_t, band_f, true_and, and_true, lenI]
  have h := @one1 d0.s
  refine ⟨fun h1 => ?_, fun h1 => ?_⟩
  · refine bool_eq ?_
    rw [ieq_t, ← h]
    constructor
    · intro h2; exact ⟨h1, by omega⟩
    · intro h2; omega
  · rw [← Bool.not_eq_true, ← h]
    exact fun h2 => h1 h2.1
theorem pc_bounds {s : List UInt8} : ∀ {i : Nat}, (pcTo s i).st ≤ i ∧ (pcTo s i).l.length ≤ i
  | 0 => by simp [pcTo]
  | i + 1 => by
    have := @pc_bounds s i
    rw [pcTo]
    split
    · simp only [xcat_len]; simp; omega
    · omega
theorem pc_mono {s : List UInt8} {i : Nat} : ∀ {j : Nat}, i ≤ j → (pcTo s i).l.length ≤ (pcTo s j).l.length
  | 0, h => by obtain rfl : i = 0 := by omega
               exact Nat.le_refl _
  | j + 1, h => by
    by_cases e : i = j + 1
    · rw [e]; exact Nat.le_refl _
    · have := pc_mono (s := s) (i := i) (j := j) (by omega)
      rw [pcTo]
      split
      · simp only [xcat_len]; simp; omega
      · exact this
theorem sepAt_t {s : List UInt8} {i : Nat} : (sepAt s i = true) = (i = s.length ∨ sget s (i : Int) = 32) := by simp [sepAt]
theorem errAt_t {s : List UInt8} {i : Nat} : (errAt s i = true) = ((i < s.length ∧ (sget s (i : Int) < 32 ∨ 126 < sget s (i : Int))) ∨ (sepAt s i = true ∧ i = (pcTo s i).st)) := by simp [errAt]
theorem errAt_f {s : List UInt8} {i : Nat} : (errAt s i = false) = ¬ ((i < s.length ∧ (sget s (i : Int) < 32 ∨ 126 < sget s (i : Int))) ∨ (sepAt s i = true ∧ i = (pcTo s i).st)) := by
  rw [← errAt_t]; simp
theorem c70 : ConOK Tryd.prog 70 con70 := by
  refine conOK_of_exec (inl := noInl) noInl_ok (lp := lp70) (tb := tbN) (c := bodyOf Tryd.f70) ⟨tt_ok, tbN_ok⟩ mixed Tryd.func70 (by kernel_rfl) (by kernel_rfl) ?_
  intro dat hpre hwt
  have hw0 := wts1 hwt
  obtain ⟨d0, rfl, w0⟩ := hw0
  refine Eq.mpr (vc70 d0) ?_
  have hs := (wt_s w0).2
  simp only [ile_t, ile_f, ilt_t, ilt_f, ieq_t, ieq_f, bnot_t, bnot_f, band_t, band_f, true_and, and_true, lenI, noBytes, lenS, seq_nil, seq_nil_f]
  generalize d0.s = s at *
  have f4 : 512 < s.length → fields2 s = ⟨[], 4⟩ := fun h => by unfold fields2; rw [if_pos h]
  refine ⟨fun h => by rw [f4 (by omega)]; exact ⟨rfl, rfl⟩, fun h1 => ⟨fun h => ?_, fun h2 => ?_⟩⟩
  · have : fields2 s = ⟨[], 0⟩ := by unfold fields2; rw [if_neg (by omega), if_pos h]
    rw [this]; exact ⟨rfl, rfl⟩
  have f5 : ∀ g, g ≤ s.length → ((g < s.length ∧ (sget s (g : Int) < 32 ∨ 126 < sget s (g : Int))) ∨ ((g = s.length ∨ sget s (g : Int) = 32) ∧ g = (pcTo s g).st)) → (fields2 s).l = [] ∧ 5 = (fields2 s).e := fun g hg h => by
    have : fields2 s = ⟨[], 5⟩ := by
      unfold fields2; rw [if_neg (by omega), if_neg h2, if_pos]
      exact List.any_eq_true.2 ⟨g, List.mem_range.2 (by omega), by rw [errAt_t, sepAt_t]; exact h⟩
    rw [this]; exact ⟨rfl, rfl⟩
  refine ⟨⟨0, ⟨by omega, fun j hj => by omega⟩, ⟨rfl, rfl⟩, rfl⟩, fun g hg => ⟨fun hle => ?_, fun hgt => ?_⟩⟩
  · have e6 : iadd .i64 (g : Int) 1 = ((g + 1 : Nat) : Int) := by rw [iadd_eq (by omega)]; rfl
    have hb := @pc_bounds s g
    rw [e6]
    have hS : (g = s.length ∨ sget s (g : Int) = 32) → pcTo s (g + 1) = ⟨xcat (pcTo s g).l [.str (ssub s ((pcTo s g).st : Int) (g : Int))], g + 1⟩ := fun h => by rw [pcTo, if_pos (by rw [sepAt_t]; exact h)]
    have hN : ¬ (g = s.length ∨ sget s (g : Int) = 32) → pcTo s (g + 1) = pcTo s g := fun h => by rw [pcTo, if_neg (by rw [sepAt_t]; exact h)]
    have step : (g < s.length → 32 ≤ sget s (g : Int) ∧ sget s (g : Int) ≤ 126) → (g = s.length ∨ sget s (g : Int) = 32) → g ≠ (pcTo s g).st →
        (0 ≤ ((pcTo s g).st : Int) ∧ ((pcTo s g).st : Int) ≤ (g : Int) ∧ (g : Int) ≤ (s.length : Int)) ∧
          ((((pcTo s g).l.length : Nat) : Int) + (([D.str (ssub s ((pcTo s g).st : Int) (g : Int))].length : Nat) : Int)) * ((16 : Nat) : Int) ≤ 140737488355328 ∧
            ∃ g' : Nat, (g' ≤ s.length + 1 ∧ ∀ j, j < g' → errAt s j = false) ∧ s.length + 1 - g' < s.length + 1 - g ∧ ((((g + 1 : Nat) : Int)) = ((pcTo s g').st : Int) ∧ (((g + 1 : Nat) : Int)) = (g' : Int)) ∧ xcat (pcTo s g).l [D.str (ssub s ((pcTo s g).st : Int) (g : Int))] = (pcTo s g').l := fun h3 h4 h5 => by
      refine ⟨by omega, by simp; omega, g + 1, ⟨by omega, snoc_all hg.2 ?_⟩, by omega, ⟨by rw [hS h4], rfl⟩, by rw [hS h4]⟩
      rw [errAt_f]
      rintro (⟨h6, h7⟩ | ⟨_, h7⟩)
      · have := h3 h6; omega
      · exact h5 h7
    have skip : (g < s.length → 32 ≤ sget s (g : Int) ∧ sget s (g : Int) ≤ 126) → ¬ (g = s.length ∨ sget s (g : Int) = 32) →
        ∃ g' : Nat, (g' ≤ s.length + 1 ∧ ∀ j, j < g' → errAt s j = false) ∧ s.length + 1 - g' < s.length + 1 - g ∧ (((pcTo s g).st : Int) = ((pcTo s g').st : Int) ∧ (((g + 1 : Nat) : Int)) = (g' : Int)) ∧ (pcTo s g).l = (pcTo s g').l := fun h3 h4 => by
      refine ⟨g + 1, ⟨by omega, snoc_all hg.2 ?_⟩, by omega, ⟨by rw [hN h4], rfl⟩, by rw [hN h4]⟩
      rw [errAt_f, sepAt_t]
      rintro (⟨h6, h7⟩ | ⟨h7, _⟩)
      · have := h3 h6; omega
      · exact h4 h7
    refine ⟨fun hlt => ⟨by omega, fun h => f5 g (by omega) (.inl ⟨by omega, .inl h⟩), fun h => ⟨by omega, fun h' => f5 g (by omega) (.inl ⟨by omega, .inr h'⟩), fun h' => ⟨fun q => by omega, fun q => ⟨by omega, fun q2 => ⟨fun q3 => f5 g (by omega) (.inr ⟨.inr q2, by omega⟩), fun q3 => step (fun _ => ⟨h, h'⟩) (.inr q2) (by omega)⟩, fun q2 => skip (fun _ => ⟨h, h'⟩) (by omega)⟩⟩⟩⟩, fun hge => ⟨fun q => ⟨fun q3 => f5 g (by omega) (.inr ⟨.inl (by omega), by omega⟩), fun q3 => step (fun h => by omega) (.inl (by omega)) (by omega)⟩, fun q => by omega⟩⟩
  · obtain rfl : g = s.length + 1 := by omega
    have : fields2 s = ⟨(pcTo s (s.length + 1)).l, 0⟩ := by
      unfold fields2; rw [if_neg (by omega), if_neg h2, if_neg]
      rw [List.any_eq_true]
      rintro ⟨x, hx, h3⟩
      rw [hg.2 x (List.mem_range.1 hx)] at h3
      cases h3
    rw [this]; exact ⟨rfl, rfl⟩
theorem tb43_ok : TabOK Tryd.prog tb43 := fun f con h => by
  unfold tb43 at h
  split at h
  · cases h; exact c70
  · cases h
theorem one2 {s : List UInt8} : ((fields2 s).e = 0 ∧ (fields2 s).l.length = 1) ↔ oneZ s = true := by
  rw [oneZ_t]
  unfold fields2
  by_cases h1 : 512 < s.length
  · rw [if_pos h1]; simp; omega
  rw [if_neg h1]
  by_cases h2 : s = []
  · rw [if_pos h2]; subst h2; simp
  rw [if_neg h2]
  have hpos : 1 ≤ s.length := by cases s with
    | nil => exact absurd rfl h2
    | cons => simp
  have hone : (∀ j, j < s.length → sget s (j : Int) ≠ 32) → ∀ i, i ≤ s.length → pcTo s i = ⟨[], 0⟩ := fun h i => by
    induction i with
    | zero => intro _; rfl
    | succ i ih =>
      intro hi
      have := h i (by omega)
      rw [pcTo, if_neg, ih (by omega)]
      rw [sepAt_t]; omega
  have hlast : (pcTo s (s.length + 1)).l.length = (pcTo s s.length).l.length + 1 := by
    rw [pcTo, if_pos (by rw [sepAt_t]; exact .inl rfl)]
    simp [xcat_len]
  by_cases h3 : (List.range (s.length + 1)).any (errAt s) = true
  · rw [if_pos h3]
    simp only
    refine ⟨fun h => absurd h.1 (by decide), fun h => ?_⟩
    exfalso
    obtain ⟨g, hg, he⟩ := List.any_eq_true.1 h3
    have hg' := List.mem_range.1 hg
    rw [errAt_t, sepAt_t] at he
    have hp := hone (fun j hj => by have := h.2.2 j hj; omega) g (by omega)
    rw [hp] at he
    rcases he with ⟨h4, h5⟩ | ⟨h4, h5⟩
    · have := h.2.2 g h4; omega
    · simp only at h5
      rcases h4 with h4 | h4
      · omega
      · have := h.2.2 g (by omega); omega
  · rw [if_neg h3]
    simp only
    have hno : ∀ j, j ≤ s.length → ¬ errAt s j = true := fun j hj he => h3 (List.any_eq_true.2 ⟨j, List.mem_range.2 (by omega), he⟩)
    refine ⟨fun h => ⟨hpos, by omega, fun j hj => ?_⟩, fun h => ⟨trivial, ?_⟩⟩
    · have h4 := hno j (by omega)
      rw [errAt_t] at h4
      have h5 : sget s (j : Int) ≠ 32 := fun e => by
        have h6 : pcTo s (j + 1) = ⟨xcat (pcTo s j).l [.str (ssub s ((pcTo s j).st : Int) (j : Int))], j + 1⟩ := by rw [pcTo, if_pos (by rw [sepAt_t]; exact .inr e)]
        have h7 := @pc_mono s (j + 1) s.length (by omega)
        rw [h6] at h7
        simp only [xcat_len] at h7
        simp at h7
        omega
      omega
    · rw [hlast, hone (fun j hj => by have := h.2.2 j hj; omega) s.length (Nat.le_refl _)]
      rfl
theorem c43 : ConOK Tryd.prog 43 con43 := by
  refine conOK_of_exec (inl := noInl) noInl_ok (lp := noLp) (tb := tb43) (c := bodyOf Tryd.f43) ⟨tt_ok, tb43_ok⟩ mixed Tryd.func43 (by kernel_rfl) (by kernel_rfl) ?_
  intro dat hpre hwt
  have hw0 := wts1 hwt
  obtain ⟨d0, rfl, w0⟩ := hw0
  refine Eq.mpr (vc43 d0) ?_
  simp only [ile_t, ile_f, ilt_t, ilt_f, ieq_t, ieq_f, bnot_t, bnot_f, band_t, band_f, true_and, and_true, lenI]
  have h := @one2 d0.s
  refine ⟨fun h1 => ?_, fun h1 => ?_⟩
  · refine bool_eq ?_
    rw [ieq_t, ← h]
    constructor
    · intro h2; exact ⟨h1, by omega⟩
    · intro h2; omega
  · rw [← Bool.not_eq_true, ← h]
    exact fun h2 => h1 h2.1
end Go.Proofs.YtafpahkcjdfpiaaDoor
