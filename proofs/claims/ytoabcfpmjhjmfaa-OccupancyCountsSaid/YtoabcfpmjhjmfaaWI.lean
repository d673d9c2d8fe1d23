/- Part of the proof of the laws of this seat: contracts of its functions, for every input. -/
import Derived.Test.YtoabcfpmjhjmfaaWH
set_option linter.all false
namespace Go.Proofs.Ytoabcfpmjhjmfaa
open Go Go.RX Go.Proofs
set_option maxRecDepth 100000
set_option linter.all false
theorem tbA_ok : TabOK Try.prog tbA := fun f con h => by
  unfold tbA at h
  split at h
  · cases h; exact c10
  · cases h; exact c12
  · cases h; exact c13
  · cases h; exact c14
  · cases h; exact c15
  · cases h; exact c16
  · cases h; exact c17
  · cases h; exact c18
  · cases h; exact c19
  · cases h; exact c20
  · cases h; exact c21
  · cases h; exact c22
  · cases h; exact c23
  · cases h; exact c24
  · cases h
theorem c11 : ConOK Try.prog 11 con11 := by
  refine conOK_of_exec (lp := noLp) (tb := tb11) (c := bodyOf Try.f11) ⟨tt_ok, tbA_ok⟩ mixed Try.func11 (by kernel_rfl) (by kernel_rfl) ?_
  intro dat hpre hwt
  obtain rfl := wts0 hwt
  refine Eq.mpr (vc11) ?_
  simp
theorem tbL_ok : TabOK Try.prog tbL := fun f con h => by
  unfold tbL at h
  split at h
  · cases h; exact c11
  · exact tbA_ok _ _ h
theorem rg_eq {d : D} (h : WT rgT d) : D.agg [D.int (d.fld 0).i, D.int (d.fld 1).i] = d := by
  obtain ⟨a, r, rfl, ⟨n, rfl, _⟩, b, r2, e1, ⟨x, rfl, _⟩, h4⟩ := h
  injection e1 with e1; subst e1
  injection h4 with h4; subst h4
  rfl
theorem c3 : ConOK Try.prog 3 con3 := by
  refine conOK_of_exec (lp := noLp) (tb := tb3) (c := bodyOf Try.f3) ⟨tt_ok, tbL_ok⟩ mixed Try.func3 (by kernel_rfl) (by kernel_rfl) ?_
  intro dat hpre hwt
  obtain ⟨d0, d1, rfl, w0, w1⟩ := wts2 hwt
  refine Eq.mpr (vc3 d0 d1) ?_
  simp only [ile_t, ile_f, ilt_t, ilt_f, ieq_t, ieq_f, bnot_t, bnot_f, band_t, band_f, true_and, and_true, lenI, sc_eq w0]
  simp [ieq]
theorem c4 : ConOK Try.prog 4 con4 := by
  refine conOK_of_exec (lp := noLp) (tb := tb4) (c := bodyOf Try.f4) ⟨tt_ok, tbL_ok⟩ mixed Try.func4 (by kernel_rfl) (by kernel_rfl) ?_
  intro dat hpre hwt
  obtain ⟨d0, d1, d2, d3, rfl, w0, w1, w2, w3⟩ := wts4 hwt
  refine Eq.mpr (vc4 d0 d1 d2 d3) ?_
  simp only [ile_t, ile_f, ilt_t, ilt_f, ieq_t, ieq_f, bnot_t, bnot_f, band_t, band_f, true_and, and_true, lenI, sc_eq w0, great_f, great_t]
  simp [ieq, sameZ_self]
  intros; omega
theorem c5 : ConOK Try.prog 5 con5 := by
  refine conOK_of_exec (lp := noLp) (tb := tb5) (c := bodyOf Try.f5) ⟨tt_ok, tbL_ok⟩ mixed Try.func5 (by kernel_rfl) (by kernel_rfl) ?_
  intro dat hpre hwt
  obtain ⟨d0, d1, d2, rfl, w0, w1, w2⟩ := wts3 hwt
  refine Eq.mpr (vc5 d0 d1 d2) ?_
  simp only [ile_t, ile_f, ilt_t, ilt_f, ieq_t, ieq_f, bnot_t, bnot_f, band_t, band_f, true_and, and_true, lenI, sc_eq w0]
  simp [ieq, sameZ_self]
theorem c6 : ConOK Try.prog 6 con6 := by
  refine conOK_of_exec (lp := noLp) (tb := tb6) (c := bodyOf Try.f6) ⟨tt_ok, tbL_ok⟩ mixed Try.func6 (by kernel_rfl) (by kernel_rfl) ?_
  intro dat hpre hwt
  obtain ⟨d0, d1, d2, rfl, w0, w1, w2⟩ := wts3 hwt
  refine Eq.mpr (vc6 d0 d1 d2) ?_
  simp only [ile_t, ile_f, ilt_t, ilt_f, ieq_t, ieq_f, bnot_t, bnot_f, band_t, band_f, true_and, and_true, lenI, sc_eq w0]
  simp [ieq]
section
variable {p : Int} {up down parts : List D}
theorem upTo_pre (h : checkZ p up down parts = 0) {c : Int} : ∀ {n : Nat}, n ≤ up.length → ∀ j, j < upTo up c n → ei up j ≤ c
  | 0, _, j, hj => by simp [upTo] at hj
  | n + 1, hn, j, hj => by
    rw [upTo] at hj
    split at hj
    · rename_i h1
      by_cases e : j = n
      · rw [e]; exact h1
      · have := (up_mono h (i := j) (j := n) (by omega) (by omega)).1; omega
    · exact upTo_pre h (by omega) j hj
theorem upTo_mono {c c' : Int} (hc : c ≤ c') : ∀ {n : Nat}, upTo up c n ≤ upTo up c' n
  | 0 => Nat.le_refl _
  | n + 1 => by
    have := @upTo_mono c c' hc n
    have h1 := @upTo_le up c n
    have h2 := @upTo_le up c' n
    rw [upTo, upTo]; split <;> split <;> omega
theorem downZ_mono {c c' : Int} (hc : c ≤ c') : ∀ {n : Nat}, downZ down c n ≤ downZ down c' n
  | 0 => Nat.le_refl _
  | n + 1 => by
    have := @downZ_mono c c' hc n
    have h1 := @downZ_le down c n
    have h2 := @downZ_le down c' n
    rw [downZ, downZ]; split <;> split <;> omega
theorem downZ_step {c : Int} {n : Nat} : downZ down c n ≤ downZ down c (n + 1) := by
  have h1 := @downZ_le down c n
  rw [downZ]; split <;> omega
theorem downZ_up {c : Int} {m n : Nat} (h : m ≤ n) : downZ down c m ≤ downZ down c n := by
  induction n with
  | zero => rw [show m = 0 by omega]; exact Nat.le_refl _
  | succ n ih =>
    by_cases e : m = n + 1
    · rw [e]; exact Nat.le_refl _
    · have := ih (by omega); have := @downZ_step down c n; omega
/-- No descent below what the count holds. -/
theorem downZ_ge {c : Int} {u : Nat} (hu : 0 < u → ei down (u - 1) ≤ c) {n : Nat} (h : u ≤ n) : u ≤ downZ down c n := by
  induction n with
  | zero => omega
  | succ n ih =>
    rw [downZ]
    split
    · rename_i h1
      by_cases e : u = n + 1
      · subst e
        have := hu (by omega)
        simp only [Nat.add_sub_cancel] at this
        omega
      · exact ih (by omega)
    · omega
theorem nextZ_le {level c : Int} : nextZ up down level c ≤ up.length := by
  unfold nextZ
  have h1 := @upTo_le up c up.length
  have h2 := @clamp_le up.length level
  have h3 := @downZ_le down c (clampZ up.length level)
  split <;> omega
theorem down_of_up (h : checkZ p up down parts = 0) {c : Int} {u : Nat} (hu : u = upTo up c up.length) : 0 < u → ei down (u - 1) ≤ c := fun h0 => by
  have h1 := upTo_pre h (c := c) (Nat.le_refl _) (u - 1) (by omega)
  have h2 := @upTo_le up c up.length
  have := (ck_ok h).2.1 (u - 1) (by omega)
  omega
theorem nextZ_level (h : checkZ p up down parts = 0) {l m c : Int} (hlm : l ≤ m) : nextZ up down l c ≤ nextZ up down m c := by
  have hcl : clampZ up.length l ≤ clampZ up.length m := by unfold clampZ; omega
  unfold nextZ
  split
  · split
    · exact Nat.le_refl _
    · exact downZ_ge (down_of_up h rfl) (by omega)
  · rw [if_neg (by omega)]
    exact downZ_up hcl
theorem nextZ_count {l c c' : Int} (hc : c ≤ c') : nextZ up down l c ≤ nextZ up down l c' := by
  have h1 := @upTo_mono up c c' hc up.length
  have h2 := @downZ_mono down c c' hc (clampZ up.length l)
  have h3 := @downZ_le down c (clampZ up.length l)
  unfold nextZ
  split <;> split <;> omega
theorem nextZ_stay (h : checkZ p up down parts = 0) {l : Nat} {c : Int} {i : Nat} (h1 : 1 ≤ i) (hi : i ≤ up.length) (hl : i ≤ l) (hc : ei down (i - 1) ≤ c) : i ≤ nextZ up down (l : Int) c := by
  have hcl : i ≤ clampZ up.length (l : Int) := by unfold clampZ; omega
  unfold nextZ
  split
  · omega
  · exact downZ_ge (fun _ => hc) hcl
theorem nextZ_below (h : checkZ p up down parts = 0) {l : Nat} {c : Int} {i : Nat} (h1 : 1 ≤ i) (hi : i ≤ up.length) (hl : l < i) (hc : c < ei up (i - 1)) : nextZ up down (l : Int) c < i := by
  have hcl : clampZ up.length (l : Int) < i := by unfold clampZ; omega
  have h3 := @downZ_le down c (clampZ up.length (l : Int))
  unfold nextZ
  split
  · apply Classical.byContradiction
    intro hh
    have := upTo_pre h (c := c) (Nat.le_refl _) (i - 1) (by omega)
    omega
  · omega
end
theorem nextV_ok {s : D} (h : ckS s = 0) {l c : Int} : nextV s l c = (nextZ (s.fld 1).l (s.fld 2).l l c : Int) := by
  unfold nextV; rw [if_neg (by simp [h])]; rfl
theorem nextV_facts {s : D} (h : ckS s = 0) (l c : Int) : 0 ≤ nextV s l c ∧ nextV s l c ≤ ((s.fld 1).l.length : Int) := by
  rw [nextV_ok h]
  have := @nextZ_le (s.fld 1).l (s.fld 2).l l c
  omega
theorem c7 : ConOK Try.prog 7 con7 := by
  refine conOK_of_exec (lp := noLp) (tb := tb7) (c := bodyOf Try.f7) ⟨tt_ok, tbL_ok⟩ mixed Try.func7 (by kernel_rfl) (by kernel_rfl) ?_
  intro dat hpre hwt
  obtain ⟨d0, d1, rfl, w0, w1⟩ := wts2 hwt
  refine Eq.mpr (vc7 d0 d1) ?_
  simp only [ile_t, ile_f, ilt_t, ilt_f, ieq_t, ieq_f, bnot_t, bnot_f, band_t, band_f, true_and, and_true, lenI, implies_true, imp_false, not_true_eq_false, not_false_eq_true, and_self, and_false, false_and, Int.not_lt, Int.not_le, Classical.not_not, sc_eq w0]
  have f1 := fun h : ckS d0 = 0 => nextV_facts h (d1.fld 0).i (d1.fld 2).i
  have f2 := fun h : ckS d0 = 0 => nextV_facts h (d1.fld 1).i (d1.fld 2).i
  have f3 := fun h : ckS d0 = 0 => nextV_facts h (d1.fld 0).i (iadd .i64 (d1.fld 2).i (d1.fld 3).i)
  have f4 : ckS d0 = 0 → (d1.fld 0).i ≤ (d1.fld 1).i → nextV d0 (d1.fld 0).i (d1.fld 2).i ≤ nextV d0 (d1.fld 1).i (d1.fld 2).i := fun h h1 => by
    rw [nextV_ok h, nextV_ok h]
    have := nextZ_level (p := (d0.fld 0).i) (up := (d0.fld 1).l) (down := (d0.fld 2).l) (parts := (d0.fld 3).l) h h1 (c := (d1.fld 2).i)
    omega
  have f5 : ckS d0 = 0 → 0 ≤ (d1.fld 2).i → (d1.fld 2).i ≤ 2147483648 → 0 ≤ (d1.fld 3).i → (d1.fld 3).i ≤ 2147483648 → nextV d0 (d1.fld 0).i (d1.fld 2).i ≤ nextV d0 (d1.fld 0).i (iadd .i64 (d1.fld 2).i (d1.fld 3).i) := fun h h1 h2 h3 h4 => by
    rw [nextV_ok h, nextV_ok h, iadd_eq (by omega)]
    have := @nextZ_count (d0.fld 1).l (d0.fld 2).l (d1.fld 0).i (d1.fld 2).i ((d1.fld 2).i + (d1.fld 3).i) (by omega)
    omega
  generalize nextV d0 (d1.fld 0).i (d1.fld 2).i = a at *
  generalize nextV d0 (d1.fld 1).i (d1.fld 2).i = b at *
  generalize nextV d0 (d1.fld 0).i (iadd .i64 (d1.fld 2).i (d1.fld 3).i) = c at *
  intros
  omega
theorem levV_facts {s c : D} (h : ckS s = 0) : (levV s c).length = c.l.length ∧ ∀ j : Nat, j < c.l.length → elt (levV s c) (j : Int) = .int (levZ (s.fld 1).l (s.fld 2).l c.l j : Int) := by
  have e : levV s c = mkL c.l.length fun j => .int (levZ (s.fld 1).l (s.fld 2).l c.l j : Int) := by unfold levV; rw [if_neg (by simp [h])]; rfl
  rw [e]
  exact ⟨mkL_len, fun j hj => elt_mkL hj⟩
theorem c8 : ConOK Try.prog 8 con8 := by
  refine conOK_of_exec (lp := lp8) (tb := tb8) (c := bodyOf Try.f8) ⟨tt_ok, tbL_ok⟩ mixed Try.func8 (by kernel_rfl) (by kernel_rfl) ?_
  intro dat hpre hwt
  obtain ⟨d0, d1, d2, rfl, w0, w1, w2⟩ := wts3 hwt
  refine Eq.mpr (vc8 d0 d1 d2) ?_
  simp only [ile_t, ile_f, ilt_t, ilt_f, ieq_t, ieq_f, bnot_t, bnot_f, band_t, band_f, true_and, and_true, lenI, implies_true, imp_false, not_true_eq_false, not_false_eq_true, and_self, and_false, false_and, Int.not_lt, Int.not_le, Classical.not_not, sc_eq w0, list_eta w1]
  intro hg0 hl hc h1 h2
  obtain ⟨hlen, helt⟩ := levV_facts (c := d1) hc
  have hck : checkZ (d0.fld 0).i (d0.fld 1).l (d0.fld 2).l (d0.fld 3).l = 0 := hc
  have hok := (ck_ok hck).1
  have hd := hok.d
  have ha := hok.a
  obtain ⟨i, hi⟩ : ∃ i : Nat, d2.i = (i : Int) := ⟨d2.i.toNat, by omega⟩
  rw [hi] at h1 h2 ⊢
  have e2 : isub .i64 (i : Int) 1 = ((i - 1 : Nat) : Int) := by rw [isub_eq (by omega)]; omega
  rw [hlen, e2]
  have he0 : 0 < d1.l.length → (elt (levV d0 d1) 0).i = 0 := fun h => by rw [show (0 : Int) = ((0 : Nat) : Int) from rfl, helt 0 h]; rfl
  have body : ∀ g : Nat, 1 ≤ g → g < d1.l.length → isub .i64 (g : Int) 1 = ((g - 1 : Nat) : Int) ∧ iadd .i64 (g : Int) 1 = ((g + 1 : Nat) : Int) ∧
      ((i : Int) ≤ (elt (levV d0 d1) ((g - 1 : Nat) : Int)).i → (elt (d0.fld 2).l ((i - 1 : Nat) : Int)).i ≤ (elt d1.l ((g - 1 : Nat) : Int)).i → (i : Int) ≤ (elt (levV d0 d1) (g : Int)).i) ∧
      ((elt (levV d0 d1) ((g - 1 : Nat) : Int)).i < (i : Int) → (elt d1.l ((g - 1 : Nat) : Int)).i < (elt (d0.fld 1).l ((i - 1 : Nat) : Int)).i → (elt (levV d0 d1) (g : Int)).i < (i : Int)) := fun g hg hlt => by
    obtain ⟨j, rfl⟩ : ∃ j, g = j + 1 := ⟨g - 1, by omega⟩
    refine ⟨by rw [isub_eq (by omega)]; omega, by rw [iadd_eq (by omega)]; omega, ?_, ?_⟩
    · rw [Nat.add_sub_cancel, helt j (by omega), helt (j + 1) hlt, D.i_int, D.i_int]
      intro a b
      have := nextZ_stay hck (l := levZ (d0.fld 1).l (d0.fld 2).l d1.l j) (i := i) (by omega) (by omega) (by omega) b
      have e := @lev_next (d0.fld 1).l (d0.fld 2).l d1.l j
      omega
    · rw [Nat.add_sub_cancel, helt j (by omega), helt (j + 1) hlt, D.i_int, D.i_int]
      intro a b
      have := nextZ_below hck (l := levZ (d0.fld 1).l (d0.fld 2).l d1.l j) (i := i) (by omega) (by omega) (by omega) b
      have e := @lev_next (d0.fld 1).l (d0.fld 2).l d1.l j
      omega
  refine ⟨by omega, rfl, fun _ => ⟨fun h0 => ⟨by omega, he0 (by omega), fun _ => ⟨⟨1, by omega, rfl⟩, fun g hg hlt => ?_⟩⟩, fun h0 => ⟨⟨1, by omega, rfl⟩, fun g hg hlt => by omega⟩⟩⟩
  obtain ⟨b1, b2, b3, b4⟩ := body g hg.1 (by omega)
  have hx : ∃ g' : Nat, (1 ≤ g' ∧ (g' ≤ d1.l.length ∨ g' = 1)) ∧ d1.l.length - g' < d1.l.length - g ∧ iadd .i64 (g : Int) 1 = (g' : Int) := ⟨g + 1, by omega, by omega, b2⟩
  rw [b1]
  simp only [eq_true hx, implies_true, and_true]
  clear hx
  generalize (elt (levV d0 d1) ((g - 1 : Nat) : Int)).i = x1 at *
  generalize (elt (levV d0 d1) (g : Int)).i = x2 at *
  generalize (elt d1.l ((g - 1 : Nat) : Int)).i = x3 at *
  generalize (elt (d0.fld 1).l ((i - 1 : Nat) : Int)).i = x4 at *
  generalize (elt (d0.fld 2).l ((i - 1 : Nat) : Int)).i = x5 at *
  omega
theorem befTo_succ {times : List D} {b : Int} {i : Nat} : befTo times b (i + 1) = if (elt times (i : Int)).i < b then xcat (befTo times b i) [.int (elt times (i : Int)).i] else befTo times b i := rfl
theorem inTo_succ {p : Int} {times : List D} {b : Int} {i : Nat} : inTo p times b (i + 1) = if b ≤ (elt times (i : Int)).i ∧ (elt times (i : Int)).i < b + 7 * p then inTo p times b i + 1 else inTo p times b i := rfl
theorem befTo_len {times : List D} {b : Int} : ∀ {i : Nat}, (befTo times b i).length ≤ i
  | 0 => Nat.le_refl _
  | i + 1 => by
    have := @befTo_len times b i
    rw [befTo_succ]; split
    · rw [xcat_len]; simp; omega
    · omega
theorem inTo_le {p : Int} {times : List D} {b : Int} : ∀ {i : Nat}, inTo p times b i ≤ i
  | 0 => Nat.le_refl _
  | i + 1 => by
    have := @inTo_le p times b i
    rw [inTo_succ]; split <;> omega
theorem sumZ_bd {l : List D} {m : Int} (h : ∀ j : Nat, j < l.length → 0 ≤ ei l j ∧ ei l j ≤ m) : ∀ {i : Nat}, i ≤ l.length → 0 ≤ sumZ l i ∧ sumZ l i ≤ m * i
  | 0, _ => by simp [sumZ]
  | i + 1, hi => by
    have := sumZ_bd h (i := i) (by omega)
    have := h i (by omega)
    rw [sumZ]
    have e : m * ((i + 1 : Nat) : Int) = m * (i : Int) + m := by rw [Int.natCast_succ, Int.mul_add, Int.mul_one]
    omega
def inK (p f : Int) (k : Nat) (d : D) : Bool := decide (f ≤ d.i ∧ (d.i - f) / p = (k : Int))
theorem cntK_countP {p f : Int} {times : List D} {k : Nat} : ∀ {i : Nat}, i ≤ times.length → cntK p times f i k = (times.take i).countP (inK p f k)
  | 0, _ => by simp [cntK]
  | i + 1, hi => by
    rw [cntK, cntK_countP (i := i) (by omega), List.take_succ_eq_append_getElem (by omega), List.countP_append, List.countP_singleton]
    have e : ei times i = (times[i]).i := by unfold ei; rw [elt_get (by omega)]
    rw [e]
    unfold inK
    by_cases h : f ≤ (times[i]).i ∧ ((times[i]).i - f) / p = (k : Int)
    · rw [if_pos h, if_pos (by simpa using h)]
    · rw [if_neg h, if_neg (by simpa using h)]; rfl
theorem cntK_all {p f : Int} {times : List D} {k : Nat} : cntK p times f times.length k = times.countP (inK p f k) := by
  rw [cntK_countP (Nat.le_refl _), List.take_length]
theorem sum_in {p b : Int} (hp : 1 ≤ p) {times : List D} : ∀ {i : Nat}, (cntK p times b i 0 : Int) + cntK p times b i 1 + cntK p times b i 2 + cntK p times b i 3 + cntK p times b i 4 + cntK p times b i 5 + cntK p times b i 6 = (inTo p times b i : Int)
  | 0 => rfl
  | i + 1 => by
    have ih := @sum_in p b hp times i
    have e : ei times i = (elt times (i : Int)).i := rfl
    rw [inTo_succ]
    simp only [cntK, e]
    generalize (elt times (i : Int)).i = x at *
    by_cases hx : b ≤ x
    · have h0 : 0 ≤ (x - b) / p := Int.ediv_nonneg (by omega) (by omega)
      have h1 : x - b < 7 * p ↔ (x - b) / p < 7 := (Int.ediv_lt_iff_lt_mul (by omega)).symm
      generalize (x - b) / p = q at *
      by_cases h7 : q < 7
      · rw [if_pos (show b ≤ x ∧ x < b + 7 * p by omega)]
        obtain rfl | rfl | rfl | rfl | rfl | rfl | rfl : q = 0 ∨ q = 1 ∨ q = 2 ∨ q = 3 ∨ q = 4 ∨ q = 5 ∨ q = 6 := by omega
        all_goals simp [hx]; omega
      · rw [if_neg (show ¬ (b ≤ x ∧ x < b + 7 * p) by omega)]
        rw [if_neg (by omega), if_neg (by omega), if_neg (by omega), if_neg (by omega), if_neg (by omega), if_neg (by omega), if_neg (by omega)]
        exact ih
    · simp [hx]; exact ih
theorem sum_cnt {p b : Int} (hp : 1 ≤ p) {times : List D} {i : Nat} : sumZ (cntL p times b 7 i) 7 = (inTo p times b i : Int) := by
  rw [← sum_in hp]
  have e : ∀ k : Nat, k < 7 → ei (cntL p times b 7 i) k = (cntK p times b i k : Int) := fun k hk => by
    unfold ei cntL; rw [elt_mkL hk]; rfl
  simp only [sumZ]
  rw [e 0 (by omega), e 1 (by omega), e 2 (by omega), e 3 (by omega), e 4 (by omega), e 5 (by omega), e 6 (by omega)]
  omega
theorem turn_eq {l : List D} {t : Int} (h0 : 0 ≤ t) (h1 : t ≤ (l.length : Int)) : xcat (xcat [] (xsub l t (l.length : Int))) (xsub l 0 t) = l.drop t.toNat ++ l.take t.toNat := by
  simp [xcat, xsub]
theorem turn_cnt {p f : Int} {l : List D} {t : Nat} {k : Nat} : cntK p (l.drop t ++ l.take t) f (l.drop t ++ l.take t).length k = cntK p l f l.length k := by
  rw [cntK_all, cntK_all, List.countP_append, Nat.add_comm, ← List.countP_append, List.take_append_drop]
theorem turn_len {l : List D} {t : Nat} : (l.drop t ++ l.take t).length = l.length := by
  rw [List.length_append, Nat.add_comm, ← List.length_append, List.take_append_drop]
theorem bef_filter {times : List D} {b : Int} (h : ∀ x ∈ times, WT i64 x) : ∀ {i : Nat}, i ≤ times.length → befTo times b i = (times.take i).filter fun d => decide (d.i < b)
  | 0, _ => by simp [befTo]
  | i + 1, hi => by
    rw [befTo_succ, bef_filter h (i := i) (by omega), List.take_succ_eq_append_getElem (by omega), List.filter_append, elt_get (by omega)]
    have hw := int_eta (h _ (List.getElem_mem (show i < times.length by omega)))
    by_cases hx : (times[i]).i < b
    · rw [if_pos hx, hw, List.filter_cons_of_pos (by simpa using hx)]; rfl
    · rw [if_neg hx, List.filter_cons_of_neg (by simpa using hx)]; simp
theorem at_congr {p : Int} {up down times times' : List D} {t : Int} (h : ∀ k : Nat, k < (min (t / p) 64).toNat → cntK p times ((t / p - min (t / p) 64) * p) times.length k = cntK p times' ((t / p - min (t / p) 64) * p) times'.length k) :
    atZ p up down times t = atZ p up down times' t := by
  unfold atZ
  have : cntL p times ((t / p - min (t / p) 64) * p) (min (t / p) 64).toNat times.length = cntL p times' ((t / p - min (t / p) 64) * p) (min (t / p) 64).toNat times'.length :=
    mkL_congr fun k hk => by rw [h k hk]
  rw [this]
theorem bef_cnt {p t : Int} (hp : 1 ≤ p) (h0 : 0 ≤ t) {times : List D} {k : Nat} (hk : k < (min (t / p) 64).toNat) :
    cntK p (times.filter fun d => decide (d.i < t / p * p)) ((t / p - min (t / p) 64) * p) (times.filter fun d => decide (d.i < t / p * p)).length k = cntK p times ((t / p - min (t / p) 64) * p) times.length k := by
  have q0 : 0 ≤ t / p := Int.ediv_nonneg h0 (by omega)
  rw [cntK_all, cntK_all, List.countP_filter]
  refine List.countP_congr fun d _ => ?_
  simp only [inK, Bool.and_eq_true, decide_eq_true_eq]
  refine ⟨fun h => h.1, fun h => ⟨h, ?_⟩⟩
  have h1 := Int.lt_ediv_add_one_mul_self (d.i - (t / p - min (t / p) 64) * p) (b := p) (by omega)
  rw [h.2] at h1
  have h2 : ((k : Int) + 1) * p ≤ min (t / p) 64 * p := Int.mul_le_mul_of_nonneg_right (by omega) (by omega)
  have h3 : (t / p - min (t / p) 64) * p = t / p * p - min (t / p) 64 * p := Int.sub_mul ..
  omega
theorem c9 : ConOK Try.prog 9 con9 := by
  refine conOK_of_exec (lp := lp9) (tb := tb9) (c := bodyOf Try.f9) ⟨tt_ok, tbL_ok⟩ mixed Try.func9 (by kernel_rfl) (by kernel_rfl) ?_
  intro dat hpre hwt
  obtain ⟨d0, d1, d2, d3, rfl, w0, w1, w2, w3⟩ := wts4 hwt
  refine Eq.mpr (vc9 d0 d1 d2 d3) ?_
  simp only [ile_t, ile_f, ilt_t, ilt_f, ieq_t, ieq_f, bnot_t, bnot_f, band_t, band_f, true_and, and_true, lenI, implies_true, imp_false, not_true_eq_false, not_false_eq_true, and_self, and_false, false_and, Int.not_lt, Int.not_le, Classical.not_not, sc_eq w0, list_eta w1]
  intro hg0 hl hc ht0 ht1 h0 h1
  have hp := (ck_ok hc).1.b
  have hp2 := (ck_ok hc).1.c
  replace hp : 1 ≤ (d0.fld 0).i := hp
  replace hp2 : (d0.fld 0).i ≤ 86400 := hp2
  have htm := (wt_sl w1).2.2
  have q0 : 0 ≤ d2.i / (d0.fld 0).i := Int.ediv_nonneg h0 (by omega)
  have q1 : d2.i / (d0.fld 0).i ≤ d2.i := Int.ediv_le_self _ h0
  have q2 : d2.i / (d0.fld 0).i * (d0.fld 0).i ≤ d2.i := Int.ediv_mul_le d2.i (by omega)
  have q3 : 0 ≤ d2.i / (d0.fld 0).i * (d0.fld 0).i := Int.mul_nonneg (by omega) (by omega)
  have hb : imul .i64 (iquo .i64 d2.i (d0.fld 0).i) (d0.fld 0).i = d2.i / (d0.fld 0).i * (d0.fld 0).i := by
    rw [iquo_eq h0 (by omega) (by omega), imul_eq (by omega)]
  have h7 : imul .i64 7 (d0.fld 0).i = 7 * (d0.fld 0).i := imul_eq (by omega)
  rw [hb, h7]
  have hbd : d2.i / (d0.fld 0).i * (d0.fld 0).i = d2.i / (d0.fld 0).i * (d0.fld 0).i := rfl
  generalize hB : d2.i / (d0.fld 0).i * (d0.fld 0).i = b at *
  have h8 : iadd .i64 b (7 * (d0.fld 0).i) = b + 7 * (d0.fld 0).i := iadd_eq (by omega)
  rw [h8]
  have hvl : ∀ (d : D) (hl : d.l.length ≤ 1024), cntV d0 d b 7 = cntL (d0.fld 0).i d.l b 7 d.l.length := fun d _ => by
    unfold cntV; rw [if_neg (by rw [time_f]; omega)]; rfl
  rw [hvl d1 (by omega)]
  simp only [cntL_len, xsub_len, xcat_len, List.length_cons, List.length_nil]
  refine ⟨by omega, by omega, by omega, by omega, by omega, ⟨0, by omega, ⟨rfl, rfl⟩, rfl⟩, fun g hg => ⟨fun hlt => ⟨by omega, ?_⟩, fun hge => ⟨⟨0, by omega, rfl, rfl⟩, fun k hk => ⟨fun hlt => ⟨by omega, k + 1, by omega, by omega, ?_, by rw [iadd_eq (by omega)]; rfl⟩, fun hge2 => ?_⟩⟩⟩⟩
  · have i1 : iadd .i64 (g : Int) 1 = ((g + 1 : Nat) : Int) := by rw [iadd_eq (by omega)]; rfl
    have hle := @befTo_len d1.l b g
    have hie := @inTo_le (d0.fld 0).i d1.l b g
    have i2 : iadd .i64 (inTo (d0.fld 0).i d1.l b g : Int) 1 = ((inTo (d0.fld 0).i d1.l b g + 1 : Nat) : Int) := by rw [iadd_eq (by omega)]; rfl
    by_cases hx : (elt d1.l (g : Int)).i < b
    · exact ⟨fun _ => ⟨by omega, fun h => by omega, fun _ => ⟨g + 1, by omega, by omega, ⟨by rw [inTo_succ, if_neg (by omega)], i1⟩, by rw [befTo_succ, if_pos hx]⟩⟩, fun h => by omega⟩
    · refine ⟨fun h => by omega, fun _ => ⟨fun _ => ⟨fun h => ⟨g + 1, by omega, by omega, ⟨by rw [inTo_succ, if_pos (by omega), i2], i1⟩, by rw [befTo_succ, if_neg hx]⟩, fun h => ⟨g + 1, by omega, by omega, ⟨by rw [inTo_succ, if_neg (by omega)], i1⟩, by rw [befTo_succ, if_neg hx]⟩⟩, fun h => by omega⟩⟩
  · have hbd : ∀ j : Nat, j < (cntL (d0.fld 0).i d1.l b 7 d1.l.length).length → 0 ≤ ei (cntL (d0.fld 0).i d1.l b 7 d1.l.length) j ∧ ei (cntL (d0.fld 0).i d1.l b 7 d1.l.length) j ≤ 200 := fun j hj => by
      rw [cntL_len] at hj
      have := @cntK_le (d0.fld 0).i d1.l b j d1.l.length
      unfold ei cntL
      rw [elt_mkL hj, D.i_int]; omega
    have a1 := sumZ_bd hbd (i := k) (by rw [cntL_len]; omega)
    have a2 := hbd k (by rw [cntL_len]; omega)
    unfold ei at a2
    rw [iadd_eq (by omega)]; rfl
  · obtain rfl : g = d1.l.length := by omega
    obtain rfl : k = 7 := by omega
    have hat : ∀ d : D, atV d0 d d2.i = (atZ (d0.fld 0).i (d0.fld 1).l (d0.fld 2).l d.l d2.i : Int) := fun d => by
      unfold atV; rw [if_neg (by rw [time_f]; omega)]; rfl
    rw [turn_eq ht0 ht1, sum_cnt hp, hat, hat, hat, hvl _ (by rw [D.l_list, turn_len]; omega)]
    simp only [D.l_list]
    have e1 : cntL (d0.fld 0).i (d1.l.drop d3.i.toNat ++ d1.l.take d3.i.toNat) b 7 (d1.l.drop d3.i.toNat ++ d1.l.take d3.i.toNat).length = cntL (d0.fld 0).i d1.l b 7 d1.l.length :=
      mkL_congr fun k _ => by rw [turn_cnt]
    rw [e1, at_congr (times := d1.l.drop d3.i.toNat ++ d1.l.take d3.i.toNat) (times' := d1.l) fun k _ => turn_cnt, sameZ_self, bef_filter htm (Nat.le_refl _), List.take_length, ← hB,
      at_congr (times := d1.l.filter fun d => decide (d.i < d2.i / (d0.fld 0).i * (d0.fld 0).i)) (times' := d1.l) fun k hk => bef_cnt hp h0 hk]
    simp
end Go.Proofs.Ytoabcfpmjhjmfaa
