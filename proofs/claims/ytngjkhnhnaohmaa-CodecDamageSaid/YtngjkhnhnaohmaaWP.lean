/- Part of the proof of the laws of this seat: contracts of its functions, for every input. -/
import Derived.Test.YtngjkhnhnaohmaaWO
set_option linter.all false
namespace Go.Proofs.Ytngjkhnhnaohmaa
open Go Go.RX Go.Proofs
set_option maxRecDepth 100000
set_option linter.all false
theorem strD_bytes {l : List D} (h : ∀ x ∈ l, WT u8 x) : bytesD (strD l) = l := by
  unfold bytesD strD
  rw [List.map_map]
  conv => rhs; rw [← List.map_id l]
  refine List.map_congr_left fun x hx => ?_
  have h2 := wt_u8 (h x hx)
  obtain ⟨n, rfl, _⟩ := h x hx
  have h2 : 0 ≤ n ∧ n ≤ 255 := h2
  show D.int ((UInt8.ofNat n.toNat).toNat : Int) = D.int n
  rw [UInt8.toNat_ofNat']
  congr 1
  omega
theorem textZ_x {b : List D} {a : Int} (h : (textZ b a).e = 0) : (intZ b a).e = 0 ∧ 0 ≤ (intZ b a).n ∧ (intZ b a).n ≤ 65536 ∧ 0 ≤ a ∧ a < (intZ b a).x ∧ (textZ b a).x = (intZ b a).x + (intZ b a).n ∧ (textZ b a).x ≤ b.length ∧ (textZ b a).s = strD (xsub b (intZ b a).x ((intZ b a).x + (intZ b a).n)) := by
  unfold textZ at h ⊢
  split at h
  · contradiction
  · rename_i h1
    rw [if_neg h1]
    split at h
    · cases h
    · rename_i h2
      rw [if_neg h2]
      split at h
      · cases h
      · rename_i h3
        rw [if_neg h3]
        split at h
        · cases h
        · rename_i h4
          rw [if_neg h4]
          have := intZ_x (b := b) (a := a) (by omega)
          exact ⟨by omega, by omega, by omega, by omega, by omega, rfl, by simp only; omega, rfl⟩
theorem be4_bound {b : List D} {a : Int} (hb : ∀ j, 0 ≤ ei b j ∧ ei b j ≤ 255) : ∀ {i : Nat}, i ≤ 4 → 0 ≤ be4 b a i ∧ be4 b a i < 256 ^ i
  | 0, _ => ⟨Int.le_refl _, by rw [be4]; exact Int.zero_lt_one⟩
  | i + 1, h => by
    have ih := be4_bound (a := a) hb (i := i) (by omega)
    have := hb (a.toNat + i)
    rw [be4, Int.pow_succ]
    omega
theorem be4_small {b : List D} {a : Int} (hb : ∀ j, 0 ≤ ei b j ∧ ei b j ≤ 255) {i : Nat} (h : i ≤ 4) : 0 ≤ be4 b a i ∧ be4 b a i ≤ 4294967295 := by
  have h1 := be4_bound (a := a) hb h
  obtain rfl | rfl | rfl | rfl | rfl : i = 0 ∨ i = 1 ∨ i = 2 ∨ i = 3 ∨ i = 4 := by omega
  all_goals exact ⟨h1.1, by have := h1.2; simp at this; omega⟩
theorem xsub_wt {e : Ty} {l : List D} (h : ∀ x ∈ l, WT e x) {a c : Int} : ∀ x ∈ xsub l a c, WT e x := fun x hx => h x (by
  unfold xsub at hx
  exact List.mem_of_mem_take (List.mem_of_mem_drop hx))
theorem tb26_ok : TabOK Try.prog tb26 := fun f con h => by
  unfold tb26 at h
  split at h
  · cases h; exact c24
  · cases h
theorem c26 : ConOK Try.prog 26 con26 := by
  refine conOK_of_execD (inl := inl26) inl26_ok (lp := lp26) (tb := tb26) (c := bodyOf Try.f26) ⟨tt_ok, tb26_ok⟩ mixed Try.func26 (by kernel_rfl) (by kernel_rfl) ?_
  intro dat hpre hwt
  obtain ⟨d0, d1, rfl, w0, w1⟩ := wts2 hwt
  refine Eq.mpr (vc26 d0 d1) ?_
  have hl : d0.l.length ≤ 1000000 := hpre
  have hi := wt_i64 w1
  have hb : ∀ j, 0 ≤ ei d0.l j ∧ ei d0.l j ≤ 255 := fun j => ei_u8 w0 j
  have hbw : ∀ x ∈ d0.l, WT u8 x := (wt_sl w0).2.2
  simp only [ile_t, ile_f, ilt_t, ilt_f, ieq_t, ieq_f, bnot_t, bnot_f, band_t, band_f, true_and, and_true, lenI, noBytes, and_self]
  refine ⟨fun h => ?_, fun h0 => ⟨fun h => ?_, fun h1 => ⟨fun h => ?_, fun h2 => ?_⟩⟩⟩
  · have : frameZ d0.l d1.i = ⟨0, [], 0, 2⟩ := by unfold frameZ; rw [if_pos (.inl h)]
    rw [this]; exact ⟨rfl, rfl, rfl, rfl⟩
  · have : frameZ d0.l d1.i = ⟨0, [], 0, 2⟩ := by unfold frameZ; rw [if_pos (.inr h)]
    rw [this]; exact ⟨rfl, rfl, rfl, rfl⟩
  · have : frameZ d0.l d1.i = ⟨0, [], 0, 7⟩ := by unfold frameZ; rw [if_neg (by omega), if_pos (by omega)]
    rw [this]; exact ⟨rfl, rfl, rfl, rfl⟩
  obtain ⟨a', ha'⟩ : ∃ a' : Nat, d1.i = a' := ⟨d1.i.toNat, by omega⟩
  have fT : (textZ d0.l (d1.i + 1)).e ≠ 0 → frameZ d0.l d1.i = ⟨0, [], 0, (textZ d0.l (d1.i + 1)).e⟩ := fun h => by
    unfold frameZ; rw [if_neg (by omega), if_neg (by omega), if_pos h]
  have ep : iadd .i64 d1.i 1 = d1.i + 1 := iadd_eq (by omega)
  rw [ep]
  obtain ⟨a, ha⟩ : ∃ a : Nat, d1.i + 1 = a := ⟨a' + 1, by omega⟩
  have tI : (intZ d0.l (d1.i + 1)).e ≠ 0 → textZ d0.l (d1.i + 1) = ⟨[], 0, (intZ d0.l (d1.i + 1)).e⟩ := fun h => by unfold textZ; rw [if_pos h]
  have eT : ∀ e : Int, e ≠ 0 → textZ d0.l (d1.i + 1) = ⟨[], 0, e⟩ → 0 = (frameZ d0.l d1.i).k ∧ (frameZ d0.l d1.i).p = [] ∧ 0 = (frameZ d0.l d1.i).x ∧ e = (frameZ d0.l d1.i).e := fun e h1 h2 => by
    rw [fT (by rw [h2]; exact h1), h2]; exact ⟨rfl, rfl, rfl, rfl⟩
  refine ⟨⟨by rw [isub_eq (by omega)]; omega, by rw [isub_eq (by omega)]; omega⟩, ⟨?_, fun g hg => ?_⟩, ?_⟩
  · have hz : intZ d0.l (d1.i + 1) = intA d0.l a := by unfold intZ; rw [if_neg (by omega), ha]; rfl
    have er : ∀ e : Int, e ≠ 0 → intA d0.l a = ⟨0, 0, e⟩ → 0 = (frameZ d0.l d1.i).k ∧ (frameZ d0.l d1.i).p = [] ∧ 0 = (frameZ d0.l d1.i).x ∧ e = (frameZ d0.l d1.i).e := fun e h1 h2 =>
      eT e h1 (by rw [tI (by rw [hz, h2]; exact h1), hz, h2])
    rw [hz]
    generalize frameZ d0.l d1.i = F at *
    rw [ha]
    simp only [Int.toNat_natCast]
    refine ⟨⟨0, ⟨by omega, by omega, fun j hj => by omega⟩, ⟨rfl, rfl⟩, by simp⟩, fun g hg => ?_⟩
    obtain ⟨g1, g2, g3⟩ := hg
    have e1 : iadd .i64 ((a : Int) + (g : Int)) 1 = ((a + g + 1 : Nat) : Int) := by rw [iadd_eq (by omega)]; omega
    have e2 : isub .i64 ((a + g + 1 : Nat) : Int) 1 = ((a + g : Nat) : Int) := by rw [isub_eq (by omega)]; omega
    have e3 : (elt d0.l ((a + g : Nat) : Int)).i = ei d0.l (a + g) := rfl
    have e4 : ((a : Int) + (g : Int)) = ((a + g : Nat) : Int) := rfl
    have e5 : imul .i64 7 (g : Int) = 7 * (g : Int) := imul_eq (by omega)
    have e6 : iadd .i64 (g : Int) 1 = ((g + 1 : Nat) : Int) := by rw [iadd_eq (by omega)]; rfl
    obtain ⟨hor, r7, r9, r0, rok, hC, hnx⟩ := num_facts hb g1 g2 g3
    rw [e1, e2, e3, e4, e6]
    have fin : ((a + g : Nat) : Int) < d0.l.length → ei d0.l (a + g) < 128 → ¬ (g = 9 ∧ 1 < ei d0.l (a + g)) → ¬ (0 < g ∧ ei d0.l (a + g) = 0) → (2 : Int) ≠ 0 ∧
        (irem (codeTo d0.l a (g + 1)) 2 = 1 → (2 : Int) ≠ 0 ∧ ∃ _ : Unit, (intA d0.l a).e = 0 ∧ isub .i64 (isub .i64 0 (iconv .i64 (iquo .u64 (codeTo d0.l a (g + 1)) 2))) 1 = (intA d0.l a).n ∧ ((a + g + 1 : Nat) : Int) = (intA d0.l a).x) ∧
        (irem (codeTo d0.l a (g + 1)) 2 ≠ 1 → (2 : Int) ≠ 0 ∧ ∃ _ : Unit, (intA d0.l a).e = 0 ∧ iconv .i64 (iquo .u64 (codeTo d0.l a (g + 1)) 2) = (intA d0.l a).n ∧ ((a + g + 1 : Nat) : Int) = (intA d0.l a).x) := fun h1 h2 h3 h4 => by
      rw [rok (by omega) h2 h3 h4]
      exact ⟨by decide, fun h => ⟨by decide, (), rfl, dec_t (hC h3) h, rfl⟩, fun h => ⟨by decide, (), rfl, dec_f (hC h3) h, rfl⟩⟩
    refine ⟨fun h => er 7 (by decide) (r7 (by omega)), fun hlt => ⟨by omega, fun h9 => ⟨fun hgt => er 5 (by decide) (r9 (by omega) (by omega) hgt), fun hle => ?_⟩, fun h9 => ?_⟩⟩
    · have hn : ¬ (g = 9 ∧ 1 < ei d0.l (a + g)) := by omega
      rw [hor hn, e5]
      exact ⟨by decide, by omega, fun h => by omega, fun h128 => ⟨fun h0 => ⟨fun hz0 => er 5 (by decide) (r0 (by omega) h128 (by omega) hz0), fun hz0 => fin hlt h128 hn (by omega)⟩, fun h0 => fin hlt h128 hn (by omega)⟩⟩
    · have hn : ¬ (g = 9 ∧ 1 < ei d0.l (a + g)) := by omega
      rw [hor hn, e5]
      exact ⟨by decide, by omega, fun h => hnx h (by omega) (by omega), fun h128 => ⟨fun h0 => ⟨fun hz0 => er 5 (by decide) (r0 (by omega) h128 (by omega) hz0), fun hz0 => fin hlt h128 hn (by omega)⟩, fun h0 => fin hlt h128 hn (by omega)⟩⟩
  · obtain ⟨x0, x1, x2, _⟩ := intZ_x hg
    have t2 : (intZ d0.l (d1.i + 1)).n < 0 → textZ d0.l (d1.i + 1) = ⟨[], 0, 5⟩ := fun h2 => by unfold textZ; rw [if_neg (by omega), if_pos h2]
    have t3 : 65536 < (intZ d0.l (d1.i + 1)).n → textZ d0.l (d1.i + 1) = ⟨[], 0, 4⟩ := fun h2 => by unfold textZ; rw [if_neg (by omega), if_neg (by omega), if_pos h2]
    have t4 : 0 ≤ (intZ d0.l (d1.i + 1)).n → (intZ d0.l (d1.i + 1)).n ≤ 65536 → (d0.l.length : Int) - (intZ d0.l (d1.i + 1)).x < (intZ d0.l (d1.i + 1)).n → textZ d0.l (d1.i + 1) = ⟨[], 0, 7⟩ := fun h2 h3 h4 => by unfold textZ; rw [if_neg (by omega), if_neg (by omega), if_neg (by omega), if_pos h4]
    have t5 : 0 ≤ (intZ d0.l (d1.i + 1)).n → (intZ d0.l (d1.i + 1)).n ≤ 65536 → (intZ d0.l (d1.i + 1)).n ≤ (d0.l.length : Int) - (intZ d0.l (d1.i + 1)).x → textZ d0.l (d1.i + 1) = ⟨strD (xsub d0.l (intZ d0.l (d1.i + 1)).x ((intZ d0.l (d1.i + 1)).x + (intZ d0.l (d1.i + 1)).n)), (intZ d0.l (d1.i + 1)).x + (intZ d0.l (d1.i + 1)).n, 0⟩ :=
      fun h2 h3 h4 => by unfold textZ; rw [if_neg (by omega), if_neg (by omega), if_neg (by omega), if_neg (by omega)]
    generalize intZ d0.l (d1.i + 1) = I at *
    have q : isub .i64 (d0.l.length : Int) I.x = (d0.l.length : Int) - I.x := isub_eq (by omega)
    rw [q]
    refine ⟨fun h => eT 5 (by decide) (t2 h), fun h2 => ⟨fun h3 => eT 4 (by decide) (t3 h3), fun h3 => ⟨fun h4 => eT 7 (by decide) (t4 h2 h3 h4), fun h4 => ?_⟩⟩⟩
    have q2 : iadd .i64 I.x I.n = I.x + I.n := iadd_eq (by omega)
    have q3 : isub .i64 (I.x + I.n) I.n = I.x := by rw [isub_eq (by omega)]; omega
    rw [q2, q3, t5 h2 h3 h4]
    have q4 : (xsub d0.l I.x (I.x + I.n)).length ≤ d0.l.length := by unfold xsub; rw [List.length_drop, List.length_take]; omega
    exact ⟨by omega, by omega, (), rfl, (strD_bytes (xsub_wt hbw)).symm, rfl⟩
  · intro g hg
    obtain ⟨_, _, _, y0, y1, y2, y3, _⟩ := textZ_x hg
    have f7 : (d0.l.length : Int) - (textZ d0.l (d1.i + 1)).x < 4 → frameZ d0.l d1.i = ⟨0, [], 0, 7⟩ := fun h => by
      unfold frameZ; rw [if_neg (by omega), if_neg (by omega), if_neg (by omega), if_pos h]
    have f8 : ¬ (d0.l.length : Int) - (textZ d0.l (d1.i + 1)).x < 4 → be4 d0.l (textZ d0.l (d1.i + 1)).x 4 ≠ sumZ (xsub d0.l d1.i (textZ d0.l (d1.i + 1)).x) → frameZ d0.l d1.i = ⟨0, [], 0, 8⟩ := fun h h2 => by
      unfold frameZ; rw [if_neg (by omega), if_neg (by omega), if_neg (by omega), if_neg h, if_pos h2]
    have f0 : ¬ (d0.l.length : Int) - (textZ d0.l (d1.i + 1)).x < 4 → be4 d0.l (textZ d0.l (d1.i + 1)).x 4 = sumZ (xsub d0.l d1.i (textZ d0.l (d1.i + 1)).x) → frameZ d0.l d1.i = ⟨ei d0.l d1.i.toNat, bytesD (textZ d0.l (d1.i + 1)).s, (textZ d0.l (d1.i + 1)).x + 4, 0⟩ := fun h h2 => by
      unfold frameZ; rw [if_neg (by omega), if_neg (by omega), if_neg (by omega), if_neg h, if_neg (by omega)]
    generalize textZ d0.l (d1.i + 1) = T at *
    refine ⟨⟨by omega, by omega, by omega⟩, ⟨0, ⟨by omega, by omega⟩, ⟨rfl, rfl⟩, by omega⟩, fun g hg => ⟨fun hlt => ⟨by decide, fun h => ?_, fun h => ?_⟩, fun hge => ⟨fun h => ?_, fun h => ?_⟩⟩⟩
    · rw [f7 (by omega)]; exact ⟨rfl, rfl, rfl, rfl⟩
    · have e1 : iadd .i64 (T.x + (g : Int)) 1 = T.x + (g : Int) + 1 := iadd_eq (by omega)
      have e2 : isub .i64 (T.x + (g : Int) + 1) 1 = ((T.x.toNat + g : Nat) : Int) := by rw [isub_eq (by omega)]; omega
      rw [e1, e2]
      have e3 : (elt d0.l ((T.x.toNat + g : Nat) : Int)).i = ei d0.l (T.x.toNat + g) := rfl
      rw [e3]
      have hB := be4_small (a := T.x) hb (i := g) (by omega)
      have hE := hb (T.x.toNat + g)
      have e4 : iconv .i64 (ei d0.l (T.x.toNat + g)) = ei d0.l (T.x.toNat + g) := iconv_eq (by omega)
      have e5 : ishl .i64 (be4 d0.l T.x g) 8 = 256 * be4 d0.l T.x g := by
        unfold ishl
        show IntKind.wrap .i64 (be4 d0.l T.x g * 2 ^ 8) = _
        rw [show be4 d0.l T.x g * 2 ^ 8 = 256 * be4 d0.l T.x g from by omega]
        exact iconv_eq (by omega)
      rw [e4, e5, iadd_eq (by omega)]
      exact ⟨by omega, g + 1, ⟨by omega, by omega⟩, by omega, ⟨rfl, by rw [iadd_eq (by omega)]; rfl⟩, by omega⟩
    · obtain rfl : g = 4 := by omega
      rw [f8 (by omega) h]; exact ⟨rfl, rfl, rfl, rfl⟩
    · obtain rfl : g = 4 := by omega
      rw [f0 (by omega) h]
      have e2 : isub .i64 (d1.i + 1) 1 = ((d1.i.toNat : Nat) : Int) := by rw [isub_eq (by omega)]; omega
      have e4 : iconv .i64 (ei d0.l d1.i.toNat) = ei d0.l d1.i.toNat := iconv_eq (by have := hb d1.i.toNat; omega)
      rw [e2]
      exact ⟨e4, rfl, rfl, rfl⟩
end Go.Proofs.Ytngjkhnhnaohmaa
