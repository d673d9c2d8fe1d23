/- Part of the proof of the laws of this seat: contracts of its functions, for every input. -/
import Derived.Test.YtjncolngfeglkaaWD
set_option linter.all false
namespace Go.Proofs.Ytjncolngfeglkaa
open Go Go.RX Go.Proofs
set_option maxRecDepth 100000
set_option linter.all false
theorem tbK_ok : TabOK Try.prog tbK := fun f con h => by
  unfold tbK at h
  split at h
  · cases h; exact c32
  · cases h; exact c35
  · cases h
/-! ### Heights -/
def szN : Nat → Nat → Nat
  | n, 0 => n
  | n, k + 1 => (szN n k + 1) / 2
theorem szN_shift : ∀ {n k : Nat}, szN n (k + 1) = szN ((n + 1) / 2) k
  | n, 0 => rfl
  | n, k + 1 => by rw [szN, szN_shift (k := k)]; rfl
theorem upZ_len {l : List D} : (upZ l).length = (l.length + 1) / 2 := mkL_len
theorem levN_len {l : List D} : ∀ {k : Nat}, (levN l k).length = szN l.length k
  | 0 => rfl
  | k + 1 => by rw [levN, upZ_len, levN_len (k := k)]; rfl
theorem hgtF_spec : ∀ {f n : Nat}, n ≤ f → szN n (hgtF f n) ≤ 1 ∧ (∀ j, j < hgtF f n → 1 < szN n j) ∧ hgtF f n ≤ f
  | 0, n, h => ⟨by rw [hgtF, szN]; omega, fun j hj => by simp [hgtF] at hj, Nat.le_refl _⟩
  | f + 1, n, h => by
    rw [hgtF]
    by_cases h1 : n ≤ 1
    · rw [if_pos h1]; exact ⟨h1, fun j hj => by omega, by omega⟩
    · rw [if_neg h1]
      obtain ⟨a, b, c⟩ := hgtF_spec (f := f) (n := (n + 1) / 2) (by omega)
      refine ⟨by rw [szN_shift]; exact a, fun j hj => ?_, by omega⟩
      cases j with
      | zero => rw [szN]; omega
      | succ j => rw [szN_shift]; exact b j (by omega)
section
variable {l : List D} {k i : Nat}
theorem hgt_lt (h : 1 < (levN l k).length) (hk : k ≤ hgt l) : k < hgt l := by
  have := (hgtF_spec (Nat.le_refl l.length)).1
  rw [levN_len] at h
  by_cases e : k = hgt l
  · rw [e] at h; unfold hgt at h; omega
  · omega
theorem hgt_eq (h : (levN l k).length ≤ 1) (hk : k ≤ hgt l) : k = hgt l := by
  have := (hgtF_spec (Nat.le_refl l.length)).2.1 k
  rw [levN_len] at h
  unfold hgt at *
  by_cases e : k < hgtF l.length l.length
  · have := this e; omega
  · omega
theorem hgt_le : hgt l ≤ l.length := (hgtF_spec (Nat.le_refl l.length)).2.2
theorem hgt_one : (levN l (hgt l)).length ≤ 1 := by rw [levN_len]; exact (hgtF_spec (Nat.le_refl l.length)).1
theorem hgt_more (h : k < hgt l) : 1 < (levN l k).length := by rw [levN_len]; exact (hgtF_spec (Nat.le_refl l.length)).2.1 k h
theorem szN_le {n : Nat} : ∀ {k : Nat}, szN n k ≤ n
  | 0 => Nat.le_refl _
  | k + 1 => by have := @szN_le n k; rw [szN]; omega
theorem szN_pos {n : Nat} (h : 1 ≤ n) : ∀ {k : Nat}, 1 ≤ szN n k
  | 0 => h
  | k + 1 => by have := @szN_pos n h k; rw [szN]; omega
theorem at_lt {n i : Nat} (h : i < n) : ∀ {k : Nat}, i / 2 ^ k < szN n k
  | 0 => by rw [szN]; simpa using h
  | k + 1 => by
    have := @at_lt n i h k
    rw [szN, Nat.pow_succ, ← Nat.div_div_eq_div_mul]; omega
theorem at_succ : i / 2 ^ (k + 1) = i / 2 ^ k / 2 := by rw [Nat.pow_succ, ← Nat.div_div_eq_div_mul]
theorem sibL_len {lev : List D} {a : Nat} : (sibL lev a).length ≤ 1 := by
  unfold sibL
  split
  · simp
  · split <;> simp
theorem prfTo_len : ∀ {k : Nat}, (prfTo l i k).length ≤ k
  | 0 => Nat.le_refl _
  | k + 1 => by
    have := @prfTo_len k
    have := @sibL_len (levN l k) (i / 2 ^ k)
    rw [prfTo, xcat_len]; omega
theorem prfTo_top (h : i < l.length) : prfTo l i (hgt l + 1) = prfTo l i (hgt l) := by
  have h1 : i / 2 ^ hgt l < (levN l (hgt l)).length := by rw [levN_len]; exact at_lt h
  have h2 := @hgt_one l
  rw [prfTo]
  have : sibL (levN l (hgt l)) (i / 2 ^ hgt l) = [] := by
    generalize i / 2 ^ hgt l = a at *
    unfold sibL; rw [if_neg (by omega), if_neg (by omega)]
  rw [this]; simp [xcat]
theorem levs_len : (levs l).length = hgt l + 1 := mkL_len
theorem levs_elt (h : k ≤ hgt l) : (elt (levs l) (k : Int)).l = levN l k := by
  unfold levs; rw [elt_mkL (by omega)]; rfl
theorem levN_le (h : l.length ≤ 1000000) : (levN l k).length ≤ 1000000 := by
  have := @szN_le l.length k; rw [levN_len]; omega
end
theorem irem_two (a : Nat) : irem (a : Int) 2 = ((a % 2 : Nat) : Int) := by rw [irem_eq (by omega)]; omega
theorem iquo_two {a : Nat} (h : (a : Int) ≤ 9223372036854775807) : iquo .i64 (a : Int) 2 = ((a / 2 : Nat) : Int) := by rw [iquo_eq (by omega) (by omega) h]; omega
theorem c30 : ConOK Try.prog 30 con30 := by
  refine conOK_of_exec (inl := noInl) noInl_ok (lp := lp30) (tb := tb30) (c := bodyOf Try.f30) ⟨tt_ok, tbK_ok⟩ mixed Try.func30 (by kernel_rfl) (by kernel_rfl) ?_
  intro dat hpre hwt
  have hw0 := wts1 hwt
  obtain ⟨d0, rfl, w0⟩ := hw0
  refine Eq.mpr (vc30 d0) ?_
  have hl : d0.l.length ≤ 1000000 := hpre
  simp only [ile_t, ile_f, ilt_t, ilt_f, ieq_t, ieq_f, bnot_t, bnot_f, band_t, band_f, true_and, and_true, lenI, mkL_len, List.length_cons, List.length_nil]
  have hh := @hgt_le d0.l
  refine ⟨⟨0, by omega, rfl, rfl⟩, fun g hg => ⟨fun h => ⟨levN_le hl, by omega, g + 1, hgt_lt (by omega) hg, by have := hgt_lt (l := d0.l) (k := g) (by omega) hg; omega, rfl, mkL_snoc (f := fun k => .list (levN d0.l k))⟩, fun h => ?_⟩⟩
  rw [hgt_eq (l := d0.l) (k := g) (by omega) hg]; rfl
theorem tbM_ok : TabOK Try.prog tbM := fun f con h => by
  unfold tbM at h
  split at h
  · cases h; exact c30
  · cases h; exact c31
  · cases h
theorem c18 : ConOK Try.prog 18 con18 := by
  refine conOK_of_exec (inl := noInl) noInl_ok (lp := noLp) (tb := tb18) (c := bodyOf Try.f18) ⟨tt_ok, tbM_ok⟩ mixed Try.func18 (by kernel_rfl) (by kernel_rfl) ?_
  intro dat hpre hwt
  have hw0 := wts1 hwt
  obtain ⟨d0, rfl, w0⟩ := hw0
  refine Eq.mpr (vc18 d0) ?_
  have hl : d0.l.length ≤ 1000000 := hpre
  simp only [ile_t, ile_f, ilt_t, ilt_f, ieq_t, ieq_f, bnot_t, bnot_f, band_t, band_f, true_and, and_true, lenI, levs_len]
  have hh := @hgt_le d0.l
  unfold rootZ
  refine ⟨fun h => by rw [if_pos (by omega)], fun h => ⟨hl, ?_⟩⟩
  have e : isub .i64 ((hgt d0.l + 1 : Nat) : Int) 1 = (hgt d0.l : Int) := by rw [isub_eq (by omega)]; omega
  have h1 := @szN_pos d0.l.length (by omega) (hgt d0.l)
  rw [e, levs_elt (Nat.le_refl _), levN_len, if_neg (by omega)]
  exact ⟨by omega, by omega, rfl⟩
theorem c19 : ConOK Try.prog 19 con19 := by
  refine conOK_of_exec (inl := noInl) noInl_ok (lp := lp19) (tb := tb19) (c := bodyOf Try.f19) ⟨tt_ok, tbK_ok⟩ mixed Try.func19 (by kernel_rfl) (by kernel_rfl) ?_
  intro dat hpre hwt
  have hw0 := wts1 hwt
  obtain ⟨d0, rfl, w0⟩ := hw0
  refine Eq.mpr (vc19 d0) ?_
  have hl : d0.l.length ≤ 1000000 := hpre
  simp only [ile_t, ile_f, ilt_t, ilt_f, ieq_t, ieq_f, bnot_t, bnot_f, band_t, band_f, true_and, and_true, lenI]
  unfold rootZ
  refine ⟨fun h => by rw [if_pos (by omega)], fun h => ⟨⟨0, by omega, rfl⟩, fun g hg => ⟨fun h1 => ⟨levN_le hl, g + 1, hgt_lt (by omega) hg, by have := hgt_lt (l := d0.l) (k := g) (by omega) hg; omega, rfl⟩, fun h1 => ?_⟩⟩⟩
  have e := hgt_eq (l := d0.l) (k := g) (by omega) hg
  have h2 := @szN_pos d0.l.length (by omega) g
  rw [levN_len, if_neg (by omega), ← e]
  exact ⟨by omega, rfl⟩
theorem c16 : ConOK Try.prog 16 con16 := by
  refine conOK_of_exec (inl := noInl) noInl_ok (lp := lp16) (tb := tb16) (c := bodyOf Try.f16) ⟨tt_ok, tbM_ok⟩ mixed Try.func16 (by kernel_rfl) (by kernel_rfl) ?_
  intro dat hpre hwt
  have hw0 := wts2 hwt
  obtain ⟨d0, d1, rfl, w0, w1⟩ := hw0
  refine Eq.mpr (vc16 d0 d1) ?_
  have hl : d0.l.length ≤ 1000000 := hpre
  simp only [ile_t, ile_f, ilt_t, ilt_f, ieq_t, ieq_f, bnot_t, bnot_f, band_t, band_f, true_and, and_true, lenI, levs_len, List.length_cons, List.length_nil]
  unfold proofZ
  refine ⟨fun h => by rw [if_pos (.inl h)]; exact ⟨rfl, rfl⟩, fun h0 => ⟨fun h => by rw [if_pos (.inr h)]; exact ⟨rfl, rfl⟩, fun h1 => ⟨hl, ⟨0, by omega, ⟨by rw [Nat.pow_zero, Nat.div_one]; omega, rfl⟩, rfl⟩, fun g hg => ⟨fun hlt => ?_, fun hge => ?_⟩⟩⟩⟩
  · obtain ⟨i, hi⟩ : ∃ i : Nat, d1.i = (i : Int) := ⟨d1.i.toNat, by omega⟩
    rw [hi, Int.toNat_natCast, levs_elt (by omega)]
    have hat := at_lt (n := d0.l.length) (i := i) (by omega) (k := g)
    have hsl := @szN_le d0.l.length g
    have hh := @hgt_le d0.l
    rw [← levN_len] at hat hsl
    have i1 : iadd .i64 (g : Int) 1 = ((g + 1 : Nat) : Int) := by rw [iadd_eq (by omega)]; rfl
    have hpl := @prfTo_len d0.l i g
    have hs : prfTo d0.l i (g + 1) = xcat (prfTo d0.l i g) (sibL (levN d0.l g) (i / 2 ^ g)) := rfl
    have i2 : iquo .i64 ((i / 2 ^ g : Nat) : Int) 2 = ((i / 2 ^ (g + 1) : Nat) : Int) := by rw [iquo_two (by omega), at_succ]
    generalize i / 2 ^ g = a at *
    generalize levN d0.l g = lev at *
    have k1 : sibB (a : Int) (lev.length : Int) = decide (a % 2 = 1 ∨ a + 1 < lev.length) := by
      unfold sibB
      rw [irem_two]
      split
      · rename_i h; simp; exact .inl (by omega)
      · rename_i h
        rw [iadd_eq (by omega)]
        unfold ilt
        simp only [decide_eq_decide]
        omega
    rw [k1]
    refine ⟨by omega, fun hb => ?_, fun hb => ⟨by decide, g + 1, by omega, by omega, ⟨i2, i1⟩, ?_⟩⟩
    · have hb := of_decide_eq_true hb
      have k2 : sibI (a : Int) = (if a % 2 = 1 then ((a - 1 : Nat) : Int) else ((a + 1 : Nat) : Int)) := by
        unfold sibI
        rw [irem_two]
        by_cases h : a % 2 = 1
        · rw [if_pos (by omega), if_pos h, isub_eq (by omega)]; omega
        · rw [if_neg (by omega), if_neg h, iadd_eq (by omega)]; omega
      rw [k2]
      by_cases h : a % 2 = 1
      · rw [if_pos h]
        refine ⟨by omega, by omega, by decide, g + 1, by omega, by omega, ⟨i2, i1⟩, ?_⟩
        rw [hs]; unfold sibL; rw [if_pos h]; rfl
      · rw [if_neg h]
        refine ⟨by omega, by omega, by decide, g + 1, by omega, by omega, ⟨i2, i1⟩, ?_⟩
        rw [hs]; unfold sibL; rw [if_neg h, if_pos (by omega)]; rfl
    · have hb := of_decide_eq_false hb
      rw [hs]; unfold sibL; rw [if_neg (by omega), if_neg (by omega)]; simp [xcat]
  · rw [if_neg (by unfold lenI; omega)]
    refine ⟨?_, rfl⟩
    rw [show g = hgt d0.l + 1 by omega, prfTo_top (by omega)]
theorem c17 : ConOK Try.prog 17 con17 := by
  refine conOK_of_exec (inl := noInl) noInl_ok (lp := lp17) (tb := tb17) (c := bodyOf Try.f17) ⟨tt_ok, tbK_ok⟩ mixed Try.func17 (by kernel_rfl) (by kernel_rfl) ?_
  intro dat hpre hwt
  have hw0 := wts2 hwt
  obtain ⟨d0, d1, rfl, w0, w1⟩ := hw0
  refine Eq.mpr (vc17 d0 d1) ?_
  have hl : d0.l.length ≤ 1000000 := hpre
  simp only [ile_t, ile_f, ilt_t, ilt_f, ieq_t, ieq_f, bnot_t, bnot_f, band_t, band_f, true_and, and_true, lenI, List.length_cons, List.length_nil]
  unfold proofZ
  refine ⟨fun h => by rw [if_pos (.inl h)]; exact ⟨rfl, rfl⟩, fun h0 => ⟨fun h => by rw [if_pos (.inr h)]; exact ⟨rfl, rfl⟩, fun h1 => ⟨⟨0, by omega, ⟨rfl, by rw [Nat.pow_zero, Nat.div_one]; omega⟩, rfl⟩, fun g hg => ⟨fun hlt => ?_, fun hge => ?_⟩⟩⟩⟩
  · obtain ⟨i, hi⟩ : ∃ i : Nat, d1.i = (i : Int) := ⟨d1.i.toNat, by omega⟩
    rw [hi, Int.toNat_natCast]
    have hgl := hgt_lt (l := d0.l) (k := g) (by omega) hg
    have hle := @levN_le d0.l g hl
    have hat := at_lt (n := d0.l.length) (i := i) (by omega) (k := g)
    have hsl := @szN_le d0.l.length g
    have hh := @hgt_le d0.l
    rw [← levN_len] at hat hsl
    have hpl := @prfTo_len d0.l i g
    have hs : prfTo d0.l i (g + 1) = xcat (prfTo d0.l i g) (sibL (levN d0.l g) (i / 2 ^ g)) := rfl
    have i2 : iquo .i64 ((i / 2 ^ g : Nat) : Int) 2 = ((i / 2 ^ (g + 1) : Nat) : Int) := by rw [iquo_two (by omega), at_succ]
    have hlev : upZ (levN d0.l g) = levN d0.l (g + 1) := rfl
    rw [hlev, irem_two]
    generalize i / 2 ^ g = a at *
    generalize levN d0.l g = lev at *
    have k3 : iadd .i64 (a : Int) 1 = ((a + 1 : Nat) : Int) := by rw [iadd_eq (by omega)]; omega
    rw [k3]
    refine ⟨by decide, fun h => ?_, fun h => ⟨fun h2 => ⟨by omega, by omega, hle, by decide, g + 1, by omega, by omega, ⟨rfl, i2⟩, ?_⟩, fun h2 => ⟨hle, by decide, g + 1, by omega, by omega, ⟨rfl, i2⟩, ?_⟩⟩⟩
    · have k2 : isub .i64 (a : Int) 1 = ((a - 1 : Nat) : Int) := by rw [isub_eq (by omega)]; omega
      rw [k2]
      refine ⟨by omega, by omega, hle, by decide, g + 1, by omega, by omega, ⟨rfl, i2⟩, ?_⟩
      rw [hs]; unfold sibL; rw [if_pos (by omega)]; rfl
    · rw [hs]; unfold sibL; rw [if_neg (by omega), if_pos (by omega)]; rfl
    · rw [hs]; unfold sibL; rw [if_neg (by omega), if_neg (by omega)]; simp [xcat]
  · rw [if_neg (by unfold lenI; omega)]
    refine ⟨?_, rfl⟩
    rw [hgt_eq (l := d0.l) (k := g) (by omega) hg]
theorem verF_end {root : Int} {pr : List D} {x : Int} {a n u : Nat} (h : n ≤ 1) : ∀ f, verF root pr f x a n u = ((x == root) && (u == pr.length))
  | 0 => rfl
  | f + 1 => by rw [verF, if_pos h]
theorem verF_step {root : Int} {pr : List D} {x : Int} {f a n u : Nat} (h : 1 < n) : verF root pr (f + 1) x a n u = if a % 2 = 1 ∨ a + 1 < n then
      if u = pr.length then false
      else verF root pr f (if a % 2 = 1 then joinZ (ei pr u) x else joinZ x (ei pr u)) (a / 2) (n / 2 + n % 2) (u + 1)
    else verF root pr f x (a / 2) (n / 2 + n % 2) u := by rw [verF, if_neg (by omega)]
theorem sibB_dec {a n : Nat} (h : (a : Int) < 9223372036854775807) : sibB (a : Int) (n : Int) = decide (a % 2 = 1 ∨ a + 1 < n) := by
  unfold sibB
  rw [irem_two]
  split
  · rename_i h; simp; exact .inl (by omega)
  · rename_i h
    rw [iadd_eq (by omega)]
    unfold ilt
    simp only [decide_eq_decide]
    omega
theorem c21 : ConOK Try.prog 21 con21 := by
  refine conOK_of_exec (inl := noInl) noInl_ok (lp := lp21) (tb := tb21) (c := bodyOf Try.f21) ⟨tt_ok, tbJ_ok⟩ mixed Try.func21 (by kernel_rfl) (by kernel_rfl) ?_
  intro dat hpre hwt
  have hw0 := wts5 hwt
  obtain ⟨d0, d1, d2, d3, d4, hdat, hws⟩ := hw0
  subst hdat
  have w0 := hws.1
  have w1 := hws.2.1
  have w2 := hws.2.2.1
  have w3 := hws.2.2.2.1
  have w4 := hws.2.2.2.2
  clear hws hwt
  rw [vc21 d0 d1 d2 d3 d4]
  have hn := (wt_i64 w3).2
  have hpl := wt_len w4
  simp only [ile_t, ile_f, ilt_t, ilt_f, ieq_t, ieq_f, bnot_t, bnot_f, band_t, band_f, true_and, and_true, lenI]
  refine ⟨fun h => by unfold verZ; rw [if_pos (.inl h)], fun h0 => ⟨fun h => by unfold verZ; rw [if_pos (.inr h)], fun h1 => ?_⟩⟩
  have hT : verZ d0.i d1.i d2.i d3.i d4.l = verF d0.i d4.l d3.i.toNat d1.i d2.i.toNat d3.i.toNat 0 := by unfold verZ; rw [if_neg (by omega)]
  rw [hT]
  refine ⟨⟨⟨d3.i.toNat, d1.i, d2.i.toNat, d3.i.toNat, 0⟩, ⟨by simp only; omega, Nat.le_refl _, by simp only; omega, by simp only; omega, Nat.zero_le _, rfl⟩, by simp only; omega, by simp only; omega, rfl, rfl⟩, fun g hg => ?_⟩
  generalize verF d0.i d4.l d3.i.toNat d1.i d2.i.toNat d3.i.toNat 0 = T at *
  obtain ⟨f, x, a, n, u⟩ := g
  simp only at hg ⊢
  obtain ⟨g1, g2, g3, g4, g5, g6⟩ := hg
  have e1 : iadd .i64 (u : Int) 1 = ((u + 1 : Nat) : Int) ∨ u = d4.l.length := by
    by_cases h : u = d4.l.length
    · exact .inr h
    · exact .inl (by rw [iadd_eq (by omega)]; rfl)
  refine ⟨fun hlt => ?_, fun hle => ?_⟩
  · obtain ⟨f', rfl⟩ : ∃ f', f = f' + 1 := ⟨f - 1, by omega⟩
    rw [verF_step (by omega)] at g6
    have e2 : iadd .i64 (iquo .i64 (n : Int) 2) (irem (n : Int) 2) = ((n / 2 + n % 2 : Nat) : Int) := by rw [iquo_two g4, irem_two, iadd_eq (by omega)]; omega
    rw [sibB_dec (by omega), e2, iquo_two (a := a) (by omega), irem_two]
    refine ⟨fun hb => ⟨fun hu => ?_, fun hu => ⟨by decide, fun hr => ⟨by omega, by decide, by decide, by decide, ⟨f', _, a / 2, n / 2 + n % 2, u + 1⟩, ⟨by simp only; omega, by simp only; omega, by simp only; omega, by simp only; omega, by simp only; omega, ?_⟩, by simp only; omega, rfl, rfl, rfl, e1.resolve_right (by omega)⟩,
      fun hr => ⟨by omega, by decide, by decide, by decide, ⟨f', _, a / 2, n / 2 + n % 2, u + 1⟩, ⟨by simp only; omega, by simp only; omega, by simp only; omega, by simp only; omega, by simp only; omega, ?_⟩, by simp only; omega, rfl, rfl, rfl, e1.resolve_right (by omega)⟩⟩⟩, fun hb => ⟨by decide, by decide, by decide, ⟨f', _, a / 2, n / 2 + n % 2, u⟩, ⟨by simp only; omega, by simp only; omega, by simp only; omega, by simp only; omega, by simp only; omega, ?_⟩, by simp only; omega, rfl, rfl, rfl, rfl⟩⟩
    · rw [if_pos (of_decide_eq_true hb), if_pos (by omega)] at g6; exact g6.symm
    · rw [if_pos (of_decide_eq_true hb), if_neg (by omega), if_neg (by omega)] at g6; exact g6
    · rw [if_pos (of_decide_eq_true hb), if_neg (by omega), if_pos (by omega)] at g6; exact g6
    · rw [if_neg (of_decide_eq_false hb)] at g6; exact g6
  · rw [verF_end (by omega)] at g6
    refine ⟨fun h => ?_, fun h => ?_⟩
    · rw [← g6, h]; refine bool_eq ?_; rw [ieq_t]; simp only [beq_self_eq_true, Bool.true_and, beq_iff_eq]; omega
    · rw [← g6]; simp [h]
theorem c22 : ConOK Try.prog 22 con22 := by
  refine conOK_of_exec (inl := noInl) noInl_ok (lp := lp22) (tb := tb22) (c := bodyOf Try.f22) ⟨tt_ok, tbJ_ok⟩ mixed Try.func22 (by kernel_rfl) (by kernel_rfl) ?_
  intro dat hpre hwt
  have hw0 := wts5 hwt
  obtain ⟨d0, d1, d2, d3, d4, hdat, hws⟩ := hw0
  subst hdat
  have w0 := hws.1
  have w1 := hws.2.1
  have w2 := hws.2.2.1
  have w3 := hws.2.2.2.1
  have w4 := hws.2.2.2.2
  clear hws hwt
  rw [vc22 d0 d1 d2 d3 d4]
  have hn := (wt_i64 w3).2
  have hpl := wt_len w4
  simp only [ile_t, ile_f, ilt_t, ilt_f, ieq_t, ieq_f, bnot_t, bnot_f, band_t, band_f, true_and, and_true, lenI]
  refine ⟨fun h => by unfold verZ; rw [if_pos (.inl h)], fun h0 => ⟨fun h => by unfold verZ; rw [if_pos (.inr h)], fun h1 => ?_⟩⟩
  have hT : verZ d0.i d1.i d2.i d3.i d4.l = verF d0.i d4.l d3.i.toNat d1.i d2.i.toNat d3.i.toNat 0 := by unfold verZ; rw [if_neg (by omega)]
  rw [hT]
  refine ⟨⟨⟨d3.i.toNat, d1.i, d2.i.toNat, d3.i.toNat, 0⟩, ⟨by simp only; omega, Nat.le_refl _, by simp only; omega, by simp only; omega, Nat.zero_le _, rfl⟩, rfl, by simp only; omega, by simp only; omega, rfl⟩, fun g hg => ?_⟩
  generalize verF d0.i d4.l d3.i.toNat d1.i d2.i.toNat d3.i.toNat 0 = T at *
  obtain ⟨f, x, a, n, u⟩ := g
  simp only at hg ⊢
  obtain ⟨g1, g2, g3, g4, g5, g6⟩ := hg
  have e1 : iadd .i64 (u : Int) 1 = ((u + 1 : Nat) : Int) ∨ u = d4.l.length := by
    by_cases h : u = d4.l.length
    · exact .inr h
    · exact .inl (by rw [iadd_eq (by omega)]; rfl)
  refine ⟨fun hlt => ?_, fun hle => ?_⟩
  · obtain ⟨f', rfl⟩ : ∃ f', f = f' + 1 := ⟨f - 1, by omega⟩
    rw [verF_step (by omega)] at g6
    have e2 : iadd .i64 (iquo .i64 (n : Int) 2) (irem (n : Int) 2) = ((n / 2 + n % 2 : Nat) : Int) := by rw [iquo_two g4, irem_two, iadd_eq (by omega)]; omega
    have e3 : isub .i64 (n : Int) 1 = (n : Int) - 1 := isub_eq (by omega)
    have mk : ∀ x' u', u' ≤ d4.l.length → verF d0.i d4.l f' x' (a / 2) (n / 2 + n % 2) u' = T → ∃ g' : VS, (1 ≤ g'.n ∧ g'.n ≤ g'.f ∧ g'.a < g'.n ∧ (g'.n : Int) ≤ 9223372036854775807 ∧ g'.u ≤ d4.l.length ∧ verF d0.i d4.l g'.f g'.x g'.a g'.n g'.u = T) ∧
        g'.n < n ∧ x' = g'.x ∧ ((a / 2 : Nat) : Int) = (g'.a : Int) ∧ ((n / 2 + n % 2 : Nat) : Int) = (g'.n : Int) ∧ (u' : Int) = (g'.u : Int) := fun x' u' h1 h2 =>
      ⟨⟨f', x', a / 2, n / 2 + n % 2, u'⟩, ⟨by simp only; omega, by simp only; omega, by simp only; omega, by simp only; omega, h1, h2⟩, by simp only; omega, rfl, rfl, rfl, rfl⟩
    have two : (2 : Int) ≠ 0 := by decide
    rw [e2, iquo_two (a := a) (by omega), irem_two, e3]
    refine ⟨two, fun hr => ⟨fun hu => ?_, fun hu => ⟨two, fun _ => ⟨by omega, two, two, two, ?_⟩, fun h => absurd hr h⟩⟩, fun hr => ⟨fun hs => ⟨fun hu => ?_, fun hu => ⟨two, fun h => absurd h hr, fun _ => ⟨by omega, two, two, two, ?_⟩⟩⟩, fun hs => ⟨two, two, two, ?_⟩⟩⟩
    · rw [if_pos (by omega), if_pos (by omega)] at g6; exact g6.symm
    · rw [e1.resolve_right (by omega)]
      rw [if_pos (by omega), if_neg (by omega), if_pos (by omega)] at g6
      exact mk _ _ (by omega) g6
    · rw [if_pos (by omega), if_pos (by omega)] at g6; exact g6.symm
    · rw [e1.resolve_right (by omega)]
      rw [if_pos (by omega), if_neg (by omega), if_neg (by omega)] at g6
      exact mk _ _ (by omega) g6
    · rw [if_neg (by omega)] at g6
      exact mk _ _ g5 g6
  · rw [verF_end (by omega)] at g6
    refine ⟨fun h => ?_, fun h => ?_⟩
    · rw [← g6, h]; refine bool_eq ?_; rw [ieq_t]; simp only [beq_self_eq_true, Bool.true_and, beq_iff_eq]; omega
    · rw [← g6]; simp [h]
end Go.Proofs.Ytjncolngfeglkaa
