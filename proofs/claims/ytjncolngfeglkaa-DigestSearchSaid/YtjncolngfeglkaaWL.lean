/- Part of the proof of the laws of this seat: contracts of its functions, for every input. -/
import Derived.Test.YtjncolngfeglkaaWK
set_option linter.all false
namespace Go.Proofs.Ytjncolngfeglkaa
open Go Go.RX Go.Proofs
set_option maxRecDepth 100000
set_option linter.all false
def need : Nat → Nat → Nat → Nat
  | 0, _, _ => 0
  | f + 1, a, n => if n ≤ 1 then 0 else (if a % 2 = 1 ∨ a + 1 < n then 1 else 0) + need f (a / 2) (n / 2 + n % 2)
theorem verF_need {root : Int} {pr : List D} : ∀ {f : Nat} {x : Int} {a n u : Nat}, u ≤ pr.length → verF root pr f x a n u = true → u + need f a n = pr.length
  | 0, x, a, n, u, hu, h => by
    rw [verF] at h
    simp only [Bool.and_eq_true, beq_iff_eq] at h
    rw [need]; exact h.2
  | f + 1, x, a, n, u, hu, h => by
    by_cases e : n ≤ 1
    · rw [verF_end e] at h
      simp only [Bool.and_eq_true, beq_iff_eq] at h
      rw [need, if_pos e]; exact h.2
    · rw [verF_step (by omega)] at h
      rw [need, if_neg e]
      split at h
      · rename_i h1
        rw [if_pos h1]
        split at h
        · cases h
        · have := verF_need (by omega) h; omega
      · rename_i h1
        rw [if_neg h1]
        have := verF_need hu h; omega
theorem ei_mid {p r : List D} {x : D} : ei (p ++ x :: r) p.length = x.i := by
  unfold ei
  rw [elt_get (by simp)]
  simp
theorem prf_pre {l : List D} {i k : Nat} : ∀ {m : Nat}, k ≤ m → ∃ r, prfTo l i m = prfTo l i k ++ r
  | 0, h => ⟨[], by rw [show k = 0 by omega]; simp⟩
  | m + 1, h => by
    by_cases e : k = m + 1
    · exact ⟨[], by rw [e]; simp⟩
    · obtain ⟨r, hr⟩ := @prf_pre l i k m (by omega)
      exact ⟨r ++ sibL (levN l m) (i / 2 ^ m), by rw [prfTo, hr]; simp [xcat]⟩
theorem ver_all {l : List D} {i : Nat} (hi : i < l.length) : ∀ {d k f : Nat}, k + d = hgt l → szN l.length k ≤ f →
    verF (ei (levN l (hgt l)) 0) (prfTo l i (hgt l)) f (ei (levN l k) (i / 2 ^ k)) (i / 2 ^ k) (szN l.length k) (prfTo l i k).length = true
  | 0, k, f, hk, hf => by
    obtain rfl : k = hgt l := by omega
    have h1 := @hgt_one l
    rw [levN_len] at h1
    rw [verF_end h1]
    have h2 := at_lt hi (k := hgt l)
    have h0 : i / 2 ^ hgt l = 0 := by
      generalize i / 2 ^ hgt l = z at *; omega
    rw [h0]
    simp
  | d + 1, k, f, hk, hf => by
    have h1 := hgt_more (l := l) (k := k) (by omega)
    have h2 := at_lt hi (k := k)
    obtain ⟨f', rfl⟩ : ∃ f', f = f' + 1 := ⟨f - 1, by rw [levN_len] at h1; omega⟩
    have hz : szN l.length (k + 1) = szN l.length k / 2 + szN l.length k % 2 := by rw [szN]; omega
    have ih := @ver_all l i hi d (k + 1) f' (by omega) (by rw [levN_len] at h1; omega)
    obtain ⟨r, hr⟩ := @prf_pre l i (k + 1) (hgt l) (by omega)
    have hp : prfTo l i (k + 1) = prfTo l i k ++ sibL (levN l k) (i / 2 ^ k) := rfl
    have hup : ei (levN l (k + 1)) (i / 2 ^ k / 2) = upF (levN l k) (i / 2 ^ k / 2) := upZ_ei (by rw [levN_len]; omega)
    rw [verF_step (by rw [levN_len] at h1; exact h1)]
    rw [at_succ, hup, hz] at ih
    rw [← levN_len] at h2 ih ⊢
    rw [hp] at hr ih
    generalize i / 2 ^ k = a at *
    generalize levN l k = lev at *
    generalize prfTo l i k = p at *
    generalize prfTo l i (hgt l) = pr at *
    generalize ei (levN l (hgt l)) 0 = root at *
    unfold upF at ih
    by_cases e1 : a % 2 = 1
    · have hs : sibL lev a = [.int (ei lev (a - 1))] := by unfold sibL; rw [if_pos e1]
      rw [hs] at ih hr
      have hl : pr.length = p.length + 1 + r.length := by rw [hr]; simp; omega
      have he : ei pr p.length = ei lev (a - 1) := by rw [hr, List.append_assoc]; exact ei_mid
      rw [if_pos (.inl e1), if_neg (by omega), if_pos e1, he]
      rw [if_pos (by omega), show 2 * (a / 2) = a - 1 by omega, show a - 1 + 1 = a by omega, List.length_append] at ih
      exact ih
    · by_cases e2 : a + 1 < lev.length
      · have hs : sibL lev a = [.int (ei lev (a + 1))] := by unfold sibL; rw [if_neg e1, if_pos e2]
        rw [hs] at ih hr
        have hl : pr.length = p.length + 1 + r.length := by rw [hr]; simp; omega
        have he : ei pr p.length = ei lev (a + 1) := by rw [hr, List.append_assoc]; exact ei_mid
        rw [if_pos (.inr e2), if_neg (by omega), if_neg e1, he]
        rw [if_pos (by omega), show 2 * (a / 2) = a by omega, List.length_append] at ih
        exact ih
      · have hs : sibL lev a = [] := by unfold sibL; rw [if_neg e1, if_neg e2]
        rw [hs, List.append_nil] at ih
        rw [if_neg (by omega)]
        rw [if_neg (by omega), show 2 * (a / 2) = a by omega] at ih
        exact ih
theorem ver_ok {l : List D} {i : Nat} (hi : i < l.length) : verZ (rootZ l) (ei l i) (i : Int) (l.length : Int) (proofZ l (i : Int)).l = true := by
  have h := @ver_all l i hi (hgt l) 0 l.length (by omega) (Nat.le_refl _)
  unfold verZ rootZ proofZ
  rw [if_neg (by omega), if_neg (by omega), if_neg (by unfold lenI; omega), Int.toNat_natCast, Int.toNat_natCast]
  simp only [Nat.pow_zero, Nat.div_one] at h
  exact h
theorem ver_len {r x i n : Int} {p q : List D} (h1 : verZ r x i n p = true) (h2 : verZ r x i n q = true) : p.length = q.length := by
  unfold verZ at h1 h2
  split at h1
  · cases h1
  · rw [if_neg (by assumption)] at h2
    have := verF_need (Nat.zero_le _) h1
    have := verF_need (Nat.zero_le _) h2
    omega
theorem c7 : ConOK Try.prog 7 con7 := by
  refine conOK_of_exec (inl := noInl) noInl_ok (lp := lp7) (tb := tb7) (c := bodyOf Try.f7) ⟨tt_ok, tbL_ok⟩ mixed Try.func7 (by kernel_rfl) (by kernel_rfl) ?_
  intro dat hpre hwt
  obtain ⟨d0, d1, rfl, w0, w1⟩ := wts2 hwt
  refine Eq.mpr (vc7 d0 d1) ?_
  simp only [ile_t, ile_f, ilt_t, ilt_f, ieq_t, ieq_f, bnot_t, bnot_f, band_t, band_f, true_and, and_true, lenI]
  refine ⟨fun _ => trivial, fun hl => ⟨by omega, ⟨0, by omega, rfl⟩, fun g hg => ⟨fun hlt => ?_, fun hge => trivial⟩⟩⟩
  have hg' : g < d0.l.length := by omega
  have hv := ver_ok hg'
  have he : (proofZ d0.l (g : Int)).e = 0 := by unfold proofZ; rw [if_neg (by unfold lenI; omega)]
  have hpl : (proofZ d0.l (g : Int)).l.length ≤ 100 := by
    unfold proofZ; rw [if_neg (by unfold lenI; omega)]
    have := @prfTo_len d0.l (g : Int).toNat (hgt d0.l)
    have := @hgt_le d0.l
    simp only; omega
  have hx : (elt d0.l (g : Int)).i = ei d0.l g := rfl
  rw [he, hx, hv]
  have en : ∃ g', g' ≤ d0.l.length ∧ d0.l.length - g' < d0.l.length - g ∧ iadd .i64 (g : Int) 1 = (g' : Int) := ⟨g + 1, by omega, by omega, by rw [iadd_eq (by omega)]; rfl⟩
  generalize (proofZ d0.l (g : Int)).l = p at *
  have n1 : ∀ q : List D, q.length ≠ p.length → verZ (rootZ d0.l) (ei d0.l g) (g : Int) (d0.l.length : Int) q = false := fun q hq => by
    cases h : verZ (rootZ d0.l) (ei d0.l g) (g : Int) (d0.l.length : Int) q with
    | false => rfl
    | true => exact absurd (ver_len h hv) hq
  rw [n1 (xcat (xcat [] p) [D.int d1.i]) (by simp [xcat])]
  refine ⟨by omega, fun h => h rfl, fun _ => ⟨by omega, fun h => (by cases h), fun _ => ⟨by omega, by omega, by simp [xcat]; omega, fun h => (by cases h), fun _ => ⟨fun h0 => ?_, fun _ => en⟩⟩⟩⟩
  have e1 : isub .i64 (p.length : Int) 1 = ((p.length - 1 : Nat) : Int) := by rw [isub_eq (by omega)]; omega
  rw [e1, n1 (xsub p 0 ((p.length - 1 : Nat) : Int)) (by simp [xsub]; omega)]
  exact ⟨by omega, by omega, fun h => (by cases h), fun _ => en⟩
end Go.Proofs.Ytjncolngfeglkaa
