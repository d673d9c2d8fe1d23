/- Part of the proof of the laws of this seat: contracts of its functions, for every input. -/
import Derived.Test.YtjncolngfeglkaaWS
set_option linter.all false
namespace Go.Proofs.Ytjncolngfeglkaa
open Go Go.RX Go.Proofs
set_option maxRecDepth 100000
set_option linter.all false
set_option maxHeartbeats 1000000
theorem c34 : ConOK Try.prog 34 con34 := by
  refine conOK_of_exec (inl := noInl) noInl_ok (lp := lp34) (tb := tb34) (c := bodyOf Try.f34) ⟨tt_ok, tbK_ok⟩ mixed Try.func34 (by kernel_rfl) (by kernel_rfl) ?_
  intro dat hpre hwt
  have hw0 := wts1 hwt
  obtain ⟨d0, rfl, w0⟩ := hw0
  refine Eq.mpr (vc34 d0) ?_
  have hl : d0.l.length ≤ 1000000 := hpre
  simp only [ile_t, ile_f, ilt_t, ilt_f, ieq_t, ieq_f, bnot_t, bnot_f, band_t, band_f, true_and, and_true, lenI, mkL_len, List.length_cons, List.length_nil]
  have hh := @hgt_le d0.l
  refine ⟨by omega, ⟨0, by omega, rfl, rfl⟩, fun g hg => ⟨fun h => ⟨levN_le hl, by omega, g + 1, hgt_lt (by omega) hg, by have := hgt_lt (l := d0.l) (k := g) (by omega) hg; omega, rfl, mkL_snoc (f := fun k => .list (levN d0.l k))⟩, fun h => ?_⟩⟩
  rw [hgt_eq (l := d0.l) (k := g) (by omega) hg]; rfl
theorem tb24_ok : TabOK Try.prog tb24 := fun f con h => by
  unfold tb24 at h
  split at h
  · cases h; exact c34
  · cases h
/-! ### Depth first and breadth first -/
section
variable (X Y : List D)
def runN : Nat → List Nat → List Nat
  | 0, q => q
  | h + 1, q => runN h (lvN (levT X h) (levT Y h) q)
def runC : Nat → List Nat → Nat
  | 0, _ => 0
  | h + 1, q => lvC (levT X h) q + runC h (lvN (levT X h) (levT Y h) q)
theorem runN_app : ∀ {h : Nat} {q r : List Nat}, runN X Y h (q ++ r) = runN X Y h q ++ runN X Y h r
  | 0, _, _ => rfl
  | h + 1, q, r => by rw [runN, lvN_app, runN_app]; rfl
theorem runC_app : ∀ {h : Nat} {q r : List Nat}, runC X Y h (q ++ r) = runC X Y h q + runC X Y h r
  | 0, _, _ => rfl
  | h + 1, q, r => by
    rw [runC, lvN_app, lvC_app, runC_app]
    show _ = lvC (levT X h) q + runC X Y h (lvN (levT X h) (levT Y h) q) + (lvC (levT X h) r + runC X Y h (lvN (levT X h) (levT Y h) r))
    omega
theorem runN_nil : ∀ {h : Nat}, runN X Y h [] = []
  | 0 => rfl
  | h + 1 => by rw [runN]; exact runN_nil (h := h)
theorem runC_nil : ∀ {h : Nat}, runC X Y h [] = 0
  | 0 => rfl
  | h + 1 => by
    have : runC X Y (h + 1) [] = lvC (levT X h) [] + runC X Y h [] := rfl
    rw [this, runC_nil (h := h)]; rfl
theorem bfs_runN {T : Nat} : ∀ {t : Nat}, t ≤ T → runN X Y (T - t) (bfsN X Y T t) = runN X Y T [0]
  | 0, _ => rfl
  | t + 1, h => by
    rw [← bfs_runN (t := t) (by omega), show T - t = (T - 1 - t) + 1 by omega, show T - (t + 1) = T - 1 - t by omega]
    rfl
theorem bfs_runC {T : Nat} : ∀ {t : Nat}, t ≤ T → bfsC X Y T t + runC X Y (T - t) (bfsN X Y T t) = 1 + runC X Y T [0]
  | 0, _ => rfl
  | t + 1, h => by
    rw [← bfs_runC (t := t) (by omega), show T - t = (T - 1 - t) + 1 by omega, show T - (t + 1) = T - 1 - t by omega]
    show bfsC X Y T t + lvC (levT X (T - 1 - t)) (bfsN X Y T t) + _ = bfsC X Y T t + (lvC (levT X (T - 1 - t)) (bfsN X Y T t) + _)
    rw [Nat.add_assoc]
    rfl
theorem up_one {l : List D} {k : Nat} (h : 2 * k + 1 = l.length) : ei (upZ l) k = ei l (2 * k) := by
  rw [upZ_ei (by omega)]; unfold upF; rw [if_neg (by omega)]
section
variable {T : Nat} (hX : ∀ h, h < T → levT X (h + 1) = upZ (levT X h)) (hY : ∀ h, h < T → levT Y (h + 1) = upZ (levT Y h)) (hl : ∀ h, h ≤ T → (levT Y h).length = (levT X h).length)
include hX hY hl
theorem bel_eq : ∀ {t k : Nat}, t ≤ T → k < (levT X t).length → ei (levT X t) k = ei (levT Y t) k → belN X Y t k = [] ∧ belC X Y t k = 1
  | 0, k, _, _, h => ⟨if_pos h, rfl⟩
  | t + 1, k, ht, hk, h => by
    by_cases hc : (levT X t).length ≤ 2 * k + 1
    · have e1 : belN X Y (t + 1) k = belN X Y t (2 * k) := if_pos hc
      have e2 : belC X Y (t + 1) k = belC X Y t (2 * k) := if_pos hc
      rw [e1, e2]
      rw [hX t (by omega), upZ_len] at hk
      have hy := hl t (by omega)
      rw [hX t (by omega), hY t (by omega), up_one (by omega), up_one (by omega)] at h
      exact bel_eq (by omega) (by omega) h
    · exact ⟨(if_neg hc).trans (if_pos h), (if_neg hc).trans (if_pos h)⟩
theorem bel_ne : ∀ {t k : Nat}, t ≤ T → k < (levT X t).length → ei (levT X t) k ≠ ei (levT Y t) k → belN X Y t k = runN X Y t [k] ∧ belC X Y t k = 1 + runC X Y t [k]
  | 0, k, _, _, h => ⟨if_neg h, rfl⟩
  | t + 1, k, ht, hk, h => by
    have hu := hX t (by omega)
    rw [hu, upZ_len] at hk
    have hy := hl t (by omega)
    have eN : runN X Y (t + 1) [k] = runN X Y t (kidsN (levT X t) (levT Y t) k) := by rw [runN, lvN_one]
    have eC : runC X Y (t + 1) [k] = kcnt (levT X t) k + runC X Y t (kidsN (levT X t) (levT Y t) k) := by rw [runC, lvN_one, lvC_one]
    by_cases hc : (levT X t).length ≤ 2 * k + 1
    · have e1 : belN X Y (t + 1) k = belN X Y t (2 * k) := if_pos hc
      have e2 : belC X Y (t + 1) k = belC X Y t (2 * k) := if_pos hc
      rw [e1, e2, eN, eC]
      rw [hu, hY t (by omega), up_one (by omega), up_one (by omega)] at h
      have hk2 : kidsN (levT X t) (levT Y t) k = [2 * k] := by unfold kidsN; rw [if_pos (by omega)]
      have hc2 : kcnt (levT X t) k = 0 := by unfold kcnt; rw [if_pos (by omega)]
      rw [hk2, hc2, Nat.zero_add]
      exact bel_ne (by omega) (by omega) h
    · have e1 : belN X Y (t + 1) k = belN X Y t (2 * k) ++ belN X Y t (2 * k + 1) := (if_neg hc).trans (if_neg h)
      have e2 : belC X Y (t + 1) k = 1 + belC X Y t (2 * k) + belC X Y t (2 * k + 1) := (if_neg hc).trans (if_neg h)
      have hk2 : kidsN (levT X t) (levT Y t) k = (if ei (levT X t) (2 * k) ≠ ei (levT Y t) (2 * k) then [2 * k] else []) ++ (if ei (levT X t) (2 * k + 1) ≠ ei (levT Y t) (2 * k + 1) then [2 * k + 1] else []) := by
        unfold kidsN; rw [if_neg (by omega), kidE_two]
      have hc2 : kcnt (levT X t) k = 2 := by unfold kcnt; rw [if_neg (by omega)]
      have one : ∀ j, j < (levT X t).length → belN X Y t j = runN X Y t (if ei (levT X t) j ≠ ei (levT Y t) j then [j] else []) ∧ belC X Y t j = 1 + runC X Y t (if ei (levT X t) j ≠ ei (levT Y t) j then [j] else []) := fun j hj => by
        by_cases hq : ei (levT X t) j = ei (levT Y t) j
        · rw [if_neg (by simpa using hq), runN_nil, runC_nil]
          exact bel_eq X Y hX hY hl (by omega) hj hq
        · rw [if_pos hq]; exact bel_ne (by omega) hj hq
      obtain ⟨n1, c1⟩ := one (2 * k) (by omega)
      obtain ⟨n2, c2⟩ := one (2 * k + 1) (by omega)
      rw [e1, e2, eN, eC, hk2, runN_app, runC_app, hc2, n1, n2, c1, c2]
      exact ⟨rfl, by omega⟩
end
end
theorem levT_up {l : List D} : ∀ h, h < hgt l → levT (levs l) (h + 1) = upZ (levT (levs l) h) := fun h hh => by
  rw [levT_levs (by omega), levT_levs (by omega)]; rfl
theorem bel_dif {a b : List D} (hn : a.length = b.length) (h1 : 1 ≤ a.length) : mapI (belN (levs a) (levs b) (hgt a) 0) = (difZ a b).l ∧ ((belC (levs a) (levs b) (hgt a) 0 : Nat) : Int) = (difZ a b).c := by
  have hs := hgt_same hn
  have hX := @levT_up a
  have hY : ∀ h, h < hgt a → levT (levs b) (h + 1) = upZ (levT (levs b) h) := by rw [← hs]; exact @levT_up b
  have hl : ∀ h, h ≤ hgt a → (levT (levs b) h).length = (levT (levs a) h).length := fun h hh => by
    rw [levT_levs (by omega), levT_levs (by omega)]; exact (levN_same hn).symm
  have tA : levT (levs a) (hgt a) = levN a (hgt a) := levT_levs (Nat.le_refl _)
  have tB : levT (levs b) (hgt a) = levN b (hgt a) := levT_levs (by omega)
  have hp : 0 < (levT (levs a) (hgt a)).length := by rw [tA, levN_len]; exact szN_pos h1
  unfold difZ
  rw [if_neg (by omega), if_neg (by omega), hs]
  by_cases hq : ei (levN a (hgt a)) 0 = ei (levN b (hgt a)) 0
  · rw [if_pos hq]
    obtain ⟨e1, e2⟩ := bel_eq _ _ hX hY hl (Nat.le_refl _) hp (by rw [tA, tB]; exact hq)
    rw [e1, e2]; exact ⟨rfl, rfl⟩
  · rw [if_neg hq]
    obtain ⟨e1, e2⟩ := bel_ne _ _ hX hY hl (Nat.le_refl _) hp (by rw [tA, tB]; exact hq)
    have r1 := bfs_runN (levs a) (levs b) (T := hgt a) (t := hgt a) (Nat.le_refl _)
    have r2 := bfs_runC (levs a) (levs b) (T := hgt a) (t := hgt a) (Nat.le_refl _)
    rw [Nat.sub_self] at r1 r2
    have z1 : runN (levs a) (levs b) 0 (bfsN (levs a) (levs b) (hgt a) (hgt a)) = bfsN (levs a) (levs b) (hgt a) (hgt a) := rfl
    have z2 : runC (levs a) (levs b) 0 (bfsN (levs a) (levs b) (hgt a) (hgt a)) = 0 := rfl
    rw [z1] at r1
    rw [z2] at r2
    rw [e1, e2, ← r1, ← r2]; exact ⟨rfl, rfl⟩
theorem bel_bound {a b : List D} (hn : a.length = b.length) (h1 : 1 ≤ a.length) (h2 : a.length ≤ 1000) : (belN (levs a) (levs b) (hgt a) 0).length ≤ 1000 ∧ belC (levs a) (levs b) (hgt a) 0 ≤ 10000000 ∧ ∀ x ∈ belN (levs a) (levs b) (hgt a) 0, x < 1000 := by
  have hs := hgt_same hn
  have hX := @levT_up a
  have hY : ∀ h, h < hgt a → levT (levs b) (h + 1) = upZ (levT (levs b) h) := by rw [← hs]; exact @levT_up b
  have hl : ∀ h, h ≤ hgt a → (levT (levs b) h).length = (levT (levs a) h).length := fun h hh => by
    rw [levT_levs (by omega), levT_levs (by omega)]; exact (levN_same hn).symm
  have tA : levT (levs a) (hgt a) = levN a (hgt a) := levT_levs (Nat.le_refl _)
  have tB : levT (levs b) (hgt a) = levN b (hgt a) := levT_levs (by omega)
  have hp : 0 < (levT (levs a) (hgt a)).length := by rw [tA, levN_len]; exact szN_pos h1
  by_cases hq : ei (levN a (hgt a)) 0 = ei (levN b (hgt a)) 0
  · obtain ⟨e1, e2⟩ := bel_eq _ _ hX hY hl (Nat.le_refl _) hp (by rw [tA, tB]; exact hq)
    rw [e1, e2]; exact ⟨by simp, by omega, fun x hx => by cases hx⟩
  · obtain ⟨e1, e2⟩ := bel_ne _ _ hX hY hl (Nat.le_refl _) hp (by rw [tA, tB]; exact hq)
    have r1 := bfs_runN (levs a) (levs b) (T := hgt a) (t := hgt a) (Nat.le_refl _)
    have r2 := bfs_runC (levs a) (levs b) (T := hgt a) (t := hgt a) (Nat.le_refl _)
    rw [Nat.sub_self] at r1 r2
    have z1 : runN (levs a) (levs b) 0 (bfsN (levs a) (levs b) (hgt a) (hgt a)) = bfsN (levs a) (levs b) (hgt a) (hgt a) := rfl
    have z2 : runC (levs a) (levs b) 0 (bfsN (levs a) (levs b) (hgt a) (hgt a)) = 0 := rfl
    rw [z1] at r1
    rw [z2] at r2
    rw [e1, e2, ← r1, ← r2]
    obtain ⟨i1, i2, i3⟩ := bfs_inv hn h1 (t := hgt a) (Nat.le_refl _)
    rw [Nat.sub_self] at i2
    have i2' : ∀ x ∈ bfsN (levs a) (levs b) (hgt a) (hgt a), x < a.length := i2
    have h5 := inc_len (lo := 0) i1 fun x hx => ⟨Nat.zero_le _, i2' x hx⟩
    have hh := @hgt_le a
    have : 2 * a.length * hgt a ≤ 2 * 1000 * 1000 := Nat.mul_le_mul (by omega) (by omega)
    exact ⟨by omega, by omega, fun x hx => by have := i2' x hx; omega⟩
end Go.Proofs.Ytjncolngfeglkaa
