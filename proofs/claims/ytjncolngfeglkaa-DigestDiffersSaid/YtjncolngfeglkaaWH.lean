/- Part of the proof of the laws of this seat: contracts of its functions, for every input. -/
import Derived.Test.YtjncolngfeglkaaWG
set_option linter.all false
namespace Go.Proofs.Ytjncolngfeglkaa
open Go Go.RX Go.Proofs
set_option maxRecDepth 100000
set_option linter.all false
theorem mapI_len {q : List Nat} : (mapI q).length = q.length := by simp [mapI]
theorem natL_mapI {q : List Nat} : natL (mapI q) = q := by
  unfold natL mapI
  rw [List.map_map]
  conv => rhs; rw [← List.map_id q]
  refine List.map_congr_left fun x _ => ?_
  simp [D.i]
theorem mapI_app {q r : List Nat} : xcat (mapI q) (mapI r) = mapI (q ++ r) := by simp [mapI, xcat]
theorem elt_mapI {q : List Nat} {j : Nat} (h : j < q.length) : (elt (mapI q) (j : Int)).i = (q[j] : Int) := by
  rw [elt_get (by rw [mapI_len]; exact h)]; simp [mapI, D.i]
theorem takeN_succ {q : List Nat} {j : Nat} (h : j < q.length) : takeN (j + 1) q = takeN j q ++ [q[j]] := List.take_succ_eq_append_getElem h
theorem takeN_all {q : List Nat} : takeN q.length q = q := List.take_length
theorem takeN_len {q : List Nat} {j : Nat} : (takeN j q).length ≤ j := by unfold takeN; rw [List.length_take]; omega
theorem lvN_app {xa ya : List D} {q r : List Nat} : lvN xa ya (q ++ r) = lvN xa ya q ++ lvN xa ya r := List.flatMap_append
theorem lvN_one {xa ya : List D} {i : Nat} : lvN xa ya [i] = kidsN xa ya i := by simp [lvN]
theorem lvC_app {xa : List D} {q r : List Nat} : lvC xa (q ++ r) = lvC xa q + lvC xa r := by simp [lvC]
theorem lvC_one {xa : List D} {i : Nat} : lvC xa [i] = kcnt xa i := by simp [lvC]
theorem kcnt_le {xa : List D} {i : Nat} : kcnt xa i ≤ 2 := by unfold kcnt; split <;> omega
theorem lvC_le {xa : List D} : ∀ {q : List Nat}, lvC xa q ≤ 2 * q.length
  | [] => Nat.le_refl _
  | x :: q => by
    have := @lvC_le xa q
    have h := @kcnt_le xa x
    simp only [lvC, List.map_cons, List.sum_cons, List.length_cons] at *
    omega
theorem kidE_len {xa ya : List D} {i : Nat} : ∀ {e : Nat}, (kidE xa ya i e).length ≤ e
  | 0 => Nat.le_refl _
  | e + 1 => by
    have := @kidE_len xa ya i e
    rw [kidE, List.length_append]; split <;> simp <;> omega
theorem kids_len {xa ya : List D} {i : Nat} : (kidsN xa ya i).length ≤ 2 := by
  unfold kidsN; split
  · simp
  · exact kidE_len
theorem lvN_len {xa ya : List D} : ∀ {q : List Nat}, (lvN xa ya q).length ≤ 2 * q.length
  | [] => Nat.le_refl _
  | x :: q => by
    have := @lvN_len xa ya q
    have h := @kids_len xa ya x
    simp only [lvN, List.flatMap_cons, List.length_append, List.length_cons] at *
    omega
theorem kidE_two {xa ya : List D} {i : Nat} : kidE xa ya i 2 = (if ei xa (2 * i) ≠ ei ya (2 * i) then [2 * i] else []) ++ (if ei xa (2 * i + 1) ≠ ei ya (2 * i + 1) then [2 * i + 1] else []) := by
  simp [kidE]
theorem kids_mem {xa ya : List D} {i x : Nat} (h : x ∈ kidsN xa ya i) : x = 2 * i ∨ x = 2 * i + 1 ∧ 2 * i + 1 ≠ xa.length := by
  unfold kidsN at h
  split at h
  · simp at h; exact .inl h
  · rw [kidE_two, List.mem_append] at h
    rcases h with h | h
    · split at h <;> simp at h; exact .inl h
    · split at h <;> simp at h; exact .inr ⟨h, by assumption⟩
theorem kids_inc {xa ya : List D} {i : Nat} : (kidsN xa ya i).Pairwise (· < ·) := by
  unfold kidsN
  split
  · simp
  · rw [kidE_two]
    split <;> split <;> simp
theorem lvN_inc {xa ya : List D} {q : List Nat} (h : q.Pairwise (· < ·)) : (lvN xa ya q).Pairwise (· < ·) := by
  unfold lvN
  rw [List.pairwise_flatMap]
  refine ⟨fun x _ => kids_inc, h.imp fun hab x hx y hy => ?_⟩
  have h1 := kids_mem hx
  have h2 := kids_mem hy
  omega
theorem lvN_bound {xa ya : List D} {q : List Nat} (h : ∀ x ∈ q, x < (xa.length + 1) / 2) : ∀ x ∈ lvN xa ya q, x < xa.length := by
  intro x hx
  unfold lvN at hx
  rw [List.mem_flatMap] at hx
  obtain ⟨i, hi, hx⟩ := hx
  have h1 := h i hi
  rcases kids_mem hx with e | ⟨e, e2⟩ <;> omega
theorem upZ_ei {l : List D} {i : Nat} (h : i < (l.length + 1) / 2) : ei (upZ l) i = upF l i := by
  unfold ei upZ; rw [elt_mkL h]; rfl
theorem kids_differ {xa ya : List D} {i : Nat} (hl : xa.length = ya.length) (hi : i < (xa.length + 1) / 2) (h : ei (upZ xa) i ≠ ei (upZ ya) i) : (∀ x ∈ kidsN xa ya i, ei xa x ≠ ei ya x) ∧ kidsN xa ya i ≠ [] := by
  rw [upZ_ei hi, upZ_ei (by rw [← hl]; exact hi)] at h
  unfold upF at h
  unfold kidsN
  by_cases e : 2 * i + 1 = xa.length
  · rw [if_neg (by omega), if_neg (by omega)] at h
    rw [if_pos e]
    exact ⟨fun x hx => by simp at hx; rw [hx]; exact h, by simp⟩
  · rw [if_pos (by omega), if_pos (by omega)] at h
    rw [if_neg e, kidE_two]
    constructor
    · intro x hx
      rw [List.mem_append] at hx
      rcases hx with hx | hx
      · split at hx
        · rename_i h1; simp at hx; rw [hx]; exact h1
        · simp at hx
      · split at hx
        · rename_i h1; simp at hx; rw [hx]; exact h1
        · simp at hx
    · intro hn
      have h1 : ei xa (2 * i) = ei ya (2 * i) := by
        apply Classical.byContradiction; intro hh; rw [if_pos hh] at hn; simp at hn
      have h2 : ei xa (2 * i + 1) = ei ya (2 * i + 1) := by
        apply Classical.byContradiction; intro hh; rw [if_pos hh] at hn; simp at hn
      exact h (by rw [h1, h2])
theorem lvN_grow {xa ya : List D} (hl : xa.length = ya.length) : ∀ {q : List Nat}, (∀ x ∈ q, x < (xa.length + 1) / 2 ∧ ei (upZ xa) x ≠ ei (upZ ya) x) → q.length ≤ (lvN xa ya q).length
  | [], _ => Nat.le_refl _
  | x :: q, h => by
    have h1 := lvN_grow hl (q := q) fun y hy => h y (List.mem_cons_of_mem _ hy)
    have h2 := (kids_differ hl (h x List.mem_cons_self).1 (h x List.mem_cons_self).2).2
    have h3 := List.length_pos_iff.2 h2
    simp only [lvN, List.flatMap_cons, List.length_append, List.length_cons] at *
    omega
theorem inc_len : ∀ {q : List Nat} {lo m : Nat}, q.Pairwise (· < ·) → (∀ x ∈ q, lo ≤ x ∧ x < m) → q.length ≤ m - lo
  | [], lo, m, _, _ => by simp
  | x :: q, lo, m, hp, hb => by
    rw [List.pairwise_cons] at hp
    have h1 := hb x List.mem_cons_self
    have := inc_len (lo := x + 1) (m := m) hp.2 fun y hy => ⟨hp.1 y hy, (hb y (List.mem_cons_of_mem _ hy)).2⟩
    simp only [List.length_cons]; omega
theorem levT_levs {l : List D} {k : Nat} (h : k ≤ hgt l) : levT (levs l) k = levN l k := levs_elt h
section
variable {a b : List D} (hn : a.length = b.length) (h1 : 1 ≤ a.length)
include hn in
theorem hgt_same : hgt b = hgt a := by unfold hgt; rw [hn]
include hn in
theorem levN_same {k : Nat} : (levN a k).length = (levN b k).length := by rw [levN_len, levN_len, hn]
include hn h1 in
theorem bfs_inv : ∀ {t : Nat}, t ≤ hgt a → (bfsN (levs a) (levs b) (hgt a) t).Pairwise (· < ·) ∧ (∀ x ∈ bfsN (levs a) (levs b) (hgt a) t, x < (levN a (hgt a - t)).length) ∧
    bfsC (levs a) (levs b) (hgt a) t ≤ 1 + 2 * a.length * t
  | 0, _ => by
    refine ⟨by simp [bfsN], fun x hx => ?_, by simp [bfsC]⟩
    simp [bfsN] at hx
    have := @szN_pos a.length h1 (hgt a)
    rw [hx, Nat.sub_zero, levN_len]; omega
  | t + 1, ht => by
    obtain ⟨i1, i2, i3⟩ := bfs_inv (t := t) (by omega)
    have e1 : levT (levs a) (hgt a - 1 - t) = levN a (hgt a - 1 - t) := levT_levs (by omega)
    have e2 : levT (levs b) (hgt a - 1 - t) = levN b (hgt a - 1 - t) := levT_levs (by rw [hgt_same hn]; omega)
    have e3 : hgt a - (t + 1) = hgt a - 1 - t := by omega
    have e4 : levN a (hgt a - t) = upZ (levN a (hgt a - 1 - t)) := by rw [show hgt a - t = (hgt a - 1 - t) + 1 by omega]; rfl
    have hb : ∀ x ∈ bfsN (levs a) (levs b) (hgt a) t, x < ((levN a (hgt a - 1 - t)).length + 1) / 2 := fun x hx => by
      have := i2 x hx; rw [e4, upZ_len] at this; exact this
    rw [bfsN, bfsC, e1, e2, e3]
    refine ⟨lvN_inc i1, lvN_bound hb, ?_⟩
    have h4 := @lvC_le (levN a (hgt a - 1 - t)) (bfsN (levs a) (levs b) (hgt a) t)
    have h5 := inc_len (lo := 0) i1 fun x hx => ⟨Nat.zero_le _, i2 x hx⟩
    have h6 := @szN_le a.length (hgt a - t)
    rw [levN_len] at h5
    have h7 : 2 * a.length * (t + 1) = 2 * a.length * t + 2 * a.length := by rw [Nat.mul_add, Nat.mul_one]
    omega
end
theorem c23 : ConOK Try.prog 23 con23 := by
  refine conOK_of_exec (inl := noInl) noInl_ok (lp := lp23) (tb := tb23) (c := bodyOf Try.f23) ⟨tt_ok, tbM_ok⟩ mixed Try.func23 (by kernel_rfl) (by kernel_rfl) ?_
  intro dat hpre hwt
  have hw0 := wts2 hwt
  obtain ⟨d0, d1, rfl, w0, w1⟩ := hw0
  refine Eq.mpr (vc23 d0 d1) ?_
  obtain ⟨hla, hlb⟩ : d0.l.length ≤ 100000 ∧ d1.l.length ≤ 100000 := hpre
  simp only [ile_t, ile_f, ilt_t, ilt_f, ieq_t, ieq_f, bnot_t, bnot_f, band_t, band_f, true_and, and_true, lenI, mkL_len, List.length_cons, List.length_nil, levs_len, natL_mapI, mapI_len]
  clear hwt w0 w1
  generalize d0.l = a at *
  generalize d1.l = b at *
  refine ⟨fun hne => ?_, fun hn => ⟨fun h0 => ?_, fun h0 => ?_⟩⟩
  · have hm : imax (a.length : Int) (b.length : Int) = ((max a.length b.length : Nat) : Int) := by rw [imax_eq]; omega
    rw [hm]
    refine ⟨⟨0, by omega, rfl, rfl⟩, fun g hg => ⟨fun hlt => ⟨by omega, g + 1, by omega, by omega, by rw [iadd_eq (by omega)]; rfl, mkL_snoc (f := fun j => .int (j : Int))⟩, fun hge => ?_⟩⟩
    unfold difZ
    rw [if_pos (by omega), show g = max a.length b.length by omega]
    exact ⟨rfl, rfl⟩
  · unfold difZ; rw [if_neg (by omega), if_pos (by omega)]; exact ⟨rfl, rfl⟩
  · have hn : a.length = b.length := by omega
    have h1 : 1 ≤ a.length := by omega
    have hh := @hgt_le a
    have hs := hgt_same hn
    have e : isub .i64 ((hgt a + 1 : Nat) : Int) 1 = (hgt a : Int) := by rw [isub_eq (by omega)]; omega
    have p1 := @szN_pos a.length h1 (hgt a)
    have p2 := @szN_pos b.length (by omega) (hgt a)
    rw [e, hs, levs_elt (Nat.le_refl _), levs_elt (by omega), levN_len, levN_len, Int.toNat_natCast]
    have e1 : isub .i64 (hgt a : Int) 1 = (hgt a : Int) - 1 := isub_eq (by omega)
    rw [e1]
    unfold difZ
    rw [if_neg (by omega), if_neg (by omega), hs]
    refine ⟨by omega, by omega, by omega, by omega, by omega, by omega, fun hr => by rw [if_pos (show ei (levN a (hgt a)) 0 = ei (levN b (hgt a)) 0 from hr)]; exact ⟨rfl, rfl⟩, fun hr => ?_⟩
    rw [if_neg (show ¬ ei (levN a (hgt a)) 0 = ei (levN b (hgt a)) 0 from hr)]
    refine ⟨⟨0, by omega, rfl, rfl, by omega⟩, fun g hg => ⟨fun hlt => ?_, fun hge => ?_⟩⟩
    · obtain ⟨i1, i2, i3⟩ := bfs_inv hn h1 (t := g) (by omega)
      have ek : (hgt a : Int) - 1 - (g : Int) = ((hgt a - 1 - g : Nat) : Int) := by omega
      have e4 : levN a (hgt a - g) = upZ (levN a (hgt a - 1 - g)) := by rw [show hgt a - g = (hgt a - 1 - g) + 1 by omega]; rfl
      rw [e4, upZ_len] at i2
      have hC : bfsC (levs a) (levs b) (hgt a) (g + 1) = bfsC (levs a) (levs b) (hgt a) g + lvC (levT (levs a) (hgt a - 1 - g)) (bfsN (levs a) (levs b) (hgt a) g) := rfl
      have hN : bfsN (levs a) (levs b) (hgt a) (g + 1) = lvN (levT (levs a) (hgt a - 1 - g)) (levT (levs b) (hgt a - 1 - g)) (bfsN (levs a) (levs b) (hgt a) g) := rfl
      have t1 : levT (levs a) (hgt a - 1 - g) = levN a (hgt a - 1 - g) := levT_levs (by omega)
      have t2 : levT (levs b) (hgt a - 1 - g) = levN b (hgt a - 1 - g) := levT_levs (by omega)
      have sm := levN_same hn (k := hgt a - 1 - g)
      have sle := @szN_le a.length (hgt a - 1 - g)
      rw [← levN_len] at sle
      have hC3 : bfsC (levs a) (levs b) (hgt a) g ≤ 1 + 2 * 100000 * 100000 := by
        have : 2 * a.length * g ≤ 2 * 100000 * 100000 := Nat.mul_le_mul (by omega) (by omega)
        omega
      rw [ek, Int.toNat_natCast, levs_elt (by omega), levs_elt (by omega)]
      rw [t1] at hC
      rw [t1, t2] at hN
      simp only [t1, t2]
      clear t1 t2 e4 i3
      generalize bfsC (levs a) (levs b) (hgt a) g = C at *
      generalize bfsN (levs a) (levs b) (hgt a) g = q at *
      generalize levN a (hgt a - 1 - g) = xa at *
      generalize levN b (hgt a - 1 - g) = ya at *
      have hql := inc_len (lo := 0) i1 fun x hx => ⟨Nat.zero_le _, i2 x hx⟩
      refine ⟨⟨0, by omega, ⟨by simp [takeN, lvC], rfl⟩, by simp [takeN, lvN, mapI]⟩, fun j hj => ⟨fun hjl => ?_, fun hge => ?_⟩⟩
      · have hj' : j < q.length := by omega
        rw [elt_mapI hj']
        have hx := i2 q[j] (List.getElem_mem hj')
        have hT := takeN_succ hj'
        generalize q[j] = x at *
        have em : imul .i64 2 (x : Int) = 2 * (x : Int) := imul_eq (by omega)
        have ea : iadd .i64 (2 * (x : Int)) 1 = 2 * (x : Int) + 1 := iadd_eq (by omega)
        have ej : iadd .i64 (j : Int) 1 = ((j + 1 : Nat) : Int) := by rw [iadd_eq (by omega)]; rfl
        have l1 := @lvN_len xa ya (takeN j q)
        have l2 := @takeN_len q j
        have l3 := @lvC_le xa (takeN j q)
        rw [em, ea, ej, Int.toNat_natCast]
        simp only [mapI_app]
        have hL : lvN xa ya (takeN (j + 1) q) = lvN xa ya (takeN j q) ++ kidsN xa ya x := by rw [hT, lvN_app, lvN_one]
        have hK : lvC xa (takeN (j + 1) q) = lvC xa (takeN j q) + kcnt xa x := by rw [hT, lvC_app, lvC_one]
        refine ⟨by omega, by omega, fun h1x => ⟨by omega, j + 1, by omega, by omega, ⟨?_, rfl⟩, ?_⟩, fun h2x => ⟨⟨0, by omega, by simp, by simp [kidE]⟩, fun e he => ⟨fun hel => ?_, fun heg => ?_⟩⟩⟩
        · rw [hK, show kcnt xa x = 0 by unfold kcnt; rw [if_pos (by omega)]]; rfl
        · rw [hL, show kidsN xa ya x = [2 * x] by unfold kidsN; rw [if_pos (by omega)], ← mapI_app]; rfl
        · have he1 : e < 2 := by omega
          have l4 := @kidE_len xa ya x e
          have ec : (2 * (x : Int) + (e : Int)) = ((2 * x + e : Nat) : Int) := by omega
          have ee : iadd .i64 (2 * (x : Int) + (e : Int)) 1 = 2 * (x : Int) + ((e + 1 : Nat) : Int) := by rw [iadd_eq (by omega)]; omega
          have ef : iadd .i64 ((C : Int) + (lvC xa (takeN j q) : Int) + (e : Int)) 1 = (C : Int) + (lvC xa (takeN j q) : Int) + ((e + 1 : Nat) : Int) := by rw [iadd_eq (by omega)]; omega
          rw [ee, ef]
          simp only [ec]
          refine ⟨by omega, by omega, by omega, by omega, fun hd => ⟨?_, e + 1, by omega, by omega, ⟨rfl, rfl⟩, ?_⟩, fun hd => ⟨e + 1, by omega, by omega, ⟨rfl, rfl⟩, ?_⟩⟩
          · rw [mapI_len, List.length_append]; omega
          · have hd' : ei xa (2 * x + e) ≠ ei ya (2 * x + e) := hd
            rw [kidE, if_pos hd', ← List.append_assoc, ← mapI_app (r := [2 * x + e])]; rfl
          · have hd' : ¬ ei xa (2 * x + e) ≠ ei ya (2 * x + e) := fun h => h hd
            rw [kidE, if_neg hd', List.append_nil]
        · obtain rfl : e = 2 := by omega
          refine ⟨j + 1, by omega, by omega, ⟨?_, rfl⟩, ?_⟩
          · rw [hK, show kcnt xa x = 2 by unfold kcnt; rw [if_neg (by omega)]]; omega
          · rw [hL]; unfold kidsN; rw [if_neg (by omega)]
      · obtain rfl : j = q.length := by omega
        rw [takeN_all]
        exact ⟨g + 1, by omega, by omega, by rw [hN], by rw [hC]; rfl, by rw [isub_eq (by omega)]; omega⟩
    · obtain rfl : g = hgt a := by omega
      exact ⟨rfl, rfl⟩
end Go.Proofs.Ytjncolngfeglkaa
