/- Part of the proof of the laws of this seat: contracts of its functions, for every input. -/
import Derived.Test.YtjncolngfeglkaaWL
set_option linter.all false
namespace Go.Proofs.Ytjncolngfeglkaa
open Go Go.RX Go.Proofs
set_option maxRecDepth 100000
set_option linter.all false
theorem xorTo_len {a m : List D} {by' : Int} : ∀ {i : Nat}, (xorTo a m by' i).length = a.length
  | 0 => rfl
  | i + 1 => by rw [xorTo, xset, List.length_set, xorTo_len]
section
variable {a b : List D} (hn : a.length = b.length) (h1 : 1 ≤ a.length)
include hn h1 in
theorem bfs_dif (hr : ei (levN a (hgt a)) 0 ≠ ei (levN b (hgt a)) 0) : ∀ {t : Nat}, t ≤ hgt a → (∀ x ∈ bfsN (levs a) (levs b) (hgt a) t, ei (levN a (hgt a - t)) x ≠ ei (levN b (hgt a - t)) x) ∧ bfsN (levs a) (levs b) (hgt a) t ≠ [] ∧
    bfsC (levs a) (levs b) (hgt a) t ≤ 1 + 2 * (bfsN (levs a) (levs b) (hgt a) t).length * t ∧ 1 ≤ bfsC (levs a) (levs b) (hgt a) t
  | 0, _ => by
    refine ⟨fun x hx => ?_, by simp [bfsN], by simp [bfsC], by simp [bfsC]⟩
    simp [bfsN] at hx
    rw [hx, Nat.sub_zero]; exact hr
  | t + 1, ht => by
    obtain ⟨i1, i2, i3, i4⟩ := bfs_dif hr (t := t) (by omega)
    have hb := (bfs_inv hn h1 (t := t) (by omega)).2.1
    have e1 : levT (levs a) (hgt a - 1 - t) = levN a (hgt a - 1 - t) := levT_levs (by omega)
    have e2 : levT (levs b) (hgt a - 1 - t) = levN b (hgt a - 1 - t) := levT_levs (by rw [hgt_same hn]; omega)
    have e3 : hgt a - (t + 1) = hgt a - 1 - t := by omega
    have e4 : ∀ l : List D, levN l (hgt a - t) = upZ (levN l (hgt a - 1 - t)) := fun l => by rw [show hgt a - t = (hgt a - 1 - t) + 1 by omega]; rfl
    have sm := levN_same hn (k := hgt a - 1 - t)
    rw [e4, e4] at i1
    rw [e4, upZ_len] at hb
    rw [bfsN, bfsC, e1, e2, e3]
    generalize bfsN (levs a) (levs b) (hgt a) t = q at *
    generalize levN a (hgt a - 1 - t) = xa at *
    generalize levN b (hgt a - 1 - t) = ya at *
    have hg := lvN_grow sm (q := q) fun x hx => ⟨hb x hx, i1 x hx⟩
    refine ⟨fun x hx => ?_, fun h => ?_, ?_, by omega⟩
    · unfold lvN at hx
      rw [List.mem_flatMap] at hx
      obtain ⟨i, hi, hx⟩ := hx
      exact (kids_differ sm (hb i hi) (i1 i hi)).1 x hx
    · rw [h] at hg
      exact i2 (List.length_eq_zero_iff.1 (by simpa using hg))
    · have h4 := @lvC_le xa q
      have h6 : 2 * q.length * (t + 1) ≤ 2 * (lvN xa ya q).length * (t + 1) := Nat.mul_le_mul (by omega) (Nat.le_refl _)
      have h7 : 2 * q.length * (t + 1) = 2 * q.length * t + 2 * q.length := by rw [Nat.mul_add, Nat.mul_one]
      omega
end
structure DifOK (a b : List D) (L : List D) (c : Int) : Prop where
  q : ∃ q : List Nat, L = mapI q ∧ q.Pairwise (· < ·) ∧ ∀ x ∈ q, x < a.length ∧ ei a x ≠ ei b x
  lo : 1 ≤ c
  hi : c ≤ 1 + 2 * (L.length : Int) * (hgt a : Int)
  len : L.length ≤ a.length
  iff : (L.length = 0) ↔ rootZ a = rootZ b
theorem dif_ok {a b : List D} (hn : a.length = b.length) (h1 : 1 ≤ a.length) : DifOK a b (difZ a b).l (difZ a b).c := by
  have hs := hgt_same hn
  have r1 : rootZ a = ei (levN a (hgt a)) 0 := by unfold rootZ; rw [if_neg (by omega)]
  have r2 : rootZ b = ei (levN b (hgt a)) 0 := by unfold rootZ; rw [if_neg (by omega), hs]
  unfold difZ
  rw [if_neg (by omega), if_neg (by omega), hs]
  split
  · rename_i h
    exact ⟨⟨[], rfl, List.Pairwise.nil, fun x hx => by cases hx⟩, by simp, by simp, by simp, by rw [r1, r2]; simp [h]⟩
  · rename_i h
    obtain ⟨i1, i2, i3⟩ := bfs_inv hn h1 (Nat.le_refl (hgt a))
    obtain ⟨j1, j2, j3, j4⟩ := bfs_dif hn h1 h (Nat.le_refl (hgt a))
    rw [Nat.sub_self] at i2 j1
    have j1' : ∀ x ∈ bfsN (levs a) (levs b) (hgt a) (hgt a), ei a x ≠ ei b x := j1
    have i2' : ∀ x ∈ bfsN (levs a) (levs b) (hgt a) (hgt a), x < a.length := i2
    have hl := inc_len (lo := 0) i1 fun x hx => ⟨Nat.zero_le _, i2' x hx⟩
    simp only
    generalize bfsN (levs a) (levs b) (hgt a) (hgt a) = q at *
    generalize bfsC (levs a) (levs b) (hgt a) (hgt a) = C at *
    have h5 : 0 < q.length := List.length_pos_iff.2 j2
    refine ⟨⟨q, rfl, i1, fun x hx => ⟨i2' x hx, j1' x hx⟩⟩, by omega, ?_, by simp only [mapI_len]; omega, ?_⟩
    · simp only [mapI_len]
      have : ((1 + 2 * q.length * hgt a : Nat) : Int) = 1 + 2 * (q.length : Int) * (hgt a : Int) := by simp
      omega
    · simp only [mapI_len]
      rw [r1, r2]
      exact ⟨fun h0 => absurd h0 (by omega), fun h0 => absurd h0 h⟩
theorem xorZ_round {a m : List D} {by' : Int} {g : Nat} (h : 1 ≤ a.length) (ha : a.length ≤ 100) (hm : 0 ≤ ei m g ∧ ei m g ≤ 255) :
    irem (iconv .i64 (elt m (g : Int)).i) (a.length : Int) = (xorK a m g : Int) ∧ xorK a m g < a.length := by
  have : (elt m (g : Int)).i = ei m g := rfl
  unfold xorK
  rw [this, iconv_eq (by omega), irem_eq (by omega)]
  obtain ⟨k, hk⟩ : ∃ k : Nat, ei m g = k := ⟨(ei m g).toNat, by omega⟩
  rw [hk, Int.toNat_natCast]
  exact ⟨(Int.natCast_emod k a.length).symm ▸ rfl, Nat.mod_lt _ (by omega)⟩
theorem c8 : ConOK Try.prog 8 con8 := by
  refine conOK_of_exec (inl := noInl) noInl_ok (lp := lp8) (tb := tb8) (c := bodyOf Try.f8) ⟨tt_ok, tbL_ok⟩ mixed Try.func8 (by kernel_rfl) (by kernel_rfl) ?_
  intro dat hpre hwt
  obtain ⟨d0, d1, d2, rfl, w0, w1, w2⟩ := wts3 hwt
  refine Eq.mpr (vc8 d0 d1 d2) ?_
  simp only [ile_t, ile_f, ilt_t, ilt_f, ieq_t, ieq_f, bnot_t, bnot_f, band_t, band_f, true_and, and_true, lenI, xorTo_len]
  have hu8 : ∀ g : Nat, g < d1.l.length → 0 ≤ ei d1.l g ∧ ei d1.l g ≤ 255 := fun g hg => by
    have := (wt_sl w1).2.2 _ (List.getElem_mem hg)
    unfold ei
    rw [elt_get hg]
    exact wt_u8 this
  clear hwt w0 w1 w2 hpre
  generalize d0.l = a at *
  generalize d1.l = m at *
  generalize d2.i = y at *
  refine ⟨fun _ => trivial, fun ha0 => ⟨fun _ => trivial, fun ha => ⟨fun _ => trivial, fun hm => ⟨by omega, ⟨0, by omega, rfl, rfl⟩, fun g hg => ⟨fun hlt => ?_, fun hge => ?_⟩⟩⟩⟩⟩
  · obtain ⟨e1, e2⟩ := xorZ_round (a := a) (by omega) (by omega) (hu8 g (by omega)) (by' := y)
    rw [e1, Int.toNat_natCast]
    exact ⟨by omega, by omega, by omega, by omega, g + 1, by omega, by omega, by rw [iadd_eq (by omega)]; rfl, rfl⟩
  · have hd := dif_ok (a := a) (b := xorTo a m y g) xorTo_len.symm (by omega)
    generalize xorTo a m y g = b at *
    obtain ⟨⟨q, hq, hp, hx⟩, hlo, hhi, hlen, hif⟩ := hd
    generalize (difZ a b).l = L at *
    generalize (difZ a b).c = C at *
    have hh := @hgt_le a
    refine ⟨by omega, ⟨0, by omega, rfl, rfl⟩, fun k hk => ⟨fun hlt => ⟨by decide, by decide, ?_⟩, fun hge2 => ?_⟩⟩
    · have := hgt_lt (l := a) (k := k) (by rw [levN_len]; omega) hk
      have hz := @szN_le a.length k
      refine ⟨k + 1, by omega, by omega, by rw [iadd_eq (by omega)]; rfl, ?_⟩
      rw [iquo_two (by omega), irem_two, iadd_eq (by omega), szN]; omega
    · have hkh := hgt_eq (l := a) (k := k) (by rw [levN_len]; omega) hk
      subst hq
      rw [mapI_len] at hlen hhi hif ⊢
      have en : ∀ j : Nat, j < q.length → ∃ g', g' ≤ q.length ∧ q.length - g' < q.length - j ∧ iadd .i64 (j : Int) 1 = (g' : Int) := fun j hj => ⟨j + 1, by omega, by omega, by rw [iadd_eq (by omega)]; rfl⟩
      refine ⟨⟨0, by omega, rfl⟩, fun j hj => ⟨fun hjl => ?_, fun hge3 => ?_⟩⟩
      · have hj' : j < q.length := by omega
        have hxj := hx q[j] (List.getElem_mem hj')
        rw [elt_mapI hj']
        refine ⟨by omega, fun h => by omega, fun _ => ⟨by omega, fun h => by omega, fun _ => ⟨by omega, by omega, by omega, by omega, fun h => hxj.2 h, fun _ => ⟨fun h0 => ?_, fun _ => en j hj'⟩⟩⟩⟩
        have e1 : isub .i64 (j : Int) 1 = ((j - 1 : Nat) : Int) := by rw [isub_eq (by omega)]; omega
        have hinc := List.pairwise_iff_getElem.1 hp (j - 1) j (by omega) hj' (by omega)
        rw [e1, elt_mapI (by omega)]
        exact ⟨by omega, by omega, fun h => by omega, fun _ => en j hj'⟩
      · have hb : (q.length : Int) * (hgt a : Int) ≤ 100 * 100 := by
          have : q.length * hgt a ≤ 100 * 100 := Nat.mul_le_mul (by omega) (by omega)
          have h2 : ((q.length * hgt a : Nat) : Int) = (q.length : Int) * (hgt a : Int) := by simp
          omega
        have hb0 : 0 ≤ (q.length : Int) * (hgt a : Int) := Int.mul_nonneg (by omega) (by omega)
        have em : imul .i64 2 (q.length : Int) = 2 * (q.length : Int) := imul_eq (by omega)
        have em2 : imul .i64 (2 * (q.length : Int)) (k : Int) = 2 * (q.length : Int) * (hgt a : Int) := by
          rw [hkh]
          refine imul_eq ?_
          rw [Int.mul_assoc]; omega
        rw [Int.mul_assoc] at hhi em2
        have ea : iadd .i64 1 (2 * ((q.length : Int) * (hgt a : Int))) = 1 + 2 * ((q.length : Int) * (hgt a : Int)) := iadd_eq (by omega)
        rw [em, em2, ea]
        refine ⟨fun h => by omega, fun _ => ⟨fun h => by omega, fun _ => ⟨by omega, by omega, fun h => ?_, fun _ => trivial⟩⟩⟩
        have e3 : ieq (q.length : Int) 0 = ieq (rootZ a) (rootZ b) := by
          unfold ieq
          rw [Bool.eq_iff_iff]
          simp only [beq_iff_eq]
          rw [← hif]; omega
        rw [e3] at h
        simp [beqB] at h
end Go.Proofs.Ytjncolngfeglkaa
