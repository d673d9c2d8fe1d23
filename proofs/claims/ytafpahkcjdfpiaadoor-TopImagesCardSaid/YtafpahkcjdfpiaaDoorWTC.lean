/- Part of the proof of the laws of this seat: contracts of its functions, for every input. -/
import Derived.Test.YtafpahkcjdfpiaaDoorWTB
set_option linter.all false
namespace Go.Proofs.YtafpahkcjdfpiaaDoor
open Go Go.RX Go.Proofs
set_option maxRecDepth 100000
set_option linter.all false
set_option maxHeartbeats 1000000
theorem c52 : ConOK Tryd.prog 52 con52 := by
  refine conOK_of_exec (inl := noInl) noInl_ok (lp := noLp) (tb := tbN) (c := bodyOf Tryd.f52) ⟨tt_ok, tbN_ok⟩ mixed Tryd.func52 (by kernel_rfl) (by kernel_rfl) ?_
  intro dat hpre hwt
  have hw0 := wts1 hwt
  obtain ⟨d0, rfl, w0⟩ := hw0
  refine Eq.mpr (vc52 d0) ?_
  simp only [ile_t, ile_f, ilt_t, ilt_f, ieq_t, ieq_f, bnot_t, bnot_f, band_t, band_f, true_and, and_true, lenI, timeZ]
  refine ⟨fun h => ?_, fun h => ?_⟩
  · simp [ilt, h]
  · simp; omega
theorem ck_stop {l : List D} {g : Nat} {e : Int} (h4 : ¬ 4 < l.length) (h : errTo (ckOne l) g = 0) (hg : g < l.length) (he : ckOne l g = e) (hne : e ≠ 0) : e = ckZ l := by
  unfold ckZ
  rw [if_neg h4, errTo_stop h (by rw [he]; exact hne) hg, he]
theorem c51 : ConOK Tryd.prog 51 con51 := by
  refine conOK_of_exec (inl := noInl) noInl_ok (lp := lp51) (tb := tbN) (c := bodyOf Tryd.f51) ⟨tt_ok, tbN_ok⟩ mixed Tryd.func51 (by kernel_rfl) (by kernel_rfl) ?_
  intro dat hpre hwt
  have hw0 := wts1 hwt
  obtain ⟨d0, rfl, w0⟩ := hw0
  refine Eq.mpr (vc51 d0) ?_
  have hl := wt_len w0
  simp only [ile_t, ile_f, ilt_t, ilt_f, ieq_t, ieq_f, bnot_t, bnot_f, band_t, band_f, true_and, and_true, lenI]
  refine ⟨fun h => by unfold ckZ; rw [if_pos (by omega)], fun h4 => ⟨⟨0, ⟨by omega, rfl⟩, rfl, rfl⟩, fun g hg => ⟨fun hlt => ⟨by omega, fun h1 => ?_, fun h1 => ⟨fun h2 => ?_, fun h2 => ⟨fun h3 => ?_, fun h3 => ⟨fun h5 => ?_, fun h5 => ⟨fun h6 => ?_, fun h6 => ⟨fun h7 => ?_, fun h7 => ⟨fun h8 => ?_, fun h8 => ?_⟩⟩⟩⟩⟩⟩⟩, fun hge => ?_⟩⟩⟩
  · exact ck_stop (by omega) hg.2 (by omega) (by unfold ckOne ri; rw [if_pos (.inl h1)]) (by decide)
  · exact ck_stop (by omega) hg.2 (by omega) (by unfold ckOne ri; rw [if_pos (.inr h2)]) (by decide)
  · exact ck_stop (by omega) hg.2 (by omega) (by unfold ckOne ri; rw [if_neg (by omega), if_pos h3]) (by decide)
  · exact ck_stop (by omega) hg.2 (by omega) (by unfold ckOne ri; rw [if_neg (by omega), if_neg (by rw [h3]; simp), if_pos (by omega)]) (by decide)
  · exact ck_stop (by omega) hg.2 (by omega) (by unfold ckOne ri; rw [if_neg (by omega), if_neg (by rw [h3]; simp), if_pos (by omega)]) (by decide)
  · exact ck_stop (by omega) hg.2 (by omega) (by unfold ckOne ri; rw [if_neg (by omega), if_neg (by rw [h3]; simp), if_pos (by omega)]) (by decide)
  · exact ck_stop (by omega) hg.2 (by omega) (by unfold ckOne ri; rw [if_neg (by omega), if_neg (by rw [h3]; simp), if_pos (by omega)]) (by decide)
  · exact ⟨g + 1, ⟨by omega, errTo_next hg.2 (by unfold ckOne ri; rw [if_neg (by omega), if_neg (by rw [h3]; simp), if_neg (by omega)])⟩, by omega, by rw [iadd_eq (by omega)]; rfl, rfl⟩
  · unfold ckZ
    rw [if_neg (by omega), show d0.l.length = g by omega]; exact hg.2.symm
theorem idx_stay {l : List D} {s : List UInt8} {k : Nat} (h : 0 ≤ idxTo l s k) : ∀ {n : Nat}, k ≤ n → idxTo l s n = idxTo l s k
  | 0, hk => by rw [show k = 0 by omega]
  | n + 1, hk => by
    rcases Nat.lt_or_ge n k with h1 | h1
    · rw [show k = n + 1 by omega]
    · rw [idxTo, idx_stay h h1, if_pos h]
theorem idx_hit {l : List D} {s : List UInt8} {k : Nat} (h : idxTo l s k < 0) (hk : k < l.length) (hs : (elt l (k : Int)).s = s) : idxZ l s = k := by
  have e : idxTo l s (k + 1) = k := by rw [idxTo, if_neg (by omega), if_pos hs]
  unfold idxZ
  rw [idx_stay (k := k + 1) (by rw [e]; omega) (by omega), e]
theorem idx_miss {l : List D} {s : List UInt8} {k : Nat} (h : idxTo l s k < 0) (hs : (elt l (k : Int)).s ≠ s) : idxTo l s (k + 1) < 0 := by
  rw [idxTo, if_neg (by omega), if_neg hs]; decide
theorem idx_neg {l : List D} {s : List UInt8} {k : Nat} (h : idxTo l s k < 0) : idxTo l s k = -1 := by
  cases k with
  | zero => rfl
  | succ k =>
    rw [idxTo] at h ⊢
    split
    · rename_i h1; rw [if_pos h1] at h; omega
    · split
      · rename_i h1 h2; rw [if_neg h1, if_pos h2] at h; omega
      · rfl
theorem c60 : ConOK Tryd.prog 60 con60 := by
  refine conOK_of_exec (inl := noInl) noInl_ok (lp := lp60) (tb := tbN) (c := bodyOf Tryd.f60) ⟨tt_ok, tbN_ok⟩ mixed Tryd.func60 (by kernel_rfl) (by kernel_rfl) ?_
  intro dat hpre hwt
  have hw0 := wts2 hwt
  obtain ⟨d0, d1, rfl, w0, w1⟩ := hw0
  refine Eq.mpr (vc60 d0 d1) ?_
  have hl := wt_len w0
  simp only [ile_t, ile_f, ilt_t, ilt_f, ieq_t, ieq_f, bnot_t, bnot_f, band_t, band_f, true_and, and_true, lenI]
  refine ⟨⟨0, ⟨by omega, show (-1 : Int) < 0 by decide⟩, rfl⟩, fun g hg => ⟨fun hlt => ⟨by omega, fun h => ?_, fun h => ?_⟩, fun hge => ?_⟩⟩
  · have h : d1.s = (elt d0.l (g : Int)).s := by simpa [seq'] using h
    exact (idx_hit hg.2 (by omega) h.symm).symm
  · exact ⟨g + 1, ⟨by omega, idx_miss hg.2 (fun e => by simp [seq', e] at h)⟩, by omega, by rw [iadd_eq (by omega)]; rfl⟩
  · unfold idxZ
    rw [show d0.l.length = g by omega]; exact (idx_neg hg.2).symm
theorem tb58_ok : TabOK Tryd.prog tb58 := fun f con h => by
  unfold tb58 at h
  split at h
  · cases h; exact c60
  · cases h
theorem c58 : ConOK Tryd.prog 58 con58 := by
  refine conOK_of_exec (inl := noInl) noInl_ok (lp := noLp) (tb := tb58) (c := bodyOf Tryd.f58) ⟨tt_ok, tb58_ok⟩ mixed Tryd.func58 (by kernel_rfl) (by kernel_rfl) ?_
  intro dat hpre hwt
  have hw0 := wts2 hwt
  obtain ⟨d0, d1, rfl, w0, w1⟩ := hw0
  refine Eq.mpr (vc58 d0 d1) ?_
  simp only [ile_t, ile_f, ilt_t, ilt_f, ieq_t, ieq_f, bnot_t, bnot_f, band_t, band_f, true_and, and_true, lenI, ile]
theorem txs_all {l : List D} {p : List UInt8 → Prop} (h : ∀ j : Nat, j < l.length → p (elt l (j : Int)).s) : ∀ x ∈ txs l, p x := by
  intro x hx
  obtain ⟨d, hd, rfl⟩ := List.mem_map.1 hx
  obtain ⟨j, hj, rfl⟩ := List.getElem_of_mem hd
  have := h j hj
  rwa [elt_get hj] at this
theorem picI_t {i : Im} : (picI i = true) = (i.id.length ≤ 100 ∧ i.h.length ≤ 4 ∧ ∀ x ∈ i.h, x.length ≤ 100 ∧ x ≠ caseB) := by simp [picI]
theorem pic_no {l : List D} {g : Nat} (hg : g < l.length) (h : picI (imOf (elt l (g : Int))) ≠ true) : picZ (ims l) = false := by
  unfold picZ
  have : (ims l).all picI = false := by
    rw [← Bool.not_eq_true, List.all_eq_true]
    exact fun h1 => h (h1 _ (ims_mem hg))
  rw [this]; rfl
theorem ims_all {l : List D} {p : Im → Prop} (h : ∀ j : Nat, j < l.length → p (imOf (elt l (j : Int)))) : ∀ x ∈ ims l, p x := by
  intro x hx
  obtain ⟨d, hd, rfl⟩ := List.mem_map.1 hx
  obtain ⟨j, hj, rfl⟩ := List.getElem_of_mem hd
  have := h j hj
  rwa [elt_get hj] at this
theorem c29 : ConOK Tryd.prog 29 con29 := by
  refine conOK_of_exec (inl := noInl) noInl_ok (lp := lp29) (tb := tbN) (c := bodyOf Tryd.f29) ⟨tt_ok, tbN_ok⟩ mixed Tryd.func29 (by kernel_rfl) (by kernel_rfl) ?_
  intro dat hpre hwt
  have hw0 := wts1 hwt
  obtain ⟨d0, rfl, w0⟩ := hw0
  refine Eq.mpr (vc29 d0) ?_
  have hl := wt_len w0
  simp only [ile_t, ile_f, ilt_t, ilt_f, ieq_t, ieq_f, bnot_t, bnot_f, band_t, band_f, true_and, and_true, lenI]
  refine ⟨⟨0, ⟨by omega, fun j hj => by omega⟩, rfl⟩, fun g hg => ⟨fun hlt => ⟨by omega, fun h1 => ?_, fun h1 => ⟨by omega, fun h2 => ?_, fun h2 => ⟨⟨0, ⟨by omega, fun j hj => by omega⟩, rfl⟩, fun k hk => ?_⟩⟩⟩, fun hge => ?_⟩⟩
  all_goals have hh : ∀ x : D, (imOf x).id = (x.fld 0).s ∧ (imOf x).h = txs (x.fld 3).l := fun x => ⟨rfl, rfl⟩
  · refine pic_no (g := g) (by omega) fun h => ?_
    rw [picI_t, (hh _).1] at h
    simp only [lenS] at h1
    omega
  · refine pic_no (g := g) (by omega) fun h => ?_
    rw [picI_t, (hh _).2, txs_len] at h
    omega
  · have hwl : ((elt d0.l (g : Int)).fld 3).l.length ≤ 4 := by omega
    have hk1 : k ≤ ((elt d0.l (g : Int)).fld 3).l.length := hk.1
    refine ⟨by omega, fun h3 => ⟨by omega, by omega, fun h4 => ?_, fun h4 => ⟨by omega, by omega, fun h5 => ?_, fun h5 => ⟨k + 1, ⟨?_, fun j hj => ?_⟩, ?_, by rw [iadd_eq (by omega)]; rfl⟩⟩⟩, fun h3 => ⟨g + 1, ⟨by omega, fun j hj => ?_⟩, by omega, by rw [iadd_eq (by omega)]; rfl⟩⟩
    · refine pic_no (g := g) (by omega) fun h => ?_
      rw [picI_t, (hh _).2] at h
      have := (h.2.2 _ (txs_mem (j := k) (by omega))).1
      simp only [lenS] at h4
      omega
    · refine pic_no (g := g) (by omega) fun h => ?_
      rw [picI_t, (hh _).2] at h
      exact (h.2.2 _ (txs_mem (j := k) (by omega))).2 (by simpa [seq', caseB] using h5)
    · show k + 1 ≤ ((elt d0.l (g : Int)).fld 3).l.length
      omega
    · by_cases e : j = k
      · subst e
        refine ⟨?_, fun e => ?_⟩
        · show (elt ((elt d0.l (g : Int)).fld 3).l (j : Int)).s.length ≤ 100
          simp only [lenS] at h4
          omega
        · have e : (elt ((elt d0.l (g : Int)).fld 3).l (j : Int)).s = caseB := e
          rw [e] at h5
          simp [seq', caseB] at h5
      · exact hk.2 j (by omega)
    · show ((elt d0.l (g : Int)).fld 3).l.length - (k + 1) < ((elt d0.l (g : Int)).fld 3).l.length - k
      omega
    · by_cases e : j = g
      · subst e
        rw [picI_t, (hh _).1, (hh _).2, txs_len]
        simp only [lenS] at h1
        refine ⟨by omega, hwl, txs_all fun i hi => hk.2 i (by omega)⟩
      · exact hg.2 j (by omega)
  · have : picZ (ims d0.l) = decide (d0.l.length ≤ 10) := by
      unfold picZ
      rw [List.all_eq_true.2 (ims_all fun j hj => hg.2 j (by omega)), ims_len, Bool.true_and]
    rw [this]
    unfold ile
    exact Bool.eq_iff_iff.2 (by simp; omega)
end Go.Proofs.YtafpahkcjdfpiaaDoor
