/- Part of the proof of the laws of this seat: contracts of its functions, for every input. -/
import Derived.Test.YtafpahkcjdfpiaaDoorWTM
set_option linter.all false
namespace Go.Proofs.YtafpahkcjdfpiaaDoor
open Go Go.RX Go.Proofs
set_option maxRecDepth 100000
set_option linter.all false
set_option maxHeartbeats 1000000
theorem tb31_ok : TabOK Tryd.prog tb31 := fun f con h => by
  unfold tb31 at h
  split at h
  · cases h; exact c51
  · cases h; exact c52
  · cases h; exact c55
  · cases h; exact c54
  · cases h
theorem inl31_ok : InlOK Tryd.prog inl31 := fun f I h => by
  unfold inl31 at h
  split at h
  · cases h; exact ⟨Tryd.func53, by kernel_rfl, by kernel_rfl⟩
  · cases h
theorem untE_im {m : List D} {x : D} {c : Int} : untE m (imD x) c = untE m x c := rfl
theorem untD_im {m : List D} {x : D} {c : Int} : untD m (imD x) c = untD m x c := rfl
theorem pur_err {l ims cl : List D} {t e : Int} (h : purE l ims cl t = e) (he : e ≠ 0) : (purZ l ims cl t).k = [] ∧ (purZ l ims cl t).g = [] ∧ e = (purZ l ims cl t).e := by
  unfold purZ; rw [if_pos (by rw [h]; exact he), h]; exact ⟨rfl, rfl, rfl⟩
theorem pur_ok {l ims cl : List D} {t : Int} (h : purE l ims cl t = 0) : purZ l ims cl t = ⟨kepTo (rulTo l l.length) ims cl t ims.length, gonTo (rulTo l l.length) ims cl t ims.length, 0⟩ := by
  unfold purZ; rw [if_neg (by simp [h])]
theorem kep_len {m ims cl : List D} {t : Int} : ∀ i, (kepTo m ims cl t i).length ≤ i ∧ (gonTo m ims cl t i).length ≤ i
  | 0 => ⟨Nat.le_refl _, Nat.le_refl _⟩
  | i + 1 => by
    have := kep_len (m := m) (ims := ims) (cl := cl) (t := t) i
    rw [kepTo, gonTo]
    split
    · exact ⟨by simp [xcat]; omega, by omega⟩
    · exact ⟨by omega, by simp [xcat]; omega⟩
theorem kpZ_t {m : List D} {x : D} {c t : Int} : (kpZ m x c t = true) = (untE m x c = 32 ∨ untE m x c = 11 ∨ (untE m x c = 0 ∧ t < untD m x c)) := by simp [kpZ]
theorem kep_round {m ims cl : List D} {t : Int} {g : Nat} (hg : errTo (purF m ims cl t) g = 0) (hk : kpZ m (elt ims (g : Int)) (ei cl g) t = true) :
    errTo (purF m ims cl t) (g + 1) = 0 ∧ kepTo m ims cl t (g + 1) = xcat (kepTo m ims cl t g) [elt ims (g : Int)] ∧ gonTo m ims cl t (g + 1) = gonTo m ims cl t g :=
  ⟨errTo_next hg (by unfold purF; rw [if_pos hk]), by rw [kepTo, if_pos hk], by rw [gonTo, if_pos hk]⟩
theorem gon_round {m ims cl : List D} {t : Int} {g : Nat} (hg : errTo (purF m ims cl t) g = 0) (hk : ¬ kpZ m (elt ims (g : Int)) (ei cl g) t = true) (hu : untE m (elt ims (g : Int)) (ei cl g) = 0) :
    errTo (purF m ims cl t) (g + 1) = 0 ∧ kepTo m ims cl t (g + 1) = kepTo m ims cl t g ∧ gonTo m ims cl t (g + 1) = xcat (gonTo m ims cl t g) [.str (rs (elt ims (g : Int)) 0)] :=
  ⟨errTo_next hg (by unfold purF; rw [if_neg hk]; exact hu), by rw [kepTo, if_neg hk], by rw [gonTo, if_neg hk]⟩
theorem err_at {m ims cl : List D} {t : Int} {g n : Nat} (hg : errTo (purF m ims cl t) g = 0) (hlt : g < n) (hk : ¬ kpZ m (elt ims (g : Int)) (ei cl g) t = true) (hu : untE m (elt ims (g : Int)) (ei cl g) ≠ 0) :
    errTo (purF m ims cl t) n = untE m (elt ims (g : Int)) (ei cl g) := by
  have e : purF m ims cl t g = untE m (elt ims (g : Int)) (ei cl g) := by unfold purF; rw [if_neg hk]
  rw [errTo_stop hg (by rw [e]; exact hu) hlt, e]
theorem c31 : ConOK Tryd.prog 31 con31 := by
  refine conOK_of_exec (inl := inl31) inl31_ok (lp := lp31) (tb := tb31) (c := bodyOf Tryd.f31) ⟨tt_ok, tb31_ok⟩ mixed Tryd.func31 (by kernel_rfl) (by kernel_rfl) ?_
  intro dat hpre hwt
  have hw0 := wts4 hwt
  obtain ⟨d0, d1, d2, d3, rfl, w0, w1, w2, w3⟩ := hw0
  refine Eq.mpr (vc31 d0 d1 d2 d3) ?_
  have hl0 := wt_len w0
  have hl1 := wt_len w1
  have hl2 := wt_len w2
  have hfit : fit d1.l := hpre
  have hI : ∀ k : Nat, k < d1.l.length → imD (elt d1.l (k : Int)) = elt d1.l (k : Int) := fun k hk => im_eta ((wt_sl w1).2.2 _ (by rw [elt_get hk]; exact List.getElem_mem _))
  have hH : ∀ k : Nat, k < d1.l.length → ((elt d1.l (k : Int)).fld 3).l.length ≤ 100000 := fun k hk => by
    have := hfit.2 (elt d1.l (k : Int)) (by rw [elt_get hk]; exact List.getElem_mem _)
    unfold rl at this
    omega
  have h100 := hfit.1
  simp only [ile_t, ile_f, ilt_t, ilt_f, ieq_t, ieq_f, bnot_t, bnot_f, band_t, band_f, true_and, and_true, lenI, untE_im, untD_im]
  refine ⟨fun h => pur_err (by unfold purE; rw [if_pos h]) h, fun h => ⟨fun h2 => pur_err (by unfold purE; rw [if_neg (by simp [h]), if_pos (by omega)]) (by decide), fun h2 => ⟨fun h3 => pur_err (by unfold purE; rw [if_neg (by simp [h]), if_neg (by omega), if_pos h3]) (by decide), fun h3 => ?_⟩⟩⟩
  have hE : purE d0.l d1.l d2.l d3.i = errTo (purF (rulTo d0.l d0.l.length) d1.l d2.l d3.i) d1.l.length := by unfold purE; rw [if_neg (by simp [h]), if_neg (by omega), if_neg (by simp [h3])]
  refine ⟨⟨0, by omega, rfl, rfl⟩, fun g hg => ⟨fun hlt => ⟨by omega, g + 1, by omega, by omega, by rw [iadd_eq (by omega)]; rfl, rfl⟩, fun hge => ?_⟩⟩
  obtain rfl : g = d0.l.length := by omega
  refine ⟨⟨0, ⟨by omega, rfl⟩, rfl, rfl, rfl⟩, fun g1 hg1 => ⟨fun hlt => ?_, fun hge => ?_⟩⟩
  · have hlt1 : g1 < d1.l.length := by omega
    obtain ⟨hle, hg0⟩ := hg1
    have hkl := kep_len (m := rulTo d0.l d0.l.length) (ims := d1.l) (cl := d2.l) (t := d3.i) g1
    have he2 : (elt d2.l (g1 : Int)).i = ei d2.l g1 := rfl
    rw [he2, hI g1 hlt1]
    have hH1 := hH g1 hlt1
    have hkept : kpZ (rulTo d0.l d0.l.length) (elt d1.l (g1 : Int)) (ei d2.l g1) d3.i = true → ((elt d1.l (g1 : Int)).fld 3).l.length ≤ 100000 ∧
        ((kepTo (rulTo d0.l d0.l.length) d1.l d2.l d3.i g1).length + ([elt d1.l (g1 : Int)].length : Int)) * ((64 : Nat) : Int) ≤ 140737488355328 ∧
        ∃ g', (g' ≤ d1.l.length ∧ errTo (purF (rulTo d0.l d0.l.length) d1.l d2.l d3.i) g' = 0) ∧ d1.l.length - g' < d1.l.length - g1 ∧ iadd .i64 (g1 : Int) 1 = (g' : Int) ∧
          xcat (kepTo (rulTo d0.l d0.l.length) d1.l d2.l d3.i g1) [elt d1.l (g1 : Int)] = kepTo (rulTo d0.l d0.l.length) d1.l d2.l d3.i g' ∧ gonTo (rulTo d0.l d0.l.length) d1.l d2.l d3.i g1 = gonTo (rulTo d0.l d0.l.length) d1.l d2.l d3.i g' := fun hk => by
      obtain ⟨r1, r2, r3⟩ := kep_round hg0 hk
      exact ⟨hH1, by simp only [List.length_cons, List.length_nil]; omega, g1 + 1, ⟨by omega, r1⟩, by omega, by rw [iadd_eq (by omega)]; rfl, r2.symm, r3.symm⟩
    have hgone : ¬ kpZ (rulTo d0.l d0.l.length) (elt d1.l (g1 : Int)) (ei d2.l g1) d3.i = true → untE (rulTo d0.l d0.l.length) (elt d1.l (g1 : Int)) (ei d2.l g1) = 0 →
        ((gonTo (rulTo d0.l d0.l.length) d1.l d2.l d3.i g1).length + ([D.str ((elt d1.l (g1 : Int)).fld 0).s].length : Int)) * ((16 : Nat) : Int) ≤ 140737488355328 ∧
        ∃ g', (g' ≤ d1.l.length ∧ errTo (purF (rulTo d0.l d0.l.length) d1.l d2.l d3.i) g' = 0) ∧ d1.l.length - g' < d1.l.length - g1 ∧ iadd .i64 (g1 : Int) 1 = (g' : Int) ∧
          kepTo (rulTo d0.l d0.l.length) d1.l d2.l d3.i g1 = kepTo (rulTo d0.l d0.l.length) d1.l d2.l d3.i g' ∧ xcat (gonTo (rulTo d0.l d0.l.length) d1.l d2.l d3.i g1) [.str ((elt d1.l (g1 : Int)).fld 0).s] = gonTo (rulTo d0.l d0.l.length) d1.l d2.l d3.i g' := fun hk hu => by
      obtain ⟨r1, r2, r3⟩ := gon_round hg0 hk hu
      exact ⟨by simp only [List.length_cons, List.length_nil]; omega, g1 + 1, ⟨by omega, r1⟩, by omega, by rw [iadd_eq (by omega)]; rfl, r2.symm, r3.symm⟩
    rw [kpZ_t] at hkept hgone
    refine ⟨by omega, by omega, fun h1 => hkept (.inl h1), fun h1 => ⟨fun h4 => hkept (.inr (.inl h4)), fun h4 => ⟨fun h5 => ⟨fun h6 => hkept (.inr (.inr ⟨h5, h6⟩)), fun h6 => ⟨fun h7 => hgone (by omega) h7, fun h7 => absurd h5 h7⟩⟩, fun h5 => ⟨fun h6 => absurd h6 h5, fun h6 => ?_⟩⟩⟩⟩
    exact pur_err (hE.trans (err_at hg0 hlt1 (by rw [kpZ_t]; omega) h5)) h5
  · have e : g1 = d1.l.length := by omega
    rw [pur_ok (hE.trans (by rw [← e]; exact hg1.2)), e]
    exact ⟨rfl, rfl, rfl⟩
end Go.Proofs.YtafpahkcjdfpiaaDoor
