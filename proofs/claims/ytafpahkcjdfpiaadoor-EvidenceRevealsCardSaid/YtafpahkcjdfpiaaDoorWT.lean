/- Part of the proof of the laws of this seat: contracts of its functions, for every input. -/
import Derived.Test.YtafpahkcjdfpiaaDoorWS
set_option linter.all false
namespace Go.Proofs.YtafpahkcjdfpiaaDoor
open Go Go.RX Go.Proofs
set_option maxRecDepth 100000
set_option linter.all false
set_option maxHeartbeats 1000000
theorem put_eq {l : List D} {g : Nat} {d : D} (h : g < l.length) : xcat (xcat (xsub l 0 (g : Int)) [d]) (xsub l ((g + 1 : Nat) : Int) (l.length : Int)) = l.set g d := by
  rw [List.set_eq_take_append_cons_drop, if_pos h]
  simp [xcat, xsub]
theorem ims_set {l : List D} {g : Nat} {d : D} : ims (l.set g d) = (ims l).set g (imOf d) := by unfold ims; rw [List.map_set]
theorem first_set {L : List Im} {g : Nat} {I : Im} (h : g < L.length) (hn : L[g]? ≠ some I) : firstZ L (L.set g I) = g := by
  refine first_pre (fun j hj => ?_) (.inl h) ?_
  · rw [List.getElem?_set_ne (by omega)]
  · rw [List.getElem?_set_self h]; exact hn
theorem sm_set {L : List Im} {g : Nat} {I : Im} (h : smL L) (hI : smI I) : smL (L.set g I) :=
  ⟨by rw [List.length_set]; exact h.1, fun i hi => (List.mem_or_eq_of_mem_set hi).elim (h.2 i) (fun e => by rw [e]; exact hI)⟩
theorem lastK_chain {c : List UInt8} {L : List Im} {g : Nat} (h : g ≤ L.length) : lastK (chZ c L) g (hashZ (bytesD c)) = chTo (hashZ (bytesD c)) (L.map fun i => .list (desZ i)) g := by
  unfold lastK
  by_cases h0 : 0 < g
  · rw [if_pos h0]
    obtain ⟨k, rfl⟩ : ∃ k, g = k + 1 := ⟨g - 1, by omega⟩
    unfold ei chZ chainZ
    rw [Nat.add_sub_cancel, elt_mkL (by simpa using by omega)]
    rfl
  · rw [if_neg h0, show g = 0 by omega]; rfl
theorem ver_set {c : List UInt8} {L : List Im} {g : Nat} {I K : Im} (h : g < L.length) (hK : L[g]? = some K) (hv : verZ c (L.set g I) (chZ c L) = true) :
    joinZ (chTo (hashZ (bytesD c)) (L.map fun i => .list (desZ i)) g) (hashZ (desZ I)) = joinZ (chTo (hashZ (bytesD c)) (L.map fun i => .list (desZ i)) g) (hashZ (desZ K)) := by
  unfold verZ at hv
  rw [sameZ_t] at hv
  have h1 := hv.2 g (by rw [chZ_len]; exact h)
  unfold chZ chainZ at h1
  rw [elt_mkL (by simpa using h), elt_mkL (by simpa using h)] at h1
  simp only [D.i] at h1
  rw [chTo, chTo, ch_elt, ch_elt, hK, List.getElem?_set_self h] at h1
  rw [chTo_pre (b := L.map fun i => D.list (desZ i)) (a := (L.set g I).map fun i => D.list (desZ i)) fun j hj => by rw [ch_elt, ch_elt, List.getElem?_set_ne (by omega)]] at h1
  exact h1.symm
theorem c8 : ConOK Tryd.prog 8 con8 := by
  refine conOK_of_exec (inl := noInl) noInl_ok (lp := lp8) (tb := tb8) (c := bodyOf Tryd.f8) ⟨tt_ok, tb8_ok⟩ mixed Tryd.func8 (by kernel_rfl) (by kernel_rfl) ?_
  intro dat hpre hwt
  have hw0 := wts3 hwt
  obtain ⟨d0, d1, d2, rfl, w0, w1, w2⟩ := hw0
  refine Eq.mpr (vc8 d0 d1 d2) ?_
  have hw := wt_sl w1
  simp only [ile_t, ile_f, ilt_t, ilt_f, ieq_t, ieq_f, bnot_t, bnot_f, band_t, band_f, true_and, and_true, lenI, imOf_mk, imOf_eta, im_eta w2]
  refine ⟨fun _ => trivial, fun hf => ⟨fun _ => trivial, fun hid => ⟨fun _ => trivial, fun hi => ⟨fun _ => trivial, fun hn0 => ⟨few_sm hf, fun he => ⟨fun _ => trivial, fun h => he h⟩, fun he => ?_⟩⟩⟩⟩⟩
  rw [bld_ok (bld_0 he)]
  simp only [chZ_len, ims_len]
  have hlen : d1.l.length ≤ 20 := by rw [fewI_t, ims_len] at hf; exact hf.2
  have hsm := few_sm hf
  have hsI := one_sm hi
  refine ⟨fun h => absurd rfl h, fun _ => ⟨fun h => absurd rfl h, fun _ => ⟨⟨0, by omega, rfl⟩, fun g hg => ⟨fun hlt => ⟨by omega, fun _ => ⟨g + 1, by omega, by omega, by rw [iadd_eq (by omega)]; rfl⟩, fun hne => ?_⟩, fun _ => trivial⟩⟩⟩⟩
  have hne' : imOf (elt d1.l (g : Int)) ≠ imOf d2 := of_decide_eq_false hne
  have i1 : iadd .i64 (g : Int) 1 = ((g + 1 : Nat) : Int) := by rw [iadd_eq (by omega)]; rfl
  rw [i1, put_eq (by omega), ims_set]
  have hget := ims_get (l := d1.l) (i := g) (by omega)
  have hF := first_set (L := ims d1.l) (g := g) (I := imOf d2) (by rw [ims_len]; omega) (by rw [hget]; exact fun e => hne' (Option.some.inj e))
  rw [hF]
  have nx : ∃ g' : Nat, g' ≤ d1.l.length ∧ d1.l.length - g' < d1.l.length - g ∧ ((g + 1 : Nat) : Int) = (g' : Int) := ⟨g + 1, by omega, by omega, rfl⟩
  have hS := sm_set (g := g) hsm hsI
  have hsK := hsm.2 _ (ims_mem (l := d1.l) (j := g) (by omega))
  have hx1 := xsub_len (l := d1.l) (g := g) (by omega)
  have hx2 : (xcat (xsub d1.l 0 (g : Int)) [d2]).length = g + 1 := by rw [xcat_len, hx1]; rfl
  have hx3 : (xsub d1.l ((g + 1 : Nat) : Int) (d1.l.length : Int)).length ≤ 20 := by simp [xsub]; omega
  refine ⟨by omega, by rw [hx1]; omega, by rw [hx1]; simp; omega, by omega, by rw [hx2]; omega, ⟨fun h => ⟨by rw [isub_eq (by omega)]; omega, _, rfl, ?_⟩, fun h => ⟨_, rfl, ?_⟩⟩, fun g1 hg1 => ⟨hsI, by omega, hsK, fun _ => ⟨hS, fun _ => ⟨fun h => h rfl, fun _ => nx⟩, fun _ => ⟨fun h => h rfl, fun _ => nx⟩⟩, fun _ => ⟨hsI, by omega, hsK, hS, fun hv => ⟨fun h => h ?_, fun _ => ⟨fun h => h rfl, fun _ => nx⟩⟩, fun _ => ⟨fun h => h rfl, fun _ => nx⟩⟩⟩⟩
  · unfold lastK
    rw [if_pos (by omega), isub_eq (by omega), Int.toNat_natCast, show (g : Int) - 1 = ((g - 1 : Nat) : Int) by omega]; rfl
  · unfold lastK; rw [if_neg (by omega)]
  · rw [hg1, Int.toNat_natCast, lastK_chain (by rw [ims_len]; omega)]
    exact ver_set (by rw [ims_len]; omega) hget hv
end Go.Proofs.YtafpahkcjdfpiaaDoor
