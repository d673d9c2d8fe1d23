/- Part of the proof of the laws of this seat: contracts of its functions, for every input. -/
import Derived.Test.YtafpahkcjdfpiaaDoorWR
set_option linter.all false
namespace Go.Proofs.YtafpahkcjdfpiaaDoor
open Go Go.RX Go.Proofs
set_option maxRecDepth 100000
set_option linter.all false
set_option maxHeartbeats 1000000
theorem bld_nil {id : List UInt8} (h : oneZ id = true) : bldZ id [] = ⟨id, [], chZ id (ims []), 0⟩ := bld_ok (by unfold bldE; rw [if_neg (by simp [h]), if_neg (by simp [ims])]; rfl)
theorem bld_f {id : List UInt8} {l : List D} (h : oneZ id = false) : (bldZ id l).e = 5 := ((bld_err (l := l) (by unfold bldE; rw [if_pos h]) (by decide)).2).symm
theorem xsub_snoc {l : List D} {g : Nat} (h : g < l.length) : xcat (xsub l 0 (g : Int)) [elt l (g : Int)] = xsub l 0 ((g + 1 : Nat) : Int) := by
  rw [elt_get h]
  simp [xcat, xsub]
theorem xsub_all {l : List D} : xsub l 0 (l.length : Int) = l := by simp [xsub]
theorem xsub_len {l : List D} {g : Nat} (h : g ≤ l.length) : (xsub l 0 (g : Int)).length = g := by simp [xsub]; omega
theorem sm_xsub {l : List D} {g : Nat} (h : smL (ims l)) : smL (ims (xsub l 0 (g : Int))) := by
  rw [← ims_take]
  exact ⟨by have := h.1; rw [List.length_take]; omega, fun i hi => h.2 i (List.mem_of_mem_take hi)⟩
theorem c7 : ConOK Tryd.prog 7 con7 := by
  refine conOK_of_exec (inl := noInl) noInl_ok (lp := lp7) (tb := tb7) (c := bodyOf Tryd.f7) ⟨tt_ok, tb7_ok⟩ mixed Tryd.func7 (by kernel_rfl) (by kernel_rfl) ?_
  intro dat hpre hwt
  have hw0 := wts2 hwt
  obtain ⟨d0, d1, rfl, w0, w1⟩ := hw0
  refine Eq.mpr (vc7 d0 d1) ?_
  have hw := wt_sl w1
  simp only [ile_t, ile_f, ilt_t, ilt_f, ieq_t, ieq_f, bnot_t, bnot_f, band_t, band_f, true_and, and_true, lenI, imOf_mk, imOf_eta]
  refine ⟨fun _ => trivial, fun hf => ⟨fun _ => trivial, fun hid => ⟨few_sm hf, aw_0, fun he2 => ?_, fun he2 => ?_⟩⟩⟩
  · have h0 : oneZ d0.s = false := by
      cases hb : oneZ d0.s with
      | false => rfl
      | true => rw [bld_nil hb] at he2; exact absurd rfl he2
    rw [bld_f h0, bld_f h0]
    exact ⟨fun _ => trivial, fun h => h rfl⟩
  have h0 : oneZ d0.s = true := by
    cases hb : oneZ d0.s with
    | true => rfl
    | false => rw [bld_f hb] at he2; cases he2
  have hsm := few_sm hf
  have hn := hsm.1
  rw [ims_len] at hn
  rw [bld_nil h0]
  simp only
  refine ⟨⟨0, ⟨by omega, rfl⟩, rfl, rfl, rfl⟩, fun g hg => ⟨fun hlt => ?_, fun hge => ?_⟩⟩
  · have hm : elt d1.l (g : Int) ∈ d1.l := by rw [elt_get (by omega)]; exact List.getElem_mem _
    rw [im_eta (hw.2.2 _ hm)]
    have hv : verZ d0.s (ims (xsub d1.l 0 (g : Int))) (chZ d0.s (ims (xsub d1.l 0 (g : Int)))) = true := sameZ_self _
    have hxl := xsub_len (l := d1.l) (g := g) (by omega)
    have hA := addE_v (i := imOf (elt d1.l (g : Int))) hv (by rw [ims_len]; omega)
    have hlen : d1.l.length ≤ 20 := by rw [fewI_t, ims_len] at hf; exact hf.2
    refine ⟨by omega, ⟨sm_xsub hsm, hsm.2 _ (ims_mem (by omega)), by omega, by rw [chZ_len, ims_len]; omega⟩, fun he => ?_, fun he => ?_⟩
    · have hz : chkZ (ims (xsub d1.l 0 (g : Int))) (imOf (elt d1.l (g : Int))) ≠ 0 := fun hz => by
        rw [add_ok (hA.trans hz)] at he; exact he rfl
      have e1 := (add_err hA hz).2
      have e2 := (bld_err (l := d1.l) (bldE_at h0 (by omega) (by omega) hg.2 rfl hz) hz).2
      rw [← e1, ← e2]
      exact ⟨fun _ => trivial, fun h => h rfl⟩
    · have hz : chkZ (ims (xsub d1.l 0 (g : Int))) (imOf (elt d1.l (g : Int))) = 0 := by
        by_cases hz : chkZ (ims (xsub d1.l 0 (g : Int))) (imOf (elt d1.l (g : Int))) = 0
        · exact hz
        · rw [← (add_err hA hz).2] at he; exact he
      rw [add_ok (hA.trans hz), xsub_snoc (by omega)]
      simp only
      have hv2 : verZ d0.s (ims (xsub d1.l 0 ((g + 1 : Nat) : Int))) (chZ d0.s (ims (xsub d1.l 0 ((g + 1 : Nat) : Int)))) = true := sameZ_self _
      have hl2 : ((chZ d0.s (ims (xsub d1.l 0 ((g + 1 : Nat) : Int)))).length : Int) = iadd .i64 (g : Int) 1 := by
        rw [chZ_len, ims_len, xsub_len (by omega), iadd_eq (by omega)]; rfl
      rw [hv2, hl2]
      exact ⟨sm_xsub hsm, fun h => (by cases h), fun _ => ⟨fun h => h rfl, fun _ => ⟨g + 1, ⟨by omega, by rw [chE_next (by omega) hg.2]; exact hz⟩, by omega, by rw [iadd_eq (by omega)]; rfl, by simp⟩⟩⟩
  · have hgl : g = d1.l.length := by omega
    subst hgl
    rw [bld_ok (bldE_all h0 (by omega) hg.2), xsub_all]
    simp only [firstZ_self, sameZ_self]
    simp
end Go.Proofs.YtafpahkcjdfpiaaDoor
