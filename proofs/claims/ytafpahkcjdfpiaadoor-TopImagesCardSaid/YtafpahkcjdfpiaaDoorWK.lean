/- Part of the proof of the laws of this seat: contracts of its functions, for every input. -/
import Derived.Test.YtafpahkcjdfpiaaDoorWH
set_option linter.all false
namespace Go.Proofs.YtafpahkcjdfpiaaDoor
open Go Go.RX Go.Proofs
set_option maxRecDepth 100000
set_option linter.all false
set_option maxHeartbeats 1000000
theorem putT_len {b : List D} {s : List UInt8} : (putT b s).length ≤ b.length + 11 + s.length := by
  have := @putI_len b (s.length : Int)
  simp [putT, bytesD_len]; omega
theorem hTo_len {i : Im} (h : smI i) : ∀ {k : Nat}, k ≤ i.h.length → (hTo i k).length ≤ 1100 + 1011 * k
  | 0, _ => by
    have a1 := @putT_len [] i.id
    have a2 := @putI_len (putT [] i.id) i.t
    have a3 := @putI_len (putI (putT [] i.id) i.t) i.p
    have a4 := @putI_len (putI (putI (putT [] i.id) i.t) i.p) (i.h.length : Int)
    have := h.1
    simp only [List.length_nil] at a1
    unfold hTo; omega
  | k + 1, hk => by
    have ih := @hTo_len i h k (by omega)
    have a1 := @putT_len (hTo i k) (i.h.getD k [])
    have a2 : (i.h.getD k []).length ≤ 1000 := by
      rw [List.getD, List.getElem?_eq_getElem (by omega)]
      exact h.2.2 _ (List.getElem_mem _)
    unfold hTo; omega
theorem byte_shr2 {x : Int} (h : 0 ≤ x) {k : Nat} (hk : k < 8) : iconv .u8 (ishr .u64 x (56 - 8 * (k : Int))) = byteOf x k := by
  have := byte_shr h hk
  rwa [imul_eq (by omega), isub_eq (by omega)] at this
theorem des_ok {d : D} (w0 : WT imT d) (h : smI (imOf d)) (f : Int → Int) (hf : ∀ k : Nat, k < 8 → f (56 - 8 * (k : Int)) = 56 - 8 * (k : Int)) :
    ((([] : List D).length ≤ 1000000 ∧ (d.fld 0).s.length ≤ 1000000) ∧ (putT [] (d.fld 0).s).length ≤ 1000000 ∧ (putI (putT [] (d.fld 0).s) (d.fld 1).i).length ≤ 1000000 ∧
      (putI (putI (putT [] (d.fld 0).s) (d.fld 1).i) (d.fld 2).i).length ≤ 1000000 ∧
      (∃ g, g ≤ (d.fld 3).l.length ∧ (0 : Int) = ((g : Nat) : Int) ∧ putI (putI (putI (putT [] (d.fld 0).s) (d.fld 1).i) (d.fld 2).i) ((d.fld 3).l.length : Int) = hTo (imOf d) g) ∧
      ∀ g : Nat, g ≤ (d.fld 3).l.length →
        ((g : Int) < ((d.fld 3).l.length : Int) → (0 ≤ (g : Int) ∧ (g : Int) < ((d.fld 3).l.length : Int)) ∧ ((hTo (imOf d) g).length ≤ 1000000 ∧ (elt (d.fld 3).l (g : Int)).s.length ≤ 1000000) ∧
          ∃ g' : Nat, g' ≤ (d.fld 3).l.length ∧ (d.fld 3).l.length - g' < (d.fld 3).l.length - g ∧ iadd .i64 (g : Int) 1 = (g' : Int) ∧ putT (hTo (imOf d) g) (elt (d.fld 3).l (g : Int)).s = hTo (imOf d) g') ∧
        (((d.fld 3).l.length : Int) ≤ (g : Int) →
          (∃ g1 : Nat, g1 ≤ 8 ∧ (56 : Int) = 56 - 8 * (g1 : Int) ∧ hTo (imOf d) g = xcat (hTo (imOf d) g) (mkL g1 fun j => D.int (byteOf (d.fld 4).i j))) ∧
          ∀ g1 : Nat, g1 ≤ 8 → (0 ≤ 56 - 8 * (g1 : Int) → 0 ≤ f (56 - 8 * (g1 : Int)) ∧
              (((xcat (hTo (imOf d) g) (mkL g1 fun j => D.int (byteOf (d.fld 4).i j))).length : Int) + (([D.int (iconv .u8 (ishr .u64 (d.fld 4).i (f (56 - 8 * (g1 : Int)))))] : List D).length : Int)) * ((1 : Nat) : Int) ≤ 140737488355328 ∧
              ∃ g' : Nat, g' ≤ 8 ∧ 8 - g' < 8 - g1 ∧ isub .i64 (56 - 8 * (g1 : Int)) 8 = 56 - 8 * (g' : Int) ∧
                xcat (xcat (hTo (imOf d) g) (mkL g1 fun j => D.int (byteOf (d.fld 4).i j))) [D.int (iconv .u8 (ishr .u64 (d.fld 4).i (f (56 - 8 * (g1 : Int)))))] = xcat (hTo (imOf d) g) (mkL g' fun j => D.int (byteOf (d.fld 4).i j))) ∧
            (56 - 8 * (g1 : Int) < 0 → xcat (hTo (imOf d) g) (mkL g1 fun j => D.int (byteOf (d.fld 4).i j)) = desZ (imOf d)))) := by
  have hx := wt_u64 (wtIm w0).2.2.2.2.1
  have e0 : (imOf d).id = (d.fld 0).s := rfl
  have e3 : (imOf d).h = txs (d.fld 3).l := rfl
  have e4 : (imOf d).g = (d.fld 4).i := rfl
  have hh : (d.fld 3).l.length ≤ 100 := by have := h.2.1; rw [e3, txs_len] at this; exact this
  have hid : (d.fld 0).s.length ≤ 1000 := h.1
  have a1 := @putT_len [] (d.fld 0).s
  have a2 := @putI_len (putT [] (d.fld 0).s) (d.fld 1).i
  have a3 := @putI_len (putI (putT [] (d.fld 0).s) (d.fld 1).i) (d.fld 2).i
  simp only [List.length_nil] at a1
  refine ⟨⟨by simp, by omega⟩, by omega, by omega, by omega, ⟨0, by omega, rfl, by unfold hTo; rw [e3, txs_len]; rfl⟩, fun g hg => ⟨fun hlt => ⟨by omega, ⟨?_, ?_⟩, g + 1, by omega, by omega, by rw [iadd_eq (by omega)]; rfl, ?_⟩, fun hge => ⟨⟨0, by omega, by omega, by rw [mkL_zero, xcat_nil']⟩, fun g1 hg1 => ⟨fun h1 => ?_, fun h1 => ?_⟩⟩⟩⟩
  · have := hTo_len h (k := g) (by rw [e3, txs_len]; omega)
    omega
  · have := h.2.2 _ (by rw [e3]; exact txs_mem (j := g) (by omega))
    omega
  · have : (imOf d).h.getD g [] = (elt (d.fld 3).l (g : Int)).s := by
      rw [e3, List.getD, txs_get (by omega)]; rfl
    rw [hTo, this]
  · rw [hf g1 (by omega)]
    have := hTo_len h (k := g) (by rw [e3, txs_len]; omega)
    refine ⟨h1, by simp [xcat_len, mkL_len]; omega, g1 + 1, by omega, by omega, by rw [isub_eq (by omega)]; omega, ?_⟩
    rw [xcat_assoc, byte_shr2 hx.1 (by omega)]
    rw [mkL_snoc (f := fun j => .int (byteOf (d.fld 4).i j))]
  · rw [show g1 = 8 by omega, show g = (imOf d).h.length by rw [e3, txs_len]; omega]; rfl
theorem tb35_ok : TabOK Tryd.prog tb35 := fun f con h => by
  unfold tb35 at h
  split at h
  · cases h; exact c62
  · cases h; exact c63
  · cases h
theorem tb37_ok : TabOK Tryd.prog tb37 := fun f con h => by
  unfold tb37 at h
  split at h
  · cases h; exact c64
  · cases h; exact c65
  · cases h
theorem c35 : ConOK Tryd.prog 35 con35 := by
  refine conOK_of_exec (inl := noInl) noInl_ok (lp := lp35) (tb := tb35) (c := bodyOf Tryd.f35) ⟨tt_ok, tb35_ok⟩ mixed Tryd.func35 (by kernel_rfl) (by kernel_rfl) ?_
  intro dat hpre hwt
  have hw0 := wts1 hwt
  obtain ⟨d0, rfl, w0⟩ := hw0
  refine Eq.mpr (vc35 d0) ?_
  have h : smI (imOf d0) := hpre
  simp only [ile_t, ile_f, ilt_t, ilt_f, ieq_t, ieq_f, bnot_t, bnot_f, band_t, band_f, true_and, and_true, lenI, imOf_mk, imOf_eta]
  exact des_ok w0 h (iconv .u64) (fun k hk => by unfold iconv; exact wrap_u64 (by omega))
theorem c37 : ConOK Tryd.prog 37 con37 := by
  refine conOK_of_exec (inl := noInl) noInl_ok (lp := lp37) (tb := tb37) (c := bodyOf Tryd.f37) ⟨tt_ok, tb37_ok⟩ mixed Tryd.func37 (by kernel_rfl) (by kernel_rfl) ?_
  intro dat hpre hwt
  have hw0 := wts1 hwt
  obtain ⟨d0, rfl, w0⟩ := hw0
  refine Eq.mpr (vc37 d0) ?_
  have h : smI (imOf d0) := hpre
  simp only [ile_t, ile_f, ilt_t, ilt_f, ieq_t, ieq_f, bnot_t, bnot_f, band_t, band_f, true_and, and_true, lenI, imOf_mk, imOf_eta]
  exact des_ok w0 h id (fun k hk => rfl)
theorem tb13_ok : TabOK Tryd.prog tb13 := fun f con h => by
  unfold tb13 at h
  split at h
  · cases h; exact c36
  · cases h; exact c37
  · cases h
theorem tb14_ok : TabOK Tryd.prog tb14 := fun f con h => by
  unfold tb14 at h
  split at h
  · cases h; exact c26
  · cases h; exact c35
  · cases h
theorem c13 : ConOK Tryd.prog 13 con13 := by
  refine conOK_of_exec (inl := noInl) noInl_ok (lp := noLp) (tb := tb13) (c := bodyOf Tryd.f13) ⟨tt_ok, tb13_ok⟩ mixed Tryd.func13 (by kernel_rfl) (by kernel_rfl) ?_
  intro dat hpre hwt
  have hw0 := wts1 hwt
  obtain ⟨d0, rfl, w0⟩ := hw0
  refine Eq.mpr (vc13 d0) ?_
  have h : smI (imOf d0) := hpre
  simp only [ile_t, ile_f, ilt_t, ilt_f, ieq_t, ieq_f, bnot_t, bnot_f, band_t, band_f, true_and, and_true, lenI, imOf_mk, imOf_eta]
  exact h
theorem c14 : ConOK Tryd.prog 14 con14 := by
  refine conOK_of_exec (inl := noInl) noInl_ok (lp := noLp) (tb := tb14) (c := bodyOf Tryd.f14) ⟨tt_ok, tb14_ok⟩ mixed Tryd.func14 (by kernel_rfl) (by kernel_rfl) ?_
  intro dat hpre hwt
  have hw0 := wts1 hwt
  obtain ⟨d0, rfl, w0⟩ := hw0
  refine Eq.mpr (vc14 d0) ?_
  have h : smI (imOf d0) := hpre
  simp only [ile_t, ile_f, ilt_t, ilt_f, ieq_t, ieq_f, bnot_t, bnot_f, band_t, band_f, true_and, and_true, lenI, imOf_mk, imOf_eta]
  exact h
theorem tb42_ok : TabOK Tryd.prog tb42 := fun f con h => by
  unfold tb42 at h
  split at h
  · cases h; exact c36
  · cases h; exact c37
  · cases h; exact c69
  · cases h
theorem tb45_ok : TabOK Tryd.prog tb45 := fun f con h => by
  unfold tb45 at h
  split at h
  · cases h; exact c26
  · cases h; exact c35
  · cases h; exact c72
  · cases h
theorem des_map {l : List D} : mkL l.length (fun j => D.list (desZ (imOf (elt l (j : Int))))) = (ims l).map fun i => .list (desZ i) := by
  refine (mkL_eq (by simp [ims]) fun i hi => ?_).symm
  rw [elt_get (by simpa [ims] using hi), elt_get hi]
  simp [ims]
theorem c42 : ConOK Tryd.prog 42 con42 := by
  refine conOK_of_exec (inl := noInl) noInl_ok (lp := lp42) (tb := tb42) (c := bodyOf Tryd.f42) ⟨tt_ok, tb42_ok⟩ mixed Tryd.func42 (by kernel_rfl) (by kernel_rfl) ?_
  intro dat hpre hwt
  have hw0 := wts2 hwt
  obtain ⟨d0, d1, rfl, w0, w1⟩ := hw0
  refine Eq.mpr (vc42 d0 d1) ?_
  have h : smL (ims d1.l) := hpre
  have hl : d1.l.length ≤ 100 := by have := h.1; rwa [ims_len] at this
  simp only [ile_t, ile_f, ilt_t, ilt_f, ieq_t, ieq_f, bnot_t, bnot_f, band_t, band_f, true_and, and_true, lenI, imOf_mk, imOf_eta]
  refine ⟨⟨0, by omega, rfl, by rw [mkL_zero]⟩, fun g hg => ⟨fun hlt => ⟨by omega, h.2 _ (ims_mem (by omega)), by simp [mkL_len]; omega, g + 1, by omega, by omega, by rw [iadd_eq (by omega)]; rfl, mkL_snoc (f := fun j => .list (desZ (imOf (elt d1.l (j : Int)))))⟩, fun hge => ⟨by rw [mkL_len]; omega, ?_⟩⟩⟩
  rw [show g = d1.l.length by omega, des_map]; rfl
theorem c45 : ConOK Tryd.prog 45 con45 := by
  refine conOK_of_exec (inl := noInl) noInl_ok (lp := lp45) (tb := tb45) (c := bodyOf Tryd.f45) ⟨tt_ok, tb45_ok⟩ mixed Tryd.func45 (by kernel_rfl) (by kernel_rfl) ?_
  intro dat hpre hwt
  have hw0 := wts2 hwt
  obtain ⟨d0, d1, rfl, w0, w1⟩ := hw0
  refine Eq.mpr (vc45 d0 d1) ?_
  have h : smL (ims d1.l) := hpre
  have hl : d1.l.length ≤ 100 := by have := h.1; rwa [ims_len] at this
  simp only [ile_t, ile_f, ilt_t, ilt_f, ieq_t, ieq_f, bnot_t, bnot_f, band_t, band_f, true_and, and_true, lenI, imOf_mk, imOf_eta]
  refine ⟨⟨0, by omega, rfl, by rw [mkL_zero]⟩, fun g hg => ⟨fun hlt => ⟨by omega, h.2 _ (ims_mem (by omega)), by simp [mkL_len]; omega, g + 1, by omega, by omega, by rw [iadd_eq (by omega)]; rfl, mkL_snoc (f := fun j => .list (desZ (imOf (elt d1.l (j : Int)))))⟩, fun hge => ⟨by rw [mkL_len]; omega, ?_⟩⟩⟩
  rw [show g = d1.l.length by omega, des_map]; rfl
theorem tb21_ok : TabOK Tryd.prog tb21 := fun f con h => by
  unfold tb21 at h
  split at h
  · cases h; exact c42
  · cases h; exact c47
  · cases h
theorem tb22_ok : TabOK Tryd.prog tb22 := fun f con h => by
  unfold tb22 at h
  split at h
  · cases h; exact c28
  · cases h; exact c45
  · cases h
theorem c21 : ConOK Tryd.prog 21 con21 := by
  refine conOK_of_exec (inl := noInl) noInl_ok (lp := noLp) (tb := tb21) (c := bodyOf Tryd.f21) ⟨tt_ok, tb21_ok⟩ mixed Tryd.func21 (by kernel_rfl) (by kernel_rfl) ?_
  intro dat hpre hwt
  have hw0 := wts1 hwt
  obtain ⟨d0, rfl, w0⟩ := hw0
  refine Eq.mpr (vc21 d0) ?_
  have h : smL (ims (rl d0 1)) := hpre
  simp only [ile_t, ile_f, ilt_t, ilt_f, ieq_t, ieq_f, bnot_t, bnot_f, band_t, band_f, true_and, and_true, lenI]
  exact ⟨h, rfl⟩
theorem c22 : ConOK Tryd.prog 22 con22 := by
  refine conOK_of_exec (inl := noInl) noInl_ok (lp := noLp) (tb := tb22) (c := bodyOf Tryd.f22) ⟨tt_ok, tb22_ok⟩ mixed Tryd.func22 (by kernel_rfl) (by kernel_rfl) ?_
  intro dat hpre hwt
  have hw0 := wts1 hwt
  obtain ⟨d0, rfl, w0⟩ := hw0
  refine Eq.mpr (vc22 d0) ?_
  have h : smL (ims (rl d0 1)) := hpre
  simp only [ile_t, ile_f, ilt_t, ilt_f, ieq_t, ieq_f, bnot_t, bnot_f, band_t, band_f, true_and, and_true, lenI]
  exact ⟨h, rfl⟩
theorem xset_same {l : List D} {g : Nat} {d : D} (h : g < l.length) (h2 : d = elt l (g : Int)) : xset l g d = l := by
  subst h2
  unfold xset
  rw [elt_get h]
  exact List.set_getElem_self _
theorem dset_list {d : D} (h : WT imT d) : dset d 3 (.list (d.fld 3).l) = d := by
  obtain ⟨h0, h1, h2, h3, h4, e⟩ := wtIm h
  have e3 := list_eta h3
  rw [e3]
  conv => lhs; rw [e]
  conv => rhs; rw [e]
  rfl
theorem xcopy_full {a : D} {l : List D} : xcopy (xrep (l.length : Int) a) l = l := by
  unfold xcopy xrep
  simp
theorem c41 : ConOK Tryd.prog 41 con41 := by
  refine conOK_of_exec (inl := noInl) noInl_ok (lp := lp41) (tb := tbN) (c := bodyOf Tryd.f41) ⟨tt_ok, tbN_ok⟩ mixed Tryd.func41 (by kernel_rfl) (by kernel_rfl) ?_
  intro dat hpre hwt
  have hw0 := wts1 hwt
  obtain ⟨d0, rfl, w0⟩ := hw0
  refine Eq.mpr (vc41 d0) ?_
  obtain ⟨hl, hb⟩ : d0.l.length ≤ 1000 ∧ ∀ d ∈ d0.l, ((d.fld 3).l).length ≤ 1000000 := hpre
  simp only [ile_t, ile_f, ilt_t, ilt_f, ieq_t, ieq_f, bnot_t, bnot_f, band_t, band_f, true_and, and_true, lenI, xcopy_full, Int.toNat_natCast]
  refine ⟨⟨by omega, by omega, by omega, by omega⟩, ⟨0, by omega, rfl⟩, fun g hg => ⟨fun hlt => ?_, fun _ => trivial⟩⟩
  have hm : elt d0.l (g : Int) ∈ d0.l := by rw [elt_get (by omega)]; exact List.getElem_mem _
  have hm2 := hb _ hm
  have hw := (wt_sl w0).2.2 _ hm
  refine ⟨by omega, ⟨by omega, by omega, by omega, by omega⟩, by omega, by omega, g + 1, by omega, by omega, by rw [iadd_eq (by omega)]; rfl, ?_⟩
  rw [dset_list hw, xset_same (by omega) rfl]
end Go.Proofs.YtafpahkcjdfpiaaDoor
