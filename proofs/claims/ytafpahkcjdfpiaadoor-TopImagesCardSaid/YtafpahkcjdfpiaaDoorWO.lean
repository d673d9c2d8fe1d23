/- Part of the proof of the laws of this seat: contracts of its functions, for every input. -/
import Derived.Test.YtafpahkcjdfpiaaDoorWN
set_option linter.all false
namespace Go.Proofs.YtafpahkcjdfpiaaDoor
open Go Go.RX Go.Proofs
set_option maxRecDepth 100000
set_option linter.all false
set_option maxHeartbeats 1000000
theorem tb16_ok : TabOK Tryd.prog tb16 := fun f con h => by
  unfold tb16 at h
  split at h
  · cases h; exact c38
  · cases h; exact c39
  · cases h; exact c40
  · cases h; exact c41
  · cases h; exact c42
  · cases h
theorem tb17_ok : TabOK Tryd.prog tb17 := fun f con h => by
  unfold tb17 at h
  split at h
  · cases h; exact c43
  · cases h; exact c44
  · cases h; exact c45
  · cases h
theorem tb19_ok : TabOK Tryd.prog tb19 := fun f con h => by
  unfold tb19 at h
  split at h
  · cases h; exact c13
  · cases h; exact c21
  · cases h; exact c36
  · cases h; exact c39
  · cases h; exact c40
  · cases h; exact c41
  · cases h; exact c46
  · cases h
theorem tb20_ok : TabOK Tryd.prog tb20 := fun f con h => by
  unfold tb20 at h
  split at h
  · cases h; exact c22
  · cases h; exact c44
  · cases h; exact c45
  · cases h
theorem ims_take {l : List D} {k : Nat} : (ims l).take k = ims (xsub l 0 (k : Int)) := by
  unfold ims xsub; simp [List.map_take]
theorem ims_getD {l : List D} {k : Nat} (h : k < l.length) : (ims l).getD k im0 = imOf (elt l (k : Int)) := by
  rw [List.getD, ims_get h]; rfl
theorem chE_stay {L : List Im} {k : Nat} (h : chE L k ≠ 0) : ∀ n, k ≤ n → chE L n = chE L k := by
  intro n
  induction n with
  | zero => intro hk; rw [show k = 0 by omega]
  | succ n ih =>
    intro hk
    rcases Nat.lt_or_ge n k with h1 | h1
    · rw [show k = n + 1 by omega]
    · rw [chE, ih h1, if_pos h]
theorem chE_next {l : List D} {k : Nat} (hk : k < l.length) (h : chE (ims l) k = 0) : chE (ims l) (k + 1) = chkZ (ims (xsub l 0 (k : Int))) (imOf (elt l (k : Int))) := by
  rw [chE, if_neg (by simp [h]), ims_take, ims_getD hk]
theorem bld_err {id : List UInt8} {l : List D} {e : Int} (h : bldE id (ims l) = e) (he : e ≠ 0) : ([] = (bldZ id l).c ∧ (bldZ id l).im = [] ∧ (bldZ id l).ch = []) ∧ e = (bldZ id l).e := by
  unfold bldZ; rw [if_pos (by rw [h]; exact he), h]; exact ⟨⟨rfl, rfl, rfl⟩, rfl⟩
theorem bldE_at {id : List UInt8} {l : List D} {k : Nat} {e : Int} (h0 : oneZ id = true) (h1 : l.length ≤ 1024) (hk : k < l.length) (h : chE (ims l) k = 0) (hc : e = chkZ (ims (xsub l 0 (k : Int))) (imOf (elt l (k : Int)))) (he : e ≠ 0) : bldE id (ims l) = e := by
  unfold bldE
  rw [if_neg (by simp [h0]), if_neg (by rw [ims_len]; omega)]
  have h2 := chE_next hk h
  rw [← hc] at h2
  rw [chE_stay (by rw [h2]; exact he) _ (by rw [ims_len]; omega), h2]
theorem bldE_all {id : List UInt8} {l : List D} (h0 : oneZ id = true) (h1 : l.length ≤ 1024) (h : chE (ims l) l.length = 0) : bldE id (ims l) = 0 := by
  unfold bldE
  rw [if_neg (by simp [h0]), if_neg (by rw [ims_len]; omega), ims_len, h]
theorem bld_ok {id : List UInt8} {l : List D} (h : bldE id (ims l) = 0) : bldZ id l = ⟨id, l, chZ id (ims l), 0⟩ := by
  unfold bldZ; rw [if_neg (by simp [h])]
theorem sm_hold {l : List D} (h : smL (ims l)) : l.length ≤ 1000 ∧ ∀ d, d ∈ l → (d.fld 3).l.length ≤ 1000000 := by
  have h1 := h.1
  rw [ims_len] at h1
  refine ⟨by omega, fun d hd => ?_⟩
  have := (h.2 (imOf d) (List.mem_map_of_mem hd)).2.1
  have e : (imOf d).h = txs (d.fld 3).l := rfl
  rw [e, txs_len] at this
  omega
theorem c16 : ConOK Tryd.prog 16 con16 := by
  refine conOK_of_exec (inl := noInl) noInl_ok (lp := lp16) (tb := tb16) (c := bodyOf Tryd.f16) ⟨tt_ok, tb16_ok⟩ mixed Tryd.func16 (by kernel_rfl) (by kernel_rfl) ?_
  intro dat hpre hwt
  have hw0 := wts2 hwt
  obtain ⟨d0, d1, rfl, w0, w1⟩ := hw0
  refine Eq.mpr (vc16 d0 d1) ?_
  have h : smL (ims d1.l) := hpre
  have hl := wt_len w1
  simp only [ile_t, ile_f, ilt_t, ilt_f, ieq_t, ieq_f, bnot_t, bnot_f, band_t, band_f, true_and, and_true, lenI, imOf_mk, imOf_eta]
  refine ⟨fun h0 => bld_err (by unfold bldE; rw [if_pos h0]) (by decide), fun h0 => ⟨fun h1 => bld_err (by unfold bldE; rw [if_neg (by simp [h0]), if_pos (by rw [ims_len]; omega)]) (by decide), fun h1 => ⟨⟨0, ⟨by omega, rfl⟩, rfl⟩, fun g hg => ⟨fun hlt => ⟨by omega, fun h2 => ?_, fun h2 => ⟨by omega, fun h3 => ?_, fun h3 => ?_⟩⟩, fun hge => ?_⟩⟩⟩⟩
  · exact bld_err (bldE_at h0 (by omega) (by omega) hg.2 (chk_r rfl h2) h2) h2
  · exact bld_err (bldE_at h0 (by omega) (by omega) hg.2 (chk_9 h2 h3) (by decide)) (by decide)
  · exact ⟨g + 1, ⟨by omega, by rw [chE_next (by omega) hg.2]; exact (chk_0 h2 h3).symm⟩, by omega, by rw [iadd_eq (by omega)]; rfl⟩
  · have : g = d1.l.length := by omega
    subst this
    rw [bld_ok (bldE_all h0 (by omega) hg.2)]
    exact ⟨sm_hold h, h, ⟨rfl, rfl, rfl⟩, rfl⟩
theorem c17 : ConOK Tryd.prog 17 con17 := by
  refine conOK_of_exec (inl := noInl) noInl_ok (lp := lp17) (tb := tb17) (c := bodyOf Tryd.f17) ⟨tt_ok, tb17_ok⟩ mixed Tryd.func17 (by kernel_rfl) (by kernel_rfl) ?_
  intro dat hpre hwt
  have hw0 := wts2 hwt
  obtain ⟨d0, d1, rfl, w0, w1⟩ := hw0
  refine Eq.mpr (vc17 d0 d1) ?_
  have h : smL (ims d1.l) := hpre
  have hl := wt_len w1
  simp only [ile_t, ile_f, ilt_t, ilt_f, ieq_t, ieq_f, bnot_t, bnot_f, band_t, band_f, true_and, and_true, lenI, imOf_mk, imOf_eta]
  refine ⟨fun h0 => bld_err (by unfold bldE; rw [if_pos h0]) (by decide), fun h0 => ⟨fun h1 => bld_err (by unfold bldE; rw [if_neg (by simp [h0]), if_pos (by rw [ims_len]; omega)]) (by decide), fun h1 => ⟨⟨0, ⟨by omega, rfl⟩, rfl⟩, fun g hg => ⟨fun hlt => ⟨by omega, by omega, fun h2 => ?_, fun h3 => ?_⟩, fun hge => ?_⟩⟩⟩⟩
  · exact bld_err (bldE_at h0 (by omega) (by omega) hg.2 rfl h2) h2
  · exact ⟨g + 1, ⟨by omega, by rw [chE_next (by omega) hg.2]; exact h3⟩, by omega, by rw [iadd_eq (by omega)]; rfl⟩
  · have : g = d1.l.length := by omega
    subst this
    rw [bld_ok (bldE_all h0 (by omega) hg.2)]
    exact ⟨h, ⟨rfl, rfl, rfl⟩, rfl⟩
theorem add_err {c : List UInt8} {l ch : List D} {i : D} {e : Int} (h : addE c (ims l) ch (imOf i) = e) (he : e ≠ 0) : (c = (addZ c l ch i).c ∧ l = (addZ c l ch i).im ∧ ch = (addZ c l ch i).ch) ∧ e = (addZ c l ch i).e := by
  unfold addZ; rw [if_pos (by rw [h]; exact he), h]; exact ⟨⟨rfl, rfl, rfl⟩, rfl⟩
theorem add_ok {c : List UInt8} {l ch : List D} {i : D} (h : addE c (ims l) ch (imOf i) = 0) : addZ c l ch i = ⟨c, xcat l [i], chZ c (ims (xcat l [i])), 0⟩ := by
  unfold addZ; rw [if_neg (by simp [h])]
theorem im_eta {d : D} (h : WT imT d) : D.agg [.str (d.fld 0).s, .int (d.fld 1).i, .int (d.fld 2).i, .list (d.fld 3).l, .int (d.fld 4).i] = d := by
  obtain ⟨h0, h1, h2, h3, h4, e⟩ := wtIm h
  rw [← (wt_s h0).1, int_eta h1, int_eta h2, list_eta h3, int_eta h4]
  exact e.symm
theorem chTo_app {s : Int} {l : List D} {x : D} : ∀ {i : Nat}, i ≤ l.length → chTo s (l ++ [x]) i = chTo s l i
  | 0, _ => rfl
  | i + 1, h => by
    rw [chTo, chTo, chTo_app (i := i) (by omega), elt_get (xs := l ++ [x]) (by simp; omega), elt_get (xs := l) (by omega), List.getElem_append_left (by omega)]
theorem chain_snoc {s : Int} {l : List D} {x : D} : chainZ s (l ++ [x]) = xcat (chainZ s l) [.int (joinZ (chTo s l l.length) (hashZ x.l))] := by
  unfold chainZ
  have e : mkL l.length (fun i => D.int (chTo s l (i + 1))) = mkL l.length (fun i => D.int (chTo s (l ++ [x]) (i + 1))) := by
    refine mkL_congr fun i hi => ?_
    rw [chTo_app (by omega)]
  have e2 : D.int (joinZ (chTo s l l.length) (hashZ x.l)) = D.int (chTo s (l ++ [x]) (l.length + 1)) := by
    rw [chTo, chTo_app (Nat.le_refl _), elt_get (xs := l ++ [x]) (by simp)]
    simp
  rw [e, e2, mkL_snoc (f := fun i => .int (chTo s (l ++ [x]) (i + 1)))]
  simp
theorem chain_last {s : Int} {l : List D} : lastC (chainZ s l) s = chTo s l l.length := by
  unfold lastC
  have hn : (chainZ s l).length = l.length := by unfold chainZ; rw [mkL_len]
  rw [hn]
  by_cases h : 0 < l.length
  · rw [if_pos h]
    obtain ⟨k, hk⟩ : ∃ k, l.length = k + 1 := ⟨l.length - 1, by omega⟩
    unfold ei chainZ
    rw [hk, Nat.add_sub_cancel, elt_mkL (by omega)]
    rfl
  · rw [if_neg h, show l.length = 0 by omega]; rfl
theorem ver_eq {c : List UInt8} {L : List Im} {ch : D} (hw : WT lu ch) (h : verZ c L ch.l = true) : ch.l = chZ c L := by
  unfold verZ at h
  rw [sameZ_t] at h
  unfold chZ chainZ at h ⊢
  obtain ⟨h1, h2⟩ := h
  rw [mkL_len] at h1
  refine mkL_eq h1 fun i hi => ?_
  have := h2 i (by omega)
  unfold ei at this
  rw [elt_mkL (by omega)] at this
  have hm : elt ch.l (i : Int) ∈ ch.l := by rw [elt_get (by omega)]; exact List.getElem_mem _
  rw [← int_eta ((wt_sl hw).2.2 _ hm), this]
  rfl
theorem ims_snoc {l : List D} {x : D} : ims (xcat l [x]) = ims l ++ [imOf x] := by simp [ims, xcat]
theorem chZ_snoc {c : List UInt8} {L : List Im} {x : Im} : chZ c (L ++ [x]) = xcat (chZ c L) [.int (joinZ (lastC (chZ c L) (hashZ (bytesD c))) (hashZ (desZ x)))] := by
  unfold chZ
  rw [List.map_append, List.map_singleton, chain_snoc, chain_last]
  rfl
theorem sm_snoc {l : List D} {x : D} (h : smL (ims l)) (h2 : smI (imOf x)) (h3 : l.length ≤ 90) : smL (ims (xcat l [x])) := by
  rw [ims_snoc]
  refine ⟨by simp [ims_len]; omega, fun i hi => ?_⟩
  rcases List.mem_append.1 hi with h4 | h4
  · exact h.2 i h4
  · rw [List.mem_singleton.1 h4]; exact h2
theorem addE_v {c : List UInt8} {L : List Im} {ch : List D} {i : Im} (h : verZ c L ch = true) (h2 : L.length < 1024) : addE c L ch i = chkZ L i := by
  unfold addE; rw [if_neg (by simp [h]), if_neg (by omega)]
theorem c20 : ConOK Tryd.prog 20 con20 := by
  refine conOK_of_exec (inl := noInl) noInl_ok (lp := lp20) (tb := tb20) (c := bodyOf Tryd.f20) ⟨tt_ok, tb20_ok⟩ mixed Tryd.func20 (by kernel_rfl) (by kernel_rfl) ?_
  intro dat hpre hwt
  have hw0 := wts2 hwt
  obtain ⟨d0, d1, rfl, w0, w1⟩ := hw0
  refine Eq.mpr (vc20 d0 d1) ?_
  obtain ⟨h1, h2, h3, h4⟩ := hpre
  have hl := wt_len (wtPk w0).2.1
  have q1 : rl d0 1 = (d0.fld 1).l := rfl
  rw [q1] at h1 h3
  simp only [ile_t, ile_f, ilt_t, ilt_f, ieq_t, ieq_f, bnot_t, bnot_f, band_t, band_f, true_and, and_true, lenI, imOf_mk, imOf_eta, im_eta w1]
  refine ⟨h1, fun hv => add_err (by unfold addE; rw [if_pos hv]) (by decide), fun hv => ⟨fun h => by omega, fun hlt => ?_⟩⟩
  have hA := addE_v (i := imOf d1) hv (by rw [ims_len]; omega)
  refine ⟨fun he => add_err hA he, fun he => ⟨by omega, ⟨by simp; omega, _, rfl, rfl⟩, fun g hg => ?_⟩⟩
  subst hg
  rw [add_ok (hA.trans he)]
  exact ⟨sm_snoc h1 h2 h3, ⟨rfl, rfl, rfl⟩, rfl⟩
theorem chk_er {l : List Im} {i : Im} (h : rightZ i ≠ 0) : chkZ l i = rightZ i := by unfold chkZ; rw [if_pos h]
theorem c19 : ConOK Tryd.prog 19 con19 := by
  refine conOK_of_exec (inl := noInl) noInl_ok (lp := lp19) (tb := tb19) (c := bodyOf Tryd.f19) ⟨tt_ok, tb19_ok⟩ mixed Tryd.func19 (by kernel_rfl) (by kernel_rfl) ?_
  intro dat hpre hwt
  have hw0 := wts2 hwt
  obtain ⟨d0, d1, rfl, w0, w1⟩ := hw0
  refine Eq.mpr (vc19 d0 d1) ?_
  obtain ⟨h1, h2, h3, h4⟩ := hpre
  have hl := wt_len (wtPk w0).2.1
  have hl2 := wt_len (wtPk w0).2.2
  have q1 : rl d0 1 = (d0.fld 1).l := rfl
  have q2 : rl d0 2 = (d0.fld 2).l := rfl
  rw [q1] at h1 h3
  rw [q2] at h4
  simp only [ile_t, ile_f, ilt_t, ilt_f, ieq_t, ieq_f, bnot_t, bnot_f, band_t, band_f, true_and, and_true, lenI, imOf_mk, imOf_eta, im_eta w1, xcopy_full]
  refine ⟨h1, fun hv => add_err (by unfold addE; rw [if_pos hv]) (by decide), fun hv => ⟨fun h => by omega, fun hlt => ⟨fun hr => ?_, fun hr => ⟨fun hh => ?_, fun hh => ⟨⟨fun h5 => ⟨?_, _, rfl, ?_⟩, fun h5 => ⟨_, rfl, ?_⟩⟩, fun g hg => ?_⟩⟩⟩⟩⟩
  all_goals have hA := addE_v (i := imOf d1) hv (by rw [ims_len]; omega)
  · exact add_err (hA.trans (chk_er hr)) hr
  · exact add_err (hA.trans (chk_9 hr hh).symm) (by decide)
  · rw [isub_eq (by omega)]; omega
  · unfold lastC; rw [if_pos (by omega), isub_eq (by omega), show ((d0.fld 2).l.length : Int) - 1 = (((d0.fld 2).l.length - 1 : Nat) : Int) by omega]; rfl
  · unfold lastC; rw [if_neg (by omega)]
  · subst hg
    rw [add_ok (hA.trans (chk_0 hr hh).symm)]
    have hc := ver_eq (wtPk w0).2.2 hv
    refine ⟨by omega, sm_hold h1, ⟨by simp, fun d hd => ?_⟩, by simp; omega, h2, by simp; omega, ⟨rfl, rfl, ?_⟩, rfl⟩
    · rw [List.mem_singleton.1 hd]
      have := h2.2.1
      have e : (imOf d1).h = txs (d1.fld 3).l := rfl
      rw [e, txs_len] at this
      omega
    · simp only
      rw [ims_snoc, chZ_snoc, ← hc]
end Go.Proofs.YtafpahkcjdfpiaaDoor
