/- Part of the proof of the laws of this seat: contracts of its functions, for every input. -/
import Derived.Test.YtafpahkcjdfpiaaDoorWTE
import Derived.Test.YtafpahkcjdfpiaaDoorWTL
set_option linter.all false
namespace Go.Proofs.YtafpahkcjdfpiaaDoor
open Go Go.RX Go.Proofs
set_option maxRecDepth 100000
set_option linter.all false
set_option maxHeartbeats 1000000
theorem tb32_ok : TabOK Tryd.prog tb32 := fun f con h => by
  unfold tb32 at h
  split at h
  · cases h; exact c56
  · cases h; exact c57
  · cases h; exact c58
  · cases h
theorem tb33_ok : TabOK Tryd.prog tb33 := fun f con h => by
  unfold tb33 at h
  split at h
  · cases h; exact c57
  · cases h; exact c60
  · cases h
theorem hd_err {l : List D} {id r : List UInt8} {e : Int} (h : hdE l id r = e) (he : e ≠ 0) : l = hdL l id r ∧ e = hdE l id r := by
  unfold hdL; rw [if_neg (by rw [h]; exact he), h]; exact ⟨rfl, rfl⟩
theorem re_err {l : List D} {id r : List UInt8} {e : Int} (h : reE l id r = e) (he : e ≠ 0) : l = reL l id r ∧ e = reE l id r := by
  unfold reL; rw [if_neg (by rw [h]; exact he), h]; exact ⟨rfl, rfl⟩
theorem rl_fld {x : D} {j : Nat} : (x.fld j).l = rl x j := rfl
theorem c32 : ConOK Tryd.prog 32 con32 := by
  refine conOK_of_execC (inl := noInl) noInl_ok (tb := tb32) (c := bodyOf Tryd.f32) ⟨tt_ok, tb32_ok⟩ mixed Tryd.func32 (by kernel_rfl) (by kernel_rfl) cut32 kc32 ?_ suf32
  intro dat hpre hwt
  have hw0 := wts3 hwt
  obtain ⟨d0, d1, d2, rfl, w0, w1, w2⟩ := hw0
  refine Eq.mpr (vc32 d0 d1 d2) ?_
  have hl := wt_len w0
  have hlt := fd_lt d0.l d1.s
  simp only [ile_t, ile_f, ilt_t, ilt_f, ieq_t, ieq_f, bnot_t, bnot_f, band_t, band_f, true_and, and_true, lenI, decide_eq_true_eq, decide_eq_false_iff_not]
  simp only [rl_fld]
  refine ⟨hpre.2, fun h => hd_err (by unfold hdE; rw [if_pos h]) (by decide), fun h => ⟨⟨h, hlt⟩, fun h1 => hd_err (by unfold hdE; rw [if_neg (by omega), if_pos h1]) (by decide), fun h1 => ⟨⟨h, hlt⟩, fun h2 => hd_err (by unfold hdE; rw [if_neg (by omega), if_neg h1, if_pos (by omega)]) (by decide), fun h2 => ?_⟩⟩⟩
  unfold hdE; rw [if_neg (by omega), if_neg h1, if_neg (by omega)]
theorem c33 : ConOK Tryd.prog 33 con33 := by
  refine conOK_of_execC (inl := noInl) noInl_ok (tb := tb33) (c := bodyOf Tryd.f33) ⟨tt_ok, tb33_ok⟩ mixed Tryd.func33 (by kernel_rfl) (by kernel_rfl) cut33 kc33 ?_ suf33
  intro dat hpre hwt
  have hw0 := wts3 hwt
  obtain ⟨d0, d1, d2, rfl, w0, w1, w2⟩ := hw0
  refine Eq.mpr (vc33 d0 d1 d2) ?_
  have hl := wt_len w0
  have hlt := fd_lt d0.l d1.s
  simp only [ile_t, ile_f, ilt_t, ilt_f, ieq_t, ieq_f, bnot_t, bnot_f, band_t, band_f, true_and, and_true, lenI, decide_eq_true_eq, decide_eq_false_iff_not]
  simp only [rl_fld]
  refine ⟨fun h => re_err (by unfold reE; rw [if_pos h]) (by decide), fun h => ⟨⟨h, hlt⟩, fun h1 => re_err (by unfold reE; rw [if_neg (by omega), if_pos h1]) (by decide), fun h1 => ⟨rfl, ?_⟩⟩⟩
  unfold reE; rw [if_neg (by omega), if_neg (by omega)]
theorem tb30_ok : TabOK Tryd.prog tb30 := fun f con h => by
  unfold tb30 at h
  split at h
  · cases h; exact c16
  · cases h; exact c21
  · cases h; exact c31
  · cases h; exact c32
  · cases h
theorem c30 : ConOK Tryd.prog 30 con30 := by
  refine conOK_of_exec (inl := noInl) noInl_ok (lp := noLp) (tb := tb30) (c := bodyOf Tryd.f30) ⟨tt_ok, tb30_ok⟩ mixed Tryd.func30 (by kernel_rfl) (by kernel_rfl) ?_
  intro dat hpre hwt
  obtain rfl := wts0 hwt
  refine Eq.mpr (vc30) ?_
  have hh : hdL [D.agg [D.str [97], D.int 5, D.int 1, D.list [], D.int 0]] [97] [99, 97, 115, 101] = [D.agg [D.str [97], D.int 5, D.int 1, D.list [D.str [99, 97, 115, 101]], D.int 0]] := by kernel_rfl
  have hb : (bldZ [118, 49] [D.agg [D.str [97], D.int 5, D.int 1, D.list [D.str [99, 97, 115, 101]], D.int 0]]).im = [D.agg [D.str [97], D.int 5, D.int 1, D.list [D.str [99, 97, 115, 101]], D.int 0]] := by kernel_rfl
  simp only [ile_t, ile_f, ilt_t, ilt_f, ieq_t, ieq_f, bnot_t, bnot_f, band_t, band_f, true_and, and_true, lenI]
  rw [hh, hb]
  have hf : ∀ h : List D, h.length ≤ 100 → fit [D.agg [D.str [97], D.int 5, D.int 1, D.list h, D.int 0]] := fun h hl => ⟨by simp, fun x hx => by rw [List.mem_singleton.1 hx]; exact hl⟩
  have hs : smL (ims [D.agg [D.str [97], D.int 5, D.int 1, D.list [D.str [99, 97, 115, 101]], D.int 0]]) := ⟨by decide, fun i hi => by
    have : i = ⟨[97], 5, 1, [[99, 97, 115, 101]], 0⟩ := List.mem_singleton.1 hi
    subst this
    exact ⟨by decide, by decide, fun x hx => by rw [List.mem_singleton.1 hx]; decide⟩⟩
  exact ⟨hf _ (by simp), ⟨hf _ (by simp), rfl⟩, hf _ (by simp), hs, by simp [hs]⟩
end Go.Proofs.YtafpahkcjdfpiaaDoor
