/- Part of the proof of the laws of this seat: contracts of its functions, for every input. -/
import Derived.Test.YtjncolngfeglkaaWT
set_option linter.all false
namespace Go.Proofs.Ytjncolngfeglkaa
open Go Go.RX Go.Proofs
set_option maxRecDepth 100000
set_option linter.all false
set_option maxHeartbeats 1000000
theorem c24 : ConOK Try.prog 24 con24 := by
  refine conOK_of_execL (inl := noInl) noInl_ok (lp := lp24) (tb := tb24) (c := bodyOf Try.f24) ⟨tt_ok, tb24_ok⟩ mixed Try.func24 (by kernel_rfl) (by kernel_rfl) cutl24 kc24 ?_ suf24
  intro dat hpre hwt
  have hw0 := wts2 hwt
  obtain ⟨d0, d1, rfl, w0, w1⟩ := hw0
  refine Eq.mpr (vc24 d0 d1) ?_
  obtain ⟨hla, hlb⟩ : d0.l.length ≤ 1000 ∧ d1.l.length ≤ 1000 := hpre
  simp only [ile_t, ile_f, ilt_t, ilt_f, ieq_t, ieq_f, bnot_t, bnot_f, band_t, band_f, true_and, and_true, lenI, mkL_len, List.length_cons, List.length_nil]
  generalize d0.l = a at *
  generalize d1.l = b at *
  have hm : imax (a.length : Int) (b.length : Int) = ((max a.length b.length : Nat) : Int) := by rw [imax_eq]; omega
  rw [hm]
  refine ⟨fun hne => ?_, fun hn => ⟨fun h0 => ?_, fun h0 => by omega⟩⟩
  · refine ⟨⟨0, by omega, rfl, rfl⟩, fun g hg => ⟨fun hlt => ⟨by omega, g + 1, by omega, by omega, by rw [iadd_eq (by omega)]; rfl, mkL_snoc (f := fun j => .int (j : Int))⟩, fun hge => ?_⟩⟩
    unfold difZ
    rw [if_pos (by omega), show g = max a.length b.length by omega]
    exact ⟨rfl, rfl⟩
  · unfold difZ; rw [if_neg (by omega), if_pos (by omega)]; exact ⟨rfl, rfl⟩
def con6 : Con := lawCon [lu, lu]
def tb6 : Tab := fun f => match f with
  | 15 => some con15
  | 23 => some con23
  | 24 => some con24
  | 25 => some con25
  | _ => none
theorem tb6_ok : TabOK Try.prog tb6 := fun f con h => by
  unfold tb6 at h
  split at h
  · cases h; exact c15
  · cases h; exact c23
  · cases h; exact c24
  · cases h; exact c25
  · cases h
end Go.Proofs.Ytjncolngfeglkaa
