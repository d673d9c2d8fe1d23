/- Part of the proof of the laws of this seat: contracts of its functions, for every input. -/
import Derived.Test.YtngjkhnhnaohmaaWY
set_option linter.all false
namespace Go.Proofs.Ytngjkhnhnaohmaa
open Go Go.RX Go.Proofs
set_option maxRecDepth 100000
set_option linter.all false
theorem xsub_take {l : List D} {k : Int} : xsub l 0 k = l.take k.toNat := by simp [xsub]
theorem c7 : ConOK Try.prog 7 con7 := by
  refine conOK_of_exec (inl := noInl) noInl_ok (lp := noLp) (tb := tb7) (c := bodyOf Try.f7) ⟨tt_ok, tbF_ok⟩ mixed Try.func7 (by kernel_rfl) (by kernel_rfl) ?_
  intro dat hpre hwt
  obtain ⟨d0, d1, d2, d3, d4, rfl, w0, w1, w2, w3, w4⟩ := wts5 hwt
  refine Eq.mpr (vc7 d0 d1 d2 d3 d4) ?_
  have hn := wt_i64 w2
  have hr := code_range hn
  simp only [ile_t, ile_f, ilt_t, ilt_f, ieq_t, ieq_f, bnot_t, bnot_f, band_t, band_f, true_and, and_true, lenI, lenS]
  refine ⟨fun _ => trivial, fun h1 => ⟨fun _ => trivial, fun h2 => ⟨fun _ => trivial, fun h3 => ?_⟩⟩⟩
  rw [strD_bytesD]
  have f1 : putI [] d2.i = encB (codeOf d2.i) := by unfold putI; rw [List.nil_append]
  have f2 : putT [] d3.s = tE d3.s := rfl
  have f3 : putF [] d2.i d3.s = frF d2.i d3.s := by unfold putF; rw [List.nil_append]
  rw [f1, f2, f3]
  have hA : xcat (xcat (xcat (xcat d0.l (encB (codeOf d2.i))) (tE d3.s)) (frF d2.i d3.s)) d1.l = d0.l ++ (encB (codeOf d2.i) ++ (tE d3.s ++ (frF d2.i d3.s ++ d1.l))) := by simp [xcat]
  have hI := @int_enc d0.l (tE d3.s ++ (frF d2.i d3.s ++ d1.l)) _ hr
  have hT := @text_enc (d0.l ++ encB (codeOf d2.i)) (frF d2.i d3.s ++ d1.l) d3.s (by omega)
  have hF := @frame_enc (d0.l ++ encB (codeOf d2.i) ++ tE d3.s) d1.l d2.i d3.s (by omega)
  rw [decZ_codeOf hn] at hI
  rw [List.append_assoc, List.length_append] at hT
  rw [List.append_assoc, List.append_assoc, List.length_append, List.length_append] at hF
  have s1 : ∀ k : Int, 0 ≤ k → k < (encB (codeOf d2.i)).length → intZ (xsub (encB (codeOf d2.i)) 0 k) 0 = ⟨0, 0, 7⟩ := fun k h0 h => by
    have := @int_short [] _ hr k.toNat (by omega)
    rw [xsub_take]; exact this
  have s2 : ∀ k : Int, 0 ≤ k → k < (tE d3.s).length → textZ (xsub (tE d3.s) 0 k) 0 = ⟨[], 0, 7⟩ := fun k h0 h => by
    have := @text_short [] d3.s (by omega) k.toNat (by omega)
    rw [xsub_take]; exact this
  have s3 : ∀ k : Int, 0 ≤ k → k < (frF d2.i d3.s).length → (frameZ (xsub (frF d2.i d3.s) 0 k) 0).e = 7 := fun k h0 h => by
    have := @frame_short d2.i d3.s (by omega) k.toNat (by omega)
    rw [xsub_take]; exact this
  have l1 : 1 ≤ (encB (codeOf d2.i)).length ∧ (encB (codeOf d2.i)).length ≤ 11 := by have := @encB_len (codeOf d2.i); rw [encB_length] at this ⊢; omega
  have l2 : 1 ≤ (tE d3.s).length ∧ (tE d3.s).length ≤ 2011 := by
    have := @encB_len (codeOf (d3.s.length : Int)); rw [tE_eq, List.length_append, bytesD_len]; rw [encB_length] at this ⊢; omega
  have l3 : (frF d2.i d3.s).length = (tE d3.s).length + 5 := by simp [frF, frB_eq, be4L]
  simp only [hA]
  have hlen : (d0.l ++ (encB (codeOf d2.i) ++ (tE d3.s ++ (frF d2.i d3.s ++ d1.l)))).length = d0.l.length + (encB (codeOf d2.i)).length + (tE d3.s).length + (frF d2.i d3.s).length + d1.l.length := by simp; omega
  generalize d0.l ++ (encB (codeOf d2.i) ++ (tE d3.s ++ (frF d2.i d3.s ++ d1.l))) = A at *
  simp only [hI, hT, hF, strD_bytesD]
  have m1 := Int.emod_nonneg d4.i (b := ((encB (codeOf d2.i)).length : Int)) (by omega)
  have m2 := Int.emod_lt_of_pos d4.i (b := ((encB (codeOf d2.i)).length : Int)) (by omega)
  have m3 := Int.emod_nonneg d4.i (b := ((tE d3.s).length : Int)) (by omega)
  have m4 := Int.emod_lt_of_pos d4.i (b := ((tE d3.s).length : Int)) (by omega)
  have m5 := Int.emod_nonneg d4.i (b := ((frF d2.i d3.s).length : Int)) (by omega)
  have m6 := Int.emod_lt_of_pos d4.i (b := ((frF d2.i d3.s).length : Int)) (by omega)
  generalize d4.i % ((encB (codeOf d2.i)).length : Int) = k1 at *
  generalize d4.i % ((tE d3.s).length : Int) = k2 at *
  generalize d4.i % ((frF d2.i d3.s).length : Int) = k3 at *
  rw [s1 k1 m1 m2, s2 k2 m3 m4, s3 k3 m5 m6]
  have x1 : (xsub (encB (codeOf d2.i)) 0 k1).length ≤ 1000000 := by rw [xsub_len]; omega
  have x2 : (xsub (tE d3.s) 0 k2).length ≤ 1000000 := by rw [xsub_len]; omega
  have x3 : (xsub (frF d2.i d3.s) 0 k3).length ≤ 1000000 := by rw [xsub_len]; omega
  have y1 := @xcat_len d0.l (encB (codeOf d2.i))
  have y2 := @xcat_len (xcat d0.l (encB (codeOf d2.i))) (tE d3.s)
  have y3 := @xcat_len (xcat (xcat d0.l (encB (codeOf d2.i))) (tE d3.s)) (frF d2.i d3.s)
  have e1 : isub .i64 (A.length : Int) (d1.l.length : Int) = (A.length : Int) - d1.l.length := isub_eq (by omega)
  have e2 : isub .i64 d2.i (d2.i % 256) = 256 * (d2.i / 256) := by rw [isub_eq (by omega)]; omega
  have e3 : irem (256 * (d2.i / 256)) 256 = 0 := Int.mul_tmod_right _ _
  have e4 : seq' d3.s d3.s = true := by simp [seq']
  have e5 : (bytesD d3.s).length = d3.s.length := bytesD_len
  rw [e1, e2, e3, e4, e5]
  generalize xsub (encB (codeOf d2.i)) 0 k1 = X1 at *
  generalize xsub (tE d3.s) 0 k2 = X2 at *
  generalize xsub (frF d2.i d3.s) 0 k3 = X3 at *
  generalize frF d2.i d3.s = F3 at *
  generalize tE d3.s = F2 at *
  generalize encB (codeOf d2.i) = F1 at *
  simp only [List.length_nil]
  refine ⟨by omega, ⟨by omega, by omega⟩, ⟨by omega, by omega⟩, by omega, fun _ => ⟨by omega, fun _ => ⟨by omega, fun _ => ⟨by omega, by omega, by omega, by omega, by omega, by omega, by omega, by omega, by omega, fun _ => ⟨by omega, fun _ => ⟨by omega, fun _ => ⟨by omega, fun _ => ⟨by simp, fun _ => ⟨by simp, fun _ => ⟨by omega, fun _ => ⟨by omega, by omega, fun _ => ⟨by omega, fun _ => ⟨by omega, fun _ => ⟨by omega, by omega, by omega, ⟨by omega, by omega, by omega⟩, x1, ⟨by omega, by omega, by omega⟩, x2, ⟨by omega, by omega, by omega⟩, x3, ?_⟩⟩⟩⟩⟩⟩⟩⟩⟩⟩⟩⟩⟩⟩
  simp
end Go.Proofs.Ytngjkhnhnaohmaa
