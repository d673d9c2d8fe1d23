/- Part of the proof of the laws of this seat: contracts of its functions, for every input. -/
import Derived.Test.YtkjohnjhdfblcaaDoorWS
set_option linter.all false
namespace Go.Proofs.YtkjohnjhdfblcaaDoor
open Go Go.RX Go.Proofs
set_option maxRecDepth 100000
set_option linter.all false
set_option maxHeartbeats 4000000
theorem advE_0 {w : Lw} {c : Cs} {d : Int} (h : advE w c d = 0) : lawZ w = 0 ∧ dayOk d = true ∧ dayOk c.bg = true ∧ dayOk c.si = true ∧ 0 ≤ c.ps ∧ c.ps ≤ 795364 ∧ 0 ≤ c.ow ∧ c.ow ≤ 1125899906842624 ∧ c.si ≤ d := by
  by_cases h0 : lawZ w = 0
  · rw [advE_r h0] at h
    split at h
    · cases h
    rename_i h1
    split at h
    · cases h
    rename_i h2
    split at h
    · cases h
    rename_i h3
    have h2' : amtOk c.ow = true := by simpa using h2
    rw [amtOk_t] at h2'
    refine ⟨h0, ?_, ?_, ?_, by omega, by omega, by omega, by omega, by omega⟩
    · cases hb : dayOk d with
      | true => rfl
      | false => exact absurd (.inl hb) h1
    · cases hb : dayOk c.bg with
      | true => rfl
      | false => exact absurd (.inr (.inl hb)) h1
    · cases hb : dayOk c.si with
      | true => rfl
      | false => exact absurd (.inr (.inr (.inl hb))) h1
  · rw [advE_w h0] at h; exact absurd h h0
theorem advE_mk {w : Lw} {c : Cs} {d : Int} (h0 : lawZ w = 0) (h2 : dayOk c.bg = true) (h3 : dayOk c.si = true) (h4 : 0 ≤ c.ps) (h5 : c.ps ≤ 795364) (h6 : 0 ≤ c.ow) (h7 : c.ow ≤ 1125899906842624) (h8 : c.si ≤ d) :
    advE w c d = if dayOk d = true then 0 else 12 := by
  rw [advE_r h0]
  by_cases h1 : dayOk d = true
  · rw [if_neg (by simp [h1, h2, h3]; omega), if_neg (by
      have : amtOk c.ow = true := by rw [amtOk_t]; omega
      simp [this]), if_neg (by omega), if_pos h1]
  · rw [if_pos (.inl (by simpa using h1)), if_neg h1]
theorem adv_e {w : Lw} {l : List D} {c : Cs} {d : Int} : (advZ w l c d).e = advE w c d := by
  unfold advZ
  by_cases h : advE w c d ≠ 0
  · rw [if_pos h]
  · rw [if_neg h]
    have : advE w c d = 0 := by omega
    rw [this]
    split <;> rfl
theorem adv_twice {w : Lw} {l : List D} {c : Cs} {a b : Int} (hab : a ≤ b) (h : (advZ w l c a).e = 0) : advZ w l (advZ w l c a).c b = advZ w l c b := by
  rw [adv_e] at h
  by_cases hp : openZ c = false ∨ c.a0 = 1
  · have : advZ w l c a = ⟨c, 0⟩ := by unfold advZ; rw [if_neg (by simp [h]), if_pos hp]
    rw [this]
  have ho : openZ c = true := by cases hb : openZ c with
    | true => rfl
    | false => exact absurd (.inl hb) hp
  have ha : c.a0 ≠ 1 := fun e => hp (.inr e)
  rw [adv_ok h ha]
  obtain ⟨h0, h1, h2, h3, h4, h5, h6, h7, h8⟩ := advE_0 h
  rw [openZ_t] at ho
  have S := finR_st (l := l) h0 c ⟨h8, h6, h7⟩ ho.1 ho.2
  generalize hx : finR w l a c = x at *
  have h3' := h3
  have h1' := h1
  rw [dayOk_t] at h3' h1'
  have s1 := S.si; have s2 := S.sd; have s3 := S.ow; have s4 := S.om
  have e1 := advE_mk (w := w) (c := x) (d := b) h0 (by rw [S.bg]; exact h2) (by rw [dayOk_t]; omega) (by rw [S.ps]; exact h4) (by rw [S.ps]; exact h5) (by omega) (by omega) (by omega)
  have e2 := advE_mk (w := w) (c := c) (d := b) h0 h2 h3 h4 h5 h6 h7 (by omega)
  by_cases hb : dayOk b = true
  · rw [if_pos hb] at e1 e2
    have hax : x.a0 ≠ 1 := by rw [S.a0]; exact ha
    rw [adv_ok e1 hax, adv_ok e2 ha, ← hx, finR_twice hab c ho.1 ho.2]
  · rw [if_neg hb] at e1 e2
    rw [adv_err e1 (by decide), adv_err e2 (by decide)]
theorem c7 : ConOK Tryd.prog 7 con7 := by
  refine conOK_of_exec (inl := noInl) noInl_ok (lp := noLp) (tb := tb7) (c := bodyOf Tryd.f7) ⟨tt_ok, tb5_ok⟩ mixed Tryd.func7 (by kernel_rfl) (by kernel_rfl) ?_
  intro dat hpre hwt
  obtain ⟨d0, d1, d2, rfl, w0, w1, w2⟩ := wts3 hwt
  refine Eq.mpr (vc7 d0 d1 d2) ?_
  simp only [ile_t, ile_f, ilt_t, ilt_f, ieq_t, ieq_f, bnot_t, bnot_f, band_t, band_f, true_and, and_true, lenI, fewZ_t, fewZ_f]
  refine ⟨fun _ => trivial, fun hf => ⟨fun _ => trivial, fun hab => ⟨by omega, fun _ => trivial, fun he => ⟨by omega, by omega, ?_⟩⟩⟩⟩
  rw [adv_twice hab he]
  simp
theorem c9 : ConOK Tryd.prog 9 con9 := by
  refine conOK_of_exec (inl := noInl) noInl_ok (lp := noLp) (tb := tb9) (c := bodyOf Tryd.f9) ⟨tt_ok, tb9_ok⟩ mixed Tryd.func9 (by kernel_rfl) (by kernel_rfl) ?_
  intro dat hpre hwt
  obtain ⟨d0, d1, rfl, w0, w1⟩ := wts2 hwt
  refine Eq.mpr (vc9 d0 d1) ?_
  simp only [ile_t, ile_f, ilt_t, ilt_f, ieq_t, ieq_f, bnot_t, bnot_f, band_t, band_f, true_and, and_true, lenI]
  have q5 : (d0.fld 5).i = (csOf d0).st := rfl
  have q6 : (d0.fld 6).i = (csOf d0).ow := rfl
  have q7 : (d0.fld 7).i = (csOf d0).pa := rfl
  simp only [q5, q6, q7]
  generalize csOf d0 = C
  refine ⟨fun _ => trivial, fun _ => ?_⟩
  by_cases h : openZ C = false
  · rw [payZ_28 h]; simp [h]
  have ho : openZ C = true := by simpa using h
  by_cases h2 : d1.i < 1 ∨ 1125899906842624 < d1.i ∨ amtOk C.ow = false ∨ amtOk C.pa = false
  · rw [payZ_13 ho h2]; simp [ho]
  have a1 : amtOk C.ow = true := by
    cases hb : amtOk C.ow with
    | true => rfl
    | false => exact absurd (.inr (.inr (.inl hb))) h2
  have a2 : amtOk C.pa = true := by
    cases hb : amtOk C.pa with
    | true => rfl
    | false => exact absurd (.inr (.inr (.inr hb))) h2
  rw [payZ_r ho h2]
  rw [amtOk_t] at a1 a2
  have a3 : 1 ≤ d1.i ∧ d1.i ≤ 1125899906842624 := by omega
  clear h2
  by_cases hlt : d1.i < C.ow - C.pa
  · rw [if_pos hlt]
    have e1 : isub .i64 (C.pa + d1.i) C.pa = d1.i := by rw [isub_eq (by omega)]; omega
    have e2 : iadd .i64 d1.i 0 = d1.i := by rw [iadd_eq (by omega)]; omega
    simp only [e1, e2]
    have e3 : openZ ⟨C.id, C.pl, C.key, C.bg, C.si, C.st, C.ow, C.pa + d1.i, C.ps, C.a0, C.a1, C.a2⟩ = true := ho
    have e4 : ilt (C.pa + d1.i) C.ow = true := by rw [ilt_t]; omega
    simp only [e3, e4, beqB_self]
    simp
    omega
  · rw [if_neg hlt]
    have e1 : isub .i64 (C.pa + max (C.ow - C.pa) 0) C.pa = max (C.ow - C.pa) 0 := by rw [isub_eq (by omega)]; omega
    have e2 : iadd .i64 (max (C.ow - C.pa) 0) (d1.i - max (C.ow - C.pa) 0) = d1.i := by rw [iadd_eq (by omega)]; omega
    simp only [e1, e2]
    have e3 : openZ ⟨C.id, C.pl, C.key, C.bg, C.si, 6, C.ow, C.pa + max (C.ow - C.pa) 0, C.ps, C.a0, C.a1, C.a2⟩ = false := by rw [openZ_f]; simp only; omega
    have e4 : ilt (C.pa + max (C.ow - C.pa) 0) C.ow = false := by rw [ilt_f]; omega
    simp only [e3, e4, beqB_self]
    simp
    omega
end Go.Proofs.YtkjohnjhdfblcaaDoor
