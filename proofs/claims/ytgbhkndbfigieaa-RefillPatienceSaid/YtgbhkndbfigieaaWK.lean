/- Part of the proof of the laws of this seat: contracts of its functions, for every input. -/
import Derived.Test.YtgbhkndbfigieaaWJ
set_option linter.all false
namespace Go.Proofs.Ytgbhkndbfigieaa
open Go Go.RX Go.Proofs
set_option maxRecDepth 100000
set_option linter.unusedSimpArgs false
section
variable {r0 r1 r2 r3 bal : Int} {mv ok : List D}
theorem runTo_none {i j : Nat} (hij : i ≤ j) (h : runTo r0 r1 r2 r3 bal mv ok i = none) : runTo r0 r1 r2 r3 bal mv ok j = none := by
  induction j with
  | zero => rw [show i = 0 by omega] at h; exact h
  | succ n ih =>
    by_cases hi : i = n + 1
    · rw [hi] at h; exact h
    · unfold runTo; rw [ih (by omega)]
theorem runZ_check (h : checkZ r0 r1 r2 r3 ≠ 0) : runZ r0 r1 r2 r3 bal mv ok = ⟨[], ⟨0, 0, 0⟩, checkZ r0 r1 r2 r3⟩ := by
  unfold runZ; rw [if_pos h]
theorem runZ_long (h : checkZ r0 r1 r2 r3 = 0) (h1 : 1024 < mv.length) : runZ r0 r1 r2 r3 bal mv ok = ⟨[], ⟨0, 0, 0⟩, 3⟩ := by
  unfold runZ; rw [if_neg (by simp [h]), if_pos h1]
theorem runZ_bal (h : checkZ r0 r1 r2 r3 = 0) (h1 : ¬ 1024 < mv.length) (h2 : fitsZ bal = false) : runZ r0 r1 r2 r3 bal mv ok = ⟨[], ⟨0, 0, 0⟩, 13⟩ := by
  unfold runZ; rw [if_neg (by simp [h]), if_neg h1, if_pos h2]
theorem runZ_none (h : checkZ r0 r1 r2 r3 = 0) (h1 : ¬ 1024 < mv.length) (h2 : fitsZ bal = true) {i : Nat} {s : RS} (hi : i < mv.length)
    (hs : runTo r0 r1 r2 r3 bal mv ok i = some s) (hn : runStep r0 r1 r2 r3 ok (elt mv (i : Int)).i i s = none) : runZ r0 r1 r2 r3 bal mv ok = ⟨[], ⟨0, 0, 0⟩, 13⟩ := by
  have h3 : runTo r0 r1 r2 r3 bal mv ok mv.length = none := runTo_none (i := i + 1) (by omega) (by unfold runTo; rw [hs]; exact hn)
  unfold runZ; rw [if_neg (by simp [h]), if_neg h1, if_neg (by simp [h2]), h3]
theorem runZ_some (h : checkZ r0 r1 r2 r3 = 0) (h1 : ¬ 1024 < mv.length) (h2 : fitsZ bal = true) {s : RS}
    (hs : runTo r0 r1 r2 r3 bal mv ok mv.length = some s) : runZ r0 r1 r2 r3 bal mv ok = ⟨s.out, s.f, 0⟩ := by
  unfold runZ; rw [if_neg (by simp [h]), if_neg h1, if_neg (by simp [h2]), hs]
theorem runTo_next {i : Nat} {s : RS} (hs : runTo r0 r1 r2 r3 bal mv ok i = some s) : runTo r0 r1 r2 r3 bal mv ok (i + 1) = runStep r0 r1 r2 r3 ok (elt mv (i : Int)).i i s := by
  rw [runTo, hs]
theorem runTo_len {i : Nat} : ∀ {s : RS}, runTo r0 r1 r2 r3 bal mv ok i = some s → s.out.length = i ∧ s.n ≤ i := by
  induction i with
  | zero => intro s h; simp only [runTo, Option.some.injEq] at h; subst h; exact ⟨rfl, Nat.le_refl _⟩
  | succ i ih =>
    intro s h
    unfold runTo at h
    split at h
    · rename_i s0 hs
      have h0 := ih hs
      unfold runStep at h
      repeat' split at h
      all_goals first | (cases h; done) | (simp only [Option.some.injEq] at h; subst h; simp only [List.length_append, List.length_cons, List.length_nil]; omega)
    · cases h
end
theorem F.eta (x : F) : (⟨x.s, x.f, x.n⟩ : F) = x := rfl
theorem tb16_ok : TabOK Try.prog tb16 := fun f con h => by
  unfold tb16 at h
  split at h
  · cases h; exact c11
  · cases h; exact c14
  · cases h; exact c19
  · cases h; exact c21
  · cases h; exact c25
  · cases h; exact c28
  · cases h
theorem c16 : ConOK Try.prog 16 con16 := by
  refine conOK_of_exec (lp := lp16) (tb := tb16) (c := bodyOf Try.f16) ⟨tt_ok, tb16_ok⟩ mixed Try.func16 (by kernel_rfl) (by kernel_rfl) ?_
  intro dat hpre hwt
  match dat, hpre, hwt with
  | [d0, d1, d2, d3], _, hw =>
    refine Eq.mpr (vc16 d0 d1 d2 d3) ?_
    have hl2 := wt_len hw.2.2.1
    have hl3 := wt_len hw.2.2.2.1
    clear hpre hwt hw
    generalize d0.fld 0 = r0 at *
    generalize d0.fld 1 = r1 at *
    generalize d0.fld 2 = r2 at *
    generalize d0.fld 3 = r3 at *
    simp only [ilt_t, ilt_f, bnot_t, bnot_f, ieq_t, ieq_f, true_and, and_true, lenI]
    simp only [F.eta]
    refine ⟨fun h => ?_, fun hc => ⟨fun h => ?_, fun hlen => ⟨fun h => ?_, fun hb => ⟨⟨(0, ⟨d1.i, ⟨1, 0, 0⟩, 0, []⟩), ⟨Nat.zero_le _, rfl⟩, ⟨rfl, rfl, rfl⟩, ⟨rfl, rfl, rfl⟩, rfl⟩, fun g hg => ⟨fun hlt => ⟨by omega, ?_⟩, fun hge => ?_⟩⟩⟩⟩⟩
    · rw [runZ_check h]; exact ⟨rfl, ⟨rfl, rfl, rfl⟩, rfl⟩
    · rw [runZ_long hc (by omega)]; exact ⟨rfl, ⟨rfl, rfl, rfl⟩, rfl⟩
    · rw [runZ_bal hc (by omega) h]; exact ⟨rfl, ⟨rfl, rfl, rfl⟩, rfl⟩
    · obtain ⟨i, s⟩ := g
      simp only at hg hlt ⊢
      have hl := runTo_len hg.2
      have e13 : ∀ a b : Int, (addZ a b).2 ≠ 0 → (addZ a b).2 = 13 := fun a b h => by unfold addZ at *; split <;> simp_all
      have i1 : iadd .i64 (s.n : Int) 1 = ((s.n + 1 : Nat) : Int) := by rw [iadd_eq (by omega)]; omega
      have i2 : iadd .i64 (i : Int) 1 = ((i + 1 : Nat) : Int) := by rw [iadd_eq (by omega)]; omega
      refine ⟨fun h1 => ?_, fun h1 => ⟨fun h2 => ⟨fun h3 => ⟨by omega, fun h4 => ⟨fun h5 => ?_, fun h5 => ⟨?_, ?_⟩⟩, fun h4 => ⟨?_, ?_⟩⟩, fun h3 => ⟨?_, ?_⟩⟩, fun h2 => ⟨?_, ?_⟩⟩⟩
      · rw [runZ_none hc (by omega) hb (by omega) hg.2 (by unfold runStep; rw [if_pos h1]), e13 _ _ h1]; exact ⟨rfl, ⟨rfl, rfl, rfl⟩, rfl⟩
      · rw [runZ_none hc (by omega) hb (by omega) hg.2 (by unfold runStep; rw [if_neg (by simp [h1]), if_pos h2, if_pos ⟨by unfold lenI; omega, h4⟩, if_pos h5]), e13 _ _ h5]; exact ⟨rfl, ⟨rfl, rfl, rfl⟩, rfl⟩
      · simp only [List.length_cons, List.length_nil]; omega
      · exact ⟨(i + 1, ⟨_, _, s.n + 1, _⟩), ⟨by omega, by rw [runTo_next hg.2]; unfold runStep; rw [if_neg (by simp [h1]), if_pos h2, if_pos ⟨by unfold lenI; omega, h4⟩, if_neg (by simp [h5])]⟩, by simp only; omega, ⟨rfl, i1, i2⟩, ⟨rfl, rfl, rfl⟩, rfl⟩
      · simp only [List.length_cons, List.length_nil]; omega
      · exact ⟨(i + 1, ⟨_, _, s.n + 1, _⟩), ⟨by omega, by rw [runTo_next hg.2]; unfold runStep; rw [if_neg (by simp [h1]), if_pos h2, if_neg (by simp [h4])]⟩, by simp only; omega, ⟨rfl, i1, i2⟩, ⟨rfl, rfl, rfl⟩, rfl⟩
      · simp only [List.length_cons, List.length_nil]; omega
      · exact ⟨(i + 1, ⟨_, _, s.n + 1, _⟩), ⟨by omega, by rw [runTo_next hg.2]; unfold runStep; rw [if_neg (by simp [h1]), if_pos h2, if_neg (by unfold lenI; omega)]⟩, by simp only; omega, ⟨rfl, i1, i2⟩, ⟨rfl, rfl, rfl⟩, rfl⟩
      · simp only [List.length_cons, List.length_nil]; omega
      · exact ⟨(i + 1, ⟨_, _, s.n, _⟩), ⟨by omega, by rw [runTo_next hg.2]; unfold runStep; rw [if_neg (by simp [h1]), if_neg (by omega)]⟩, by simp only; omega, ⟨rfl, rfl, i2⟩, ⟨rfl, rfl, rfl⟩, rfl⟩
    · obtain ⟨i, s⟩ := g
      simp only at hg hge ⊢
      obtain rfl : i = d2.l.length := by omega
      rw [runZ_some hc (by omega) hb hg.2]; exact ⟨rfl, ⟨rfl, rfl, rfl⟩, rfl⟩
end Go.Proofs.Ytgbhkndbfigieaa
