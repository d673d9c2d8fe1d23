/- Part of the proof of the laws of this seat: contracts of its functions, for every input. -/
import Derived.Test.YtgbhkndbfigieaaWK
set_option linter.all false
namespace Go.Proofs.Ytgbhkndbfigieaa
open Go Go.RX Go.Proofs
set_option maxRecDepth 100000
set_option linter.unusedSimpArgs false
theorem tb17_ok : TabOK Try.prog tb17 := fun f con h => by
  unfold tb17 at h
  split at h
  · cases h; exact c12
  · cases h; exact c15
  · cases h; exact c20
  · cases h; exact c22
  · cases h; exact c26
  · cases h
theorem fits_add {a b : Int} (h1 : fitsZ a = true) (h2 : fitsZ b = true) : iadd .i64 a b = a + b := by
  rw [fits_t] at h1 h2
  rw [iadd_eq (by omega)]
theorem check_fits {r0 r1 r2 r3 : Int} (h : checkZ r0 r1 r2 r3 = 0) : fitsZ r1 = true := by
  unfold checkZ at h
  split at h
  · rename_i h0; rw [fits_t]; omega
  · split at h
    · cases h
    · rename_i h1; cases hf : fitsZ r1 with
      | true => rfl
      | false => exact absurd (.inr hf) h1
theorem stepZ_amount (r0 r1 : Int) (f : F) (b t : Int) : (stepZ r0 r1 f b t).2 = 0 ∨ (stepZ r0 r1 f b t).2 = r1 := by
  unfold stepZ; split <;> simp
theorem addZ_ok {a b : Int} (h : (addZ a b).2 = 0) : fitsZ a = true ∧ fitsZ b = true ∧ fitsZ (a + b) = true ∧ (addZ a b).1 = a + b := by
  unfold addZ at *
  split at h
  · rename_i h1; exact ⟨h1.1, h1.2.1, h1.2.2, by rw [if_pos h1]⟩
  · cases h
theorem runTo_fits {r0 r1 r2 r3 bal : Int} {mv ok : List D} (hb : fitsZ bal = true) {i : Nat} : ∀ {s : RS}, runTo r0 r1 r2 r3 bal mv ok i = some s → fitsZ s.b = true := by
  induction i with
  | zero => intro s h; simp only [runTo, Option.some.injEq] at h; subst h; exact hb
  | succ i ih =>
    intro s h
    unfold runTo at h
    split at h
    · rename_i s0 hs
      have h0 := ih hs
      unfold runStep at h
      split at h
      · cases h
      · rename_i h1
        have h1 := addZ_ok (Classical.not_not.1 h1)
        split at h
        · split at h
          · split at h
            · cases h
            · rename_i h2
              have h2 := addZ_ok (Classical.not_not.1 h2)
              simp only [Option.some.injEq] at h; subst h; simp only; rw [h2.2.2.2]; exact h2.2.2.1
          · simp only [Option.some.injEq] at h; subst h; simp only; rw [h1.2.2.2]; exact h1.2.2.1
        · simp only [Option.some.injEq] at h; subst h; simp only; rw [h1.2.2.2]; exact h1.2.2.1
    · cases h
theorem c17 : ConOK Try.prog 17 con17 := by
  refine conOK_of_exec (lp := lp17) (tb := tb17) (c := bodyOf Try.f17) ⟨tt_ok, tb17_ok⟩ mixed Try.func17 (by kernel_rfl) (by kernel_rfl) ?_
  intro dat hpre hwt
  match dat, hpre, hwt with
  | [d0, d1, d2, d3], _, hw =>
    refine Eq.mpr (vc17 d0 d1 d2 d3) ?_
    have hl2 := wt_len hw.2.2.1
    have hl3 := wt_len hw.2.2.2.1
    clear hpre hwt hw
    generalize d0.fld 0 = r0 at *
    generalize d0.fld 1 = r1 at *
    generalize d0.fld 2 = r2 at *
    generalize d0.fld 3 = r3 at *
    simp only [ilt_t, ilt_f, bnot_t, bnot_f, ieq_t, ieq_f, true_and, and_true, lenI, F.eta]
    generalize hR : runZ r0.i r1.i r2.i r3.i d1.i d2.l d3.l = R
    refine ⟨fun h => ?_, fun hc => ⟨fun h => ?_, fun hlen => ⟨fun h => ?_, fun hb => ⟨⟨(0, ⟨d1.i, ⟨1, 0, 0⟩, 0, []⟩), ⟨Nat.zero_le _, rfl⟩, ⟨rfl, rfl, rfl⟩, ⟨rfl, rfl, rfl⟩, rfl⟩, fun g hg => ⟨fun hlt => ⟨by omega, ?_⟩, fun hge => ?_⟩⟩⟩⟩⟩
    · rw [← hR, runZ_check h]; exact ⟨rfl, ⟨rfl, rfl, rfl⟩, rfl⟩
    · rw [← hR, runZ_long hc (by omega)]; exact ⟨rfl, ⟨rfl, rfl, rfl⟩, rfl⟩
    · rw [← hR, runZ_bal hc (by omega) h]; exact ⟨rfl, ⟨rfl, rfl, rfl⟩, rfl⟩
    · obtain ⟨i, s⟩ := g
      simp only at hg hlt ⊢
      have hl := runTo_len hg.2
      have hfb := runTo_fits hb hg.2
      have i1 : iadd .i64 (s.n : Int) 1 = ((s.n + 1 : Nat) : Int) := by rw [iadd_eq (by omega)]; omega
      have i2 : iadd .i64 (i : Int) 1 = ((i + 1 : Nat) : Int) := by rw [iadd_eq (by omega)]; omega
      have bad : runStep r0.i r1.i r2.i r3.i d3.l (elt d2.l (i : Int)).i i s = none → R.l = [] ∧ (0 = R.f.s ∧ 0 = R.f.f ∧ 0 = R.f.n) ∧ 13 = R.e := fun h => by
        rw [← hR, runZ_none hc (by omega) hb (by omega) hg.2 h]; exact ⟨rfl, ⟨rfl, rfl, rfl⟩, rfl⟩
      have key : ∀ (b : Int) (f : F) (n : Nat) (nn : Int), nn = (n : Int) → runStep r0.i r1.i r2.i r3.i d3.l (elt d2.l (i : Int)).i i s = some ⟨b, f, n, s.out ++ [.int b]⟩ →
          ((s.out.length : Int) + (([D.int b] : List D).length : Int)) * ((8 : Nat) : Int) ≤ 140737488355328 ∧ ∃ g' : Nat × RS, (g'.1 ≤ d2.l.length ∧ runTo r0.i r1.i r2.i r3.i d1.i d2.l d3.l g'.1 = some g'.2) ∧
            d2.l.length - g'.1 < d2.l.length - i ∧ (b = g'.2.b ∧ nn = (g'.2.n : Int) ∧ iadd .i64 (i : Int) 1 = (g'.1 : Int)) ∧ (f.s = g'.2.f.s ∧ f.f = g'.2.f.f ∧ f.n = g'.2.f.n) ∧ xcat s.out [.int b] = g'.2.out := fun b f n nn h1 h2 => by
        subst h1
        refine ⟨?_, (i + 1, _), ⟨by omega, (runTo_next hg.2).trans h2⟩, by simp only; omega, ⟨rfl, rfl, i2⟩, ⟨rfl, rfl, rfl⟩, rfl⟩
        simp only [List.length_cons, List.length_nil]; omega
      rw [i1]
      generalize (elt d2.l (i : Int)).i = m at *
      refine ⟨fun hm => ?_, fun hm => ⟨by omega, ?_⟩⟩
      · apply bad; unfold runStep addZ; simp [hm]
      · have ha : iadd .i64 s.b m = s.b + m := fits_add hfb hm
        rw [ha]
        refine ⟨fun hbm => ?_, fun hbm => ⟨by omega, ?_⟩⟩
        · apply bad; unfold runStep addZ; simp [hbm]
        · have hadd : addZ s.b m = (s.b + m, 0) := by unfold addZ; rw [if_pos ⟨hfb, hm, hbm⟩]
          unfold runStep at bad key
          rw [hadd] at bad key
          simp only [ne_eq, not_true_eq_false, if_false] at bad key
          have hS := stepZ_amount r0.i r1.i s.f (s.b + m) (i : Int)
          generalize stepZ r0.i r1.i s.f (s.b + m) (i : Int) = S at *
          have hf2 : fitsZ S.2 = true := by
            rcases hS with h | h
            · rw [h]; rfl
            · rw [h]; exact check_fits hc
          have ha2 : iadd .i64 (s.b + m) S.2 = s.b + m + S.2 := fits_add hbm hf2
          rw [ha2]
          have hadd2 : ∀ b, fitsZ (s.b + m + S.2) = b → addZ (s.b + m) S.2 = if b = true then (s.b + m + S.2, 0) else (0, 13) := fun b h => by
            subst h; unfold addZ; simp only [hbm, hf2, true_and]
          repeat' (first | refine ⟨fun h => ?_, fun h => ?_⟩ | (refine And.intro ?_ ?_; omega))
          all_goals first
            | (exfalso; omega)
            | (exact Bool.noConfusion (hbm.symm.trans ‹fitsZ (s.b + m) = false›))
            | (refine key _ _ _ _ rfl ?_; rw [if_neg (by omega)]; done)
            | (refine key _ _ _ _ rfl ?_; rw [if_pos (by omega), if_neg (by unfold lenI; omega)]; done)
            | (refine key _ _ _ _ rfl ?_; simp [lenI, *]; done)
            | (apply bad; rw [if_pos (by omega), if_pos ⟨by unfold lenI; omega, by assumption⟩, hadd2 _ (by assumption)]; simp; done)
    · obtain ⟨i, s⟩ := g
      simp only at hg hge ⊢
      obtain rfl : i = d2.l.length := by omega
      rw [← hR, runZ_some hc (by omega) hb hg.2]; exact ⟨rfl, ⟨rfl, rfl, rfl⟩, rfl⟩
end Go.Proofs.Ytgbhkndbfigieaa
