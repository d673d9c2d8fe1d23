/- Part of the proof of the laws of this seat: contracts of its functions, for every input. -/
import Derived.Test.YtgbhkndbfigieaaWS
set_option linter.all false
namespace Go.Proofs.Ytgbhkndbfigieaa
open Go Go.RX Go.Proofs
set_option maxRecDepth 100000
section
variable {r0 r1 r2 r3 bal : Int} {mv ok : List D}
theorem runZ_ok (h : (runZ r0 r1 r2 r3 bal mv ok).e = 0) : ∃ s, checkZ r0 r1 r2 r3 = 0 ∧ mv.length ≤ 1024 ∧ fitsZ bal = true ∧ runTo r0 r1 r2 r3 bal mv ok mv.length = some s ∧ runZ r0 r1 r2 r3 bal mv ok = ⟨s.out, s.f, 0⟩ := by
  by_cases hc : checkZ r0 r1 r2 r3 = 0
  · by_cases hl : 1024 < mv.length
    · rw [runZ_long hc hl] at h; cases h
    · cases hf : fitsZ bal with
      | false => rw [runZ_bal hc hl hf] at h; cases h
      | true =>
        cases hs : runTo r0 r1 r2 r3 bal mv ok mv.length with
        | some s => exact ⟨s, hc, by omega, rfl, rfl, runZ_some hc hl hf hs⟩
        | none =>
          unfold runZ at h
          rw [if_neg (by simp [hc]), if_neg hl, if_neg (by simp [hf]), hs] at h
          cases h
  · rw [runZ_check hc] at h; exact absurd h hc
theorem runZ_err (h : (runZ r0 r1 r2 r3 bal mv ok).e ≠ 0) : (runZ r0 r1 r2 r3 bal mv ok).l = [] := by
  unfold runZ at *
  repeat' split at h
  all_goals first | exact absurd rfl h | simp [*]
theorem runTo_part {j : Nat} : ∀ {s : RS} {i : Nat}, runTo r0 r1 r2 r3 bal mv ok j = some s → i < j → ∃ s1 s2, runTo r0 r1 r2 r3 bal mv ok i = some s1 ∧ runStep r0 r1 r2 r3 ok (elt mv (i : Int)).i i s1 = some s2 ∧
    runTo r0 r1 r2 r3 bal mv ok (i + 1) = some s2 ∧ elt s.out (i : Int) = .int s2.b := by
  induction j with
  | zero => intro s i _ h; omega
  | succ j ih =>
    intro s i h hi
    have h' := h
    unfold runTo at h
    split at h
    · rename_i s0 hs
      have hout : ∃ b, s.out = s0.out ++ [.int b] ∧ s.b = b := by
        unfold runStep at h
        repeat' split at h
        all_goals first | (cases h; done) | (simp only [Option.some.injEq] at h; subst h; exact ⟨_, rfl, rfl⟩)
      obtain ⟨b, hb, hb'⟩ := hout
      have hl := (runTo_len hs).1
      by_cases e : i = j
      · subst e
        refine ⟨s0, s, hs, h, h', ?_⟩
        rw [hb, elt_get (by simp [hl]), hb', List.getElem_append_right (by omega)]
        simp [hl]
      · obtain ⟨s1, s2, a1, a2, a3, a4⟩ := ih hs (i := i) (by omega)
        refine ⟨s1, s2, a1, a2, a3, ?_⟩
        rw [← a4, hb, elt_get (by simp [hl]; omega), elt_get (by omega), List.getElem_append_left (by omega)]
    · cases h
theorem runStep_is {m : Int} {i : Nat} {s s' : RS} (h : runStep r0 r1 r2 r3 ok m i s = some s') : fitsZ s.b = true ∧ fitsZ m = true ∧ fitsZ (s.b + m) = true ∧
    ((s'.b = s.b + m ∧ s.n ≤ s'.n) ∨ (s'.b = s.b + m + r1 ∧ s.b + m < r0 ∧ fitsZ r1 = true ∧ s'.n = s.n + 1 ∧ (elt ok (s.n : Int)).b = true)) := by
  unfold runStep at h
  split at h
  · cases h
  · rename_i h1
    have h1 := addZ_ok (Classical.not_not.1 h1)
    refine ⟨h1.1, h1.2.1, h1.2.2.1, ?_⟩
    rw [h1.2.2.2] at h
    split at h
    · rename_i h0
      split at h
      · rename_i hk
        split at h
        · cases h
        · rename_i h2
          have h2 := addZ_ok (Classical.not_not.1 h2)
          simp only [Option.some.injEq] at h; subst h; simp only
          rw [h2.2.2.2]
          have h3 : (stepZ r0 r1 s.f (s.b + m) (i : Int)).2 = r1 ∧ s.b + m < r0 := by
            unfold stepZ at h0 ⊢
            split at h0
            · simp at h0
            · rename_i hn; rw [if_neg hn]; exact ⟨rfl, by omega⟩
          rw [h3.1] at h2 ⊢
          exact .inr ⟨rfl, h3.2, h2.2.1, trivial, hk.2⟩
      · simp only [Option.some.injEq] at h; subst h; exact .inl ⟨rfl, by simp only; omega⟩
    · simp only [Option.some.injEq] at h; subst h; exact .inl ⟨rfl, by simp only; omega⟩
theorem cntT_succ {i : Nat} : cntT ok (i + 1) = if (elt ok (i : Int)).b = true then cntT ok i + 1 else cntT ok i := rfl
theorem cntT_mono {i j : Nat} (h : i ≤ j) : cntT ok i ≤ cntT ok j := by
  induction j with
  | zero => rw [show i = 0 by omega]; exact Nat.le_refl _
  | succ j ih =>
    by_cases e : i = j + 1
    · rw [e]; exact Nat.le_refl _
    · have := ih (by omega)
      rw [cntT_succ]; split <;> omega
theorem elt_out {i : Nat} (h : ok.length ≤ i) : elt ok (i : Int) = .int 0 := by
  unfold elt
  rw [Int.toNat_natCast, List.getD_eq_getElem?_getD, List.getElem?_eq_none h]; rfl
theorem cntT_le (n : Nat) : cntT ok n ≤ cntT ok ok.length := by
  induction n with
  | zero => exact Nat.zero_le _
  | succ n ih =>
    by_cases h : n < ok.length
    · exact cntT_mono h
    · have : cntT ok (n + 1) = cntT ok n := by rw [cntT_succ, if_neg (by rw [elt_out (by omega)]; simp [D.b])]
      omega
theorem cntT_lt {n : Nat} : cntT ok n ≤ n := by
  induction n with
  | zero => exact Nat.zero_le _
  | succ n ih => rw [cntT_succ]; split <;> omega
end
theorem c7 : ConOK Try.prog 7 con7 := by
  refine conOK_of_exec (lp := lp7) (tb := tb7) (c := bodyOf Try.f7) ⟨tt_ok, tbL_ok⟩ mixed Try.func7 (by kernel_rfl) (by kernel_rfl) ?_
  intro dat hpre hwt
  obtain ⟨d0, d1, d2, d3, rfl, h0, h1, h2, h3⟩ := wts4 hwt
  refine Eq.mpr (vc7 d0 d1 d2 d3) ?_
  clear hpre hwt 
  generalize d0.fld 0 = r0 at *
  generalize d0.fld 1 = r1 at *
  generalize d0.fld 2 = r2 at *
  generalize d0.fld 3 = r3 at *
  simp only [ilt_t, ilt_f, bnot_t, bnot_f, ieq_t, ieq_f, ile_t, ile_f, true_and, and_true, lenI]
  refine ⟨fun _ => trivial, fun hm => ⟨fun _ => trivial, fun hk => ⟨fun he => ⟨fun _ => trivial, fun hl => hl (by rw [runZ_err he]; rfl)⟩, fun he => ?_⟩⟩⟩
  obtain ⟨s, hc, hlen, hfb, hs, hR⟩ := runZ_ok he
  have hsl := runTo_len hs
  rw [hR]
  refine ⟨fun hl => hl (by simp only; omega), fun hl => ⟨⟨0, by omega, rfl, rfl⟩, fun g hg => ⟨fun hlt => ⟨by omega, fun hb => ⟨g + 1, by omega, by omega, ?_, ?_⟩, fun hb => ⟨g + 1, by omega, by omega, ?_, ?_⟩⟩, fun hge => ⟨⟨(0, ⟨d1.i, ⟨1, 0, 0⟩, 0, []⟩, 0), ⟨by simp, rfl, by simp⟩, rfl, rfl, rfl⟩, ?_⟩⟩⟩⟩
  · have := @cntT_lt d3.l g
    rw [iadd_eq (by omega), cntT_succ, if_pos hb]; rfl
  · rw [iadd_eq (by omega)]; rfl
  · rw [cntT_succ, if_neg (by simp [hb])]
  · rw [iadd_eq (by omega)]; rfl
  · rintro ⟨i, s1, a⟩ ⟨hi, hs1, ha⟩
    simp only at hi hs1 ha ⊢
    have i1 : (i : Int) < (s.out.length : Int) → iadd .i64 (i : Int) 1 = ((i + 1 : Nat) : Int) := fun h => by rw [iadd_eq (by omega)]; rfl
    have ha2 := @cntT_lt d3.l s1.n
    have hn := (runTo_len hs1).2
    refine ⟨fun hlt => ⟨by omega, by omega, ?_⟩, fun hge => ⟨fun _ => trivial, fun h => ?_⟩⟩
    · obtain ⟨sa, sb, b1, b2, b3, b4⟩ := runTo_part hs (i := i) (by omega)
      rw [hs1] at b1; obtain rfl := Option.some.inj b1
      have hst := runStep_is b2
      have e1 : iadd .i64 s1.b (elt d2.l (i : Int)).i = s1.b + (elt d2.l (i : Int)).i := fits_add hst.1 hst.2.1
      rw [b4, e1]
      simp only [D.i_int]
      have e2 : fitsZ r1.i = true → iadd .i64 (s1.b + (elt d2.l (i : Int)).i) r1.i = s1.b + (elt d2.l (i : Int)).i + r1.i := fits_add hst.2.2.1
      have e3 := e2 (check_fits hc)
      rw [e3]
      refine ⟨fun h => ⟨(i + 1, sb, a), ⟨by simp only; omega, b3, ?_⟩, by simp only; omega, h.symm, rfl, i1 hlt⟩, fun h => ⟨by omega, fun h' => ?_, fun h' => ⟨fun h'' => ?_, fun h'' => ⟨by omega, (i + 1, sb, a + 1), ⟨by simp only; omega, b3, ?_⟩, by simp only; omega, rfl, ?_, i1 hlt⟩⟩⟩⟩
      · simp only
        have : s1.n ≤ sb.n := by rcases hst.2.2.2 with h | h <;> omega
        have := @cntT_mono d3.l _ _ this
        omega
      · rcases hst.2.2.2 with h1 | h1 <;> omega
      · rcases hst.2.2.2 with h1 | h1 <;> omega
      · simp only
        rcases hst.2.2.2 with h1 | h1
        · omega
        · rw [h1.2.2.2.1, cntT_succ, if_pos h1.2.2.2.2]; omega
      · rw [iadd_eq (by omega)]; rfl
    · have := @cntT_le d3.l s1.n
      have : g = d3.l.length := by omega
      subst this
      omega
end Go.Proofs.Ytgbhkndbfigieaa
