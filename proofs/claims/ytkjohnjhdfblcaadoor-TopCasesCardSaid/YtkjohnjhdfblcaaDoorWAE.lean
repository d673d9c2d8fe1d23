/- Part of the proof of the laws of this seat: contracts of its functions, for every input. -/
import Derived.Test.YtkjohnjhdfblcaaDoorWAD
set_option linter.all false
namespace Go.Proofs.YtkjohnjhdfblcaaDoor
open Go Go.RX Go.Proofs
set_option maxRecDepth 100000
set_option linter.all false
set_option maxHeartbeats 1000000
theorem open_or (c : Cs) : openZ c = true ∨ openZ c = false := by cases openZ c <;> simp
theorem step_adv {w : Lw} {l : List D} {c : Cs} {d : Int} (k : Int) (h : (advZ w l c d).e = 0) : stepOK k c (advZ w l c d).c := by
  have a := adv_ok_p h
  exact ⟨a.st, a.ow, by rw [a.pa]; exact Int.le_refl _, fun _ h2 => a.same (.inr h2), fun h2 => a.same (.inl h2)⟩
theorem step_pay {c : Cs} {n : Int} {k : Int} (hk : k ≠ 0) (h : (payZ c n).e = 0) : stepOK k c (payZ c n).c := by
  rcases open_or c with ho | ho
  · by_cases h2 : n < 1 ∨ 1125899906842624 < n ∨ amtOk c.ow = false ∨ amtOk c.pa = false
    · rw [payZ_13 ho h2] at h; cases h
    rw [payZ_r ho h2]
    rw [openZ_t] at ho
    by_cases h3 : n < c.ow - c.pa
    · rw [if_pos h3]
      exact ⟨Int.le_refl _, Int.le_refl _, by simp only; omega, fun h => absurd h hk, fun h => by rw [openZ_f] at h; omega⟩
    · rw [if_neg h3]
      exact ⟨by simp only; omega, Int.le_refl _, by simp only; omega, fun h => absurd h hk, fun h => by rw [openZ_f] at h; omega⟩
  · rw [payZ_28 ho] at h; cases h
theorem step_fil {w : Lw} {l : List D} {c : Cs} {g d : Int} {k : Int} (hk : k ≠ 0) (h : (filZ w l c g d).e = 0) : stepOK k c (filZ w l c g d).c := by
  obtain ⟨h1, h2⟩ := fil_0 h
  obtain ⟨h3, h4, _⟩ := filE_0 h1
  have a := adv_ok_p h3
  rw [h2]
  refine ⟨a.st, a.ow, by show c.pa ≤ (advZ w l c d).c.pa; rw [a.pa]; exact Int.le_refl _, fun h => absurd h hk, fun h5 => ?_⟩
  rw [a.same (.inl h5), h5] at h4
  cases h4
theorem step_dec {w : Lw} {l : List D} {c : Cs} {u : Bool} {d : Int} {k : Int} (hk : k ≠ 0) (h : (decZ w l c u d).e = 0) : stepOK k c (decZ w l c u d).c := by
  have h1 := dec_0 h
  obtain ⟨_, ho, _⟩ := decE_0 h1
  have ho' := ho
  rw [openZ_t] at ho
  cases u with
  | true =>
    rw [dec_ok h1, if_pos rfl]
    exact ⟨by show c.st ≤ 7; omega, Int.le_refl _, Int.le_refl _, fun h => absurd h hk, fun h5 => by rw [ho'] at h5; cases h5⟩
  | false =>
    rw [dec_ok h1, if_neg (by simp)] at h ⊢
    have a := adv_ok_p h
    exact ⟨a.st, a.ow, by rw [a.pa]; exact Int.le_refl _, fun h => absurd h hk, fun h5 => by rw [ho'] at h5; cases h5⟩
theorem step_wai {c : Cs} {k : Int} (hk : k ≠ 0) (h : (waiZ c).e = 0) : stepOK k c (waiZ c).c := by
  unfold waiZ at h ⊢
  rcases open_or c with ho | ho
  · rw [if_neg (by simp [ho])]
    have ho' := ho
    rw [openZ_t] at ho
    exact ⟨by show c.st ≤ 7; omega, Int.le_refl _, Int.le_refl _, fun h => absurd h hk, fun h5 => by rw [ho'] at h5; cases h5⟩
  · rw [if_pos ho] at h; cases h
theorem new_top {c : Int} (h1 : 1 ≤ c) (h2 : c ≤ 65535) : (newZ [118, 49] [65, 66, 49, 50] [107] c 0).e = 0 := by
  have a1 : oneZ [118, 49] = true := by kernel_rfl
  have a2 : (plZ [65, 66, 49, 50]) = ⟨[65, 66, 49, 50], 0⟩ := by kernel_rfl
  have a3 : oneZ [107] = true := by kernel_rfl
  have a4 : dayOk 0 = true := by decide
  unfold newZ
  rw [if_neg (by simp [a1]), if_neg (by simp [a2]), if_neg (by simp [a3]), if_neg (by omega), if_neg (by simp [a4])]
theorem top_tail {k i : Int} {n : Nat} {g : Nat × Cs} {y : Cs} (hk : i = k) (hg : g.1 < n) (hn : (n : Int) ≤ 16) : ∀ z : Cs, ∃ g' : Nat × Cs, g'.1 ≤ n ∧ n - g'.1 < n - g.1 ∧ iadd .i64 (g.1 : Int) 1 = (g'.1 : Int) ∧ z = g'.2 :=
  fun z => ⟨(g.1 + 1, z), by simp only; omega, by simp only; omega, by rw [iadd_eq (by omega)]; rfl, rfl⟩
theorem c16 : ConOK Tryd.prog 16 con16 := by
  refine conOK_of_exec (inl := noInl) noInl_ok (lp := lp16) (tb := tb16) (c := bodyOf Tryd.f16) ⟨tt_ok, tb16_ok⟩ mixed Tryd.func16 (by kernel_rfl) (by kernel_rfl) ?_
  intro dat hpre hwt
  have hw0 := wts4 hwt
  obtain ⟨d0, d1, d2, d3, rfl, w0, w1, w2, w3⟩ := hw0
  refine Eq.mpr (vc16 d0 d1 d2 d3) ?_
  simp only [↓csEq, ile_t, ile_f, ilt_t, ilt_f, ieq_t, ieq_f, bnot_t, bnot_f, band_t, band_f, true_and, and_true, lenI, csAll, csAny]
  have w2' := wt_u16 w2
  generalize lwOf d0 = W at *
  rw [iconv_eq (by omega)]
  refine ⟨fun _ => trivial, fun _ => ⟨fun _ => trivial, fun _ => ⟨fun _ => trivial, fun hc => ⟨fun _ => trivial, fun ht => ⟨fun _ => trivial, fun hz => ⟨fun _ => trivial, fun hw => ?_⟩⟩⟩⟩⟩⟩
  have hl : d1.l.length ≤ 1000000 := by omega
  refine ⟨by decide, fun h => h (new_top (by omega) (by omega)), fun _ => ⟨⟨(0, _), Nat.zero_le _, rfl, rfl⟩, fun g hg => ⟨fun hlt => ?_, fun _ => trivial⟩⟩⟩
  refine ⟨⟨by omega, hlt⟩, fun _ => trivial, fun _ => ⟨fun _ => trivial, fun _ => ?_⟩⟩
  generalize ((elt d3.l (g.1 : Int)).fld 0).i = k
  generalize ((elt d3.l (g.1 : Int)).fld 1).i = dd
  generalize ((elt d3.l (g.1 : Int)).fld 2).i = nn
  have T := @top_tail 0 0 d3.l.length g g.2 rfl (by omega) ht
  refine ⟨⟨fun hk => ⟨hl, (_, _), fun h => step_adv k h, rfl, rfl⟩, fun hk => ⟨fun _ => ⟨(_, _), fun h => step_pay hk h, rfl, rfl⟩, fun _ => ⟨fun _ => ⟨hl, (_, _), fun h => step_fil hk h, rfl, rfl⟩, fun _ => ⟨fun _ => ⟨hl, (_, _), fun h => step_dec hk h, rfl, rfl⟩, fun _ => ⟨fun _ => ⟨hl, (_, _), fun h => step_dec hk h, rfl, rfl⟩, fun _ => ⟨(_, _), fun h => step_wai hk h, rfl, rfl⟩⟩⟩⟩⟩⟩, fun y hy => ⟨fun _ => T _, fun h => ?_⟩⟩
  obtain ⟨a, b, c, d, e⟩ := hy h
  refine ⟨fun h => by omega, fun _ => ⟨fun h => by omega, fun _ => ⟨fun h => by omega, fun _ => ⟨fun hk => ⟨fun hp => ⟨fun h => h (d hk (by rw [pend_t] at hp; exact hp)), fun _ => ⟨fun ho => ⟨fun h => h (e ho), fun _ => T _⟩, fun _ => T _⟩⟩, fun _ => ⟨fun ho => ⟨fun h => h (e ho), fun _ => T _⟩, fun _ => T _⟩⟩, fun _ => ⟨fun ho => ⟨fun h => h (e ho), fun _ => T _⟩, fun _ => T _⟩⟩⟩⟩⟩
end Go.Proofs.YtkjohnjhdfblcaaDoor
