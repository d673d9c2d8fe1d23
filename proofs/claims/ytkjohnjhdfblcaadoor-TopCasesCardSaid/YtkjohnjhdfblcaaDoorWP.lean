/- Part of the proof of the laws of this seat: contracts of its functions, for every input. -/
import Derived.Test.YtkjohnjhdfblcaaDoorWN
set_option linter.all false
namespace Go.Proofs.YtkjohnjhdfblcaaDoor
open Go Go.RX Go.Proofs
set_option maxRecDepth 100000
set_option linter.all false
set_option maxHeartbeats 4000000
theorem stages {w : Lw} {l : List D} {d : Int} {P : Cs → Cs → Prop} (inv : Cs → Prop)
    (hstep : ∀ c x, inv c → 1 ≤ c.st → c.st ≤ 4 → ¬ barP (limZ w c) d (dueZ w l c).d (dueZ w l c).ok → (dueZ w l c).ok = true → (dueZ w l c).d ≤ d → (nxtC w c (dueZ w l c).d = x) → inv x)
    (hP : ∀ c x y, inv c → 1 ≤ c.st → c.st ≤ 4 → ¬ barP (limZ w c) d (dueZ w l c).d (dueZ w l c).ok → (dueZ w l c).ok = true → (dueZ w l c).d ≤ d → (nxtC w c (dueZ w l c).d = x) → P x y → P c y)
    (hbar : ∀ c, inv c → 1 ≤ c.st → c.st ≤ 4 → barP (limZ w c) d (dueZ w l c).d (dueZ w l c).ok → P c (barC w c))
    (hstay : ∀ c, inv c → 1 ≤ c.st → c.st ≤ 5 → (c.st ≤ 4 → ¬ barP (limZ w c) d (dueZ w l c).d (dueZ w l c).ok) → ((dueZ w l c).ok = false ∨ d < (dueZ w l c).d) → P c c) :
    ∀ c, inv c → 1 ≤ c.st → c.st ≤ 5 → P c (finR w l d c) := by
  have main : ∀ n : Nat, ∀ c : Cs, (5 - c.st).toNat = n → inv c → 1 ≤ c.st → c.st ≤ 5 → P c (finR w l d c) := by
    intro n
    induction n with
    | zero =>
      intro c hn hi h1 h2
      rw [finR_out (by omega)]
      refine hstay c hi h1 h2 (fun h => by omega) (.inl ?_)
      rw [dueZ_no (by omega)]
    | succ n ih =>
      intro c hn hi h1 h2
      have hs : 1 ≤ c.st ∧ c.st ≤ 4 := by omega
      rcases pass_cases w l c d with ⟨h, e⟩ | ⟨h, h3, e⟩ | ⟨h, h3, h4, e⟩
      · rw [finR_f hs (by rw [e]), e]; exact hbar c hi hs.1 hs.2 h
      · rw [finR_f hs (by rw [e]), e]; exact hstay c hi h1 h2 (fun _ => h) h3
      · rw [← finR_t hs (by rw [e]), e]
        have hst : (nxtC w c (dueZ w l c).d).st = c.st + 1 := rfl
        exact hP c _ _ hi hs.1 hs.2 h h3 h4 rfl (ih _ (by rw [hst]; omega) (hstep c _ hi hs.1 hs.2 h h3 h4 rfl) (by rw [hst]; omega) (by rw [hst]; omega))
  exact fun c => main _ c rfl
theorem bar_mono {lim a b due : Int} {ok : Bool} (h : barP lim a due ok) (hab : a ≤ b) : barP lim b due ok := ⟨by have := h.1; omega, h.2⟩
theorem finR_twice {w : Lw} {l : List D} {a b : Int} (hab : a ≤ b) : ∀ c : Cs, 1 ≤ c.st → c.st ≤ 5 → finR w l b (finR w l a c) = finR w l b c := by
  refine fun c => stages (w := w) (l := l) (d := a) (P := fun c y => finR w l b y = finR w l b c) (fun _ => True) (fun _ _ _ _ _ _ _ _ _ => trivial) ?_ ?_ ?_ c trivial
  · intro c x y _ h1 h2 h3 h4 h5 h6 h7
    rw [h7]
    have hn : ¬ barP (limZ w c) b (dueZ w l c).d (dueZ w l c).ok := fun h8 => by
      refine h3 ⟨?_, h8.2⟩
      rcases h8.2 with h9 | h9
      · rw [h4] at h9; cases h9
      · omega
    rcases pass_cases w l c b with ⟨h, e⟩ | ⟨h, h8, e⟩ | ⟨h, _, _, e⟩
    · exact absurd h hn
    · rcases h8 with h9 | h9
      · rw [h4] at h9; cases h9
      · omega
    · rw [← finR_t (d := b) ⟨h1, h2⟩ (by rw [e]), e, ← h6]
  · intro c _ h1 h2 h3
    have h8' : (barC w c).st = 8 := rfl
    rw [finR_out (by rw [h8']; omega)]
    rcases pass_cases w l c b with ⟨h, e⟩ | ⟨h, _, e⟩ | ⟨h, _, _, e⟩
    · rw [finR_f (d := b) ⟨h1, h2⟩ (by rw [e]), e]
    · exact absurd (bar_mono h3 hab) h
    · exact absurd (bar_mono h3 hab) h
  · intros; rfl
theorem ltF_ge {cal : List D} : ∀ {f : Nat} {d n : Int}, (ltF cal f d n).e = 0 → d ≤ (ltF cal f d n).d := by
  intro f
  induction f with
  | zero => intro d n h; simp [ltF] at h
  | succ f ih =>
    intro d n h
    unfold ltF at h ⊢
    split at h
    · rename_i h1; rw [if_pos h1]; exact Int.le_refl _
    · rename_i h1
      rw [if_neg h1]
      split at h
      · cases h
      rename_i h2
      rw [if_neg h2]
      have := ih h
      omega
def feeS (w : Lw) (st : Int) : Nat → Int
  | 0 => 0
  | n + 1 => ei w.fs (st - 1).toNat + feeS w (st + 1) n
theorem feeS_nn {w : Lw} (hw : lawZ w = 0) : ∀ {n : Nat} {st : Int}, 1 ≤ st → st + n ≤ 5 → 0 ≤ feeS w st n ∧ feeS w st n ≤ 2147483648 * n
  | 0, _, _, _ => by simp [feeS]
  | n + 1, st, h1, h2 => by
    have h3 := (lawZ_0 hw).2.2.2.1 (st - 1).toNat (by omega)
    have h4 := feeS_nn hw (n := n) (st := st + 1) (by omega) (by omega)
    unfold feeS
    omega
structure StP (w : Lw) (l : List D) (d : Int) (c y : Cs) : Prop where
  due : (dueZ w l y).ok = true → d < (dueZ w l y).d
  si : c.si ≤ y.si
  sd : y.si ≤ d
  pa : y.pa = c.pa
  bg : y.bg = c.bg
  ps : y.ps = c.ps
  a0 : y.a0 = c.a0
  a1 : y.a1 = c.a1
  a2 : y.a2 = c.a2
  id : y.id = c.id
  pl : y.pl = c.pl
  key : y.key = c.key
  st : c.st ≤ y.st
  s5 : y.st ≤ 5 ∨ y.st = 8
  b1 : y.st = 8 → c.bg + w.lim + c.ps ≤ d ∧ c.ow ≤ y.ow ∧ c.st ≠ 5
  f1 : y.st ≤ 5 → y.ow = min (c.ow + feeS w c.st (y.st - c.st).toNat) 1125899906842624
  ow : c.ow ≤ y.ow
  om : y.ow ≤ 1125899906842624
theorem due_ge {w : Lw} {l : List D} {c : Cs} (h : (dueZ w l c).ok = true) : c.si ≤ (dueZ w l c).d := by
  have h1 := due_st h
  rw [dueZ_yes (by omega)] at h ⊢
  simp only [decide_eq_true_eq] at h ⊢
  unfold laterZ at h ⊢
  split at h
  · cases h
  rename_i h2
  rw [if_neg h2]
  split at h
  · cases h
  rename_i h3
  rw [if_neg h3]
  exact ltF_ge h
theorem finR_st {w : Lw} {l : List D} {d : Int} (hw : lawZ w = 0) : ∀ c : Cs, (c.si ≤ d ∧ 0 ≤ c.ow ∧ c.ow ≤ 1125899906842624) → 1 ≤ c.st → c.st ≤ 5 → StP w l d c (finR w l d c) := by
  refine stages (w := w) (l := l) (d := d) (P := StP w l d) (fun c => c.si ≤ d ∧ 0 ≤ c.ow ∧ c.ow ≤ 1125899906842624) ?_ ?_ ?_ ?_
  · intro c x hi h1 h2 h3 h4 h5 h6
    rw [← h6]
    exact ⟨h5, (nxt_ow hw ⟨h1, h2⟩ hi.2.1).1, (nxt_ow hw ⟨h1, h2⟩ hi.2.1).2⟩
  · intro c x y hi h1 h2 h3 h4 h5 h6 h7
    have hst : x.st = c.st + 1 := by rw [← h6]; rfl
    have how : x.ow = min (c.ow + ei w.fs (c.st - 1).toNat) 1125899906842624 := by rw [← h6]; rfl
    have hf := (lawZ_0 hw).2.2.2.1 (c.st - 1).toNat (by omega)
    have hge := due_ge h4
    have hsi : x.si = (dueZ w l c).d := by rw [← h6]; rfl
    have a := h7.st
    refine ⟨h7.due, by have := h7.si; omega, h7.sd, by rw [h7.pa, ← h6]; rfl, by rw [h7.bg, ← h6]; rfl, by rw [h7.ps, ← h6]; rfl, by rw [h7.a0, ← h6]; rfl, by rw [h7.a1, ← h6]; rfl, by rw [h7.a2, ← h6]; rfl, by rw [h7.id, ← h6]; rfl, by rw [h7.pl, ← h6]; rfl, by rw [h7.key, ← h6]; rfl, by omega, h7.s5, fun h8 => ?_, fun h8 => ?_, by have := h7.ow; omega, h7.om⟩
    · obtain ⟨p, q, r⟩ := h7.b1 h8
      have hb : x.bg = c.bg := by rw [← h6]; rfl
      have hp : x.ps = c.ps := by rw [← h6]; rfl
      exact ⟨by omega, by omega, by omega⟩
    · have h9 := h7.f1 h8
      obtain ⟨n, hn⟩ : ∃ n, (y.st - x.st).toNat = n := ⟨_, rfl⟩
      have hn2 : (y.st - c.st).toNat = n + 1 := by omega
      rw [hn, hst] at h9
      rw [hn2, feeS]
      have := feeS_nn hw (n := n) (st := c.st + 1) (by omega) (by omega)
      omega
  · intro c hi h1 h2 h3
    have h8' : (barC w c).st = 8 := rfl
    have hl : limZ w c = c.bg + w.lim + c.ps := rfl
    have hsi : (barC w c).si = max (limZ w c) c.si := rfl
    have := h3.1
    refine ⟨fun h => ?_, by omega, by omega, rfl, rfl, rfl, rfl, rfl, rfl, rfl, rfl, rfl, by omega, .inr rfl, fun _ => ⟨by omega, Int.le_refl _, by omega⟩, fun h => by omega, Int.le_refl _, hi.2.2⟩
    rw [dueZ_no (by omega)] at h
    cases h
  · intro c hi h1 h2 h3 h4
    refine ⟨fun h => ?_, Int.le_refl _, hi.1, rfl, rfl, rfl, rfl, rfl, rfl, rfl, rfl, rfl, Int.le_refl _, .inl h2, fun h => by omega, fun _ => ?_, Int.le_refl _, hi.2.2⟩
    · rcases h4 with h5 | h5
      · rw [h] at h5; cases h5
      · exact h5
    · rw [show (c.st - c.st).toNat = 0 by omega, feeS]; omega
end Go.Proofs.YtkjohnjhdfblcaaDoor
