/- Part of the proof of the laws of this seat: contracts of its functions, for every input. -/
import Derived.Test.YtngjkhnhnaohmaaWV
import Derived.Test.YtngjkhnhnaohmaaWX
set_option linter.all false
namespace Go.Proofs.Ytngjkhnhnaohmaa
open Go Go.RX Go.Proofs
set_option maxRecDepth 100000
set_option linter.all false
theorem ext_u8 {l m : List D} (hl : ∀ x ∈ l, WT u8 x) (hm : ∀ x ∈ m, ∃ n, x = .int n) (h : l.length = m.length) (h1 : ∀ j, j < l.length → ei l j = ei m j) : l = m :=
  list_ext h fun j hj => by
    have e := h1 j hj
    unfold ei at e
    obtain ⟨n, e1, _⟩ := hl _ (elt_mem hj)
    obtain ⟨n', e2⟩ := hm _ (elt_mem (xs := m) (i := j) (by omega))
    rw [e1, e2] at e ⊢
    exact congrArg D.int e
theorem encB_int {c : Int} : ∀ x ∈ encB c, ∃ n, x = .int n := fun x hx => by
  unfold encB encP mkL at hx
  simp at hx
  rcases hx with ⟨j, _, rfl⟩ | rfl
  · exact ⟨_, rfl⟩
  · exact ⟨_, rfl⟩
theorem ei_xsub {b : List D} {a n j : Nat} (h : j < n) : ei (xsub b (a : Int) ((a + n : Nat) : Int)) j = ei b (a + j) := by
  unfold xsub
  rw [Int.toNat_natCast, Int.toNat_natCast, ei_drop, ei_take (by omega)]
theorem xsub_app {b : List D} {a m n : Int} (h0 : 0 ≤ a) (h1 : a ≤ m) (h2 : m ≤ n) (h3 : n ≤ b.length) : xsub b a m ++ xsub b m n = xsub b a n := by
  unfold xsub
  rw [show b.take m.toNat = (b.take n.toNat).take m.toNat by rw [List.take_take]; congr 1; omega]
  have ht : m.toNat ≤ (b.take n.toNat).length := by rw [List.length_take]; omega
  generalize b.take n.toNat = t at *
  conv => rhs; rw [← List.take_append_drop m.toNat t]
  rw [List.drop_append_of_le_length (by rw [List.length_take]; omega)]
theorem hb_of {b : List D} (hb : ∀ x ∈ b, WT u8 x) (j : Nat) : 0 ≤ ei b j ∧ ei b j ≤ 255 := by
  unfold ei
  by_cases hj : j < b.length
  · exact wt_u8 (hb _ (elt_mem hj))
  · have : elt b (j : Int) = .int 0 := by unfold elt; simp [hj]
    rw [this]; simp [D.i]
theorem int_again {b : List D} (hb : ∀ x ∈ b, WT u8 x) {a : Nat} (h : (intZ b (a : Int)).e = 0) : xsub b (a : Int) (intZ b (a : Int)).x = encB (codeOf (intZ b (a : Int)).n) := by
  obtain ⟨h0, h1, h2, h3, h4⟩ := intZ_x h
  rw [Int.toNat_natCast] at h3 h4
  rw [h3, h4]
  have hb' := hb_of hb
  have hz : intZ b (a : Int) = intA b a := intZ_nat (by omega)
  rw [hz] at h
  unfold intA at h
  split at h
  · cases h
  rename_i q1
  split at h
  · cases h
  rename_i q2
  obtain ⟨i, i1, i2, i3, i4, i5⟩ := grpTo_cases (b := b) (a := a) (n := 10) (by unfold grpZ at q2; omega)
  have hg : grpZ b a = i + 1 := i2
  rw [hg] at q2 ⊢
  have hC := code_bound (a := a) hb' i1 (fun ⟨e, h5⟩ => q2 (.inr (.inl ⟨by omega, h5⟩)))
  have hd : ∀ k, k < i + 1 → codeTo b a (i + 1) / 128 ^ k = 128 * (codeTo b a (i + 1) / 128 ^ (k + 1)) + ei b (a + k) % 128 := fun k hk => code_step (fun j => (hb' j).1) hk
  have hlow : codeTo b a (i + 1) / 128 ^ (i + 1) = 0 := by
    obtain ⟨h1, h2⟩ := codeTo_div (a := a) (b := b) (fun j => (hb' j).1) (i := i + 1)
    exact Int.ediv_eq_zero_of_lt h1 h2
  rw [codeOf_decZ hC]
  generalize codeTo b a (i + 1) = C at *
  have hlast : C / 128 ^ i = ei b (a + i) := by
    have := hd i (by omega)
    have := hb' (a + i)
    rw [hlow] at *
    omega
  have hgl : glen C = i := by
    have g1 := glen_last hC
    by_cases e : i < glen C
    · have := (glen_spec hC (k := i) (by omega)).2 e
      omega
    · by_cases e2 : glen C < i
      · exfalso
        have hz : ∀ d, C / 128 ^ (glen C + 1 + d) = 0 := fun d => by
          induction d with
          | zero => rw [Nat.add_zero, div_pow']; omega
          | succ d ih => rw [← Nat.add_assoc, div_pow', ih]; rfl
        have := hz (i - glen C - 1)
        rw [show glen C + 1 + (i - glen C - 1) = i by omega, hlast] at this
        exact q2 (.inr (.inr ⟨by omega, by rw [show a + (i + 1) - 1 = a + i by omega]; exact this⟩))
      · omega
  have hlen : (xsub b (a : Int) ((a + (i + 1) : Nat) : Int)).length = i + 1 := by rw [xsub_len]; omega
  show xsub b (a : Int) ((a + (i + 1) : Nat) : Int) = _
  refine ext_u8 (xsub_wt hb) encB_int (by rw [hlen, encB_length, hgl]) fun j hj => ?_
  rw [hlen] at hj
  rw [ei_xsub hj]
  by_cases e : j = i
  · subst e
    have := @ei_encB_last C
    rw [hgl] at this
    rw [this, hlast]
  · rw [ei_encB (by omega), hd j (by omega)]
    have n1 := grpTo_zero i3 j (by omega)
    have := hb' (a + j)
    omega
theorem text_again {b : List D} (hb : ∀ x ∈ b, WT u8 x) {a : Nat} (h : (textZ b (a : Int)).e = 0) : xsub b (a : Int) (textZ b (a : Int)).x = tE (textZ b (a : Int)).s := by
  obtain ⟨h1, h2, h3, h4, h5, h6, h7, h8⟩ := textZ_x h
  have hI := int_again hb h1
  have hl : (strD (xsub b (intZ b (a : Int)).x ((intZ b (a : Int)).x + (intZ b (a : Int)).n))).length = (intZ b (a : Int)).n.toNat := by
    rw [strD_len, xsub_len]; omega
  rw [tE_eq, h8, hl, h6, strD_bytes (xsub_wt hb), show (((intZ b (a : Int)).n.toNat : Nat) : Int) = (intZ b (a : Int)).n by omega, ← hI]
  exact (xsub_app (by omega) (by omega) (by omega) (by omega)).symm
theorem be4_back {b : List D} (hb : ∀ x ∈ b, WT u8 x) {a : Nat} (h : a + 4 ≤ b.length) : xsub b (a : Int) ((a + 4 : Nat) : Int) = be4L (be4 b (a : Int) 4) := by
  have hlen : (xsub b (a : Int) ((a + 4 : Nat) : Int)).length = 4 := by rw [xsub_len]; omega
  refine ext_u8 (xsub_wt hb) (fun x hx => by unfold be4L at hx; simp at hx; rcases hx with rfl | rfl | rfl | rfl <;> exact ⟨_, rfl⟩) (by rw [hlen]; rfl) fun j hj => ?_
  rw [hlen] at hj
  rw [ei_xsub hj]
  have b0 := hb_of hb (a + 0)
  have b1 := hb_of hb (a + 1)
  have b2 := hb_of hb (a + 2)
  have b3 := hb_of hb (a + 3)
  have e : be4 b (a : Int) 4 = 256 * (256 * (256 * (256 * 0 + ei b (a + 0)) + ei b (a + 1)) + ei b (a + 2)) + ei b (a + 3) := rfl
  rw [e]
  have s0 : ∀ s, ei (be4L s) 0 = s / 16777216 := fun _ => rfl
  have s1 : ∀ s, ei (be4L s) 1 = s / 65536 % 256 := fun _ => rfl
  have s2 : ∀ s, ei (be4L s) 2 = s / 256 % 256 := fun _ => rfl
  have s3 : ∀ s, ei (be4L s) 3 = s % 256 := fun _ => rfl
  obtain rfl | rfl | rfl | rfl : j = 0 ∨ j = 1 ∨ j = 2 ∨ j = 3 := by omega
  · rw [s0]; omega
  · rw [s1]; omega
  · rw [s2]; omega
  · rw [s3]; omega
theorem frame_again {b : List D} (hb : ∀ x ∈ b, WT u8 x) {a : Nat} (h : (frameZ b (a : Int)).e = 0) : xsub b (a : Int) (frameZ b (a : Int)).x = frF (frameZ b (a : Int)).k (strD (frameZ b (a : Int)).p) := by
  obtain ⟨h1, h2, h3, h4, h5, h6⟩ := frameZ_x h
  obtain ⟨_, _, _, y0, y1, y2, y3, _⟩ := textZ_x h3
  have hT := text_again hb (a := a + 1) h3
  rw [h6]
  simp only
  rw [strD_bytesD, Int.toNat_natCast]
  have hk := hb_of hb a
  have hB : xsub b (a : Int) (textZ b ((a : Int) + 1)).x = frB (ei b a) (textZ b ((a : Int) + 1)).s := by
    rw [frB_eq, ← xsub_app (m := (a : Int) + 1) (by omega) (by omega) (by omega) (by omega)]
    have e1 : xsub b (a : Int) ((a : Int) + 1) = [.int (ei b a)] := by
      have hlen : (xsub b (a : Int) ((a + 1 : Nat) : Int)).length = 1 := by rw [xsub_len]; omega
      refine ext_u8 (xsub_wt hb) (fun x hx => ⟨_, List.mem_singleton.1 hx⟩) hlen fun j hj => ?_
      have hj : j < 1 := by rw [← hlen]; exact hj
      show ei (xsub b (a : Int) ((a + 1 : Nat) : Int)) j = _
      rw [ei_xsub hj]
      obtain rfl : j = 0 := by omega
      rfl
    rw [e1, show (a : Int) + 1 = ((a + 1 : Nat) : Int) from rfl, hT, show ei b a % 256 = ei b a by omega]
    rfl
  unfold frF
  rw [← hB, ← h5]
  obtain ⟨x, hx⟩ : ∃ x : Nat, (textZ b ((a : Int) + 1)).x = x := ⟨(textZ b ((a : Int) + 1)).x.toNat, by omega⟩
  rw [hx] at h4 y2 y3 ⊢
  rw [← be4_back hb (by omega)]
  exact (xsub_app (by omega) (by omega) (by omega) (by omega)).symm
theorem part_ok {b : List D} {a x : Int} {w : List D} (h1 : a ≤ x) (h2 : x ≤ b.length) (h : xsub b a x = w) : partZ b a x w = true := by
  unfold partZ
  rw [h, sameZ_self]
  simp [h1, h2]
theorem tbF_ok : TabOK Try.prog tbF := fun f con h => by
  unfold tbF at h
  split at h
  · cases h; exact c22
  · cases h; exact c23
  · cases h; exact c25
  · cases h; exact c26
  · cases h; exact c27
  · cases h; exact c28
  · cases h; exact c29
  · cases h; exact c30
  · cases h; exact c31
  · cases h; exact c32
  · exact tbL_ok _ _ h
theorem c6 : ConOK Try.prog 6 con6 := by
  refine conOK_of_exec (inl := noInl) noInl_ok (lp := noLp) (tb := tb6) (c := bodyOf Try.f6) ⟨tt_ok, tbF_ok⟩ mixed Try.func6 (by kernel_rfl) (by kernel_rfl) ?_
  intro dat hpre hwt
  obtain ⟨d0, d1, d2, rfl, w0, w1, w2⟩ := wts3 hwt
  refine Eq.mpr (vc6 d0 d1 d2) ?_
  simp only [ile_t, ile_f, ilt_t, ilt_f, ieq_t, ieq_f, bnot_t, bnot_f, band_t, band_f, true_and, and_true, lenI]
  simp [ieq, sameZ_self]
  omega
theorem c9 : ConOK Try.prog 9 con9 := by
  refine conOK_of_exec (inl := noInl) noInl_ok (lp := noLp) (tb := tb9) (c := bodyOf Try.f9) ⟨tt_ok, tbF_ok⟩ mixed Try.func9 (by kernel_rfl) (by kernel_rfl) ?_
  intro dat hpre hwt
  obtain ⟨d0, d1, rfl, w0, w1⟩ := wts2 hwt
  refine Eq.mpr (vc9 d0 d1) ?_
  simp only [ile_t, ile_f, ilt_t, ilt_f, ieq_t, ieq_f, bnot_t, bnot_f, band_t, band_f, true_and, and_true, lenI]
  simp [ieq, sameZ_self]
  omega
theorem c8 : ConOK Try.prog 8 con8 := by
  refine conOK_of_exec (inl := noInl) noInl_ok (lp := lp8) (tb := tb8) (c := bodyOf Try.f8) ⟨tt_ok, tbF_ok⟩ mixed Try.func8 (by kernel_rfl) (by kernel_rfl) ?_
  intro dat hpre hwt
  obtain ⟨d0, d1, rfl, w0, w1⟩ := wts2 hwt
  refine Eq.mpr (vc8 d0 d1) ?_
  simp only [ile_t, ile_f, ilt_t, ilt_f, ieq_t, ieq_f, bnot_t, bnot_f, band_t, band_f, true_and, and_true, lenI]
  have hbw : ∀ x ∈ d0.l, WT u8 x := (wt_sl w0).2.2
  refine ⟨fun _ => trivial, fun h1 => ⟨fun _ => trivial, fun h2 => ⟨fun _ => trivial, fun h3 => ?_⟩⟩⟩
  obtain ⟨a, ha⟩ : ∃ a : Nat, d1.i = a := ⟨d1.i.toNat, by omega⟩
  rw [ha] at h2 h3 ⊢
  have P1 : (intZ d0.l (a : Int)).e = 0 → partZ d0.l (a : Int) (intZ d0.l (a : Int)).x (putI [] (intZ d0.l (a : Int)).n) = true := fun h => by
    have := intZ_x h
    exact part_ok (by omega) (by omega) (by rw [int_again hbw h]; rfl)
  have P2 : (textZ d0.l (a : Int)).e = 0 → partZ d0.l (a : Int) (textZ d0.l (a : Int)).x (putT [] (textZ d0.l (a : Int)).s) = true := fun h => by
    have := textZ_x h
    exact part_ok (by omega) (by omega) (text_again hbw h)
  have P3 : (frameZ d0.l (a : Int)).e = 0 → partZ d0.l (a : Int) (frameZ d0.l (a : Int)).x (putF [] (frameZ d0.l (a : Int)).k (strD (frameZ d0.l (a : Int)).p)) = true := fun h => by
    have := frameZ_adv h
    exact part_ok (by omega) (by omega) (by rw [frame_again hbw h]; rfl)
  have L2 : (textZ d0.l (a : Int)).e = 0 → (textZ d0.l (a : Int)).s.length ≤ 1000000 := fun h => by
    have := textZ_x h
    rw [this.2.2.2.2.2.2.2, strD_len, xsub_len]; omega
  have L3 : (frameZ d0.l (a : Int)).e = 0 → (frameZ d0.l (a : Int)).p.length ≤ 1000000 := fun h => by
    obtain ⟨h1, h2, h3, h4, h5, h6⟩ := frameZ_x h
    have := textZ_x h3
    rw [h6]
    simp only
    rw [bytesD_len, this.2.2.2.2.2.2.2, strD_len, xsub_len]; omega
  have no : ∀ {p : Bool}, p = true → p = false → False := fun h h' => by rw [h] at h'; cases h'
  have hu : ∃ _ : Unit, True := ⟨(), trivial⟩
  refine ⟨by omega, ⟨fun h => ⟨by simp, by omega, fun h' => no (P1 h) h', fun _ => ⟨(), by simp⟩⟩, fun _ => ⟨(), by simp⟩⟩, fun _ _ => ⟨by omega, ⟨fun h => ⟨⟨by simp, L2 h⟩, by omega, fun h' => no (P2 h) h', fun _ => ⟨(), by simp⟩⟩, fun _ => ⟨(), by simp⟩⟩, fun _ _ => ⟨by omega, ⟨fun h => ⟨⟨by simp, L3 h⟩, by omega, fun h' => no (P3 h) h', fun _ => ⟨(), by simp⟩⟩, fun _ => ⟨(), by simp⟩⟩, fun _ _ => trivial⟩⟩⟩
end Go.Proofs.Ytngjkhnhnaohmaa
