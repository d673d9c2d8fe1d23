/- Part of the proof of the laws of this seat: contracts of its functions, for every input. -/
import Derived.Test.YtngjkhnhnaohmaaWAC
import Derived.Test.YtngjkhnhnaohmaaWX
set_option linter.all false
namespace Go.Proofs.Ytngjkhnhnaohmaa
open Go Go.RX Go.Proofs
set_option maxRecDepth 100000
set_option linter.all false
theorem ei_xset {l : List D} {J j : Nat} {v : Int} (h : j < l.length) : ei (xset l J (.int v)) j = if J = j then v else ei l j := by
  unfold ei
  rw [elt_xset h]
  split <;> rfl
theorem ei_out {l : List D} {j : Nat} (h : l.length ≤ j) : ei l j = 0 := by
  unfold ei elt
  rw [Int.toNat_natCast, List.getD_eq_getElem?_getD, List.getElem?_eq_none h]
  rfl
structure DmgOK (b : List D) (fr n fs M i : Nat) (l : List D) : Prop where
  len : l.length = b.length
  wt : ∀ x ∈ l, WT u8 x
  out : ∀ j, j < fr ∨ fr + n ≤ j → ei l j = ei b j
  val : valX (fun j => (ei b j).toNat ^^^ (ei l j).toNat) (fr + n) = (M % 2 ^ i) * 2 ^ (8 * fr + fs)
theorem dmg_ok {b : List D} (hb : ∀ x ∈ b, WT u8 x) {fr n fs M : Nat} (hfs : fs + 32 ≤ 8 * n) (hn : fr + n ≤ b.length) : ∀ i, i ≤ 32 → DmgOK b fr n fs M i (dmg b fr fs (M : Int) i)
  | 0, _ => ⟨rfl, hb, fun _ _ => rfl, by
    rw [Nat.pow_zero, Nat.mod_one, Nat.zero_mul]
    exact valX_zero fun j _ => Nat.xor_self _⟩
  | i + 1, hi => by
    have ih := dmg_ok hb (M := M) hfs hn i (by omega)
    rw [dmg]
    have hm : ((M : Int) / 2 ^ i % 2 = 1) = (M / 2 ^ i % 2 = 1) := by
      have : (M : Int) / 2 ^ i = ((M / 2 ^ i : Nat) : Int) := by simp
      rw [this]
      apply propext
      omega
    generalize dmg b fr fs (M : Int) i = l at *
    by_cases h : M / 2 ^ i % 2 = 1
    · rw [if_pos (hm.mpr h)]
      have hJ : fr + (fs + i) / 8 < fr + n := by omega
      have hJ2 : 8 * (fr + (fs + i) / 8) + (fs + i) % 8 = 8 * fr + fs + i := by omega
      have ht : (fs + i) % 8 < 8 := Nat.mod_lt _ (by decide)
      generalize fr + (fs + i) / 8 = J at *
      generalize (fs + i) % 8 = t at *
      have hE := hb_of ih.wt J
      have hp : 2 ^ t < 256 := by
        have := Nat.pow_lt_pow_right (a := 2) (by decide) ht
        exact this
      have ev : bits .xor .u8 (ei l J) (2 ^ t) = (((ei l J).toNat ^^^ 2 ^ t : Nat) : Int) := by
        have := u8_xor_nat (ei l J).toNat (2 ^ t) (by omega) hp
        rw [show (((ei l J).toNat : Nat) : Int) = ei l J by omega] at this
        rw [← this]
        simp
      have hx : (ei l J).toNat ^^^ 2 ^ t < 2 ^ 8 := Nat.xor_lt_two_pow (by omega) hp
      rw [ev]
      refine ⟨by rw [xset_len]; exact ih.len, fun x hx2 => ?_, fun j hj => ?_, ?_⟩
      · rcases List.mem_or_eq_of_mem_set hx2 with h3 | rfl
        · exact ih.wt x h3
        · exact ⟨_, rfl, show (0 : Int) ≤ _ by omega, show _ ≤ (255 : Int) by omega⟩
      · by_cases h4 : j < l.length
        · rw [ei_xset h4, if_neg (by omega)]; exact ih.out j hj
        · rw [ei_out (by rw [xset_len]; omega), ← ih.out j hj, ei_out (by omega)]
      · have hu := valX_upd (d := fun j => (ei b j).toNat ^^^ (ei l j).toNat) (d' := fun j => (ei b j).toNat ^^^ (ei (xset l J (.int (((ei l J).toNat ^^^ 2 ^ t : Nat) : Int))) j).toNat) (J := J) (v := 2 ^ t) (fun j => by
          by_cases h4 : j < l.length
          · simp only [ei_xset h4]
            by_cases h5 : J = j
            · subst h5
              rw [if_pos rfl, if_pos rfl, Int.toNat_natCast, Nat.xor_assoc]
            · rw [if_neg h5, if_neg (fun h => h5 h.symm)]
          · have := ih.len
            rw [ei_out (l := xset l J _) (by rw [xset_len]; omega), ei_out (l := l) (by omega), if_neg (by omega)]) (n := fr + n)
        rw [hu, if_pos hJ, ih.val, mod_bit h]
        have e : (M % 2 ^ i ^^^ 2 ^ i) * 2 ^ (8 * fr + fs) = (M % 2 ^ i) * 2 ^ (8 * fr + fs) ^^^ 2 ^ i * 2 ^ (8 * fr + fs) := by
          rw [← Nat.shiftLeft_eq, ← Nat.shiftLeft_eq, ← Nat.shiftLeft_eq, Nat.shiftLeft_xor_distrib]
        rw [e]
        congr 1
        rw [show (256 : Nat) ^ J = 2 ^ (8 * J) by rw [Nat.pow_mul], ← Nat.pow_add, ← Nat.pow_add]
        congr 1
        omega
    · rw [if_neg (fun h2 => h (hm.mp h2))]
      exact ⟨ih.len, ih.wt, ih.out, by rw [ih.val, mod_nobit h]⟩
/-- A frame whose payload is damaged is refused. -/
theorem frame_damage {k : Int} {p : List UInt8} (hp : p.length ≤ 65536) {fs M : Nat} (hfs : fs + 32 ≤ 8 * p.length) (hM : M < 4294967296) (h0 : M ≠ 0) (hw : ∀ x ∈ frF k p, WT u8 x) :
    (frameZ (dmg (frF k p) ((frF k p).length - 4 - p.length) fs (M : Int) 32) 0).e = 8 := by
  have hfl : (frF k p).length = (frB k p).length + 4 := by simp [frF, be4L]
  have hbl : (frB k p).length = 1 + (encB (codeOf (p.length : Int))).length + p.length := by rw [frB_eq, tE_eq]; simp [bytesD_len]; omega
  have hel := @encB_length (codeOf (p.length : Int))
  have hr := code_range (n := (p.length : Int)) (by omega)
  obtain ⟨fr, hfr⟩ : ∃ fr, fr = 1 + (encB (codeOf (p.length : Int))).length := ⟨_, rfl⟩
  have e1 : (frF k p).length - 4 - p.length = fr := by omega
  rw [e1]
  have hD := dmg_ok hw (M := M) (fr := fr) (n := p.length) hfs (by omega) 32 (Nat.le_refl _)
  generalize dmg (frF k p) fr fs (M : Int) 32 = l at *
  have hval := hD.val
  rw [show M % 2 ^ 32 = M by omega] at hval
  have hsplit : frF k p = [D.int (k % 256)] ++ (encB (codeOf (p.length : Int)) ++ (bytesD p ++ be4L (sumZ (frB k p)))) := by
    unfold frF
    rw [frB_eq, tE_eq]
    simp
  have hE : ∀ j, j < (encB (codeOf (p.length : Int))).length → ei l (1 + j) = ei (encB (codeOf (p.length : Int))) j := fun j hj => by
    rw [hD.out _ (.inl (by omega)), hsplit, show 1 + j = [D.int (k % 256)].length + j from rfl, ei_right, ei_left hj]
  have hI : intZ l 1 = ⟨(p.length : Int), ((1 + (encB (codeOf (p.length : Int))).length : Nat) : Int), 0⟩ := by
    have h1 : intZ l ((1 : Nat) : Int) = intA l 1 := intZ_nat (by rw [hD.len]; omega)
    have h2 := int_of (b := l) (a := 1) hr (fun j hj => by rw [hE j (by omega), ei_encB hj]) (by rw [hE _ (by omega), ei_encB_last]) (by rw [hD.len]; omega)
    rw [show (1 : Int) = ((1 : Nat) : Int) from rfl, h1, h2, decZ_codeOf (by omega), hel]
  have hT : (textZ l (0 + 1)).e = 0 ∧ (textZ l (0 + 1)).x = ((fr + p.length : Nat) : Int) := by
    rw [show (0 : Int) + 1 = 1 from rfl]
    unfold textZ
    rw [hI]
    simp only
    have := hD.len
    rw [if_neg (by omega), if_neg (by omega), if_neg (by omega), if_neg (by omega)]
    exact ⟨rfl, by simp only; omega⟩
  have hB : be4 l ((fr + p.length : Nat) : Int) 4 = sumZ (frB k p) := by
    have h1 := be4_L (pre := frB k p) (post := []) (sumZ_range (frB k p))
    rw [List.append_nil] at h1
    rw [← h1]
    have h2 : frB k p ++ be4L (sumZ (frB k p)) = frF k p := rfl
    rw [h2, hbl]
    simp only [be4, Int.toNat_natCast]
    rw [hD.out _ (.inr (by omega)), hD.out _ (.inr (by omega)), hD.out _ (.inr (by omega)), hD.out _ (.inr (by omega)), hfr]
  have hlen : (xsub l 0 ((fr + p.length : Nat) : Int)).length = fr + p.length := by rw [xsub_len, hD.len]; omega
  have hlx : ∀ j, j < fr + p.length → ei (xsub l 0 ((fr + p.length : Nat) : Int)) j = ei l j := fun j hj => by
    have := @ei_xsub l 0 (fr + p.length) j hj
    rw [Nat.zero_add, Nat.zero_add] at this
    exact this
  have hfx : ∀ j, j < fr + p.length → ei (frB k p) j = ei (frF k p) j := fun j hj => by
    show _ = ei (frB k p ++ be4L (sumZ (frB k p))) j
    rw [ei_left (by omega)]
  have hwB : ∀ x ∈ frB k p, WT u8 x := fun x hx => hw x (List.mem_append_left _ hx)
  have hne : sumZ (frB k p) ≠ sumZ (xsub l 0 ((fr + p.length : Nat) : Int)) := by
    refine sumZ_ne (hb_of hwB) (hb_of (xsub_wt hD.wt)) (by rw [hlen]; omega) (fs := 8 * fr + fs) (M := M) ?_ h0 hM (by omega)
    rw [← hval, show (frB k p).length = fr + p.length by omega]
    have hc : ∀ (d d' : Nat → Nat) (n : Nat), (∀ j, j < n → d j = d' j) → valX d n = valX d' n := fun d d' n => by
      induction n with
      | zero => intro _; rfl
      | succ n ih => intro h; rw [valX, valX, ih (fun j hj => h j (by omega)), h n (by omega)]
    exact hc _ _ _ fun j hj => by simp only [hlx j hj, hfx j hj]
  have := hD.len
  unfold frameZ
  rw [hT.2, hT.1, hB]
  rw [if_neg (by omega), if_neg (by omega), if_neg (by omega), if_neg (by omega), if_pos hne]
theorem inZ_none {b : List D} (h : (frameZ b 0).e ≠ 0) : inZ b = ⟨0, 0⟩ := by
  unfold inZ
  rw [inF, if_pos h]
  rfl
theorem frF_wt {k : Int} {p : List UInt8} (hp : p.length ≤ 65536) : ∀ x ∈ frF k p, WT u8 x := fun x hx => by
  have hr := code_range (n := (p.length : Int)) (by omega)
  have u : ∀ n : Int, 0 ≤ n → n ≤ 255 → WT u8 (.int n) := fun n h1 h2 => ⟨n, rfl, h1, h2⟩
  unfold frF at hx
  rw [frB_eq, tE_eq] at hx
  have hs := sumZ_range (D.int (k % 256) :: (encB (codeOf (p.length : Int)) ++ bytesD p))
  generalize sumZ (D.int (k % 256) :: (encB (codeOf (p.length : Int)) ++ bytesD p)) = s at *
  simp only [List.cons_append, List.mem_cons, List.mem_append] at hx
  rcases hx with rfl | (hx | hx) | hx
  · exact u _ (by omega) (by omega)
  · unfold encB encP mkL at hx
    simp only [List.mem_append, List.mem_map, List.mem_range, List.mem_singleton] at hx
    rcases hx with ⟨j, hj, rfl⟩ | rfl
    · exact u _ (by omega) (by omega)
    · have := glen_last hr
      exact u _ (by omega) (by omega)
  · unfold bytesD at hx
    obtain ⟨y, _, rfl⟩ := List.mem_map.1 hx
    exact u _ (by omega) (by have := y.toNat_lt; omega)
  · unfold be4L at hx
    simp only [List.mem_cons, List.not_mem_nil, or_false] at hx
    rcases hx with rfl | rfl | rfl | rfl <;> exact u _ (by omega) (by omega)
end Go.Proofs.Ytngjkhnhnaohmaa
