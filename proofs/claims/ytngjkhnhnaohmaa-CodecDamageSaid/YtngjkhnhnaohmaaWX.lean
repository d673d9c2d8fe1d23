/- Part of the proof of the laws of this seat: contracts of its functions, for every input. -/
import Derived.Test.YtngjkhnhnaohmaaWT
set_option linter.all false
namespace Go.Proofs.Ytngjkhnhnaohmaa
open Go Go.RX Go.Proofs
set_option maxRecDepth 100000
set_option linter.all false
theorem ei_def {l : List D} {i : Nat} (h : i < l.length) : ei l i = l[i].i := by unfold ei; rw [elt_get h]
theorem ei_right {x y : List D} {j : Nat} : ei (x ++ y) (x.length + j) = ei y j := by
  by_cases h : j < y.length
  · rw [ei_def (by simp; omega), ei_def h]
    congr 1
    rw [List.getElem_append_right (by omega)]
    congr 1
    omega
  · unfold ei elt
    rw [Int.toNat_natCast, Int.toNat_natCast, List.getD_eq_getElem?_getD, List.getD_eq_getElem?_getD, List.getElem?_eq_none (by simp; omega), List.getElem?_eq_none (by omega)]
theorem ei_left {x y : List D} {j : Nat} (h : j < x.length) : ei (x ++ y) j = ei x j := by
  rw [ei_def (by simp; omega), ei_def h]
  congr 1
  exact List.getElem_append_left h
theorem ei_take {x : List D} {j k : Nat} (h : j < k) : ei (x.take k) j = ei x j := by
  unfold ei elt
  rw [Int.toNat_natCast, List.getD_eq_getElem?_getD, List.getD_eq_getElem?_getD, List.getElem?_take_of_lt h]
theorem ei_drop {x : List D} {j k : Nat} : ei (x.drop k) j = ei x (k + j) := by
  unfold ei elt
  rw [Int.toNat_natCast, Int.toNat_natCast, List.getD_eq_getElem?_getD, List.getD_eq_getElem?_getD, List.getElem?_drop]
theorem ei_encP {c : Int} {k j : Nat} (h : j < k) : ei (encP c k) j = c / 128 ^ j % 128 + 128 := by
  unfold ei encP
  rw [elt_mkL h]
  rfl
theorem encB_length {c : Int} : (encB c).length = glen c + 1 := by simp [encB, encP_len]
theorem ei_encB {c : Int} {j : Nat} (h : j < glen c) : ei (encB c) j = c / 128 ^ j % 128 + 128 := by
  unfold encB
  rw [ei_left (by rw [encP_len]; exact h), ei_encP h]
theorem ei_encB_last {c : Int} : ei (encB c) (glen c) = c / 128 ^ glen c := by
  unfold encB
  have := @ei_right (encP c (glen c)) [.int (c / 128 ^ glen c)] 0
  rw [encP_len] at this
  exact this
theorem glen_nine {c : Int} (hc : 0 ≤ c ∧ c ≤ 18446744073709551615) : glen c ≤ 9 ∧ (glen c = 9 → c / 128 ^ 9 ≤ 1) := by
  have h9 : c / 128 ^ 9 ≤ 1 := by omega
  refine ⟨?_, fun _ => h9⟩
  have := @glen_le c
  by_cases e : glen c = 10
  · have := (glen_spec hc (k := 9) (by omega)).2 (by omega)
    omega
  · omega
theorem glen_last {c : Int} (hc : 0 ≤ c ∧ c ≤ 18446744073709551615) : 0 ≤ c / 128 ^ glen c ∧ c / 128 ^ glen c < 128 ∧ (0 < glen c → c / 128 ^ glen c ≠ 0) := by
  have h0 := div_nonneg hc.1 (glen c)
  have h1 := mt (glen_spec hc (k := glen c) (Nat.le_refl _)).1 (by omega)
  refine ⟨h0, by omega, fun h => ?_⟩
  obtain ⟨k, hk⟩ : ∃ k, glen c = k + 1 := ⟨glen c - 1, by omega⟩
  have h2 := (glen_spec hc (k := k) (by omega)).2 (by omega)
  rw [hk, div_pow']
  omega
theorem codeTo_enc {b : List D} {a : Nat} {c : Int} (hc : 0 ≤ c) {n : Nat} (h : ∀ j, j < n → ei b (a + j) % 128 = c / 128 ^ j % 128) : ∀ {i : Nat}, i ≤ n → codeTo b a i = c % 128 ^ i
  | 0, _ => by rw [codeTo, Int.pow_zero, Int.emod_one]
  | i + 1, hi => by
    rw [codeTo, codeTo_enc hc h (i := i) (by omega), h i (by omega), Int.pow_succ]
    have hp : (0 : Int) < 128 ^ i := Int.pow_pos (by decide)
    have e1 := Int.emod_def c (128 ^ i * 128)
    have e2 := Int.emod_def c (128 ^ i)
    have e3 := Int.emod_def (c / 128 ^ i) 128
    have e4 := Int.ediv_ediv_of_nonneg (x := c) (y := 128 ^ i) (z := 128) (Int.le_of_lt hp)
    rw [e1, e2, e3, ← e4, Int.sub_mul, Int.mul_comm (c / 128 ^ i) (128 ^ i), Int.mul_assoc (128 ^ i) 128 _, Int.mul_comm (128 * (c / 128 ^ i / 128)) (128 ^ i)]
    omega
theorem decZ_codeOf {n : Int} (h : -9223372036854775808 ≤ n ∧ n ≤ 9223372036854775807) : decZ (codeOf n) = n := by
  unfold decZ codeOf
  split <;> split <;> omega
theorem codeOf_decZ {c : Int} (h : 0 ≤ c ∧ c ≤ 18446744073709551615) : codeOf (decZ c) = c := by
  unfold decZ codeOf
  split <;> split <;> omega
/-- The encoding of a number is read back. -/
theorem int_of {b : List D} {a : Nat} {c : Int} (hc : 0 ≤ c ∧ c ≤ 18446744073709551615) (h : ∀ j, j < glen c → ei b (a + j) = c / 128 ^ j % 128 + 128) (h2 : ei b (a + glen c) = c / 128 ^ glen c) (hl : a + glen c < b.length) :
    intA b a = ⟨decZ c, ((a + (glen c + 1) : Nat) : Int), 0⟩ := by
  have h9 := glen_nine hc
  have hL := glen_last hc
  have hz : grpTo b a (glen c) = 0 := grpTo_none fun j hj => fun ⟨_, h4⟩ => by
    rw [h j hj] at h4
    have := Int.emod_nonneg (c / 128 ^ j) (b := 128) (by decide)
    omega
  have hg : grpZ b a = glen c + 1 := grpTo_found hz ⟨hl, by rw [h2]; exact hL.2.1⟩ (by omega)
  have hC : codeTo b a (glen c + 1) = c := by
    rw [codeTo_enc hc.1 (n := glen c + 1) (fun j hj => ?_) (Nat.le_refl _)]
    · refine Int.emod_eq_of_lt hc.1 ?_
      have e : c / 128 ^ (glen c + 1) = 0 := by rw [div_pow']; omega
      have hp : (0 : Int) < 128 ^ (glen c + 1) := Int.pow_pos (by decide)
      have := Int.emod_lt_of_pos c hp
      rw [Int.emod_def, e] at this
      omega
    · by_cases e : j = glen c
      · rw [e, h2]
      · rw [h j (by omega)]; omega
  unfold intA
  rw [hg, hC, if_neg (by omega), if_neg]
  rintro (h3 | ⟨h3, h4⟩ | ⟨h3, h4⟩)
  · omega
  · have : glen c = 9 := by omega
    rw [this] at h2 hL
    rw [h2] at h4
    have := h9.2 this
    omega
  · rw [show a + (glen c + 1) - 1 = a + glen c by omega, h2] at h4
    exact hL.2.2 (by omega) h4
theorem intZ_nat {b : List D} {a : Nat} (h : a ≤ b.length) : intZ b (a : Int) = intA b a := by
  unfold intZ
  rw [if_neg (by omega), Int.toNat_natCast]
theorem int_enc {pre post : List D} {c : Int} (hc : 0 ≤ c ∧ c ≤ 18446744073709551615) : intZ (pre ++ (encB c ++ post)) (pre.length : Int) = ⟨decZ c, ((pre.length + (encB c).length : Nat) : Int), 0⟩ := by
  rw [intZ_nat (by simp), encB_length]
  refine int_of hc (fun j hj => ?_) ?_ (by simp [encB_length]; omega)
  · rw [ei_right, ei_left (by rw [encB_length]; omega), ei_encB hj]
  · rw [ei_right, ei_left (by rw [encB_length]; omega), ei_encB_last]
theorem int_short {pre : List D} {c : Int} (hc : 0 ≤ c ∧ c ≤ 18446744073709551615) {k : Nat} (hk : k < (encB c).length) : intZ (pre ++ (encB c).take k) (pre.length : Int) = ⟨0, 0, 7⟩ := by
  rw [intZ_nat (by simp)]
  rw [encB_length] at hk
  have h9 := glen_nine hc
  have hlen : (pre ++ (encB c).take k).length = pre.length + k := by simp [encB_length]; omega
  have hz : grpZ (pre ++ (encB c).take k) pre.length = 0 := grpTo_none fun j hj => fun ⟨h3, h4⟩ => by
    rw [hlen] at h3
    rw [ei_right, ei_take (by omega), ei_encB (by omega)] at h4
    have := Int.emod_nonneg (c / 128 ^ j) (b := 128) (by decide)
    omega
  unfold intA
  rw [hz, hlen, if_pos ⟨rfl, by omega⟩]
theorem xsub_mid {pre m post : List D} : xsub (pre ++ (m ++ post)) (pre.length : Int) ((pre.length : Int) + (m.length : Int)) = m := by
  have : ((pre.length : Int) + (m.length : Int)).toNat = pre.length + m.length := by omega
  unfold xsub
  rw [this, Int.toNat_natCast, ← List.append_assoc, List.take_left' (by simp), List.drop_left' rfl]
theorem strD_bytesD {s : List UInt8} : strD (bytesD s) = s := by
  unfold strD bytesD
  rw [List.map_map]
  conv => rhs; rw [← List.map_id s]
  refine List.map_congr_left fun x _ => ?_
  show UInt8.ofNat (D.int (x.toNat : Int)).i.toNat = x
  simp [D.i]
def tE (s : List UInt8) : List D := putT [] s
theorem tE_eq {s : List UInt8} : tE s = encB (codeOf (s.length : Int)) ++ bytesD s := by
  unfold tE putT putI
  rw [List.nil_append]
theorem text_of {pre : List D} {s : List UInt8} {post : List D} (hs : s.length ≤ 65536) (k : Nat) (hk : k ≤ s.length) : intZ (pre ++ (encB (codeOf (s.length : Int)) ++ post)) (pre.length : Int) = ⟨(s.length : Int), ((pre.length + (encB (codeOf (s.length : Int))).length : Nat) : Int), 0⟩ := by
  rw [int_enc (code_range (by omega)), decZ_codeOf (by omega)]
theorem text_enc {pre post : List D} {s : List UInt8} (hs : s.length ≤ 65536) : textZ (pre ++ (tE s ++ post)) (pre.length : Int) = ⟨s, ((pre.length + (tE s).length : Nat) : Int), 0⟩ := by
  rw [tE_eq, List.append_assoc]
  have hI := text_of (pre := pre) (s := s) (post := bytesD s ++ post) hs s.length (Nat.le_refl _)
  unfold textZ
  rw [hI]
  simp only
  rw [if_neg (by omega), if_neg (by omega), if_neg (by omega), if_neg (by simp [bytesD_len]; omega)]
  have e : xsub (pre ++ (encB (codeOf (s.length : Int)) ++ (bytesD s ++ post))) ((pre.length + (encB (codeOf (s.length : Int))).length : Nat) : Int) (((pre.length + (encB (codeOf (s.length : Int))).length : Nat) : Int) + (s.length : Int)) = bytesD s := by
    have := @xsub_mid (pre ++ encB (codeOf (s.length : Int))) (bytesD s) post
    rw [List.append_assoc, List.length_append, bytesD_len] at this
    exact this
  rw [e, strD_bytesD]
  congr 1
  simp [bytesD_len]; omega
theorem text_short {pre : List D} {s : List UInt8} (hs : s.length ≤ 65536) {k : Nat} (hk : k < (tE s).length) : textZ (pre ++ (tE s).take k) (pre.length : Int) = ⟨[], 0, 7⟩ := by
  have hr := code_range (n := (s.length : Int)) (by omega)
  rw [tE_eq] at hk ⊢
  rw [List.length_append, bytesD_len] at hk
  by_cases h : k < (encB (codeOf (s.length : Int))).length
  · rw [List.take_append_of_le_length (by omega)]
    unfold textZ
    rw [int_short hr h]
    simp
  · rw [List.take_append, List.take_of_length_le (by omega)]
    have hI := text_of (pre := pre) (s := s) (post := (bytesD s).take (k - (encB (codeOf (s.length : Int))).length)) hs s.length (Nat.le_refl _)
    unfold textZ
    rw [hI]
    simp only
    rw [if_neg (by omega), if_neg (by omega), if_neg (by omega), if_pos (by simp [bytesD_len]; omega)]
theorem be4_L {pre post : List D} {s : Int} (h : 0 ≤ s ∧ s ≤ 4294967295) : be4 (pre ++ (be4L s ++ post)) (pre.length : Int) 4 = s := by
  simp only [be4, Int.toNat_natCast]
  rw [ei_right, ei_right, ei_right, ei_right]
  have e0 : ei (be4L s ++ post) 0 = s / 16777216 := rfl
  have e1 : ei (be4L s ++ post) 1 = s / 65536 % 256 := rfl
  have e2 : ei (be4L s ++ post) 2 = s / 256 % 256 := rfl
  have e3 : ei (be4L s ++ post) 3 = s % 256 := rfl
  rw [e0, e1, e2, e3]
  omega
theorem frB_eq {k : Int} {p : List UInt8} : frB k p = .int (k % 256) :: tE p := by
  unfold frB tE putT putI
  rw [List.nil_append]
  simp only [List.cons_append, List.nil_append]
theorem frame_enc {pre post : List D} {k : Int} {p : List UInt8} (hp : p.length ≤ 65536) : frameZ (pre ++ (frF k p ++ post)) (pre.length : Int) = ⟨k % 256, bytesD p, ((pre.length + (frF k p).length : Nat) : Int), 0⟩ := by
  have hT : textZ (pre ++ (frF k p ++ post)) ((pre.length : Int) + 1) = ⟨p, ((pre.length + (frB k p).length : Nat) : Int), 0⟩ := by
    have := @text_enc (pre ++ [.int (k % 256)]) (be4L (sumZ (frB k p)) ++ post) p hp
    have e : pre ++ [.int (k % 256)] ++ (tE p ++ (be4L (sumZ (frB k p)) ++ post)) = pre ++ (frF k p ++ post) := by simp [frF, frB_eq]
    rw [e] at this
    simp only [List.length_append, List.length_cons, List.length_nil] at this
    rw [show ((pre.length : Int) + 1) = ((pre.length + (0 + 1) : Nat) : Int) by omega, this]
    congr 1
    rw [frB_eq]
    simp; omega
  have hx : xsub (pre ++ (frF k p ++ post)) (pre.length : Int) ((pre.length + (frB k p).length : Nat) : Int) = frB k p := by
    have := @xsub_mid pre (frB k p) (be4L (sumZ (frB k p)) ++ post)
    rw [← List.append_assoc (frB k p)] at this
    exact this
  have hb : be4 (pre ++ (frF k p ++ post)) ((pre.length + (frB k p).length : Nat) : Int) 4 = sumZ (frB k p) := by
    have := @be4_L (pre ++ frB k p) post _ (sumZ_range (frB k p))
    rw [List.length_append] at this
    rw [show pre ++ (frF k p ++ post) = pre ++ frB k p ++ (be4L (sumZ (frB k p)) ++ post) by simp [frF]]
    exact this
  have hk : ei (pre ++ (frF k p ++ post)) pre.length = k % 256 := by
    have := @ei_right pre (frF k p ++ post) 0
    exact this
  have hlen : (pre ++ (frF k p ++ post)).length = pre.length + ((frB k p).length + 4) + post.length := by simp [frF, be4L]; omega
  have hfl : (frF k p).length = (frB k p).length + 4 := by simp [frF, be4L]
  have hfb : 1 ≤ (frB k p).length := by rw [frB_eq]; simp
  unfold frameZ
  rw [hT]
  simp only
  rw [hx, hb, hlen, if_neg (by omega), if_neg (by omega), if_neg (by omega), if_neg (by omega), if_neg (by omega), Int.toNat_natCast, hk, hfl]
  congr 1
theorem frame_short {k : Int} {p : List UInt8} (hp : p.length ≤ 65536) {l : Nat} (hl : l < (frF k p).length) : (frameZ ((frF k p).take l) 0).e = 7 := by
  have hfl : (frF k p).length = (tE p).length + 5 := by simp [frF, frB_eq, be4L]
  cases l with
  | zero =>
    rw [List.take_zero]
    unfold frameZ
    rw [if_neg (by simp), if_pos (by simp)]
  | succ l =>
    have e : (frF k p).take (l + 1) = [D.int (k % 256)] ++ (tE p ++ be4L (sumZ (frB k p))).take l := by
      conv => lhs; unfold frF
      rw [frB_eq]
      simp
    rw [e]
    have hlen : ([D.int (k % 256)] ++ (tE p ++ be4L (sumZ (frB k p))).take l).length = l + 1 := by simp [be4L]; omega
    unfold frameZ
    rw [if_neg (by omega), if_neg (by omega)]
    by_cases h : l < (tE p).length
    · have := @text_short [D.int (k % 256)] p hp l h
      rw [List.take_append_of_le_length (by omega), show (0 : Int) + 1 = ([D.int (k % 256)].length : Int) from rfl, this]
      simp
    · have := @text_enc [D.int (k % 256)] ((be4L (sumZ (frB k p))).take (l - (tE p).length)) p hp
      rw [List.take_append, List.take_of_length_le (by omega), show (0 : Int) + 1 = ([D.int (k % 256)].length : Int) from rfl, this]
      simp only
      rw [if_neg (by omega), if_pos]
      simp [be4L]
      omega
end Go.Proofs.Ytngjkhnhnaohmaa
