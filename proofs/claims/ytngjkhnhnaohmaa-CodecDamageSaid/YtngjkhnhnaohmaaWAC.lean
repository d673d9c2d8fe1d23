/- Part of the proof of the laws of this seat: contracts of its functions, for every input. -/
import Derived.Test.YtngjkhnhnaohmaaWAB
import Derived.Test.YtngjkhnhnaohmaaWY
set_option linter.all false
namespace Go.Proofs.Ytngjkhnhnaohmaa
open Go Go.RX Go.Proofs
set_option maxRecDepth 100000
set_option linter.all false
/-! The checksum over naturals: linear, and one to one. -/
def C1 (x : Nat) : Nat := x / 2 ^^^ (if x % 2 = 1 then 2197175160 else 0)
theorem C1_xor (x y : Nat) : C1 (x ^^^ y) = C1 x ^^^ C1 y := by
  unfold C1
  rw [Nat.xor_div_two]
  have h := Nat.xor_mod_two_eq_one (a := x) (b := y)
  by_cases hx : x % 2 = 1 <;> by_cases hy : y % 2 = 1
  · rw [if_neg (by rw [h]; simp [hx, hy]), if_pos hx, if_pos hy, Nat.xor_zero]
    rw [Nat.xor_assoc, Nat.xor_comm 2197175160 (y / 2 ^^^ 2197175160), Nat.xor_assoc, Nat.xor_self, Nat.xor_zero]
  · rw [if_pos (by rw [h]; simp [hx, hy]), if_pos hx, if_neg hy, Nat.xor_zero]
    rw [Nat.xor_assoc, Nat.xor_comm (y / 2) _, Nat.xor_assoc]
  · rw [if_pos (by rw [h]; simp [hx, hy]), if_neg hx, if_pos hy, Nat.xor_zero, Nat.xor_assoc]
  · rw [if_neg (by rw [h]; simp [hx, hy]), if_neg hx, if_neg hy, Nat.xor_zero, Nat.xor_zero, Nat.xor_zero]
theorem C1_two (x : Nat) : C1 (2 * x) = x := by
  unfold C1
  rw [if_neg (by omega), Nat.xor_zero]
  omega
theorem C1_lt {x : Nat} (h : x < 4294967296) : C1 x < 4294967296 := by
  unfold C1
  have : x / 2 ^^^ (if x % 2 = 1 then 2197175160 else 0) < 2 ^ 32 := Nat.xor_lt_two_pow (by omega) (by split <;> omega)
  omega
theorem C1_pos {x : Nat} (h : x < 4294967296) (h0 : x ≠ 0) : C1 x ≠ 0 := by
  unfold C1
  split
  · intro e
    have e2 : x / 2 = 2197175160 := by
      have : (x / 2 ^^^ 2197175160) ^^^ 2197175160 = 0 ^^^ 2197175160 := by rw [e]
      rw [Nat.xor_assoc, Nat.xor_self, Nat.xor_zero, Nat.zero_xor] at this
      exact this
    omega
  · rw [Nat.xor_zero]; omega
def Ck : Nat → Nat → Nat
  | 0, x => x
  | k + 1, x => C1 (Ck k x)
theorem Ck_xor : ∀ (k x y : Nat), Ck k (x ^^^ y) = Ck k x ^^^ Ck k y
  | 0, _, _ => rfl
  | k + 1, x, y => by rw [Ck, Ck_xor k, C1_xor]; rfl
theorem Ck_mul : ∀ (k x : Nat), Ck k (x * 2 ^ k) = x
  | 0, x => by rw [Ck, Nat.pow_zero, Nat.mul_one]
  | k + 1, x => by rw [Ck, Nat.pow_succ, ← Nat.mul_assoc, Nat.mul_right_comm, Ck_mul k, Nat.mul_comm, C1_two]
theorem Ck_add : ∀ (b a x : Nat), Ck (a + b) x = Ck b (Ck a x)
  | 0, _, _ => rfl
  | b + 1, a, x => by rw [← Nat.add_assoc, Ck, Ck_add b, Ck]
theorem Ck_lt : ∀ {k x : Nat}, x < 4294967296 → Ck k x < 4294967296
  | 0, _, h => h
  | k + 1, _, h => C1_lt (Ck_lt h)
theorem Ck_pos : ∀ {k x : Nat}, x < 4294967296 → x ≠ 0 → Ck k x ≠ 0
  | 0, _, _, h => h
  | k + 1, _, h, h0 => C1_pos (Ck_lt h) (Ck_pos h h0)
def runT (f : Nat → Nat) (r : Nat) : Nat → Nat
  | 0 => r
  | i + 1 => Ck 8 (runT f r i ^^^ f i)
theorem xor_swap (a b c d : Nat) : (a ^^^ b) ^^^ (c ^^^ d) = (a ^^^ c) ^^^ (b ^^^ d) := by
  rw [Nat.xor_assoc, Nat.xor_assoc, ← Nat.xor_assoc b c d, Nat.xor_comm b c, Nat.xor_assoc]
theorem runT_xor (f g : Nat → Nat) (r : Nat) : ∀ i, runT f r i ^^^ runT g r i = runT (fun j => f j ^^^ g j) 0 i
  | 0 => Nat.xor_self r
  | i + 1 => by rw [runT, runT, runT, ← runT_xor f g r i, ← Ck_xor, xor_swap]
def valX (d : Nat → Nat) : Nat → Nat
  | 0 => 0
  | i + 1 => valX d i ^^^ d i * 256 ^ i
theorem Ck_zero : ∀ k, Ck k 0 = 0
  | 0 => rfl
  | k + 1 => by rw [Ck, Ck_zero k]; rfl
theorem runT_val (d : Nat → Nat) : ∀ i, Ck (8 * i) (valX d i) = runT d 0 i
  | 0 => rfl
  | i + 1 => by
    rw [runT, valX, show 8 * (i + 1) = 8 * i + 8 by omega, Ck_add, Ck_xor, runT_val d i, show (256 : Nat) ^ i = 2 ^ (8 * i) by rw [Nat.pow_mul], Ck_mul]
theorem runT_ne {f g : Nat → Nat} {r n fs M : Nat} (hv : valX (fun j => f j ^^^ g j) n = M * 2 ^ fs) (h0 : M ≠ 0) (hM : M < 4294967296) (hfs : fs ≤ 8 * n) : runT f r n ≠ runT g r n := by
  intro e
  have h1 := runT_xor f g r n
  rw [e, Nat.xor_self, ← runT_val, hv, show 8 * n = fs + (8 * n - fs) by omega, Ck_add, Ck_mul] at h1
  exact Ck_pos hM h0 h1.symm
theorem crc1_C {n : Nat} (h : n < 4294967296) : crc1 (n : Int) = (C1 n : Nat) := by
  have e1 : irem (n : Int) 2 = ((n % 2 : Nat) : Int) := by rw [irem_eq (by omega)]; rfl
  have e2 : iquo .u32 (n : Int) 2 = ((n / 2 : Nat) : Int) := by
    unfold iquo
    rw [Int.tdiv_eq_ediv_of_nonneg (by omega), IntKind.wrap_u32]; omega
  unfold crc1 C1
  rw [e1, e2]
  by_cases hx : n % 2 = 1
  · rw [if_pos (by omega), if_pos hx]
    exact u32_xor_nat (n / 2) 2197175160 (by omega) (by decide)
  · rw [if_neg (by omega), if_neg hx, Nat.xor_zero]
theorem crcK_C {n : Nat} (h : n < 4294967296) : ∀ k, crcK (n : Int) k = (Ck k n : Nat)
  | 0 => rfl
  | k + 1 => by rw [crcK, crcK_C h k, crc1_C (Ck_lt h)]; rfl
theorem runT_lt {f : Nat → Nat} {r : Nat} (hf : ∀ j, f j < 256) (hr : r < 4294967296) : ∀ i, runT f r i < 4294967296
  | 0 => hr
  | i + 1 => by
    have h1 := runT_lt hf hr i
    have h2 := hf i
    have : runT f r i ^^^ f i < 2 ^ 32 := Nat.xor_lt_two_pow (by omega) (by omega)
    exact Ck_lt (by omega)
theorem sumTo_run {l : List D} (hb : ∀ j, 0 ≤ ei l j ∧ ei l j ≤ 255) : ∀ i, sumTo l i = ((runT (fun j => (ei l j).toNat) 4294967295 i : Nat) : Int)
  | 0 => rfl
  | i + 1 => by
    have h1 := runT_lt (f := fun j => (ei l j).toNat) (r := 4294967295) (fun j => by have := hb j; omega) (by decide) i
    have h2 := hb i
    rw [sumTo, sumTo_run hb i, runT]
    have e1 : iconv .u32 (ei l i) = (((ei l i).toNat : Nat) : Int) := by unfold iconv; rw [IntKind.wrap_u32]; omega
    rw [e1, u32_xor_nat _ _ h1 (by omega)]
    have : runT (fun j => (ei l j).toNat) 4294967295 i ^^^ (ei l i).toNat < 2 ^ 32 := Nat.xor_lt_two_pow (by omega) (by omega)
    exact crcK_C (by omega) 8
theorem sumZ_run {l : List D} (hb : ∀ j, 0 ≤ ei l j ∧ ei l j ≤ 255) : sumZ l = ((runT (fun j => (ei l j).toNat) 4294967295 l.length ^^^ 4294967295 : Nat) : Int) := by
  have h1 := runT_lt (f := fun j => (ei l j).toNat) (r := 4294967295) (fun j => by have := hb j; omega) (by decide) l.length
  unfold sumZ
  rw [sumTo_run hb]
  have e : bits .xor .u32 ((runT (fun j => (ei l j).toNat) 4294967295 l.length : Nat) : Int) 4294967295 = ((runT (fun j => (ei l j).toNat) 4294967295 l.length ^^^ 4294967295 : Nat) : Int) := u32_xor_nat _ 4294967295 h1 (by decide)
  rw [e]
  have : runT (fun j => (ei l j).toNat) 4294967295 l.length ^^^ 4294967295 < 2 ^ 32 := Nat.xor_lt_two_pow (by omega) (by decide)
  exact iconv_eq (by omega)
theorem sumZ_ne {l m : List D} (hl : ∀ j, 0 ≤ ei l j ∧ ei l j ≤ 255) (hm : ∀ j, 0 ≤ ei m j ∧ ei m j ≤ 255) (h : l.length = m.length) {fs M : Nat}
    (hv : valX (fun j => (ei l j).toNat ^^^ (ei m j).toNat) l.length = M * 2 ^ fs) (h0 : M ≠ 0) (hM : M < 4294967296) (hfs : fs ≤ 8 * l.length) : sumZ l ≠ sumZ m := by
  intro e
  rw [sumZ_run hl, sumZ_run hm, ← h] at e
  have e2 : runT (fun j => (ei l j).toNat) 4294967295 l.length ^^^ 4294967295 = runT (fun j => (ei m j).toNat) 4294967295 l.length ^^^ 4294967295 := by omega
  have e3 := congrArg (fun x => x ^^^ 4294967295) e2
  simp only [Nat.xor_assoc, Nat.xor_self, Nat.xor_zero] at e3
  exact runT_ne hv h0 hM hfs e3
theorem valX_upd {d d' : Nat → Nat} {J v : Nat} (h : ∀ j, d' j = if j = J then d j ^^^ v else d j) : ∀ {n : Nat}, valX d' n = if J < n then valX d n ^^^ v * 256 ^ J else valX d n
  | 0 => by simp [valX]
  | n + 1 => by
    rw [valX, valX, valX_upd h (n := n), h n]
    by_cases e : n = J
    · subst e
      rw [if_neg (by omega), if_pos rfl, if_pos (by omega)]
      have : (d n ^^^ v) * 256 ^ n = d n * 256 ^ n ^^^ v * 256 ^ n := by
        rw [show (256 : Nat) ^ n = 2 ^ (8 * n) by rw [Nat.pow_mul]]
        rw [← Nat.shiftLeft_eq, ← Nat.shiftLeft_eq, ← Nat.shiftLeft_eq, Nat.shiftLeft_xor_distrib]
      rw [this, Nat.xor_assoc]
    · rw [if_neg e]
      by_cases h2 : J < n
      · rw [if_pos h2, if_pos (by omega), Nat.xor_assoc, Nat.xor_comm (v * 256 ^ J), ← Nat.xor_assoc]
      · rw [if_neg h2, if_neg (by omega)]
theorem valX_zero {d : Nat → Nat} : ∀ {n : Nat}, (∀ j, j < n → d j = 0) → valX d n = 0
  | 0, _ => rfl
  | n + 1, h => by rw [valX, valX_zero (fun j hj => h j (by omega)), h n (by omega)]; simp
theorem mod_bit {M i : Nat} (h : M / 2 ^ i % 2 = 1) : M % 2 ^ (i + 1) = M % 2 ^ i ^^^ 2 ^ i := by
  have ht : M.testBit i = true := by rw [Nat.testBit_eq_decide_div_mod_eq]; simp [h]
  apply Nat.eq_of_testBit_eq
  intro j
  rw [Nat.testBit_xor, Nat.testBit_mod_two_pow, Nat.testBit_mod_two_pow, Nat.testBit_two_pow]
  rcases Nat.lt_trichotomy j i with h1 | h1 | h1
  · simp [show j < i + 1 by omega, h1, show ¬ i = j by omega]
  · subst h1; simp [ht]
  · simp [show ¬ j < i + 1 by omega, show ¬ j < i by omega, show ¬ i = j by omega]
theorem mod_nobit {M i : Nat} (h : M / 2 ^ i % 2 ≠ 1) : M % 2 ^ (i + 1) = M % 2 ^ i := by
  have ht : M.testBit i = false := by rw [Nat.testBit_eq_decide_div_mod_eq]; simp; omega
  apply Nat.eq_of_testBit_eq
  intro j
  rw [Nat.testBit_mod_two_pow, Nat.testBit_mod_two_pow]
  rcases Nat.lt_trichotomy j i with h1 | h1 | h1
  · simp [show j < i + 1 by omega, h1]
  · subst h1; simp [ht]
  · simp [show ¬ j < i + 1 by omega, show ¬ j < i by omega]
end Go.Proofs.Ytngjkhnhnaohmaa
