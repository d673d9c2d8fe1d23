/- Part of the proof of the laws of this seat: contracts of its functions, for every input. -/
import Derived.Test.YtkjohnjhdfblcaaDoorWA
import Derived.Test.YtkjohnjhdfblcaaDoorRxV
import Derived.WalkKit
import Derived.LoopTactic
import Derived.Maps.OwnSet
set_option linter.all false
namespace Go.Proofs.YtkjohnjhdfblcaaDoor
open Go Go.RX Go.Proofs Go.RowKit
set_option linter.all false
def dg (b : UInt8) : Bool := decide (48 ≤ b.toNat) && decide (b.toNat ≤ 57)
def dgAll (s : List UInt8) : Bool := s.all dg
theorem width_pos (s : ByteArray) (pos : Nat) (h : pos < s.size) : 1 ≤ (Utf8.decode s pos).2 := by
  by_cases ha : (s[pos]'h).toNat < 128
  · rw [decode_ascii s pos h ha]
    exact Nat.le_refl _
  · exact (decode_high s pos h (by omega)).2
theorem dec_digit {s : ByteArray} {pos : Nat} (h : pos < s.size) (hd : dg (s[pos]'h) = true) : Utf8.decode s pos = ((s[pos]'h).toNat, 1) ∧ 48 ≤ (Utf8.decode s pos).1 ∧ (Utf8.decode s pos).1 ≤ 57 := by
  simp only [dg, Bool.and_eq_true, decide_eq_true_eq] at hd
  rw [decode_ascii s pos h (by omega)]
  exact ⟨rfl, hd⟩
theorem dec_other {s : ByteArray} {pos : Nat} (h : pos < s.size) (hd : dg (s[pos]'h) = false) : (Utf8.decode s pos).1 < 48 ∨ 57 < (Utf8.decode s pos).1 := by
  by_cases ha : (s[pos]'h).toNat < 128
  · rw [decode_ascii s pos h ha]
    simp only [dg, Bool.and_eq_false_iff, decide_eq_false_iff_not] at hd
    show (s[pos]'h).toNat < 48 ∨ 57 < (s[pos]'h).toNat
    omega
  · have := (decode_high s pos h (by omega)).1
    omega
def DgTo (s : ByteArray) (pos : Nat) : Prop := ∀ j (h : j < s.size), j < pos → dg (s[j]'h) = true
theorem dgAll_no {s : ByteArray} {pos : Nat} (h : pos < s.size) (hd : dg (s[pos]'h) = false) : dgAll s.data.toList = false := by
  unfold dgAll
  rw [List.all_eq_false]
  refine ⟨s[pos]'h, ?_, by simp [hd]⟩
  exact Array.getElem_mem_toList h
theorem dgAll_yes {s : ByteArray} {pos : Nat} (h : ¬ pos < s.size) (hd : DgTo s pos) : dgAll s.data.toList = true := by
  unfold dgAll
  rw [List.all_eq_true]
  intro x hx
  obtain ⟨j, hj, rfl⟩ := List.getElem_of_mem hx
  have hj' : j < s.size := by simpa using hj
  exact hd j hj' (by omega)
theorem dgTo_next {s : ByteArray} {pos : Nat} (h : pos < s.size) (hd : dg (s[pos]'h) = true) (ht : DgTo s pos) : DgTo s (pos + 1) := fun j hj hlt => by
  by_cases e : j = pos
  · subst e; exact hd
  · exact ht j hj (by omega)
set_option maxRecDepth 1000000 in
theorem walk63 (s : ByteArray) (n : Int) (w : World) :
    Calls Tryd.prog 63 #[.string s, .int .i64 n] w fun e w' => e = .returned (.bool (dgAll s.data.toList && decide ((s.size : Int) = n))) ∧ ∃ pos, w' = w.iter s pos := by
  go_enter Tryd.func63, Tryd.ntmps63
  go_wp2
  go_loopw [4] (fun v w' => v = .bool false ∧ ∃ pos : Nat, w' = w.iter s pos ∧ DgTo s pos) (fun _ w' => s.size - w'.iterPos w.heap.size)
  case atStart => exact ⟨rfl, 0, rfl, fun j _ h => by omega⟩
  case round =>
    obtain ⟨rfl, pos, rfl, hd⟩ := hrel
    by_cases hp : pos < s.size
    · have hnx : ∀ ty, (Instr.next (.pointer (some ⟨w.heap.size, 0, none⟩)) true ty).run Tryd.prog (w.iter s pos) = _ := fun ty => run_next_any w s pos ty hp
      cases hb : dg (s[pos]'hp) with
      | true =>
        obtain ⟨h1, h2, h3⟩ := dec_digit hp hb
        rw [h1] at hnx h2 h3
        go_wp2
        go_roundw
        case rel => exact ⟨rfl, pos + 1, rfl, dgTo_next hp hb hd⟩
        case measure => simp; omega
      | false =>
        have h1 := dec_other hp hb
        have hwd := width_pos s pos hp
        go_wp2
        all_goals
          go_ret
          exact ⟨by rw [dgAll_no hp hb]; rfl, _, rfl⟩
    · have hnx : ∀ ty, (Instr.next (.pointer (some ⟨w.heap.size, 0, none⟩)) true ty).run Tryd.prog (w.iter s pos) = _ := fun ty => run_next_end w s pos ty hp
      go_wp2
      go_ret
      refine ⟨?_, pos, rfl⟩
      rw [dgAll_yes hp hd]
      simp
      exact Bool.eq_iff_iff.2 (by simp)
/-- A digit's part in the sum. -/
def luD (c : Int) (i : Nat) : Int := if i % 2 = 0 then (if 9 < 2 * (c - 48) then 2 * (c - 48) - 9 else 2 * (c - 48)) else c - 48
def luTo (s : List UInt8) : Nat → Int
  | 0 => 0
  | i + 1 => luTo s i + luD (sget s (i : Int)) i
theorem dgAll_at {s : ByteArray} (h : dgAll s.data.toList = true) {pos : Nat} (hp : pos < s.size) : dg (s[pos]'hp) = true := by
  unfold dgAll at h
  rw [List.all_eq_true] at h
  exact h _ (Array.getElem_mem_toList hp)
theorem sget_at {s : ByteArray} {pos : Nat} (hp : pos < s.size) : sget s.data.toList (pos : Int) = ((s[pos]'hp).toNat : Int) := by
  unfold sget
  rw [Int.toNat_natCast, List.getD_eq_getElem?_getD, List.getElem?_eq_getElem (by simpa using hp)]
  rfl
theorem luTo_range {s : ByteArray} (h : dgAll s.data.toList = true) : ∀ {i : Nat}, i ≤ s.size → 0 ≤ luTo s.data.toList i ∧ luTo s.data.toList i ≤ 9 * i
  | 0, _ => by simp [luTo]
  | i + 1, hi => by
    have ih := luTo_range h (i := i) (by omega)
    have hd := dgAll_at h (pos := i) (by omega)
    simp only [dg, Bool.and_eq_true, decide_eq_true_eq] at hd
    rw [luTo, sget_at (by omega)]
    unfold luD
    split <;> (try split) <;> omega
set_option maxRecDepth 1000000 in
theorem walk64 (s : ByteArray) (w : World) (hs : s.size ≤ 1000) (hall : dgAll s.data.toList = true) :
    Calls Tryd.prog 64 #[.string s] w fun e w' => e = .returned (.int .i64 (luTo s.data.toList s.size)) ∧ ∃ pos, w' = w.iter s pos := by
  go_enter Tryd.func64, Tryd.ntmps64
  go_wp2
  go_loopw [3] (fun v w' => ∃ pos : Nat, pos ≤ s.size ∧ v = .int .i64 (luTo s.data.toList pos) ∧ w' = w.iter s pos) (fun _ w' => s.size - w'.iterPos w.heap.size)
  case atStart => exact ⟨0, by omega, rfl, rfl⟩
  case round =>
    obtain ⟨pos, hle, rfl, rfl⟩ := hrel
    by_cases hp : pos < s.size
    · have hnx : ∀ ty, (Instr.next (.pointer (some ⟨w.heap.size, 0, none⟩)) true ty).run Tryd.prog (w.iter s pos) = _ := fun ty => run_next_any w s pos ty hp
      have hb := dgAll_at hall hp
      obtain ⟨h1, h2, h3⟩ := dec_digit hp hb
      have hR := luTo_range hall hle
      have hN : luTo s.data.toList (pos + 1) = luTo s.data.toList pos + luD (((s[pos]'hp).toNat : Nat) : Int) pos := by rw [luTo, sget_at hp]
      rw [h1] at hnx h2 h3
      simp only at h2 h3
      go_wp2
      all_goals go_roundw
      all_goals first
        | (simp; omega)
        | (refine ⟨pos + 1, by omega, ?_, rfl⟩
           rw [hN]
           unfold luD
           refine congrArg (Value.int .i64) ?_
           simp only [beq_iff_eq, beq_eq_false_iff_ne] at *
           split <;> (try split) <;> omega)
    · have hnx : ∀ ty, (Instr.next (.pointer (some ⟨w.heap.size, 0, none⟩)) true ty).run Tryd.prog (w.iter s pos) = _ := fun ty => run_next_end w s pos ty hp
      go_wp2
      go_ret
      obtain rfl : pos = s.size := by omega
      exact ⟨rfl, _, rfl⟩
end Go.Proofs.YtkjohnjhdfblcaaDoor
