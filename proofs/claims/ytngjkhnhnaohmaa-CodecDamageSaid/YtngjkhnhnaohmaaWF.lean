/- Part of the proof of the laws of this seat: contracts of its functions, for every input. -/
import Derived.Test.YtngjkhnhnaohmaaWE
set_option linter.all false
namespace Go.Proofs.Ytngjkhnhnaohmaa
open Go Go.RX Go.Proofs
set_option maxRecDepth 100000
set_option linter.all false
def allHi (b : List D) (a i : Nat) : Prop := ∀ j, j < i → 128 ≤ ei b (a + j)
structure FR where
  k : Int
  p : List D
  x : Int
  e : Int
def be4 (b : List D) (a : Int) : Nat → Int
  | 0 => 0
  | i + 1 => 256 * be4 b a i + ei b (a.toNat + i)
def frameZ (b : List D) (a : Int) : FR :=
  if a < 0 ∨ (b.length : Int) < a then ⟨0, [], 0, 2⟩
  else if a = b.length then ⟨0, [], 0, 7⟩
  else if (textZ b (a + 1)).e ≠ 0 then ⟨0, [], 0, (textZ b (a + 1)).e⟩
  else if (b.length : Int) - (textZ b (a + 1)).x < 4 then ⟨0, [], 0, 7⟩
  else if be4 b (textZ b (a + 1)).x 4 ≠ sumZ (xsub b a (textZ b (a + 1)).x) then ⟨0, [], 0, 8⟩
  else ⟨ei b a.toNat, bytesD (textZ b (a + 1)).s, (textZ b (a + 1)).x + 4, 0⟩
def con18 : Con := con19
def con20 : Con := con21
def con26 : Con := ⟨[lb, i64], fun | [b, a] => ⟨b.l.length ≤ 1000000, [vI (frameZ b.l a.i).k, vSl u8 (frameZ b.l a.i).p, vI (frameZ b.l a.i).x, vI (frameZ b.l a.i).e]⟩ | _ => bad⟩
def lp35 : Loops := fun r s => match r with
  | 4 => some ⟨[], Nat, fun i => i ≤ 9 ∧ (boxI s (ptrN s 0) 1).toNat + i ≤ (boxL s (ptrN s 0) 0).length ∧ allHi (boxL s (ptrN s 0) 0) (boxI s (ptrN s 0) 1).toNat i, fun i => 10 - i,
      fun i => frameU s [0] (allU s) (allH s) [(3, sU (codeTo (boxL s (ptrN s 0) 0) (boxI s (ptrN s 0) 1).toNat i)), (4, sI (i : Int))] [(ptrN s 0, .box [.sl u8 (boxL s (ptrN s 0) 0), .int .i64 (boxI s (ptrN s 0) 1 + (i : Int))])]⟩
  | _ => none
def lp38 : Loops := fun r s => match r with
  | 1000002 => some ⟨[], Unit, fun _ => (intZ (boxL s (ptrN s 0) 0) (boxI s (ptrN s 0) 1)).e = 0, fun _ => 0,
      fun _ => frameU s [0] (allU s) (allH s) [(3, sI (intZ (boxL s (ptrN s 0) 0) (boxI s (ptrN s 0) 1)).n)] [(ptrN s 0, .box [.sl u8 (boxL s (ptrN s 0) 0), .int .i64 (intZ (boxL s (ptrN s 0) 0) (boxI s (ptrN s 0) 1)).x])]⟩
  | _ => none
noncomputable def inlR : InlT := fun f => match f with
  | 33 => some ⟨Try.f33, bodyOf Try.f33, noLp⟩
  | 37 => some ⟨Try.f37, bodyOf Try.f37, noLp⟩
  | 39 => some ⟨Try.f39, bodyOf Try.f39, noLp⟩
  | 34 => some ⟨Try.f34, bodyOf Try.f34, noLp⟩
  | 35 => some ⟨Try.f35, bodyOf Try.f35, lp35⟩
  | 38 => some ⟨Try.f38, bodyOf Try.f38, lp38⟩
  | 40 => some ⟨Try.f40, bodyOf Try.f40, noLp⟩
  | _ => none
noncomputable def inl18 := inlR
noncomputable def inl20 := inlR
noncomputable def inl26 := inlR
end Go.Proofs.Ytngjkhnhnaohmaa
