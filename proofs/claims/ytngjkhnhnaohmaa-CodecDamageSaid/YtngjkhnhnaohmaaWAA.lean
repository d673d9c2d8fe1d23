/- Part of the proof of the laws of this seat: contracts of its functions, for every input. -/
import Derived.Test.YtngjkhnhnaohmaaWZ
set_option linter.all false
namespace Go.Proofs.Ytngjkhnhnaohmaa
open Go Go.RX Go.Proofs
set_option maxRecDepth 100000
set_option linter.all false
/-- The bytes after the first i bits of a mask m have been inverted, from bit fs on of the bytes from fr on. -/
def dmg (b : List D) (fr fs : Nat) (m : Int) : Nat → List D
  | 0 => b
  | i + 1 => if m / 2 ^ i % 2 = 1 then xset (dmg b fr fs m i) (fr + (fs + i) / 8) (.int (bits .xor .u8 (ei (dmg b fr fs m i) (fr + (fs + i) / 8)) (2 ^ ((fs + i) % 8)))) else dmg b fr fs m i
def con10 : Con := lawCon [i64, lb, .int .u16, .int .u32]
def tb10 := tbF
def lp10 : Loops := fun r s => match r with
  | 10 => some ⟨[], Nat, fun i => i ≤ 32, fun i => 32 - i, fun i => frame s [9, 10, 11] [] [(12, sU32 (intOf s 12 / 2 ^ i)), (13, sI (i : Int))] [(rowN s 9, .row 0 5 u8 (dmg (rowL s (rowN s 9)) (intOf s 10).toNat (intOf s 11).toNat (intOf s 12) i))]⟩
  | _ => none
end Go.Proofs.Ytngjkhnhnaohmaa
