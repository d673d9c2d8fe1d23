/- Part of the proof of the laws of this seat: contracts of its functions, for every input. -/
import Derived.Test.YtngjkhnhnaohmaaWJ
set_option linter.all false
namespace Go.Proofs.Ytngjkhnhnaohmaa
open Go Go.RX Go.Proofs
set_option maxRecDepth 100000
set_option linter.all false
def tb26 : Tab := fun f => match f with
  | 24 => some con24
  | _ => none
def lp26 : Loops := fun r s => match r with
  | 1000005 => some ⟨[], Unit, fun _ => (textZ (boxL s (ptrN s 8) 0) (boxI s (ptrN s 8) 1)).e = 0, fun _ => 0,
      fun _ => frame s [0, 1, 4, 5, 6, 7, 8] [32, 48, 56] [] [(40, .box [.row 168 0]), (168, .row 0 5 u8 (bytesD (textZ (boxL s (ptrN s 8) 0) (boxI s (ptrN s 8) 1)).s)), (ptrN s 8, .box [.sl u8 (boxL s (ptrN s 8) 0), .int .i64 (textZ (boxL s (ptrN s 8) 0) (boxI s (ptrN s 8) 1)).x])]⟩
  | 8 => some ⟨[], Nat, fun i => i ≤ 4 ∧ boxI s (ptrN s 8) 1 + (i : Int) ≤ lenI (boxL s (ptrN s 8) 0), fun i => 4 - i,
      fun i => frame s [4, 5, 6, 7, 8, 9] [32, 40, 48, 56, 168] [(10, sI (be4 (boxL s (ptrN s 8) 0) (boxI s (ptrN s 8) 1) i)), (30, sI (i : Int))] [(ptrN s 8, .box [.sl u8 (boxL s (ptrN s 8) 0), .int .i64 (boxI s (ptrN s 8) 1 + (i : Int))])]⟩
  | _ => none
end Go.Proofs.Ytngjkhnhnaohmaa
