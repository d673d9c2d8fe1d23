/- Part of the proof of the laws of this seat: contracts of its functions, for every input. -/
import Derived.Test.YtngjkhnhnaohmaaWT
import Derived.Test.YtngjkhnhnaohmaaWM
set_option linter.all false
namespace Go.Proofs.Ytngjkhnhnaohmaa
open Go Go.RX Go.Proofs
set_option maxRecDepth 100000
set_option linter.all false
def con6 : Con := lawCon [lb, i64, lb]
def con7 : Con := lawCon [lb, lb, i64, .str, i64]
def con8 : Con := lawCon [lb, i64]
def con9 : Con := lawCon [lb, i64]
def tbF : Tab := fun f => match f with
  | 22 => some con22
  | 23 => some con23
  | 25 => some con25
  | 26 => some con26
  | 27 => some con27
  | 28 => some con28
  | 29 => some con29
  | 30 => some con30
  | 31 => some con31
  | 32 => some con32
  | _ => tbL f
def tb6 := tbF
def tb7 := tbF
def tb8 := tbF
def tb9 := tbF
def lp8 : Loops := fun r s => match r with
  | 1000006 => some ⟨[], Unit, fun _ => True, fun _ => 0, fun _ => frame s [0, 1] [] [] []⟩
  | 1000009 => some ⟨[], Unit, fun _ => True, fun _ => 0, fun _ => frame s [0, 1] [] [] []⟩
  | 1000012 => some ⟨[], Unit, fun _ => True, fun _ => 0, fun _ => frame s [] [] [] []⟩
  | _ => none
end Go.Proofs.Ytngjkhnhnaohmaa
