/- Part of the proof of the laws of this seat: contracts of its functions, for every input. -/
import Derived.Test.YtkjohnjhdfblcaaDoorWO
import Derived.Test.YtkjohnjhdfblcaaDoorWP
set_option linter.all false
namespace Go.Proofs.YtkjohnjhdfblcaaDoor
open Go Go.RX Go.Proofs
set_option maxRecDepth 100000
set_option linter.all false
def askT : Ty := .pair .str (.pair .str (.pair .str (.pair i64 (.pair i64 .unit))))
def moveT : Ty := .pair lawT (.pair li (.pair caseT .unit))
def con18 : Con := lawCon []
def con3 : Con := lawCon [lawT]
def con4 : Con := lawCon [askT]
def con5 : Con := lawCon [moveT, i64]
def con6 : Con := lawCon [caseT, i64]
def con7 : Con := lawCon [moveT, i64, i64]
def con8 : Con := lawCon [moveT, i64]
def con9 : Con := lawCon [caseT, i64]
def tb18 : Tab := fun f => match f with
  | 19 => some con19
  | 21 => some con21
  | 24 => some con24
  | 26 => some con26
  | 28 => some con28
  | 30 => some con30
  | 32 => some con32
  | _ => none
def tb3 : Tab := fun f => match f with
  | 17 => some con17
  | 18 => some con18
  | 19 => some con19
  | 20 => some con20
  | _ => none
def tb4 : Tab := fun f => match f with
  | 18 => some con18
  | 21 => some con21
  | 22 => some con22
  | 23 => some con23
  | _ => none
def tb5 : Tab := fun f => match f with
  | 17 => some con17
  | 18 => some con18
  | 23 => some con23
  | 24 => some con24
  | 25 => some con25
  | 26 => some con26
  | 27 => some con27
  | 28 => some con28
  | 29 => some con29
  | _ => none
def tb6 : Tab := fun f => match f with
  | 17 => some con17
  | 18 => some con18
  | 23 => some con23
  | 30 => some con30
  | 31 => some con31
  | 32 => some con32
  | 33 => some con33
  | _ => none
def tb7 := tb5
def tb8 := tb5
def tb9 : Tab := fun f => match f with
  | 17 => some con17
  | 18 => some con18
  | 23 => some con23
  | 28 => some con28
  | 30 => some con30
  | _ => none
def lp8 : Loops := fun r s => match r with
  | 16 => some ⟨[], Int × Int, fun g => intOf s 11 ≤ g.1 ∧ intOf s 10 ≤ g.2 ∧ g.2 ≤ intOf s 10 + 2147483648 * (g.1 - intOf s 11) ∧ (g.1 ≤ boxI s 48 5 → g.2 + feeS (boxLw s 16) g.1 (boxI s 48 5 - g.1).toNat = intOf s 10 + feeS (boxLw s 16) (intOf s 11) (boxI s 48 5 - intOf s 11).toNat) ∧ (intOf s 11 ≤ boxI s 48 5 → g.1 ≤ boxI s 48 5), fun g => (boxI s 48 5 - g.1).toNat, fun g => frame s [2, 6] [16, 48] [(10, sI g.2), (11, sI g.1)] []⟩
  | _ => none
end Go.Proofs.YtkjohnjhdfblcaaDoor
