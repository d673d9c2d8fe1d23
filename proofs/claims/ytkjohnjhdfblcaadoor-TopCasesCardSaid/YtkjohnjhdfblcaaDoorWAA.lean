/- Part of the proof of the laws of this seat: contracts of its functions, for every input. -/
import Derived.Test.YtkjohnjhdfblcaaDoorWY
set_option linter.all false
namespace Go.Proofs.YtkjohnjhdfblcaaDoor
open Go Go.RX Go.Proofs
set_option maxRecDepth 100000
set_option linter.all false
def u16T : Ty := .int .u16
def turnT : Ty := .pair i64 (.pair i64 (.pair i64 .unit))
def con37 : Con := lawCon []
def con46 : Con := lawCon []
def con10 : Con := lawCon [lawT, li, caseT, i64, i64]
def con11 : Con := lawCon [lawT, li, caseT, .bool, i64]
def con12 : Con := lawCon [lawT, li, caseT, i64]
def con13 : Con := lawCon [lawT, li, caseT, i64, i64, u16T]
def con14 : Con := lawCon [lawT, li, caseT, .bool, i64, u16T]
def con15 : Con := lawCon [lawT, li, caseT, i64]
def con16 : Con := lawCon [lawT, li, u16T, .slice turnT]
def tb37 : Tab := fun f => match f with
  | 21 => some con21
  | 24 => some con24
  | 26 => some con26
  | 35 => some con35
  | 38 => some con38
  | 40 => some con40
  | 42 => some con42
  | 44 => some con44
  | 60 => some con60
  | _ => none
def tb46 : Tab := fun f => match f with
  | 21 => some con21
  | 24 => some con24
  | 30 => some con30
  | 35 => some con35
  | 42 => some con42
  | _ => none
def tb10 : Tab := fun f => match f with
  | 34 => some con34
  | 35 => some con35
  | 36 => some con36
  | 37 => some con37
  | _ => none
def tb11 : Tab := fun f => match f with
  | 34 => some con34
  | 37 => some con37
  | 38 => some con38
  | 39 => some con39
  | _ => none
def tb12 : Tab := fun f => match f with
  | 34 => some con34
  | 37 => some con37
  | 40 => some con40
  | 41 => some con41
  | 42 => some con42
  | 43 => some con43
  | 44 => some con44
  | 45 => some con45
  | _ => none
def tb13 : Tab := fun f => match f with
  | 24 => some con24
  | 26 => some con26
  | 28 => some con28
  | 34 => some con34
  | 35 => some con35
  | 37 => some con37
  | 38 => some con38
  | 40 => some con40
  | 42 => some con42
  | _ => none
def tb14 := tb13
def tb15 := tb13
def tb16 : Tab := fun f => match f with
  | 20 => some con20
  | 21 => some con21
  | 24 => some con24
  | 28 => some con28
  | 30 => some con30
  | 32 => some con32
  | 35 => some con35
  | 38 => some con38
  | 42 => some con42
  | 46 => some con46
  | _ => none
def stepOK (k : Int) (x y : Cs) : Prop := x.st ≤ y.st ∧ x.ow ≤ y.ow ∧ x.pa ≤ y.pa ∧ (k = 0 → x.a0 = 1 → y = x) ∧ (openZ x = false → y = x)
def lp16 : Loops := fun r s => match r with
  | 7 => some ⟨[], Nat × Cs, fun g => g.1 ≤ (slOf s 3).length, fun g => (slOf s 3).length - g.1, fun g => frame s [1, 3, 4, 9] [32] [(11, sI (g.1 : Int))] [(72, .box (csC g.2))]⟩
  | 1000025 => some ⟨[], Cs × Int, fun g => g.2 = 0 → stepOK (boxI s 96 0) (boxCs s 72) g.1, fun _ => 0, fun g => frame s [1, 3, 4, 9, 11, 12, 13] [32, 72, 96] [(14, sI g.2)] [(104, .box (csC g.1))]⟩
  | _ => none
end Go.Proofs.YtkjohnjhdfblcaaDoor
