/- Part of the proof of the laws of this seat: contracts of its functions, for every input. -/
import Derived.Test.YtoabcfpmjhjmfaaWF
set_option linter.all false
namespace Go.Proofs.Ytoabcfpmjhjmfaa
open Go Go.RX Go.Proofs
set_option maxRecDepth 100000
set_option linter.all false
def tbA : Tab := fun f => match f with
  | 10 => some con10
  | 12 => some con12
  | 13 => some con13
  | 14 => some con14
  | 15 => some con15
  | 16 => some con16
  | 17 => some con17
  | 18 => some con18
  | 19 => some con19
  | 20 => some con20
  | 21 => some con21
  | 22 => some con22
  | 23 => some con23
  | 24 => some con24
  | _ => none
def con11 : Con := lawCon []
def tb11 := tbA
def tbL : Tab := fun f => match f with
  | 11 => some con11
  | f => tbA f
def rgT : Ty := .pair i64 (.pair i64 .unit)
def mvT : Ty := .pair i64 (.pair i64 (.pair i64 (.pair i64 .unit)))
def con3 : Con := lawCon [scT, i64]
def con4 : Con := lawCon [scT, li, i64, i64]
def con5 : Con := lawCon [scT, li, rgT]
def con6 : Con := lawCon [scT, li, i64]
def con7 : Con := lawCon [scT, mvT]
def con8 : Con := lawCon [scT, li, i64]
def con9 : Con := lawCon [scT, li, i64, i64]
def tb3 := tbL
def tb4 := tbL
def tb5 := tbL
def tb6 := tbL
def tb7 := tbL
def tb8 := tbL
def tb9 := tbL
def lp8 : Loops := fun r s => match r with
  | 7 => some ⟨[], Nat, fun k => 1 ≤ k ∧ (k ≤ (slOf s 7).length ∨ k = 1), fun k => (slOf s 7).length - k, fun k => frame s [1, 2, 3, 7] [24] [(8, sI (k : Int))] []⟩
  | _ => none
def befTo (times : List D) (b : Int) : Nat → List D
  | 0 => []
  | i + 1 => if ei times i < b then xcat (befTo times b i) [.int (ei times i)] else befTo times b i
def inTo (p : Int) (times : List D) (b : Int) : Nat → Nat
  | 0 => 0
  | i + 1 => if b ≤ ei times i ∧ ei times i < b + 7 * p then inTo p times b i + 1 else inTo p times b i
def sumZ (l : List D) : Nat → Int
  | 0 => 0
  | i + 1 => sumZ l i + ei l i
def lp9 : Loops := fun r s => match r with
  | 8 => some ⟨[(10, 2000, 3, i64)], Nat, fun i => i ≤ (slOf s 67).length, fun i => (slOf s 67).length - i,
      fun i => frame s [1, 2, 4, 9, 11, 67, 68] [32, 408] [(10, .v (.one (.row 2000 0))), (12, sI (inTo (boxI s 32 0) (slOf s 67) (intOf s 11) i : Int)), (69, sI (i : Int))]
        [(2000, .row 0 3 i64 (befTo (slOf s 67) (intOf s 11) i))]⟩
  | 18 => some ⟨[], Nat, fun i => i ≤ (slOf s 99).length, fun i => (slOf s 99).length - i,
      fun i => frame s [1, 2, 4, 9, 10, 11, 12, 15, 99, 100] [32, 408, 2000] [(16, sI (sumZ (slOf s 99) i)), (101, sI (i : Int))] []⟩
  | _ => none
end Go.Proofs.Ytoabcfpmjhjmfaa
