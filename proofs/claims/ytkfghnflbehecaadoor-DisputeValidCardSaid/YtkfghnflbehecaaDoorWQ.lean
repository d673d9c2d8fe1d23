/- Part of the proof of the laws of this seat: contracts of its functions, for every input. -/
import Derived.Test.YtkfghnflbehecaaDoorWP
set_option linter.all false
namespace Go.Proofs.YtkfghnflbehecaaDoor
open Go Go.RX Go.Proofs
set_option maxRecDepth 100000
set_option linter.all false
def con3 : Con := lawCon [ldi]
def con4 : Con := lawCon [ldi, deedT]
def con5 : Con := lawCon [.slice deedT]
def con6 : Con := lawCon [.slice deedT]
def con7 : Con := lawCon [ldi, deedT]
def tb3 : Tab := fun f => match f with
  | 8 => some con8
  | 9 => some con9
  | 10 => some con10
  | 11 => some con11
  | _ => none
def tb4 : Tab := fun f => match f with
  | 8 => some con8
  | 9 => some con9
  | 12 => some con12
  | 13 => some con13
  | 14 => some con14
  | _ => none
def tb5 : Tab := fun f => match f with
  | 9 => some con9
  | 12 => some con12
  | 13 => some con13
  | 14 => some con14
  | _ => none
def tb6 : Tab := fun f => match f with
  | 9 => some con9
  | 12 => some con12
  | 14 => some con14
  | _ => none
def tb7 : Tab := fun f => match f with
  | 8 => some con8
  | 9 => some con9
  | 10 => some con10
  | 12 => some con12
  | 14 => some con14
  | _ => none
def plTo (ds : List D) : Nat → List D
  | 0 => []
  | i + 1 => (doZ (plTo ds i) (ddOf (elt ds (i : Int)))).l
def crTo (ds : List D) : Nat → Int
  | 0 => 0
  | i + 1 => iadd .i64 (crTo ds i) (doZ (plTo ds i) (ddOf (elt ds (i : Int)))).n
def acTo (l : List D) : Nat → Int
  | 0 => 0
  | i + 1 => if ((elt l (i : Int)).fld 3).i = 2 then iadd .i64 (acTo l i) ((elt l (i : Int)).fld 2).i else acTo l i
def lp5 : Loops := fun r s => match r with
  | 3 => some ⟨[], Nat, fun i => i ≤ (slOf s 15).length, fun i => (slOf s 15).length - i, fun i => frame s [15, 16] [] [(3, sSl disT (plTo (slOf s 15) i)), (4, sSl disT (plTo (slOf s 15) i)), (17, sI (i : Int))] []⟩
  | _ => none
def lp6 : Loops := fun r s => match r with
  | 4 => some ⟨[], Nat, fun i => i ≤ (slOf s 18).length, fun i => (slOf s 18).length - i, fun i => frame s [18, 19] [] [(3, sSl disT (plTo (slOf s 18) i)), (4, sI (crTo (slOf s 18) i)), (20, sI (i : Int))] []⟩
  | 11 => some ⟨[], Nat, fun k => k ≤ (slOf s 3).length, fun k => (slOf s 3).length - k, fun k => frame s [3, 4, 7, 18, 19, 20, 48] [] [(49, sI (k : Int))] []⟩
  | 20 => some ⟨[], Nat, fun i => i ≤ (slOf s 75).length, fun i => (slOf s 75).length - i, fun i => frame s [4, 75, 76] [] [(11, sI (acTo (slOf s 75) i)), (77, sI (i : Int))] []⟩
  | _ => none
def lp7 : Loops := fun r s => match r with
  | 7 => some ⟨[], Nat, fun i => i ≤ (slOf s 0).length, fun i => (slOf s 0).length - i, fun i => frame s [0, 3, 5, 53] [24] [(54, sI (i : Int))] []⟩
  | _ => none
theorem ddOf_eta (d : D) : ddOf (.agg [.int (d.fld 0).i, .str (d.fld 1).s, .str (d.fld 2).s, .int (d.fld 3).i, .int (d.fld 4).i, .bool (d.fld 5).b]) = ddOf d := rfl
end Go.Proofs.YtkfghnflbehecaaDoor
