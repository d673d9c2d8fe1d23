/- Part of the proof of the laws of this seat: contracts of its functions, for every input. -/
import Derived.Test.YtngjkhnhnaohmaaWJ
set_option linter.all false
namespace Go.Proofs.Ytngjkhnhnaohmaa
open Go Go.RX Go.Proofs
set_option maxRecDepth 100000
set_option linter.all false
def con17 : Con := lawCon []
def con3 : Con := lawCon [lb, i64, .str]
def con4 : Con := lawCon [lb, i64]
def con5 : Con := lawCon [lb, i64]
def tbA : Tab := fun f => match f with
  | 12 => some con12
  | 13 => some con13
  | 14 => some con14
  | 18 => some con18
  | 20 => some con20
  | 24 => some con24
  | _ => none
def tb17 := tbA
def tbL : Tab := fun f => match f with
  | 11 => some con11
  | 15 => some con15
  | 16 => some con16
  | 17 => some con17
  | 19 => some con19
  | 21 => some con21
  | _ => tbA f
def tb3 := tbL
def tb4 := tbL
def tb5 := tbL
end Go.Proofs.Ytngjkhnhnaohmaa
