/- Part of the proof of the laws of this seat: contracts of its functions, for every input. -/
import Derived.Test.YtjncolngfeglkaaWH
set_option linter.all false
namespace Go.Proofs.Ytjncolngfeglkaa
open Go Go.RX Go.Proofs
set_option maxRecDepth 100000
set_option linter.all false
def clT : Ty := .pair u64 (.pair u64 (.pair i64 (.pair i64 (.pair lu .unit))))
def fewTo (l : List D) (i : Nat) : Prop := ∀ j : Nat, j < i → (elt l (j : Int)).l.length ≤ 100
instance (l : List D) (i : Nat) : Decidable (fewTo l i) := inferInstanceAs (Decidable (∀ j : Nat, j < i → (elt l (j : Int)).l.length ≤ 100))
def fewZ (l : List D) : Bool := decide (l.length ≤ 100) && decide (fewTo l l.length)
def con15 : Con := lawCon []
def con26 : Con := ⟨[.slice lb], fun | [l] => ⟨True, [vB (fewZ l.l)]⟩ | _ => bad⟩
def con3 : Con := lawCon [lb, u64, u64]
def con4 : Con := lawCon [lu, i64]
def con5 : Con := lawCon [clT]
def con7 : Con := lawCon [lu, u64]
def con8 : Con := lawCon [lu, lb, u64]
def con9 : Con := lawCon [u64, .slice lb]
def con10 : Con := lawCon [u64, .slice lb, u8]
def tbA : Tab := fun f => match f with
  | 11 => some con11
  | 13 => some con13
  | 16 => some con16
  | 18 => some con18
  | 20 => some con20
  | 21 => some con21
  | 23 => some con23
  | 25 => some con25
  | _ => none
def tb15 := tbA
def tbL : Tab := fun f => match f with
  | 12 => some con12
  | 14 => some con14
  | 15 => some con15
  | 17 => some con17
  | 19 => some con19
  | 22 => some con22
  | 26 => some con26
  | 27 => some con27
  | 28 => some con28
  | _ => tbA f
def tb3 := tbL
def tb4 := tbL
def tb5 := tbL
def tb7 := tbL
def tb8 := tbL
def tb9 := tbL
def tb10 := tbL
def lp26 : Loops := fun r s => match r with
  | 4 => some ⟨[], Nat, fun i => i ≤ (slOf s 0).length ∧ fewTo (slOf s 0) i, fun i => (slOf s 0).length - i, fun i => frame s [0] [] [(3, sI (i : Int))] []⟩
  | _ => none
def lp7 : Loops := fun r s => match r with
  | 5 => some ⟨[], Nat, fun i => i ≤ (slOf s 0).length, fun i => (slOf s 0).length - i, fun i => frame s [0, 1, 5] [] [(6, sI (i : Int))] []⟩
  | _ => none
def xorK (a at' : List D) (i : Nat) : Nat := ((ei at' i).toNat) % a.length
def xorTo (a at' : List D) (by' : Int) : Nat → List D
  | 0 => a
  | i + 1 => xset (xorTo a at' by' i) (xorK a at' i) (.int (bits .xor .u64 (ei (xorTo a at' by' i) (xorK a at' i)) by'))
def lp8 : Loops := fun r s => match r with
  | 5 => some ⟨[], Nat, fun i => i ≤ (slOf s 1).length, fun i => (slOf s 1).length - i, fun i => frame s [0, 1, 2] [] [(7, sRow 224), (8, sI (i : Int))] [(224, .row 0 23 u64 (xorTo (slOf s 0) (slOf s 1) (intOf s 2) i))]⟩
  | 12 => some ⟨[], Nat, fun k => k ≤ hgt (slOf s 0), fun k => hgt (slOf s 0) - k, fun k => frame s [0, 7, 10, 11] [224] [(12, sI (k : Int)), (13, sI (szN (slOf s 0).length k : Int))] []⟩
  | 16 => some ⟨[], Nat, fun i => i ≤ (slOf s 10).length, fun i => (slOf s 10).length - i, fun i => frame s [0, 7, 10, 11, 12] [224] [(14, sI (i : Int))] []⟩
  | _ => none
end Go.Proofs.Ytjncolngfeglkaa
