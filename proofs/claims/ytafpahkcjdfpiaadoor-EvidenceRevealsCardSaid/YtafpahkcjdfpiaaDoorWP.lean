/- Part of the proof of the laws of this seat: contracts of its functions, for every input. -/
import Derived.Test.YtafpahkcjdfpiaaDoorWO
set_option linter.all false
namespace Go.Proofs.YtafpahkcjdfpiaaDoor
open Go Go.RX Go.Proofs
set_option maxRecDepth 100000
set_option linter.all false
def lastK (ch : List D) (k : Nat) (h : Int) : Int := if 0 < k then ei ch (k - 1) else h
def con12 : Con := lawCon []
def con3 : Con := lawCon [imT]
def con4 : Con := lawCon [.str, lim]
def con5 : Con := lawCon [pkT, imT]
def con6 : Con := lawCon [pkT, pkT]
def con7 : Con := lawCon [.str, lim]
def con8 : Con := lawCon [.str, lim, imT]
def con9 : Con := lawCon [.str, lim, lim]
def tb12 : Tab := fun f => match f with
  | 13 => some con13
  | 16 => some con16
  | 19 => some con19
  | 21 => some con21
  | 24 => some con24
  | 26 => some con26
  | 27 => some con27
  | 34 => some con34
  | 35 => some con35
  | _ => none
def tb3 : Tab := fun f => match f with
  | 11 => some con11
  | 12 => some con12
  | 13 => some con13
  | 14 => some con14
  | _ => none
def tb4 : Tab := fun f => match f with
  | 12 => some con12
  | 15 => some con15
  | 16 => some con16
  | 17 => some con17
  | 18 => some con18
  | _ => none
def tb5 : Tab := fun f => match f with
  | 11 => some con11
  | 12 => some con12
  | 15 => some con15
  | 18 => some con18
  | 19 => some con19
  | 20 => some con20
  | 21 => some con21
  | 22 => some con22
  | _ => none
def tb6 : Tab := fun f => match f with
  | 12 => some con12
  | 15 => some con15
  | 23 => some con23
  | 24 => some con24
  | _ => none
def tb7 : Tab := fun f => match f with
  | 12 => some con12
  | 15 => some con15
  | 16 => some con16
  | 18 => some con18
  | 19 => some con19
  | 21 => some con21
  | _ => none
def tb8 : Tab := fun f => match f with
  | 11 => some con11
  | 12 => some con12
  | 14 => some con14
  | 15 => some con15
  | 16 => some con16
  | 21 => some con21
  | 24 => some con24
  | 25 => some con25
  | 26 => some con26
  | 27 => some con27
  | _ => none
def tb9 : Tab := fun f => match f with
  | 12 => some con12
  | 15 => some con15
  | 16 => some con16
  | 24 => some con24
  | 28 => some con28
  | _ => none
def lp7 : Loops := fun r s => match r with
  | 8 => some ⟨[], Nat, fun k => k ≤ (slOf s 1).length ∧ chE (ims (slOf s 1)) k = 0, fun k => (slOf s 1).length - k, fun k => frame s [1, 5, 6, 7] [40] [(9, sI (k : Int))] [(56, .box [.str (boxS s 56 0), .sl imT (xsub (slOf s 1) 0 (k : Int)), .sl u64 (chZ (boxS s 56 0) (ims (xsub (slOf s 1) 0 (k : Int))))])]⟩
  | _ => none
def lp8 : Loops := fun r s => match r with
  | 1000018 => some ⟨[], Int, fun g => g = lastK (boxL s 56 2) (intOf s 9).toNat (intOf s 12), fun _ => 0, fun g => frame s [0, 1, 5, 7, 9, 11] [40, 56, 88, 624] [(12, sU g)] []⟩
  | 7 => some ⟨[], Nat, fun k => k ≤ (slOf s 1).length, fun k => (slOf s 1).length - k, fun k => frame s [0, 1, 5, 7] [40, 56] [(9, sI (k : Int))] []⟩
  | _ => none
end Go.Proofs.YtafpahkcjdfpiaaDoor
