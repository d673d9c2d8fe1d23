/- Part of the proof of the laws of this seat: contracts of its functions, for every input. -/
import Derived.Test.YtafpahkcjdfpiaaDoorWL
set_option linter.all false
namespace Go.Proofs.YtafpahkcjdfpiaaDoor
open Go Go.RX Go.Proofs
set_option maxRecDepth 100000
set_option linter.all false
structure PkE where
  c : List UInt8
  im : List D
  ch : List D
  e : Int
def bldZ (id : List UInt8) (l : List D) : PkE := if bldE id (ims l) ≠ 0 then ⟨[], [], [], bldE id (ims l)⟩ else ⟨id, l, chZ id (ims l), 0⟩
def addZ (c : List UInt8) (l : List D) (ch : List D) (i : D) : PkE :=
  if addE c (ims l) ch (imOf i) ≠ 0 then ⟨c, l, ch, addE c (ims l) ch (imOf i)⟩ else ⟨c, xcat l [i], chZ c (ims (xcat l [i])), 0⟩
def lastC (ch : List D) (h : Int) : Int := if 0 < ch.length then ei ch (ch.length - 1) else h
def con16 : Con := ⟨[.str, lim], fun | [c, l] => ⟨smL (ims l.l), [.sv (.agg [.str (bldZ c.s l.l).c, .sl imT (bldZ c.s l.l).im, .sl u64 (bldZ c.s l.l).ch]), vI (bldZ c.s l.l).e]⟩ | _ => bad⟩
def con17 : Con := con16
def con19 : Con := ⟨[pkT, imT], fun | [p, i] => ⟨smL (ims (rl p 1)) ∧ smI (imOf i) ∧ (rl p 1).length ≤ 90 ∧ (rl p 2).length ≤ 1000, [.sv (.agg [.str (addZ (rs p 0) (rl p 1) (rl p 2) i).c, .sl imT (addZ (rs p 0) (rl p 1) (rl p 2) i).im, .sl u64 (addZ (rs p 0) (rl p 1) (rl p 2) i).ch]), vI (addZ (rs p 0) (rl p 1) (rl p 2) i).e]⟩ | _ => bad⟩
def con20 : Con := con19
def tb16 : Tab := fun f => match f with
  | 38 => some con38
  | 39 => some con39
  | 40 => some con40
  | 41 => some con41
  | 42 => some con42
  | _ => none
def tb17 : Tab := fun f => match f with
  | 43 => some con43
  | 44 => some con44
  | 45 => some con45
  | _ => none
def tb19 : Tab := fun f => match f with
  | 13 => some con13
  | 21 => some con21
  | 36 => some con36
  | 39 => some con39
  | 40 => some con40
  | 41 => some con41
  | 46 => some con46
  | _ => none
def tb20 : Tab := fun f => match f with
  | 22 => some con22
  | 44 => some con44
  | 45 => some con45
  | _ => none
def lp16 : Loops := fun r s => match r with
  | 6 => some ⟨[], Nat, fun k => k ≤ (slOf s 17).length ∧ chE (ims (slOf s 17)) k = 0, fun k => (slOf s 17).length - k, fun k => frame s [0, 1, 4, 17, 18] [32] [(19, sI (k : Int))] []⟩
  | _ => none
def lp17 : Loops := fun r s => match r with
  | 6 => some ⟨[], Nat, fun k => k ≤ (slOf s 1).length ∧ chE (ims (slOf s 1)) k = 0, fun k => (slOf s 1).length - k, fun k => frame s [0, 1, 4] [32] [(6, sI (k : Int))] []⟩
  | _ => none
def lp19 : Loops := fun r s => match r with
  | 1000014 => some ⟨[], Int, fun g => g = lastC (boxL s 16 2) (intOf s 7), fun _ => 0, fun g => frame s [2, 3, 4] [16, 24, 32] [(7, sU g)] []⟩
  | _ => none
def lp20 : Loops := fun r s => match r with
  | 1000011 => some ⟨[(7, 0, 0, .unit)], List D, fun g => g = xcat (boxL s 16 1) [.agg [.str (boxS s 24 0), .int (boxI s 24 1), .int (boxI s 24 2), .list (boxL s 24 3), .int (boxI s 24 4)]], fun _ => 0, fun g => frame s [2, 3, 4] [16, 24, 32] [(7, sSl imT g)] []⟩
  | _ => none
end Go.Proofs.YtafpahkcjdfpiaaDoor
