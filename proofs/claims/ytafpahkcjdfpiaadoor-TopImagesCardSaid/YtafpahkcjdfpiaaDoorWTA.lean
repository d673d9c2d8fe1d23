/- Part of the proof of the laws of this seat: contracts of its functions, for every input. -/
import Derived.Test.YtafpahkcjdfpiaaDoorWO
import Derived.Test.YtafpahkcjdfpiaaDoorRxX
set_option linter.all false
namespace Go.RX
def mpN (s : St) (t : Nat) : Nat := match s.slots[t]? with
  | some (.v (.one (.mp h))) => h
  | _ => 0
def mpL (s : St) (h : Nat) : List D := match s.heap.get h with
  | some (.box [.mapc _ xs]) => xs
  | _ => []
end Go.RX
namespace Go.Proofs.YtafpahkcjdfpiaaDoor
open Go Go.RX Go.Proofs
set_option maxRecDepth 100000
set_option linter.all false
def keT : Ty := .pair i64 (.pair i64 (.pair i64 .unit))
def lke : Ty := .slice keT
def li : Ty := .slice i64
def caseB : List UInt8 := [99, 97, 115, 101]
def v1B : List UInt8 := [118, 49]
def seenTo (l : List D) : Nat → List D
  | 0 => []
  | i + 1 => mput (seenTo l i) (ri (elt l (i : Int)) 0) (.bool true)
def ckOne (l : List D) (i : Nat) : Int :=
  if ri (elt l (i : Int)) 0 < 1 ∨ 4 < ri (elt l (i : Int)) 0 then 1
  else if (mgetD .bool (seenTo l i) (ri (elt l (i : Int)) 0)).b = true then 9
  else if (ri (elt l (i : Int)) 1 < 0 ∨ 68719476736 < ri (elt l (i : Int)) 1) ∨ (ri (elt l (i : Int)) 2 < 0 ∨ 68719476736 < ri (elt l (i : Int)) 2) then 12 else 0
def ckZ (l : List D) : Int := if 4 < l.length then 3 else errTo (ckOne l) l.length
def keD (x : D) : D := .agg [.int (ri x 0), .int (ri x 1), .int (ri x 2)]
def imD (x : D) : D := .agg [.str (rs x 0), .int (ri x 1), .int (ri x 2), .list (rl x 3), .int (ri x 4)]
theorem imD_mk {x : D} : D.agg [.str (x.fld 0).s, .int (x.fld 1).i, .int (x.fld 2).i, .list (x.fld 3).l, .int (x.fld 4).i] = imD x := rfl
theorem keD_mk {x : D} : D.agg [.int (x.fld 0).i, .int (x.fld 1).i, .int (x.fld 2).i] = keD x := rfl
def rulTo (l : List D) : Nat → List D
  | 0 => []
  | i + 1 => mput (rulTo l i) (ri (elt l (i : Int)) 0) (keD (elt l (i : Int)))
def untE (m : List D) (im : D) (c : Int) : Int :=
  if timeZ (ri im 1) = false ∨ (c ≠ -1 ∧ timeZ c = false) then 12
  else if mhas m (ri im 2) = false then 10
  else if 0 < (rl im 3).length then 32
  else if c = -1 then 11 else 0
def untD (m : List D) (im : D) (c : Int) : Int :=
  if untE m im c = 0 then imax (iadd .i64 (ri im 1) (ri (mgetD keT m (ri im 2)) 1)) (iadd .i64 c (ri (mgetD keT m (ri im 2)) 2)) else 0
def kpZ (m : List D) (im : D) (c t : Int) : Bool := decide (untE m im c = 32) || (decide (untE m im c = 11) || (decide (untE m im c = 0) && decide (t < untD m im c)))
def purF (m ims cl : List D) (t : Int) (i : Nat) : Int := if kpZ m (elt ims (i : Int)) (ei cl i) t = true then 0 else untE m (elt ims (i : Int)) (ei cl i)
def kepTo (m ims cl : List D) (t : Int) : Nat → List D
  | 0 => []
  | i + 1 => if kpZ m (elt ims (i : Int)) (ei cl i) t = true then xcat (kepTo m ims cl t i) [elt ims (i : Int)] else kepTo m ims cl t i
def gonTo (m ims cl : List D) (t : Int) : Nat → List D
  | 0 => []
  | i + 1 => if kpZ m (elt ims (i : Int)) (ei cl i) t = true then gonTo m ims cl t i else xcat (gonTo m ims cl t i) [.str (rs (elt ims (i : Int)) 0)]
structure Pur where
  k : List D
  g : List D
  e : Int
def purE (l ims cl : List D) (t : Int) : Int :=
  if ckZ l ≠ 0 then ckZ l else if cl.length ≠ ims.length then 1 else if timeZ t = false then 12 else errTo (purF (rulTo l l.length) ims cl t) ims.length
def purZ (l ims cl : List D) (t : Int) : Pur :=
  if purE l ims cl t ≠ 0 then ⟨[], [], purE l ims cl t⟩ else ⟨kepTo (rulTo l l.length) ims cl t ims.length, gonTo (rulTo l l.length) ims cl t ims.length, 0⟩
def idxTo (l : List D) (s : List UInt8) : Nat → Int
  | 0 => -1
  | i + 1 => if 0 ≤ idxTo l s i then idxTo l s i else if (elt l (i : Int)).s = s then i else -1
def idxZ (l : List D) (s : List UInt8) : Int := idxTo l s l.length
def fdTo (l : List D) (s : List UInt8) : Nat → Int
  | 0 => -1
  | i + 1 => if 0 ≤ fdTo l s i then fdTo l s i else if rs (elt l (i : Int)) 0 = s then i else -1
def fdZ (l : List D) (s : List UInt8) : Int := fdTo l s l.length
def picI (i : Im) : Bool := decide (i.id.length ≤ 100) && (decide (i.h.length ≤ 4) && i.h.all fun x => decide (x.length ≤ 100) && decide (x ≠ caseB))
def picZ (l : List Im) : Bool := l.all picI && decide (l.length ≤ 10)
def withH (x : D) (h : List D) : D := .agg [.str (rs x 0), .int (ri x 1), .int (ri x 2), .list h, .int (ri x 4)]
def hdE (l : List D) (id r : List UInt8) : Int :=
  if fdZ l id < 0 then 10 else if 0 ≤ idxZ (rl (elt l (fdZ l id)) 3) r then 9 else if 16 ≤ (rl (elt l (fdZ l id)) 3).length then 3 else 0
def hdL (l : List D) (id r : List UInt8) : List D := if hdE l id r = 0 then xset l (fdZ l id).toNat (withH (elt l (fdZ l id)) (rl (elt l (fdZ l id)) 3 ++ [.str r])) else l
def reE (l : List D) (id r : List UInt8) : Int :=
  if fdZ l id < 0 then 10 else if idxZ (rl (elt l (fdZ l id)) 3) r < 0 then 10 else 0
def reL (l : List D) (id r : List UInt8) : List D := if reE l id r = 0 then xset l (fdZ l id).toNat (withH (elt l (fdZ l id)) ((rl (elt l (fdZ l id)) 3).take ((rl (elt l (fdZ l id)) 3).length - 1))) else l
def fit (l : List D) : Prop := l.length ≤ 100 ∧ ∀ x ∈ l, (rl x 3).length ≤ 100
def con52 : Con := ⟨[i64], fun | [n] => ⟨True, [vB (timeZ n.i)]⟩ | _ => bad⟩
def con51 : Con := ⟨[lke], fun | [l] => ⟨True, [vI (ckZ l.l)]⟩ | _ => bad⟩
def con54 : Con := ⟨[keT, imT, i64], fun | [m, im, c] => ⟨True, [vI (untD m.l im c.i), vI (untE m.l im c.i)]⟩ | _ => bad⟩
def con74 : Con := ⟨[ls], fun | [l] => ⟨l.l.length ≤ 100000, [vSl .str l.l]⟩ | _ => bad⟩
def con55 : Con := ⟨[imT], fun | [i] => ⟨(rl i 3).length ≤ 100000, [.sv (.agg [.str (rs i 0), .int .i64 (ri i 1), .int .i64 (ri i 2), .sl .str (rl i 3), .int .u64 (ri i 4)])]⟩ | _ => bad⟩
def con31 : Con := ⟨[lke, lim, li, i64], fun | [l, ims, cl, t] => ⟨fit ims.l, [vSl imT (purZ l.l ims.l cl.l t.i).k, vSl .str (purZ l.l ims.l cl.l t.i).g, vI (purZ l.l ims.l cl.l t.i).e]⟩ | _ => bad⟩
def con60 : Con := ⟨[ls, .str], fun | [l, s] => ⟨True, [vI (idxZ l.l s.s)]⟩ | _ => bad⟩
def con58 : Con := ⟨[ls, .str], fun | [l, s] => ⟨True, [vB (decide (0 ≤ idxZ l.l s.s))]⟩ | _ => bad⟩
def con29 : Con := ⟨[lim], fun | [l] => ⟨True, [vB (picZ (ims l.l))]⟩ | _ => bad⟩
def con57 : Con := ⟨[lim, .str], fun | [l, s] => ⟨True, [vI (fdZ l.l s.s)]⟩ | _ => bad⟩
def con56 : Con := ⟨[.str], fun | [s] => ⟨s.s = caseB, [.sv (.one .tt)]⟩ | _ => bad⟩
def con32 : Con := ⟨[lim, .str, .str], fun | [l, id, r] => ⟨fit l.l ∧ r.s = caseB, [vSl imT (hdL l.l id.s r.s), vI (hdE l.l id.s r.s)]⟩ | _ => bad⟩
def con33 : Con := ⟨[lim, .str, .str], fun | [l, id, r] => ⟨fit l.l ∧ (reE l.l id.s r.s = 0 → idxZ (rl (elt l.l (fdZ l.l id.s)) 3) r.s + 1 = (rl (elt l.l (fdZ l.l id.s)) 3).length), [vSl imT (reL l.l id.s r.s), vI (reE l.l id.s r.s)]⟩ | _ => bad⟩
def con30 : Con := lawCon []
def con10 : Con := lawCon [lke, lim, li, i64]
def tb55 : Tab := fun f => match f with
  | 74 => some con74
  | _ => none
def tb31 : Tab := fun f => match f with
  | 51 => some con51
  | 52 => some con52
  | 55 => some con55
  | 1000054 => some con54
  | _ => none
def tb58 : Tab := fun f => match f with
  | 60 => some con60
  | _ => none
def tb10 : Tab := fun f => match f with
  | 16 => some con16
  | 21 => some con21
  | 29 => some con29
  | 30 => some con30
  | 31 => some con31
  | 32 => some con32
  | 33 => some con33
  | _ => none
def tb30 : Tab := fun f => match f with
  | 16 => some con16
  | 21 => some con21
  | 31 => some con31
  | 32 => some con32
  | _ => none
def tb32 : Tab := fun f => match f with
  | 56 => some con56
  | 57 => some con57
  | 58 => some con58
  | _ => none
def tb33 : Tab := fun f => match f with
  | 57 => some con57
  | 60 => some con60
  | _ => none
def lp51 : Loops := fun r s => match r with
  | 5 => some ⟨[], Nat, fun i => i ≤ (slOf s 10).length ∧ errTo (ckOne (slOf s 10)) i = 0, fun i => (slOf s 10).length - i, fun i => frame s [3, 10, 11] [] [(12, sI (i : Int))] [(mpN s 3, .box [.mapc .bool (seenTo (slOf s 10) i)])]⟩
  | _ => none
def lp53 : Loops := fun r s => match r with
  | 3 => some ⟨[], Nat, fun i => i ≤ (slOf s 7).length, fun i => (slOf s 7).length - i, fun i => frameU s [3, 7, 8] [1, 2, 3] [] [(9, sI (i : Int))] [(mpN s 3, .box [.mapc keT (rulTo (slOf s 7) i)])]⟩
  | _ => none
noncomputable def inl31 : InlT := fun f => match f with
  | 53 => some ⟨Tryd.f53, bodyOf Tryd.f53, lp53⟩
  | _ => none
def lp31 : Loops := fun r s => match r with
  | 12 => some ⟨[(13, 7000, 25, imT), (14, 7001, 9, .str)], Nat, fun k => k ≤ (slOf s 34).length ∧ errTo (purF (mpL s (mpN s 12)) (slOf s 34) (slOf s 2) (intOf s 3)) k = 0, fun k => (slOf s 34).length - k,
      fun k => frame s [2, 3, 12, 34, 35] [mpN s 12] [(13, sRow 7000), (14, sRow 7001), (36, sI (k : Int))] [(7000, .row 0 25 imT (kepTo (mpL s (mpN s 12)) (slOf s 34) (slOf s 2) (intOf s 3) k)), (7001, .row 0 9 .str (gonTo (mpL s (mpN s 12)) (slOf s 34) (slOf s 2) (intOf s 3) k))]⟩
  | _ => none
def lp60 : Loops := fun r s => match r with
  | 2 => some ⟨[], Nat, fun i => i ≤ (slOf s 0).length ∧ idxTo (slOf s 0) (strOf s 1) i < 0, fun i => (slOf s 0).length - i, fun i => frame s [0, 1, 7] [] [(8, sI (i : Int))] []⟩
  | _ => none
def holdOf (l : List D) (i : Int) : List D := rl (elt l i) 3
def lp29 : Loops := fun r s => match r with
  | 2 => some ⟨[], Nat, fun k => k ≤ (slOf s 0).length ∧ ∀ j, j < k → picI (imOf (elt (slOf s 0) (j : Int))) = true, fun k => (slOf s 0).length - k, fun k => frame s [0] [] [(3, sI (k : Int))] []⟩
  | 7 => some ⟨[], Nat, fun i => i ≤ (holdOf (slOf s 0) (intOf s 3)).length ∧ ∀ j, j < i → (elt (holdOf (slOf s 0) (intOf s 3)) (j : Int)).s.length ≤ 100 ∧ (elt (holdOf (slOf s 0) (intOf s 3)) (j : Int)).s ≠ caseB, fun i => (holdOf (slOf s 0) (intOf s 3)).length - i, fun i => frame s [0, 3] [] [(4, sI (i : Int))] []⟩
  | _ => none
def addC (x : D) : D := withH x (rl x 3 ++ [.str caseB])
def heldTo (l : List D) (k : Nat) : List D := mkL l.length fun i => if i < k then addC (elt l (i : Int)) else elt l (i : Int)
def freeTo (l : List D) (k : Nat) : List D := mkL l.length fun i => if i < k then elt l (i : Int) else addC (elt l (i : Int))
def lp10 : Loops := fun r s => match r with
  | 9 => some ⟨[], Nat, fun k => k ≤ (slOf s 1).length, fun k => (slOf s 1).length - k, fun k => frame s [0, 1, 2, 3, 11, 12] [] [(14, sSl imT (heldTo (slOf s 1) k)), (15, sI (k : Int))] []⟩
  | 21 => some ⟨[], Nat, fun k => k ≤ (slOf s 1).length, fun k => (slOf s 1).length - k, fun k => frame s [0, 1, 2, 3, 11, 12] [] [(23, sSl imT (freeTo (slOf s 1) k)), (24, sI (k : Int))] []⟩
  | 31 => some ⟨[], Nat, fun k => k ≤ (slOf s 11).length, fun k => (slOf s 11).length - k, fun k => frame s [11, 12, 27, 28] [] [(30, sI (k : Int))] []⟩
  | 36 => some ⟨[], Nat, fun k => k ≤ (slOf s 12).length, fun k => (slOf s 12).length - k, fun k => frame s [12, 28] [] [(31, sI (k : Int))] []⟩
  | _ => none
def cut32 : Nat := 10
def cut33 : Nat := 7
end Go.Proofs.YtafpahkcjdfpiaaDoor
namespace Go.RX
open Go.Proofs.YtafpahkcjdfpiaaDoor
def kc32 : List D → St → Prop := fun dat s => match dat with
  | [l, id, r] => cutK 54 [(0, .one (.sl imT l.l)), (2, .one (.str r.s)), (8, .one (.int .i64 (fdZ l.l id.s)))] (hdE l.l id.s r.s = 0) s
  | _ => False
def kc33 : List D → St → Prop := fun dat s => match dat with
  | [l, id, r] => cutK 43 [(0, .one (.sl imT l.l)), (8, .one (.int .i64 (fdZ l.l id.s))), (9, .one (.int .i64 (idxZ (holdOf l.l (fdZ l.l id.s)) r.s)))] (reE l.l id.s r.s = 0) s
  | _ => False
end Go.RX
