/- Part of the proof of the laws of this seat: contracts of its functions, for every input. -/
import Derived.Test.YtkfghnflbehecaaDoorWL
import Derived.Test.YtkfghnflbehecaaDoorRxX
set_option linter.all false
namespace Go.Proofs.YtkfghnflbehecaaDoor
open Go Go.RX Go.Proofs
set_option maxRecDepth 100000
set_option linter.all false
def okC (b : UInt8) : Bool := decide (32 ≤ b.toNat) && decide (b.toNat ≤ 126)
def oneZ (s : List UInt8) : Bool := decide (1 ≤ s.length) && (decide (s.length ≤ 512) && s.all fun b => decide (33 ≤ b.toNat) && decide (b.toNat ≤ 126))
def refZ (s : List UInt8) : Bool := oneZ s && decide (s.length ≤ 64)
structure FL where
  l : List D
  e : Int
def fieldsZ (s : List UInt8) : FL :=
  if 512 < s.length then ⟨[], 4⟩
  else if s = [] then ⟨[], 0⟩
  else if s.all okC = false then ⟨[], 5⟩
  else if (splitD s).all (fun d => decide (d.s ≠ [])) = false then ⟨[], 5⟩
  else ⟨splitD s, 0⟩
def con36 : Con := ⟨[.str], fun | [s] => ⟨True, [vSl .str (fieldsZ s.s).l, vI (fieldsZ s.s).e]⟩ | _ => bad⟩
def con19 : Con := ⟨[.str], fun | [s] => ⟨True, [vB (refZ s.s)]⟩ | _ => bad⟩
def con22 : Con := con19
def tb36 : Tab := fun f => match f with
  | 47 => some con47
  | _ => none
def tb19 : Tab := fun f => match f with
  | 36 => some con36
  | _ => none
def lp36 : Loops := fun r s => match r with
  | 6 => some ⟨[], Nat, fun i => i ≤ (strOf s 0).length ∧ ∀ j, j < i → 32 ≤ sget (strOf s 0) (j : Int) ∧ sget (strOf s 0) (j : Int) ≤ 126, fun i => (strOf s 0).length - i, fun i => frame s [0, 14] [] [(15, sI (i : Int))] []⟩
  | 13 => some ⟨[], Nat, fun i => i ≤ (rowL s 241).length ∧ ∀ j, j < i → (elt (rowL s 241) (j : Int)).s ≠ [], fun i => (rowL s 241).length - i, fun i => frame s [5, 31, 32] [241] [(33, sI (i : Int))] []⟩
  | _ => none
def lp22 : Loops := fun r s => match r with
  | 2 => some ⟨[], Nat, fun i => i ≤ (strOf s 0).length ∧ ∀ j, j < i → 33 ≤ sget (strOf s 0) (j : Int) ∧ sget (strOf s 0) (j : Int) ≤ 126, fun i => (strOf s 0).length - i, fun i => frame s [0] [] [(3, sI (i : Int))] []⟩
  | _ => none
/-- Where the first dispute with a key stands; or the length. -/
def fnd (k : List UInt8) : List D → Nat
  | [] => 0
  | d :: r => if (d.fld 0).s = k then 0 else fnd k r + 1
def findZ (l : List D) (k : List UInt8) : Int := if fnd k l < l.length then (fnd k l : Int) else -1
def hasZ (l : List D) (s : List UInt8) : Bool := l.any fun d => decide (d.s = s)
def timeZ (t : Int) : Bool := decide (0 ≤ t) && decide (t < 68719476736)
def centsZ (n : Int) : Bool := decide (1 ≤ n) && decide (n ≤ 1125899906842624)
def lateZ (tm t s : Int) : Int := if timeZ t = false then 12 else if t < tm then 12 else if tm < t - s then 29 else 0
def con20 : Con := ⟨[ldi, .str], fun | [l, k] => ⟨True, [vI (findZ l.l k.s)]⟩ | _ => bad⟩
def con23 : Con := con20
def con35 : Con := ⟨[ls, .str], fun | [l, k] => ⟨True, [vB (hasZ l.l k.s)]⟩ | _ => bad⟩
def con41 : Con := con35
def con31 : Con := ⟨[i64], fun | [t] => ⟨True, [vB (timeZ t.i)]⟩ | _ => bad⟩
def con39 : Con := con31
def con40 : Con := ⟨[i64], fun | [t] => ⟨True, [vB (centsZ t.i)]⟩ | _ => bad⟩
def con44 : Con := ⟨[i64, i64, i64], fun | [t, b, n] => ⟨0 ≤ t.i ∧ 0 ≤ n.i ∧ n.i ≤ 1000, [vB (decide (b.i < t.i - n.i * 86400))]⟩ | _ => bad⟩
def con34 : Con := ⟨[disT, i64, i64], fun | [d, t, s] => ⟨0 ≤ s.i ∧ s.i ≤ 100000000, [vI (lateZ (d.fld 1).i t.i s.i)]⟩ | _ => bad⟩
def lp23 : Loops := fun r s => match r with
  | 2 => some ⟨[], Nat, fun i => i ≤ (slOf s 0).length ∧ ∀ j, j < i → ((elt (slOf s 0) (j : Int)).fld 0).s ≠ strOf s 1, fun i => (slOf s 0).length - i, fun i => frame s [0, 1] [] [(5, sI (i : Int))] []⟩
  | _ => none
def lp41 : Loops := fun r s => match r with
  | 2 => some ⟨[], Nat, fun i => i ≤ (slOf s 0).length ∧ ∀ j, j < i → (elt (slOf s 0) (j : Int)).s ≠ strOf s 1, fun i => (slOf s 0).length - i, fun i => frame s [0, 1] [] [(5, sI (i : Int))] []⟩
  | _ => none
def tb34 : Tab := fun f => match f with
  | 31 => some con31
  | _ => none
def opE (l : List D) (k : List UInt8) : Int := if findZ l k < 0 then 10 else if ((elt l (findZ l k)).fld 3).i ≠ 1 then 11 else 0
def opI (l : List D) (k : List UInt8) : Int := if opE l k = 0 then findZ l k else 0
def con33 : Con := ⟨[ldi, .str], fun | [l, k] => ⟨True, [vI (opI l.l k.s), vI (opE l.l k.s)]⟩ | _ => bad⟩
def con43 : Con := con33
def tb33 : Tab := fun f => match f with
  | 20 => some con20
  | _ => none
def tb43 : Tab := fun f => match f with
  | 23 => some con23
  | _ => none
/-- The error of one proof. -/
def prfAt (l : List D) (j : Nat) : Int := if refZ (elt l (j : Int)).s = false then 5 else if hasZ (l.take j) (elt l (j : Int)).s = true then 9 else 0
def prfE (l : List D) : Int := errTo (prfAt l) l.length
def oneE (d : D) : Int :=
  if timeZ (d.fld 1).i = false then 12
  else if centsZ (d.fld 2).i = false then 13
  else if (d.fld 3).i < 1 ∨ 4 < (d.fld 3).i then 1
  else if 16 < (d.fld 4).l.length then 3
  else prfE (d.fld 4).l
def con21 : Con := ⟨[disT], fun | [d] => ⟨True, [vI (oneE d)]⟩ | _ => bad⟩
def con24 : Con := con21
def tb21 : Tab := fun f => match f with
  | 31 => some con31
  | 19 => some con19
  | 35 => some con35
  | _ => none
def tb24 : Tab := fun f => match f with
  | 39 => some con39
  | 40 => some con40
  | 22 => some con22
  | 41 => some con41
  | _ => none
def lp21 : Loops := fun r s => match r with
  | 10 => some ⟨[], Nat, fun i => i ≤ (boxL s 8 4).length ∧ errTo (prfAt (boxL s 8 4)) i = 0, fun i => (boxL s 8 4).length - i, fun i => frame s [1, 34, 35] [8] [(36, sI (i : Int))] []⟩
  | _ => none
def lp24 : Loops := fun r s => match r with
  | 10 => some ⟨[], Nat, fun i => i ≤ (boxL s 8 4).length ∧ errTo (prfAt (boxL s 8 4)) i = 0, fun i => (boxL s 8 4).length - i, fun i => frame s [1] [8] [(3, sI (i : Int))] []⟩
  | _ => none
def chkAt (l : List D) (j : Nat) : Int :=
  if refZ ((elt l (j : Int)).fld 0).s = false then 5
  else if 0 ≤ findZ (l.take j) ((elt l (j : Int)).fld 0).s then 9
  else oneE (elt l (j : Int))
def chkE (l : List D) : Int := if 1024 < l.length then 3 else errTo (chkAt l) l.length
def con10 : Con := ⟨[ldi], fun | [l] => ⟨True, [vI (chkE l.l)]⟩ | _ => bad⟩
def con11 : Con := con10
def tb10 : Tab := fun f => match f with
  | 19 => some con19
  | 20 => some con20
  | 21 => some con21
  | _ => none
def tb11 : Tab := fun f => match f with
  | 22 => some con22
  | 23 => some con23
  | 24 => some con24
  | _ => none
def lp10 : Loops := fun r s => match r with
  | 4 => some ⟨[], Nat, fun i => i ≤ (slOf s 0).length ∧ errTo (chkAt (slOf s 0)) i = 0, fun i => (slOf s 0).length - i, fun i => frame s [0, 9, 10] [] [(11, sI (i : Int))] []⟩
  | _ => none
def lp11 : Loops := fun r s => match r with
  | 4 => some ⟨[], Nat, fun i => i ≤ (slOf s 0).length ∧ errTo (chkAt (slOf s 0)) i = 0, fun i => (slOf s 0).length - i, fun i => frame s [0] [] [(3, sI (i : Int))] []⟩
  | _ => none
/-! ### The calls -/
def openE (l : List D) (k : List UInt8) (c t : Int) : Int :=
  if refZ k = false then 5 else if centsZ c = false then 13 else if timeZ t = false then 12 else if 0 ≤ findZ l k then 9 else if 1024 ≤ l.length then 3 else 0
def openL (l : List D) (k : List UInt8) (c t : Int) : List D :=
  if openE l k c t = 0 then xcat l [.agg [.str k, .int t, .int c, .int 1, .list []]] else l
def con15 : Con := ⟨[ldi, .str, i64, i64], fun | [l, k, c, t] => ⟨fit l.l, [vSl disT (openL l.l k.s c.i t.i), vI (openE l.l k.s c.i t.i)]⟩ | _ => bad⟩
def con26 : Con := con15
def con42 : Con := con32
def tb15 : Tab := fun f => match f with
  | 19 => some con19
  | 31 => some con31
  | 20 => some con20
  | 32 => some con32
  | _ => none
def tb26 : Tab := fun f => match f with
  | 22 => some con22
  | 39 => some con39
  | 40 => some con40
  | 23 => some con23
  | 42 => some con42
  | _ => none
def provE (l : List D) (k id : List UInt8) (t : Int) : Int :=
  if opE l k ≠ 0 then opE l k
  else if lateZ ((elt l (opI l k)).fld 1).i t 2592000 ≠ 0 then lateZ ((elt l (opI l k)).fld 1).i t 2592000
  else if refZ id = false then 5
  else if hasZ ((elt l (opI l k)).fld 4).l id = true then 9
  else if 16 ≤ ((elt l (opI l k)).fld 4).l.length then 3
  else 0
def addP (l : List D) (i : Int) (id : List UInt8) : List D := xset l i.toNat (dset (elt l i) 4 (.list (xcat ((elt l i).fld 4).l [.str id])))
def provL (l : List D) (k id : List UInt8) (t : Int) : List D := if provE l k id t = 0 then addP l (opI l k) id else l
def con16 : Con := ⟨[ldi, .str, .str, i64], fun | [l, k, id, t] => ⟨fit l.l, [vSl disT (provL l.l k.s id.s t.i), vI (provE l.l k.s id.s t.i)]⟩ | _ => bad⟩
def con27 : Con := con16
def tb16 : Tab := fun f => match f with
  | 33 => some con33
  | 34 => some con34
  | 19 => some con19
  | 35 => some con35
  | _ => none
def tb27 : Tab := fun f => match f with
  | 43 => some con43
  | 39 => some con39
  | 44 => some con44
  | 22 => some con22
  | 41 => some con41
  | _ => none
def setSt (l : List D) (i : Int) (n : Int) : List D := xset l i.toNat (dset (elt l i) 3 (.int n))
def decE (l : List D) (k : List UInt8) (t : Int) : Int :=
  if opE l k ≠ 0 then opE l k else lateZ ((elt l (opI l k)).fld 1).i t 5184000
def decL (l : List D) (k : List UInt8) (a : Bool) (t : Int) : List D :=
  if decE l k t = 0 then (if a = true then setSt l (opI l k) 2 else setSt l (opI l k) 3) else l
def decC (l : List D) (k : List UInt8) (a : Bool) (t : Int) : Int :=
  if decE l k t = 0 ∧ a = true then ((elt l (opI l k)).fld 2).i else 0
def con17 : Con := ⟨[ldi, .str, .bool, i64], fun | [l, k, a, t] => ⟨fit l.l, [vSl disT (decL l.l k.s a.b t.i), vI (decC l.l k.s a.b t.i), vI (decE l.l k.s t.i)]⟩ | _ => bad⟩
def con28 : Con := con17
def tb17 : Tab := fun f => match f with
  | 33 => some con33
  | 34 => some con34
  | 32 => some con32
  | _ => none
def tb28 : Tab := fun f => match f with
  | 43 => some con43
  | 39 => some con39
  | 44 => some con44
  | 42 => some con42
  | _ => none
def wdL (l : List D) (k : List UInt8) : List D := if opE l k = 0 then setSt l (opI l k) 4 else l
def con25 : Con := ⟨[ldi, .str], fun | [l, k] => ⟨fit l.l, [vSl disT (wdL l.l k.s), vI (opE l.l k.s)]⟩ | _ => bad⟩
def con29 : Con := con25
def tb25 : Tab := fun f => match f with
  | 33 => some con33
  | 32 => some con32
  | _ => none
def tb29 : Tab := fun f => match f with
  | 43 => some con43
  | 42 => some con42
  | _ => none
def due (t : Int) (d : D) : Bool := decide ((d.fld 3).i = 1) && (timeZ t && decide ((d.fld 1).i < t - 5184000))
def exD (t : Int) (d : D) : D := if due t d = true then dset d 3 (.int 2) else d
def exTo (l : List D) (t : Int) (i : Nat) : List D := (l.take i).map (exD t) ++ l.drop i
def exS (l : List D) (t : Int) : Nat → Int
  | 0 => 0
  | i + 1 => if due t (elt l (i : Int)) = true then iadd .i64 (exS l t i) ((elt l (i : Int)).fld 2).i else exS l t i
def con18 : Con := ⟨[ldi, i64], fun | [l, t] => ⟨fit l.l, [vSl disT (exTo l.l t.i l.l.length), vI (exS l.l t.i l.l.length)]⟩ | _ => bad⟩
def con30 : Con := con18
def tb18 : Tab := fun f => match f with
  | 31 => some con31
  | 32 => some con32
  | _ => none
def tb30 : Tab := fun f => match f with
  | 39 => some con39
  | 44 => some con44
  | 42 => some con42
  | _ => none
def lp18 : Loops := fun r s => match r with
  | 4 => some ⟨[], Nat, fun i => i ≤ (slOf s 0).length, fun i => (slOf s 0).length - i, fun i => frame s [0, 1, 6, 12, 13] [] [(7, sI (exS (slOf s 0) (intOf s 1) i)), (14, sI (i : Int))] [(89, .row 0 40 disT (exTo (slOf s 0) (intOf s 1) i))]⟩
  | _ => none
def lp30 : Loops := fun r s => match r with
  | 4 => some ⟨[], Nat, fun i => i ≤ (slOf s 0).length ∧ (timeZ (intOf s 1) = true ∨ i = 0), fun i => (slOf s 0).length - i, fun i => frame s [0, 1, 6] [] [(7, sI (exS (slOf s 0) (intOf s 1) i)), (8, sI (i : Int))] [(81, .row 0 40 disT (exTo (slOf s 0) (intOf s 1) i))]⟩
  | _ => none
/-! ### Same, great, does -/
def sameD (x y : D) : Bool := decide ((x.fld 0).s = (y.fld 0).s) && (decide ((x.fld 1).i = (y.fld 1).i) && (decide ((x.fld 2).i = (y.fld 2).i) && (decide ((x.fld 3).i = (y.fld 3).i) &&
  (decide ((x.fld 4).l.length = (y.fld 4).l.length) && (List.range (x.fld 4).l.length).all fun j => decide ((elt (x.fld 4).l (j : Int)).s = (elt (y.fld 4).l (j : Int)).s)))))
def sameL (a b : List D) : Bool := decide (a.length = b.length) && (List.range a.length).all fun i => sameD (elt a (i : Int)) (elt b (i : Int))
def con14 : Con := ⟨[ldi, ldi], fun | [a, b] => ⟨True, [vB (sameL a.l b.l)]⟩ | _ => bad⟩
def lp14 : Loops := fun r s => match r with
  | 4 => some ⟨[], Nat, fun i => i ≤ (slOf s 0).length ∧ ∀ j : Nat, j < i → sameD (elt (slOf s 0) (j : Int)) (elt (slOf s 1) (j : Int)) = true, fun i => (slOf s 0).length - i, fun i => frame s [0, 1] [] [(5, sI (i : Int))] []⟩
  | 10 => some ⟨[], Nat, fun k => k ≤ (boxL s 48 4).length ∧ ∀ j : Nat, j < k → (elt (boxL s 48 4) (j : Int)).s = (elt (boxL s 56 4) (j : Int)).s, fun k => (boxL s 48 4).length - k, fun k => frame s [0, 1, 5, 6, 7] [48, 56] [(8, sI (k : Int))] []⟩
  | _ => none
def prTo (l : List D) : Nat → Int
  | 0 => 0
  | i + 1 => prTo l i + ((elt l (i : Int)).fld 4).l.length
def badAt (l : List D) (i : Nat) : Bool :=
  decide (40 < ((elt l (i : Int)).fld 4).l.length) || (decide (2000 < prTo l (i + 1)) || (decide (((elt l (i : Int)).fld 2).i < 0) || (decide (1125899906842625 < ((elt l (i : Int)).fld 2).i) || (decide (((elt l (i : Int)).fld 1).i < -68719476736) || decide (137438953472 < ((elt l (i : Int)).fld 1).i)))))
def greatZ (l : List D) : Bool := decide (1100 < l.length) || (List.range l.length).any (badAt l)
def con8 : Con := ⟨[ldi], fun | [l] => ⟨True, [vB (greatZ l.l)]⟩ | _ => bad⟩
def lp8 : Loops := fun r s => match r with
  | 5 => some ⟨[], Nat, fun i => i ≤ (slOf s 0).length ∧ prTo (slOf s 0) i ≤ 2000 ∧ ∀ j, j < i → badAt (slOf s 0) j = false, fun i => (slOf s 0).length - i, fun i => frame s [9, 10] [] [(3, sI (prTo (slOf s 0) i)), (11, sI (i : Int))] []⟩
  | _ => none
def deedT : Ty := .pair i64 (.pair .str (.pair .str (.pair i64 (.pair i64 (.pair .bool .unit)))))
structure Dd where
  kind : Int
  key : List UInt8
  id : List UInt8
  cents : Int
  t : Int
  acc : Bool
def ddOf (d : D) : Dd := ⟨(d.fld 0).i, (d.fld 1).s, (d.fld 2).s, (d.fld 3).i, (d.fld 4).i, (d.fld 5).b⟩
structure Res where
  l : List D
  n : Int
  e : Int
def doZ (l : List D) (d : Dd) : Res :=
  if d.kind = 0 then ⟨openL l d.key d.cents d.t, 0, openE l d.key d.cents d.t⟩
  else if d.kind = 1 then ⟨provL l d.key d.id d.t, 0, provE l d.key d.id d.t⟩
  else if d.kind = 2 then ⟨decL l d.key d.acc d.t, decC l d.key d.acc d.t, decE l d.key d.t⟩
  else if d.kind = 3 then ⟨wdL l d.key, 0, opE l d.key⟩
  else ⟨exTo l d.t l.length, exS l d.t l.length, 0⟩
def con12 : Con := ⟨[ldi, deedT], fun | [l, d] => ⟨fit l.l, [vSl disT (doZ l.l (ddOf d)).l, vI (doZ l.l (ddOf d)).n, vI (doZ l.l (ddOf d)).e]⟩ | _ => bad⟩
def con13 : Con := con12
def tb12 : Tab := fun f => match f with
  | 15 => some con15
  | 16 => some con16
  | 17 => some con17
  | 25 => some con25
  | 18 => some con18
  | _ => none
def tb13 : Tab := fun f => match f with
  | 26 => some con26
  | 27 => some con27
  | 28 => some con28
  | 29 => some con29
  | 30 => some con30
  | _ => none
def con9 : Con := ⟨[], fun | [] => ⟨True, [vB true]⟩ | _ => bad⟩
def tb9 : Tab := fun f => match f with
  | 15 => some con15
  | 16 => some con16
  | 17 => some con17
  | 18 => some con18
  | 10 => some con10
  | _ => none
end Go.Proofs.YtkfghnflbehecaaDoor
namespace Go.RX
open Go.Proofs.YtkfghnflbehecaaDoor
def cut16 : Nat := 13
def cut27 : Nat := 14
def kc16 : List D → St → Prop := fun dat s => match dat with
  | [l, k, id, t] => cutK 69 [(0, .one (.sl disT l.l)), (2, .one (.str id.s)), (10, .one (.int .i64 (opI l.l k.s)))] (provE l.l k.s id.s t.i = 0) s
  | _ => False
def kc27 : List D → St → Prop := fun dat s => match dat with
  | [l, k, id, t] => cutK 79 [(0, .one (.sl disT l.l)), (2, .one (.str id.s)), (10, .one (.int .i64 (opI l.l k.s)))] (provE l.l k.s id.s t.i = 0) s
  | _ => False
end Go.RX
