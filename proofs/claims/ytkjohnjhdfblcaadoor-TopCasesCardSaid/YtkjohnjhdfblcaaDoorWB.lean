/- Part of the proof of the laws of this seat: contracts of its functions, for every input. -/
import Derived.Test.YtkjohnjhdfblcaaDoorWJ
set_option linter.all false
namespace Go.RX
def rowN (s : St) (t : Nat) : Nat := match s.slots[t]? with
  | some (.v (.one (.row h _))) => h
  | _ => 0
def ptrN (s : St) (t : Nat) : Nat := match s.slots[t]? with
  | some (.v (.one (.ptr h _))) => h
  | _ => 0
def sU8 (n : Int) : SV := .v (.one (.int .u8 n))
def allH (s : St) : List Nat := s.heap.map Prod.fst
def allU (s : St) : List Nat := List.range s.susp.length
end Go.RX
namespace Go.Proofs.YtkjohnjhdfblcaaDoor
open Go Go.RX Go.Proofs
set_option maxRecDepth 100000
set_option linter.all false
def li : Ty := .slice i64
def u8 : Ty := .int .u8
def lawT : Ty := .pair li (.pair li (.pair i64 .unit))
def appT : Ty := .pair i64 (.pair i64 (.pair i64 .unit))
def caseT : Ty := .pair .str (.pair .str (.pair .str (.pair i64 (.pair i64 (.pair i64 (.pair i64 (.pair i64 (.pair i64 (.pair appT .unit)))))))))
structure Lw where
  ds : List D
  fs : List D
  lim : Int
structure Cs where
  id : List UInt8
  pl : List UInt8
  key : List UInt8
  bg : Int
  si : Int
  st : Int
  ow : Int
  pa : Int
  ps : Int
  a0 : Int
  a1 : Int
  a2 : Int
  deriving DecidableEq
structure CE where
  c : Cs
  e : Int
structure CLE where
  c : Cs
  l : Int
  e : Int
structure DO where
  d : Int
  ok : Bool
def lwOf (d : D) : Lw := ⟨rl d 0, rl d 1, ri d 2⟩
def csOf (d : D) : Cs := ⟨rs d 0, rs d 1, rs d 2, ri d 3, ri d 4, ri d 5, ri d 6, ri d 7, ri d 8, ri (d.fld 9) 0, ri (d.fld 9) 1, ri (d.fld 9) 2⟩
def vCs (c : Cs) : RV := .sv (.agg [.str c.id, .str c.pl, .str c.key, .int .i64 c.bg, .int .i64 c.si, .int .i64 c.st, .int .i64 c.ow, .int .i64 c.pa, .int .i64 c.ps, .int .i64 c.a0, .int .i64 c.a1, .int .i64 c.a2])
def cs0 : Cs := ⟨[], [], [], 0, 0, 0, 0, 0, 0, 0, 0, 0⟩
def amtOk (n : Int) : Bool := decide (0 ≤ n) && decide (n ≤ 1125899906842624)
def openZ (c : Cs) : Bool := decide (1 ≤ c.st) && decide (c.st ≤ 5)
def pendZ (c : Cs) : Bool := decide (c.a0 = 1)
def dBad (l : List D) (i : Nat) : Bool := decide (ei l i < 1) || decide (4096 < ei l i)
def fBad (l : List D) (i : Nat) : Bool := decide (ei l i < 0) || decide (2147483648 < ei l i)
def bad4 (f : Nat → Bool) : Bool := f 0 || f 1 || f 2 || f 3
def lawZ (w : Lw) : Int :=
  if w.ds.length ≠ 4 ∨ w.fs.length ≠ 4 then 3
  else if bad4 (dBad w.ds) = true then 1
  else if bad4 (fBad w.fs) = true then 13
  else if w.lim < 1 ∨ 795363 < w.lim then 12 else 0
/-! Fields of a text. -/
def okC (b : UInt8) : Bool := decide (32 ≤ b.toNat) && decide (b.toNat ≤ 126)
def oneZ (s : List UInt8) : Bool := decide (1 ≤ s.length) && (decide (s.length ≤ 512) && s.all fun b => decide (33 ≤ b.toNat) && decide (b.toNat ≤ 126))
structure FL where
  l : List D
  e : Int
def fieldsZ (s : List UInt8) : FL :=
  if 512 < s.length then ⟨[], 4⟩
  else if s = [] then ⟨[], 0⟩
  else if s.all okC = false then ⟨[], 5⟩
  else if (splitD s).all (fun d => decide (d.s ≠ [])) = false then ⟨[], 5⟩
  else ⟨splitD s, 0⟩
structure PS where
  l : List D
  st : Nat
def sepAt (s : List UInt8) (i : Nat) : Bool := decide (i = s.length) || decide (sget s (i : Int) = 32)
def pcTo (s : List UInt8) : Nat → PS
  | 0 => ⟨[], 0⟩
  | i + 1 => if sepAt s i = true then ⟨xcat (pcTo s i).l [.str (ssub s ((pcTo s i).st : Int) (i : Int))], i + 1⟩ else pcTo s i
def errAt (s : List UInt8) (i : Nat) : Bool := (decide (i < s.length) && (decide (sget s (i : Int) < 32) || decide (126 < sget s (i : Int)))) || (sepAt s i && decide (i = (pcTo s i).st))
def fields2 (s : List UInt8) : FL :=
  if 512 < s.length then ⟨[], 4⟩
  else if s = [] then ⟨[], 0⟩
  else if (List.range (s.length + 1)).any (errAt s) = true then ⟨[], 5⟩
  else ⟨(pcTo s (s.length + 1)).l, 0⟩
/-! Plates and tags. -/
def upC (c : Int) : Int := if 97 ≤ c ∧ c ≤ 122 then c - 32 else c
def skC (c : Int) : Bool := decide (c = 32) || decide (c = 45)
def alC (c : Int) : Bool := (decide (65 ≤ c) && decide (c ≤ 90)) || (decide (48 ≤ c) && decide (c ≤ 57))
def outTo (s : List UInt8) : Nat → List D
  | 0 => []
  | i + 1 => if skC (sget s (i : Int)) = true then outTo s i else xcat (outTo s i) [.int (upC (sget s (i : Int)))]
def badAt (s : List UInt8) (i : Nat) : Bool := !skC (sget s (i : Int)) && !alC (upC (sget s (i : Int)))
structure SE where
  s : List UInt8
  e : Int
def plZ (s : List UInt8) : SE :=
  if (List.range s.length).any (badAt s) = true ∨ (outTo s s.length).length < 2 ∨ 10 < (outTo s s.length).length then ⟨[], 19⟩ else ⟨strD (outTo s s.length), 0⟩
def tagZ (s : List UInt8) : Int := if s.length = 12 ∧ dgAll s = true ∧ luTo s 12 % 10 = 0 then 0 else 18
def sumZ (s : List UInt8) : Int := if dgAll s = true then luTo s s.length else -1
def newZ (id pl key : List UInt8) (cents day : Int) : CE :=
  if oneZ id = false then ⟨cs0, 5⟩
  else if ((plZ pl).e ≠ 0 ∨ (plZ pl).s ≠ pl) ∧ tagZ pl ≠ 0 then ⟨cs0, 19⟩
  else if oneZ key = false then ⟨cs0, 5⟩
  else if cents < 1 ∨ 1125899906842624 < cents then ⟨cs0, 13⟩
  else if dayOk day = false then ⟨cs0, 12⟩
  else ⟨⟨id, pl, key, day, day, 1, cents, 0, 0, 0, 0, 0⟩, 0⟩

def con19 : Con := ⟨[lawT], fun | [w] => ⟨True, [vI (lawZ (lwOf w))]⟩ | _ => bad⟩
def con20 : Con := con19
def con28 : Con := ⟨[caseT], fun | [c] => ⟨True, [vB (openZ (csOf c))]⟩ | _ => bad⟩
def con29 : Con := con28
def con42 : Con := ⟨[caseT], fun | [c] => ⟨True, [vB (pendZ (csOf c))]⟩ | _ => bad⟩
def con43 : Con := con42
def con50 : Con := ⟨[i64], fun | [n] => ⟨True, [vB (dayOk n.i)]⟩ | _ => bad⟩
def con54 : Con := con50
def con69 : Con := con50
def con55 : Con := ⟨[i64], fun | [n] => ⟨True, [vB (amtOk n.i)]⟩ | _ => bad⟩
def con23 : Con := ⟨[caseT, caseT], fun | [a, b] => ⟨True, [vB (decide (csOf a = csOf b))]⟩ | _ => bad⟩
def con62 : Con := ⟨[.str], fun | [s] => ⟨True, [vSl .str (fieldsZ s.s).l, vI (fieldsZ s.s).e]⟩ | _ => bad⟩
def con65 : Con := ⟨[.str], fun | [s] => ⟨True, [vSl .str (fields2 s.s).l, vI (fields2 s.s).e]⟩ | _ => bad⟩
def con47 : Con := ⟨[.str], fun | [s] => ⟨True, [vB (oneZ s.s)]⟩ | _ => bad⟩
def con51 : Con := con47
def con48 : Con := ⟨[.str], fun | [s] => ⟨s.s.length ≤ 1000000, [.sv (.one (.str (plZ s.s).s)), vI (plZ s.s).e]⟩ | _ => bad⟩
def con52 : Con := con48
def con66 : Con := ⟨[.str], fun | [s] => ⟨s.s.length ≤ 1000, [vI (sumZ s.s)]⟩ | _ => bad⟩
def con49 : Con := ⟨[.str], fun | [s] => ⟨True, [vI (tagZ s.s)]⟩ | _ => bad⟩
def con53 : Con := con49
def con21 : Con := ⟨[.str, .str, .str, i64, i64], fun | [a, b, c, n, d] => ⟨b.s.length ≤ 1000000, [vCs (newZ a.s b.s c.s n.i d.i).c, vI (newZ a.s b.s c.s n.i d.i).e]⟩ | _ => bad⟩
def con22 : Con := con21
def tb62 : Tab := fun f => match f with
  | 70 => some con70
  | _ => none
def tb47 : Tab := fun f => match f with
  | 62 => some con62
  | _ => none
def tb51 : Tab := fun f => match f with
  | 65 => some con65
  | _ => none
def tb49 : Tab := fun f => match f with
  | 63 => some con63
  | 64 => some con64
  | _ => none
def tb53 : Tab := fun f => match f with
  | 66 => some con66
  | _ => none
def tb21 : Tab := fun f => match f with
  | 47 => some con47
  | 48 => some con48
  | 49 => some con49
  | 50 => some con50
  | _ => none
def tb22 : Tab := fun f => match f with
  | 51 => some con51
  | 52 => some con52
  | 53 => some con53
  | 54 => some con54
  | _ => none
def lp19 : Loops := fun r s => match r with
  | 4 => some ⟨[], Nat, fun i => i ≤ (slOf s 18).length ∧ ∀ j, j < i → dBad (slOf s 18) j = false, fun i => (slOf s 18).length - i, fun i => frame s [1, 18, 19] [8] [(20, sI (i : Int))] []⟩
  | 10 => some ⟨[], Nat, fun i => i ≤ (slOf s 32).length ∧ ∀ j, j < i → fBad (slOf s 32) j = false, fun i => (slOf s 32).length - i, fun i => frame s [1, 32, 33] [8] [(34, sI (i : Int))] []⟩
  | _ => none
def lp20 : Loops := fun r s => match r with
  | 4 => some ⟨[], Nat, fun i => i ≤ 4 ∧ ∀ j, j < i → dBad (boxL s (ptrN s 1) 0) j = false, fun i => 4 - i, fun i => frame s [1] [8] [(3, sI (i : Int))] []⟩
  | 9 => some ⟨[], Nat, fun i => i ≤ 4 ∧ ∀ j, j < i → fBad (boxL s (ptrN s 1) 1) j = false, fun i => 4 - i, fun i => frame s [1] [8] [(4, sI (i : Int))] []⟩
  | _ => none
def lp62 : Loops := fun r s => match r with
  | 6 => some ⟨[], Nat, fun i => i ≤ (strOf s 0).length ∧ ∀ j, j < i → 32 ≤ sget (strOf s 0) (j : Int) ∧ sget (strOf s 0) (j : Int) ≤ 126, fun i => (strOf s 0).length - i, fun i => frame s [0, 14] [] [(15, sI (i : Int))] []⟩
  | 13 => some ⟨[], Nat, fun i => i ≤ (rowL s 241).length ∧ ∀ j, j < i → (elt (rowL s 241) (j : Int)).s ≠ [], fun i => (rowL s 241).length - i, fun i => frame s [5, 31, 32] [241] [(33, sI (i : Int))] []⟩
  | _ => none
def lp65 : Loops := fun r s => match r with
  | 8 => some ⟨[(4, 7000, 9, .str)], Nat, fun i => i ≤ (strOf s 0).length + 1 ∧ ∀ j, j < i → errAt (strOf s 0) j = false, fun i => (strOf s 0).length + 1 - i,
      fun i => frame s [0] [] [(4, sRow 7000), (5, sI ((pcTo (strOf s 0) i).st : Int)), (6, sI (i : Int))] [(7000, .row 0 9 .str (pcTo (strOf s 0) i).l)]⟩
  | _ => none
def lp66 : Loops := fun r s => match r with
  | 3 => some ⟨[], Nat, fun i => i ≤ (strOf s 0).length ∧ ∀ j, j < i → 48 ≤ sget (strOf s 0) (j : Int) ∧ sget (strOf s 0) (j : Int) ≤ 57, fun i => (strOf s 0).length - i, fun i => frame s [0] [] [(3, sI (luTo (strOf s 0) i)), (4, sI (i : Int))] []⟩
  | _ => none
def lp48 : Loops := fun r s => match r with
  | 3 => some ⟨[(4, 7000, 5, u8)], Nat, fun i => i ≤ (strOf s 0).length ∧ (outTo (strOf s 0) i).length ≤ 10 ∧ ∀ j, j < i → badAt (strOf s 0) j = false, fun i => (strOf s 0).length - i,
      fun i => frame s [0, 8] [] [(4, sRow 7000), (9, sI (i : Int))] [(7000, .row 0 5 u8 (outTo (strOf s 0) i))]⟩
  | 1000008 => some ⟨[], Unit, fun _ => True, fun _ => 0, fun _ => frame s [0, 4, 8, 9] [7000] [(6, sU8 (upC (intOf s 6)))] []⟩
  | 1000011 => some ⟨[], Unit, fun _ => alC (intOf s 6) = true ∧ (rowL s 7000).length ≠ 10, fun _ => 0, fun _ => frame s [0, 4, 6, 8, 9] [7000] [] []⟩
  | _ => none
def lp52 : Loops := fun r s => match r with
  | 3 => some ⟨[(4, 7000, 5, u8)], Nat, fun i => i ≤ (strOf s 0).length ∧ ∀ j, j < i → badAt (strOf s 0) j = false, fun i => (strOf s 0).length - i,
      fun i => frame s [0] [] [(4, sRow 7000), (5, sI (i : Int))] [(7000, .row 0 5 u8 (outTo (strOf s 0) i))]⟩
  | 1000009 => some ⟨[], Unit, fun _ => True, fun _ => 0, fun _ => frame s [0, 4, 5] [7000] [(6, sU8 (upC (intOf s 6)))] []⟩
  | 1000011 => some ⟨[], Unit, fun _ => alC (intOf s 6) = true, fun _ => 0, fun _ => frame s [0, 4, 5, 6] [7000] [] []⟩
  | _ => none
end Go.Proofs.YtkjohnjhdfblcaaDoor
