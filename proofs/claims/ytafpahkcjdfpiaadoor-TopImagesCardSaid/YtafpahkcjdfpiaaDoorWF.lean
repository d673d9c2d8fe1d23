/- Part of the proof of the laws of this seat: contracts of its functions, for every input. -/
import Derived.Test.YtafpahkcjdfpiaaDoorWE
set_option linter.all false
namespace Go.Proofs.YtafpahkcjdfpiaaDoor
open Go Go.RX Go.Proofs
def imT : Ty := .pair .str (.pair i64 (.pair i64 (.pair ls (.pair u64 .unit))))
def lim : Ty := .slice imT
def pkT : Ty := .pair .str (.pair lim (.pair lu .unit))
structure Im where
  id : List UInt8
  t : Int
  p : Int
  h : List (List UInt8)
  g : Int
  deriving DecidableEq
def txs (l : List D) : List (List UInt8) := l.map D.s
def imOf (d : D) : Im := ⟨rs d 0, ri d 1, ri d 2, txs (rl d 3), ri d 4⟩
def ims (l : List D) : List Im := l.map imOf
end Go.Proofs.YtafpahkcjdfpiaaDoor
namespace Go.RX
def boxIm (s : St) (h : Nat) : Go.Proofs.YtafpahkcjdfpiaaDoor.Im := ⟨boxS s h 0, boxI s h 1, boxI s h 2, Go.Proofs.YtafpahkcjdfpiaaDoor.txs (boxL s h 3), boxI s h 4⟩
end Go.RX
namespace Go.Proofs.YtafpahkcjdfpiaaDoor
open Go Go.RX Go.Proofs
set_option maxRecDepth 100000
set_option linter.all false
theorem imOf_mk {a : List UInt8} {b c : Int} {d : List D} {e : Int} : imOf (.agg [.str a, .int b, .int c, .list d, .int e]) = ⟨a, b, c, txs d, e⟩ := rfl
theorem imOf_eta {d : D} : (⟨(d.fld 0).s, (d.fld 1).i, (d.fld 2).i, txs (d.fld 3).l, (d.fld 4).i⟩ : Im) = imOf d := rfl
def hTo (i : Im) : Nat → List D
  | 0 => putI (putI (putI (putT [] i.id) i.t) i.p) (i.h.length : Int)
  | k + 1 => putT (hTo i k) (i.h.getD k [])
def desZ (i : Im) : List D := xcat (hTo i i.h.length) (mkL 8 fun k => .int (byteOf i.g k))
def smI (i : Im) : Prop := i.id.length ≤ 1000 ∧ i.h.length ≤ 100 ∧ ∀ x ∈ i.h, x.length ≤ 1000
def smL (l : List Im) : Prop := l.length ≤ 100 ∧ ∀ i ∈ l, smI i
def oneI (i : Im) : Bool := i.h.all (fun s => decide (s.length ≤ 100)) && (decide (i.id.length ≤ 600) && decide (i.h.length ≤ 8))
def fewI (l : List Im) : Bool := l.all oneI && decide (l.length ≤ 20)
def chZ (id : List UInt8) (l : List Im) : List D := chainZ (hashZ (bytesD id)) (l.map fun i => .list (desZ i))
def firstZ : List Im → List Im → Int
  | [], [] => -1
  | x :: a, y :: b => if x = y then (if firstZ a b < 0 then -1 else firstZ a b + 1) else 0
  | _, _ => 0
def rightZ (i : Im) : Int :=
  if oneZ i.id = false then 5
  else if i.t < 0 ∨ 68719476736 ≤ i.t then 12
  else if i.p < 1 ∨ 4 < i.p then 1
  else if 1024 < i.h.length then 3 else 0
def hasZ (l : List Im) (id : List UInt8) : Bool := l.any fun i => decide (i.id = id)
def chkZ (l : List Im) (i : Im) : Int := if rightZ i ≠ 0 then rightZ i else if hasZ l i.id = true then 9 else 0
def im0 : Im := ⟨[], 0, 0, [], 0⟩
def chE (l : List Im) : Nat → Int
  | 0 => 0
  | k + 1 => if chE l k ≠ 0 then chE l k else chkZ (l.take k) (l.getD k im0)
def bldE (id : List UInt8) (l : List Im) : Int := if oneZ id = false then 5 else if 1024 < l.length then 3 else chE l l.length
def verZ (c : List UInt8) (l : List Im) (ch : List D) : Bool := sameZ ch (chZ c l)
def addE (c : List UInt8) (l : List Im) (ch : List D) (i : Im) : Int :=
  if verZ c l ch = false then 8 else if 1024 ≤ l.length then 3 else chkZ l i
def timeZ (n : Int) : Bool := decide (0 ≤ n) && decide (n < 68719476736)
def iif {α : Type} (b : Bool) (x y : α) : α := if b = true then x else y
def con49 : Con := ⟨[ls, ls], fun | [a, b] => ⟨True, [vB (decide (txs a.l = txs b.l))]⟩ | _ => bad⟩
def con73 : Con := con49
def con47 : Con := con28
def con25 : Con := ⟨[imT, imT], fun | [a, b] => ⟨True, [vB (decide (imOf a = imOf b))]⟩ | _ => bad⟩
def con48 : Con := con25
def con23 : Con := ⟨[pkT, pkT], fun | [a, b] => ⟨True, [vI (firstZ (ims (rl a 1)) (ims (rl b 1)))]⟩ | _ => bad⟩
def con24 : Con := con23
def con35 : Con := ⟨[imT], fun | [i] => ⟨smI (imOf i), [.fresh 5 u8 (desZ (imOf i))]⟩ | _ => bad⟩
def con37 : Con := con35
def con13 : Con := ⟨[imT], fun | [i] => ⟨smI (imOf i), [vU (hashZ (desZ (imOf i)))]⟩ | _ => bad⟩
def con14 : Con := con13
def con42 : Con := ⟨[.str, lim], fun | [c, l] => ⟨smL (ims l.l), [.fresh 23 u64 (chZ c.s (ims l.l))]⟩ | _ => bad⟩
def con45 : Con := con42
def con21 : Con := ⟨[pkT], fun | [p] => ⟨smL (ims (rl p 1)), [vB (verZ (rs p 0) (ims (rl p 1)) (rl p 2))]⟩ | _ => bad⟩
def con22 : Con := con21
def con39 : Con := ⟨[imT], fun | [i] => ⟨True, [vI (rightZ (imOf i))]⟩ | _ => bad⟩
def con44 : Con := ⟨[lim, imT], fun | [l, i] => ⟨True, [vI (chkZ (ims l.l) (imOf i))]⟩ | _ => bad⟩
def con40 : Con := ⟨[lim, .str], fun | [l, s] => ⟨True, [vB (hasZ (ims l.l) s.s)]⟩ | _ => bad⟩
def con41 : Con := ⟨[lim], fun | [l] => ⟨l.l.length ≤ 1000 ∧ ∀ d ∈ l.l, ((d.fld 3).l).length ≤ 1000000, [.fresh 25 imT l.l]⟩ | _ => bad⟩
def con71 : Con := ⟨[i64], fun | [n] => ⟨True, [vB (timeZ n.i)]⟩ | _ => bad⟩
def con11 : Con := ⟨[imT], fun | [i] => ⟨True, [vB (oneI (imOf i))]⟩ | _ => bad⟩
def con15 : Con := ⟨[lim], fun | [l] => ⟨True, [vB (fewI (ims l.l))]⟩ | _ => bad⟩
def con18 : Con := ⟨[pkT, pkT], fun | [a, b] => ⟨True, [vB (decide (rs a 0 = rs b 0) && (decide (firstZ (ims (rl a 1)) (ims (rl b 1)) < 0) && sameZ (rl a 2) (rl b 2)))]⟩ | _ => bad⟩
def tb48 : Tab := fun f => match f with
  | 73 => some con73
  | _ => none
def tb25 : Tab := fun f => match f with
  | 49 => some con49
  | _ => none
def tb23 : Tab := fun f => match f with
  | 25 => some con25
  | _ => none
def tb24 : Tab := fun f => match f with
  | 48 => some con48
  | _ => none
def tb35 : Tab := fun f => match f with
  | 62 => some con62
  | 63 => some con63
  | _ => none
def tb37 : Tab := fun f => match f with
  | 64 => some con64
  | 65 => some con65
  | _ => none
def tb13 : Tab := fun f => match f with
  | 36 => some con36
  | 37 => some con37
  | _ => none
def tb14 : Tab := fun f => match f with
  | 26 => some con26
  | 35 => some con35
  | _ => none
def tb42 : Tab := fun f => match f with
  | 36 => some con36
  | 37 => some con37
  | 69 => some con69
  | _ => none
def tb45 : Tab := fun f => match f with
  | 26 => some con26
  | 35 => some con35
  | 72 => some con72
  | _ => none
def tb21 : Tab := fun f => match f with
  | 42 => some con42
  | 47 => some con47
  | _ => none
def tb22 : Tab := fun f => match f with
  | 28 => some con28
  | 45 => some con45
  | _ => none
def tb39 : Tab := fun f => match f with
  | 38 => some con38
  | _ => none
def tb44 : Tab := fun f => match f with
  | 43 => some con43
  | 71 => some con71
  | _ => none
def tb15 : Tab := fun f => match f with
  | 11 => some con11
  | _ => none
def tb18 : Tab := fun f => match f with
  | 23 => some con23
  | 28 => some con28
  | _ => none
def eqTo (a b : List D) (i : Nat) : Prop := ∀ j, j < i → (elt a (j : Int)).s = (elt b (j : Int)).s
def preI (a b : List Im) (k : Nat) : Prop := ∀ j, j < k → a[j]? = b[j]?
def lp49 : Loops := fun r s => match r with
  | 4 => some ⟨[], Nat, fun i => i ≤ (slOf s 0).length ∧ eqTo (slOf s 0) (slOf s 1) i, fun i => (slOf s 0).length - i, fun i => frame s [0, 1] [] [(5, sI (i : Int))] []⟩
  | _ => none
def lp73 : Loops := fun r s => match r with
  | 4 => some ⟨[], Nat, fun i => i ≤ (slOf s 0).length ∧ eqTo (slOf s 0) (slOf s 1) i, fun i => (slOf s 0).length - i, fun i => frame s [0, 1, 12] [] [(13, sI (i : Int))] []⟩
  | _ => none
def lp47 : Loops := fun r s => match r with
  | 4 => some ⟨[], Nat, fun i => i ≤ (slOf s 0).length ∧ sameTo (slOf s 0) (slOf s 1) i, fun i => (slOf s 0).length - i, fun i => frame s [0, 1, 12] [] [(13, sI (i : Int))] []⟩
  | _ => none
def lp23 : Loops := fun r s => match r with
  | 2 => some ⟨[], Nat, fun k => k ≤ max (boxL s 16 1).length (boxL s 24 1).length ∧ preI (ims (boxL s 16 1)) (ims (boxL s 24 1)) k, fun k => max (boxL s 16 1).length (boxL s 24 1).length - k, fun k => frame s [2, 3] [16, 24] [(5, sI (k : Int))] []⟩
  | _ => none
def lp24 : Loops := fun r s => match r with
  | 2 => some ⟨[], Nat, fun k => k ≤ max (boxL s 16 1).length (boxL s 24 1).length ∧ preI (ims (boxL s 16 1)) (ims (boxL s 24 1)) k, fun k => max (boxL s 16 1).length (boxL s 24 1).length - k, fun k => frame s [2, 3, 12] [16, 24] [(13, sI (k : Int))] []⟩
  | _ => none
def lp35 : Loops := fun r s => match r with
  | 6 => some ⟨[(3, 7000, 5, u8)], Nat, fun k => k ≤ (boxL s 8 3).length, fun k => (boxL s 8 3).length - k, fun k => frame s [1] [8] [(3, sRow 7000), (4, sI (k : Int))] [(7000, .row 0 5 u8 (hTo (boxIm s 8) k))]⟩
  | 10 => some ⟨[(3, 7000, 5, u8)], Nat, fun k => k ≤ 8, fun k => 8 - k, fun k => frame s [1] [8] [(3, sRow 7000), (5, sI (56 - 8 * (k : Int)))] [(7000, .row 0 5 u8 (xcat (rowL s 7000) (mkL k fun j => .int (byteOf (boxI s 8 4) j))))]⟩
  | _ => none
def lp37 : Loops := fun r s => match r with
  | 6 => some ⟨[(3, 7000, 5, u8)], Nat, fun k => k ≤ (boxL s 8 3).length, fun k => (boxL s 8 3).length - k, fun k => frame s [1, 24, 25] [8] [(3, sRow 7000), (26, sI (k : Int))] [(7000, .row 0 5 u8 (hTo (boxIm s 8) k))]⟩
  | 11 => some ⟨[(3, 7000, 5, u8)], Nat, fun k => k ≤ 8, fun k => 8 - k, fun k => frame s [1] [8] [(3, sRow 7000), (6, sI (56 - 8 * (k : Int)))] [(7000, .row 0 5 u8 (xcat (rowL s 7000) (mkL k fun j => .int (byteOf (boxI s 8 4) j))))]⟩
  | _ => none
def lp41 : Loops := fun r s => match r with
  | 4 => some ⟨[], Nat, fun k => k ≤ (slOf s 0).length, fun k => (slOf s 0).length - k, fun k => frame s [13] [] [(3, sRow 64), (14, sI (k : Int))] [(64, .row 0 25 imT (slOf s 0))]⟩
  | _ => none
def lp42 : Loops := fun r s => match r with
  | 3 => some ⟨[(5, 7000, 48, lb)], Nat, fun k => k ≤ (slOf s 8).length, fun k => (slOf s 8).length - k, fun k => frame s [0, 8, 9] [] [(5, sRow 7000), (10, sI (k : Int))] [(7000, .row 0 48 lb (mkL k fun j => .list (desZ (imOf (elt (slOf s 8) (j : Int))))))]⟩
  | _ => none
def lp45 : Loops := fun r s => match r with
  | 3 => some ⟨[(5, 7000, 48, lb)], Nat, fun k => k ≤ (slOf s 1).length, fun k => (slOf s 1).length - k, fun k => frame s [0, 1] [] [(5, sRow 7000), (6, sI (k : Int))] [(7000, .row 0 48 lb (mkL k fun j => .list (desZ (imOf (elt (slOf s 1) (j : Int))))))]⟩
  | _ => none
def lp44 : Loops := fun r s => match r with
  | 10 => some ⟨[], Nat, fun k => k ≤ (slOf s 0).length ∧ ∀ j, j < k → ((elt (slOf s 0) (j : Int)).fld 0).s ≠ boxS s 24 0, fun k => (slOf s 0).length - k, fun k => frame s [0, 3] [24] [(5, sI (k : Int))] []⟩
  | _ => none
def lp11 : Loops := fun r s => match r with
  | 2 => some ⟨[], Nat, fun k => k ≤ (boxL s 8 3).length ∧ ∀ j, j < k → (elt (boxL s 8 3) (j : Int)).s.length ≤ 100, fun k => (boxL s 8 3).length - k, fun k => frame s [1] [8] [(3, sI (k : Int))] []⟩
  | _ => none
def lp15 : Loops := fun r s => match r with
  | 2 => some ⟨[], Nat, fun k => k ≤ (slOf s 0).length ∧ ∀ j, j < k → oneI (imOf (elt (slOf s 0) (j : Int))) = true, fun k => (slOf s 0).length - k, fun k => frame s [0] [] [(3, sI (k : Int))] []⟩
  | _ => none
end Go.Proofs.YtafpahkcjdfpiaaDoor
