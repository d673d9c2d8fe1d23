/- Part C: the executor: types, operations, regions, code. Nothing is proved here. -/
import Derived.Test.YtafpahkcjdfpiaaDoorRxB
set_option linter.all false
namespace Go.RX
open Go

/-! ### Leaves of conditions and values -/
def iadd (k : IntKind) (a b : Int) : Int := k.wrap (a + b)
def isub (k : IntKind) (a b : Int) : Int := k.wrap (a - b)
def imul (k : IntKind) (a b : Int) : Int := k.wrap (a * b)
def iquo (k : IntKind) (a b : Int) : Int := k.wrap (a.tdiv b)
def irem (a b : Int) : Int := a.tmod b
def ishl (k : IntKind) (a b : Int) : Int := k.wrap (a * 2 ^ (min b.toNat k.bits))
def ishr (k : IntKind) (a b : Int) : Int := a.fdiv (2 ^ (min b.toNat k.bits))
def iconv (k : IntKind) (a : Int) : Int := k.wrap a
def imin (a b : Int) : Int := if b < a then b else a
def imax (a b : Int) : Int := if b > a then b else a
def ieq (a b : Int) : Bool := a == b
def ilt (a b : Int) : Bool := decide (a < b)
def ile (a b : Int) : Bool := decide (a ≤ b)
def beqB (a b : Bool) : Bool := a == b
def bnot (a : Bool) : Bool := !a
def band (a b : Bool) : Bool := a && b
def seq' (a b : List UInt8) : Bool := a == b
def slt (a b : List UInt8) : Bool := Op.bytesLess a b
def scat (a b : List UInt8) : List UInt8 := a ++ b
def sget (s : List UInt8) (i : Int) : Int := ((s.getD i.toNat 0).toNat : Int)
def ssub (s : List UInt8) (l h : Int) : List UInt8 := (s.take h.toNat).drop l.toNat
def xsub (s : List D) (l h : Int) : List D := (s.take h.toNat).drop l.toNat
def xcat (s t : List D) : List D := s ++ t
def xset (s : List D) (i : Nat) (d : D) : List D := s.set i d
def xrep (n : Int) (d : D) : List D := List.replicate n.toNat d
def xcopy (dst src : List D) : List D := src.take dst.length ++ dst.drop src.length
def bytesD (s : List UInt8) : List D := s.map fun b => .int b.toNat
def strD (xs : List D) : List UInt8 := xs.map fun d => UInt8.ofNat d.i.toNat
def dset (d : D) (j : Nat) (x : D) : D := .agg (d.parts.set j x)
def inRb (k : IntKind) (n : Int) : Bool := decide (k.min ≤ n) && decide (n ≤ k.max)

/-! ### The table of types -/
inductive TK where
  | int (k : IntKind)
  | bool
  | str
  | slice (e : Nat)
  | struct (fs : List (Nat × Nat))
  | other
  | map (k e : Nat)

def TK.isMap : TK → Bool
  | .map .. => true
  | _ => false

structure TI where
  k : TK
  ty : Ty
  bytes : Nat

abbrev TT := List (Nat × TI)
def TT.get (tt : TT) (t : Nat) : Option TI :=
  match tt with
  | [] => none
  | (u, i) :: r => if u = t then (match i.k.isMap with | true => none | false => some i) else TT.get r t
/-- A map's key and element types. -/
def TT.getM (tt : TT) (t : Nat) : Option (Nat × Nat) :=
  match tt with
  | [] => none
  | (u, i) :: r => if u = t then (match i.k with | .map k e => some (k, e) | _ => none) else TT.getM r t

/-- Structs' tails are structs' tails. -/
def Ty.wf : Ty → Bool
  | .pair f r => f.wf && r.wf && r.isAgg
  | _ => true

def Ty.zeroD : Ty → D
  | .int _ => .int 0
  | .bool => .bool false
  | .str => .str []
  | .slice _ => .list []
  | .unit => .agg []
  | .pair f r => .agg (f.zeroD :: r.zeroD.parts)

def Ty.zeroS : Ty → List S1
  | .int k => [.int k 0]
  | .bool => [.ff]
  | .str => [.str []]
  | .slice _ => [.nilsl]
  | .unit => []
  | .pair f r => f.zeroS ++ r.zeroS

def Ty.zeroV : Ty → List Value
  | .int k => [.int k 0]
  | .bool => [.bool false]
  | .str => [.string ⟨#[]⟩]
  | .slice _ => [.slice none 0 0]
  | .unit => []
  | .pair f r => f.zeroV ++ r.zeroV

/-! ### Contracts of functions -/
/-- One result: a value of whatever make, or a row that the call has made. -/
inductive RV where
  | sv (x : V0)
  | fresh (et : Nat) (e : Ty) (xs : List D)

structure CRes where
  pre : Prop
  rets : List RV

/-- What a function does with arguments of these shapes. -/
structure Con where
  tys : List Ty
  run : List D → CRes

/-! ### Operands -/
def cst : Value → Option S1
  | .int k n => if inRb k n then some (.int k n) else none
  | .bool true => some .tt
  | .bool false => some .ff
  | .string s => if s.data.toList.length ≤ 4294967296 then some (.str s.data.toList) else none
  | .slice none 0 0 => some .nilsl
  | .nilIface => some .nilifc
  | .pointer none => some .junk
  | .map none => some .junk
  | _ => none

def evo (slots : List SV) : Operand → Option SV
  | .tmp t => slots[t]?
  | .const v => (cst v).map fun s => .v (.one s)
  | .func f => some (.v (.one (.fn f [])))
  | .global _ => none

def evs (slots : List SV) : List Operand → Option (List SV)
  | [] => some []
  | o :: r => match evo slots o, evs slots r with
    | some v, some vs => some (v :: vs)
    | _, _ => none

def S1.hs : S1 → List Nat
  | .ptr h _ | .row h _ | .rptr h _ _ _ _ | .mp h => [h]
  | .fn _ caps => caps
  | _ => []
def V0.hs : V0 → List Nat
  | .one s => s.hs
  | .agg cs => cs.flatMap S1.hs
def SV.hs : SV → List Nat
  | .v x => x.hs
  | .tup l => l.flatMap V0.hs

abbrev Look := List (Nat × Option SB)
def Look.get (lk : Look) (h : Nat) : Option SB :=
  match lk with
  | [] => none
  | (k, b) :: r => if k = h then b else Look.get r h

/-- What an operation does: what must hold; the value; the blocks that it names anew. -/
structure Eff where
  cs : List Prop
  v : SV
  e : List (Nat × SB)

def Eff.one (s : S1) : Option Eff := some ⟨[], .v (.one s), []⟩
def Eff.when (c : Prop) (s : S1) : Option Eff := some ⟨[c], .v (.one s), []⟩

def boolOf : S1 → Option Bool
  | .bool b => some b
  | .tt => some true
  | .ff => some false
  | _ => none
def V0.cells : V0 → List S1
  | .one s => [s]
  | .agg cs => cs

/-- A cell as data that is only read: rows are frozen. -/
def pers1 (lk : Look) : S1 → Option (S1 × List (Nat × SB))
  | .row h k =>
    match lk.get h with
    | some (.row ver _ e xs) => if k = ver then some (.sl e xs, [(h, .frozen ver e xs)]) else none
    | some (.frozen ver e xs) => if k = ver then some (.sl e xs, []) else none
    | _ => none
  | .ptr .. | .rptr .. | .fn .. | .junk | .undf | .mp .. | .mapc .. => none
  | s => some (s, [])
def persL (lk : Look) : List S1 → Option (List S1 × List (Nat × SB))
  | [] => some ([], [])
  | s :: r => match pers1 lk s, persL lk r with
    | some (s', e), some (r', e') => some (s' :: r', e ++ e')
    | _, _ => none
def persV (lk : Look) : V0 → Option (V0 × List (Nat × SB))
  | .one s => (pers1 lk s).map fun x => (.one x.1, x.2)
  | .agg cs => (persL lk cs).map fun x => (.agg x.1, x.2)
def persVs (lk : Look) : List V0 → Option (List V0 × List (Nat × SB))
  | [] => some ([], [])
  | s :: r => match persV lk s, persVs lk r with
    | some (s', e), some (r', e') => some (s' :: r', e ++ e')
    | _, _ => none
def plainV : List SV → Option (List V0)
  | [] => some []
  | .v x :: r => (plainV r).map (x :: ·)
  | .tup _ :: _ => none

/-- The elements of a slice that is read: nothing is frozen. -/
def elems (lk : Look) : S1 → Option (Ty × List D)
  | .sl e xs => some (e, xs)
  | .row h k =>
    match lk.get h with
    | some (.row ver _ e xs) => if k = ver then some (e, xs) else none
    | some (.frozen ver e xs) => if k = ver then some (e, xs) else none
    | _ => none
  | _ => none

/-! ### Operations -/
def binS (tt : TT) (t : Nat) (op : BinOp) (x y : S1) : Option Eff :=
  match x, y with
  | .int k a, .int k' b =>
    match op with
    | .shl => some ⟨[(0 : Int) ≤ b], .v (.one (.int k (ishl k a b))), []⟩
    | .shr => some ⟨[(0 : Int) ≤ b], .v (.one (.int k (ishr k a b))), []⟩
    | _ =>
      if k = k' then
        match op with
        | .add => Eff.one (.int k (iadd k a b))
        | .sub => Eff.one (.int k (isub k a b))
        | .mul => Eff.one (.int k (imul k a b))
        | .quo => Eff.when (b ≠ 0) (.int k (iquo k a b))
        | .rem => Eff.when (b ≠ 0) (.int k (irem a b))
        | .and => Eff.one (.int k (bits .and k a b))
        | .or => Eff.one (.int k (bits .or k a b))
        | .xor => Eff.one (.int k (bits .xor k a b))
        | .andNot => Eff.one (.int k (bits .andNot k a b))
        | .eql => Eff.one (.bool (ieq a b))
        | .neq => Eff.one (.bool (bnot (ieq a b)))
        | .lss => Eff.one (.bool (ilt a b))
        | .leq => Eff.one (.bool (ile a b))
        | .gtr => Eff.one (.bool (ilt b a))
        | .geq => Eff.one (.bool (ile b a))
        | _ => none
      else none
  | .str a, .str b =>
    match op with
    | .add => Eff.when (a.length + b.length ≤ 4294967296) (.str (scat a b))
    | .eql => Eff.one (.bool (seq' a b))
    | .neq => Eff.one (.bool (bnot (seq' a b)))
    | .lss => Eff.one (.bool (slt a b))
    | _ => none
  | x, y =>
    match tt.get t with
    | some ⟨.bool, _, _⟩ =>
      match boolOf x, boolOf y, op with
      | some a, some b, .eql => Eff.one (.bool (beqB a b))
      | some a, some b, .neq => Eff.one (.bool (bnot (beqB a b)))
      | _, _, _ => none
    | _ => none

/-- Cells that can be written. -/
def S1.ok : S1 → Bool
  | .junk | .undf | .mp .. | .mapc .. => false
  | _ => true
def V0.ok (x : V0) : Bool := x.cells.all S1.ok

/-- Are two structs' cells equal? -/
def eqCells : List S1 → List S1 → Option Bool
  | [], [] => some true
  | [x], [y] => eq1 x y
  | x :: xs, y :: ys => match eq1 x y, eqCells xs ys with
    | some a, some b => some (band a b)
    | _, _ => none
  | _, _ => none
where eq1 : S1 → S1 → Option Bool
  | .int k a, .int k' b => if k = k' then some (ieq a b) else none
  | .str a, .str b => some (seq' a b)
  | x, y => match boolOf x, boolOf y with
    | some a, some b => some (beqB a b)
    | _, _ => none

/-- Shapes whose cells can be compared one by one. -/
def Ty.flat : Ty → Bool
  | .int _ | .bool | .str | .unit => true
  | .slice _ => false
  | .pair f r => f.flat && r.flat

/-- Does a cell have the shape? -/
def cellZt : Ty → S1 → Bool
  | .int k, .int k' _ => k == k'
  | .bool, .bool _ | .bool, .tt | .bool, .ff => true
  | .str, .str _ => true
  | _, _ => false
def cellsZt : Ty → List S1 → Option (List S1)
  | .unit, r => some r
  | .pair f r, cs => match cellsZt f cs with
    | some cs' => cellsZt r cs'
    | none => none
  | t, s :: r => if cellZt t s then some r else none
  | _, [] => none

def zOK (t : Ty) (xs : List S1) : Bool :=
  match cellsZt t xs with
  | some [] => true
  | _ => false

def Ty.sz : Ty → Nat
  | .pair f r => f.sz + r.sz + 1
  | _ => 0

def binE (tt : TT) (op : BinOp) (t : Nat) (x y : V0) : Option Eff :=
  match x, y with
  | .one a, .one b => binS tt t op a b
  | .agg xs, .agg ys =>
    match tt.get t, eqCells xs ys with
    | some ti, some b =>
      if ti.ty.flat && ti.ty.isAgg && (xs.length == ti.ty.n) && (ys.length == ti.ty.n) && zOK ti.ty xs && decide (ti.ty.sz ≤ 999) then
        match op with
        | .eql => Eff.one (.bool b)
        | .neq => Eff.one (.bool (bnot b))
        | _ => none
      else none
    | _, _ => none
  | _, _ => none

def unE (op : UnOp) (x : S1) : Option Eff :=
  match op, x with
  | .not, .bool b => Eff.one (.bool (bnot b))
  | .not, .tt => Eff.one .ff
  | .not, .ff => Eff.one .tt
  | .neg, .int k n => Eff.one (.int k (isub k 0 n))
  | .xor, .int k n => Eff.one (.int k (bits .xor k (if k.signed then -1 else k.max) n))
  | _, _ => none

def fldsGet (fs : List (Nat × Nat)) (j : Nat) : Option (Nat × Nat) := fs[j]?

/-- Put cells at a place. -/
def spliceS (cells : List S1) (off : Nat) (new : List S1) : List S1 := cells.take off ++ new ++ cells.drop (off + new.length)

def mkV (ti : TI) (cells : List S1) : V0 :=
  match ti.ty.isAgg, cells with
  | false, [s] => .one s
  | _, _ => .agg cells

def loadE (tt : TT) (t : Nat) (lk : Look) : S1 → Option Eff
  | .ptr h off =>
    match tt.get t, lk.get h with
    | some ti, some (.box cells) =>
      if isMapB cells = false ∧ off + ti.ty.n ≤ cells.length then some ⟨[], .v (mkV ti ((cells.drop off).take ti.ty.n)), []⟩ else none
    | _, _ => none
  | .pptr e x =>
    match tt.get t with
    | some ti => if ti.ty = e then some ⟨[], .v (svOf e x), []⟩ else none
    | none => none
  | .rptr h k e i fld =>
    match tt.get t, lk.get h with
    | some ti, some (.row ver _ e' xs) =>
      if k = ver ∧ e = e' then
        match fld with
        | none => if ti.ty = e then some ⟨[], .v (svOf e (elt xs i)), []⟩ else none
        | some j => match fldTy e j with
          | some f => if ti.ty = f then some ⟨[], .v (svOf f ((elt xs i).fld j)), []⟩ else none
          | none => none
      else none
    | _, _ => none
  | _ => none

def storeE (tt : TT) (t : Nat) (lk : Look) (p : S1) (x : V0) : Option Eff :=
  match p with
  | .ptr h off =>
    match tt.get t, lk.get h with
    | some ti, some (.box cells) =>
      if isMapB cells = false ∧ off + ti.ty.n ≤ cells.length ∧ x.cells.length = ti.ty.n ∧ x.ok = true then some ⟨[], .v (.one .undf), [(h, .box (spliceS cells off x.cells))]⟩ else none
    | _, _ => none
  | .rptr h k e i fld =>
    match tt.get t, lk.get h, persL lk x.cells with
    | some ti, some (.row ver et e' xs), some (cells, fz) =>
      if k = ver ∧ e = e' ∧ (fz.all fun y => y.1 != h) then
        match fld with
        | none =>
          match dOf e cells with
          | some d => if ti.ty = e then some ⟨[], .v (.one .undf), fz ++ [(h, .row ver et e (xset xs i d))]⟩ else none
          | none => none
        | some j =>
          match fldTy e j with
          | some f =>
            match dOf f cells with
            | some d => if ti.ty = f then some ⟨[], .v (.one .undf), fz ++ [(h, .row ver et e (xset xs i (dset (elt xs i) j d)))]⟩ else none
            | none => none
          | none => none
      else none
    | _, _, _ => none
  | _ => none

def bigTy (tt : TT) (ft : Nat) : Bool :=
  match tt.get ft with
  | some ti => ti.ty.n != 0
  | none => false

def fieldAddrE (tt : TT) (t : Nat) (j : Nat) (p : S1) : Option Eff :=
  match tt.get t with
  | some ⟨.struct fs, ty, _⟩ =>
    match fs[j]? with
    | some (ft, off) =>
      if bigTy tt ft = true then
        match p with
        | .ptr h o => Eff.one (.ptr h (o + off))
        | .pptr e x => match fldTy e j with
          | some f => if e = ty then Eff.one (.pptr f (x.fld j)) else none
          | none => none
        | .rptr h k e i none => if e = ty then Eff.one (.rptr h k e i (some j)) else none
        | _ => none
      else none
    | none => none
  | _ => none

def fieldE (tt : TT) (t : Nat) (j : Nat) (x : V0) : Option Eff :=
  match tt.get t, x with
  | some ⟨.struct fs, _, _⟩, .agg cells =>
    match fs[j]? with
    | some (ft, off) =>
      match tt.get ft with
      | some ti => if off + ti.ty.n ≤ cells.length then some ⟨[], .v (mkV ti ((cells.drop off).take ti.ty.n)), []⟩ else none
      | none => none
    | none => none
  | _, _ => none

def indexAddrE (tt : TT) (t : Nat) (lk : Look) (x i : S1) : Option Eff :=
  match tt.get t, i with
  | some ⟨.slice _, .slice te, _⟩, .int _ n =>
    match x with
    | .sl e xs => if e = te then Eff.when ((0 : Int) ≤ n ∧ n < lenI xs) (.pptr e (elt xs n)) else none
    | .row h k =>
      match lk.get h with
      | some (.row ver _ e xs) => if k = ver ∧ e = te then Eff.when ((0 : Int) ≤ n ∧ n < lenI xs) (.rptr h k e n.toNat none) else none
      | some (.frozen ver e xs) => if k = ver ∧ e = te then Eff.when ((0 : Int) ≤ n ∧ n < lenI xs) (.pptr e (elt xs n)) else none
      | _ => none
    | _ => none
  | _, _ => none

def lenE (lk : Look) : S1 → Option Eff
  | .str s => Eff.one (.int .i64 (lenS s))
  | .nilsl => Eff.one (.int .i64 0)
  | s => match elems lk s with
    | some (_, xs) => Eff.one (.int .i64 (lenI xs))
    | none => none

def bndS : Option S1 → Option (Option Int)
  | none => some none
  | some (.int _ n) => some (some n)
  | _ => none
def orI (o : Option Int) (n : Int) : Int :=
  match o with
  | some m => m
  | none => n

def sliceStr (tt : TT) (t : Nat) (s : List UInt8) (l h : Option Int) : Option Eff :=
  match tt.get t with
  | some ⟨.str, _, _⟩ => Eff.when ((0 : Int) ≤ orI l 0 ∧ orI l 0 ≤ orI h (lenS s) ∧ orI h (lenS s) ≤ lenS s) (.str (ssub s (orI l 0) (orI h (lenS s))))
  | _ => none
def sliceSl (tt : TT) (t : Nat) (lk : Look) (x : S1) (l h : Option Int) : Option Eff :=
  match elems lk x, pers1 lk x, tt.get t with
  | some (e, xs), some (_, fz), some ⟨.slice _, .slice te, _⟩ =>
    if e = te then
      some ⟨[(0 : Int) ≤ orI l 0 ∧ orI l 0 ≤ orI h (lenI xs) ∧ orI h (lenI xs) ≤ lenI xs], .v (.one (.sl e (xsub xs (orI l 0) (orI h (lenI xs))))), fz⟩
    else none
  | _, _, _ => none

def sliceE (tt : TT) (t : Nat) (lk : Look) (x : S1) (lo hi : Option S1) (mx : Bool) : Option Eff :=
  match mx, bndS lo, bndS hi with
  | false, some l, some h =>
    match x with
    | .str s => sliceStr tt t s l h
    | _ => sliceSl tt t lk x l h
  | _, _, _ => none

def convE (tt : TT) (src dst : Nat) (lk : Look) (x : S1) : Option Eff :=
  match tt.get src, tt.get dst, x with
  | some _, some ⟨.int k, _, _⟩, .int _ n => Eff.one (.int k (iconv k n))
  | some ⟨.str, _, _⟩, some ⟨.str, _, _⟩, .str s => Eff.one (.str s)
  | some ⟨.str, _, _⟩, some ⟨.slice _, .slice (.int .u8), _⟩, .str s => Eff.one (.sl (.int .u8) (bytesD s))
  | some ⟨.slice _, .slice (.int .u8), _⟩, some ⟨.str, _, _⟩, .nilsl => Eff.one (.str [])
  | some ⟨.slice _, .slice (.int .u8), _⟩, some ⟨.str, _, _⟩, s =>
    match elems lk s with
    | some (.int .u8, xs) => Eff.one (.str (strD xs))
    | _ => none
  | some ⟨.slice _, .slice (.int .u8), _⟩, some ⟨.slice _, .slice (.int .u8), _⟩, .row h k =>
    match lk.get h with
    | some (.row ver _ (.int .u8) xs) => if k = ver ∧ src = dst then some ⟨[(0 : Int) < lenI xs], .v (.one (.sl (.int .u8) xs)), [(h, .frozen ver (.int .u8) xs)]⟩ else none
    | _ => none
  | _, _, _ => none

def S1.ints : List S1 → Option (IntKind × List Int)
  | [] => none
  | [.int k n] => some (k, [n])
  | .int k n :: r => match S1.ints r with
    | some (k', l) => if k = k' then some (k, n :: l) else none
    | none => none
  | _ => none

/-- The data of a source of append or copy (a slice that is read, or a string's bytes). -/
def srcE (tt : TT) (lk : Look) (u : Nat) (e : Ty) (x : S1) : Option (List D) :=
  match x with
  | .nilsl => (match tt.get u with | some ⟨.slice _, .slice e', _⟩ => if e = e' then some [] else none | _ => none)
  | .str s => (match tt.get u with | some ⟨.str, _, _⟩ => if e = .int .u8 then some (bytesD s) else none | _ => none)
  | s => match elems lk s, tt.get u with
    | some (e', xs), some ⟨.slice _, _, _⟩ => if e = e' then some xs else none
    | _, _ => none

def isStr : S1 → Bool
  | .str _ => true
  | _ => false

def appendE (tt : TT) (d : Nat) (lk : Look) (t u : Nat) (s x : S1) : Option Eff :=
  match tt.get t with
  | some ⟨.slice et, .slice e, _⟩ =>
    match tt.get et, srcE tt lk u e x with
    | some ti, some ys =>
      if (u = t ∨ isStr x = true) ∧ (ti.bytes = 1 ∨ isStr x = false) ∧ ti.bytes ≠ 0 then
        match s with
        | .nilsl => (match lk.get d with
          | none => if e.n = 0 then none else some ⟨[lenI ys * ti.bytes ≤ 140737488355328], .v (.one (.row d 0)), [(d, .row 0 et e ys)]⟩
          | some _ => none)
        | .row h k =>
          match lk.get h with
          | some (.row ver et' e' xs) =>
            if k = ver ∧ e = e' ∧ et = et' ∧ !(x.hs.contains h) ∧ e.n ≠ 0 then
              some ⟨[(lenI xs + lenI ys) * ti.bytes ≤ 140737488355328], .v (.one (.row h (ver + 1))), [(h, .row (ver + 1) et e (xcat xs ys))]⟩
            else none
          | _ => none
        | _ => none
      else none
    | _, _ => none
  | _ => none

def copyE (tt : TT) (lk : Look) (t u : Nat) (s x : S1) : Option Eff :=
  match tt.get t, s with
  | some ⟨.slice et, .slice e, _⟩, .row h k =>
    match srcE tt lk u e x, lk.get h with
    | some ys, some (.row ver et' e' xs) =>
      if k = ver ∧ e = e' ∧ et = et' ∧ !(x.hs.contains h) ∧ e.n ≠ 0 ∧ isStr x = false then
        some ⟨[], .v (.one (.int .i64 (imin (lenI ys) (lenI xs)))), [(h, .row ver et e (xcopy xs ys))]⟩
      else none
    | _, _ => none
  | _, _ => none

def makeSliceE (tt : TT) (d : Nat) (lk : Look) (t : Nat) (l c : S1) : Option Eff :=
  match tt.get t, l, c, lk.get d with
  | some ⟨.slice et, .slice e, _⟩, .int _ n, .int _ m, none =>
    match tt.get et with
    | some ti => if e.wf = true then some ⟨[(0 : Int) ≤ n ∧ n ≤ m ∧ ti.bytes * m ≤ 281474976710656 ∧ m ≤ 9223372036854775807], .v (.one (.row d 0)), [(d, .row 0 et e (xrep n e.zeroD))]⟩ else none
    | none => none
  | _, _, _, _ => none

/-- The parts of a composite literal, put into zero cells. -/
def fillS (place : Nat → Option (Nat × Nat)) (cells : List S1) : List (Nat × V0) → Option (List S1)
  | [] => some cells
  | (i, v) :: r =>
    match place i with
    | some (off, size) => if v.cells.length = size ∧ off + size ≤ cells.length ∧ v.ok = true then fillS place (spliceS cells off v.cells) r else none
    | none => none

def placeF (tt : TT) (fs : List (Nat × Nat)) (i : Nat) : Option (Nat × Nat) :=
  match fs[i]? with
  | some (ft, off) => (match tt.get ft with
    | some ti => some (off, ti.ty.n)
    | none => none)
  | none => none

def buildE (tt : TT) (t : Nat) (parts : List (Nat × V0)) : Option Eff :=
  match tt.get t with
  | some ⟨.struct fs, ty, _⟩ =>
    match fillS (placeF tt fs) ty.zeroS parts with
    | some cells => some ⟨[], .v (.agg cells), []⟩
    | none => none
  | _ => none

def zeroRow (e : Ty) : Nat → List S1
  | 0 => []
  | n + 1 => e.zeroS ++ zeroRow e n

def dTakes (e : Ty) : Nat → List S1 → Option (List D)
  | 0, [] => some []
  | 0, _ => none
  | n + 1, cs => match dTake e cs with
    | some (d, r) => (dTakes e n r).map (d :: ·)
    | none => none

def buildSliceE (tt : TT) (d : Nat) (lk : Look) (t len : Nat) (parts : List (Nat × V0)) : Option Eff :=
  match tt.get t, lk.get d with
  | some ⟨.slice et, .slice e, _⟩, none =>
    if len * e.n ≤ 16777216 ∧ len ≤ 16777216 then
      match fillS (fun i => some (i * e.n, e.n)) (zeroRow e len) parts with
      | some cells =>
        match persL lk cells with
        | some (cells', fz) =>
          match dTakes e len cells' with
          | some xs => some ⟨[], .v (.one (.row d 0)), fz ++ [(d, .row 0 et e xs)]⟩
          | none => none
        | none => none
      | none => none
    else none
  | _, _ => none

/-- The results of a call, and the rows that it has made (names d + 1, d + 2, ..). -/
def retsE (d : Nat) (lk : Look) : Nat → List RV → Option (List V0 × List (Nat × SB))
  | _, [] => some ([], [])
  | j, .sv x :: r => (retsE d lk (j + 1) r).map fun y => (x :: y.1, y.2)
  | j, .fresh et e xs :: r =>
    match lk.get (d + 1 + j), retsE d lk (j + 1) r with
    | none, some y => some (.one (.row (d + 1 + j) 0) :: y.1, (d + 1 + j, .row 0 et e xs) :: y.2)
    | _, _ => none

def packV : List V0 → SV
  | [x] => .v x
  | l => .tup l

def RV.made : RV → Bool
  | .sv _ => false
  | .fresh .. => true

/-- A result that holds no reference: then the rows among the arguments stay the caller's. -/
def RV.plain : RV → Bool
  | .sv (.one (.int ..)) => true
  | .sv (.one .tt) => true
  | .sv (.one .ff) => true
  | .sv (.one (.bool _)) => true
  | .sv (.one (.str _)) => true
  | _ => false

/-- The arguments as data. -/
def datas : List Ty → List V0 → Option (List D)
  | [], [] => some []
  | t :: ts, .one s :: xs =>
    match t.isAgg, dOf t [s], datas ts xs with
    | false, some d, some ds => some (d :: ds)
    | _, _, _ => none
  | t :: ts, .agg cs :: xs =>
    match t.isAgg, dOf t cs, datas ts xs with
    | true, some d, some ds => some (d :: ds)
    | _, _, _ => none
  | _, _ => none

def callE (c : Con) (d : Nat) (lk : Look) (args : List V0) : Option Eff :=
  match persVs lk args with
  | some (args', fz) =>
    match datas c.tys args' with
    | some ds =>
      match retsE d lk 0 (c.run ds).rets with
      | some (vs, e) => if (c.run ds).rets.all RV.plain then some ⟨[(c.run ds).pre], packV vs, []⟩ else if ((c.run ds).rets.filter RV.made).length ≤ 1 ∧ (c.run ds).rets.length ≤ 5 then some ⟨[(c.run ds).pre], packV vs, fz ++ e⟩ else none
      | none => none
    | none => none
  | none => none

def mgetD (e : Ty) (xs : List D) (k : Int) : D := (mget xs k).getD e.zeroD
def V0.isAgg : V0 → Bool
  | .one _ => false
  | .agg _ => true

/-- A call whose first argument is a map of the caller's: the results hold no reference. -/
def callME (c : Con) (e : Ty) (xs : List D) (lk : Look) (args : List V0) : Option Eff :=
  match c.tys with
  | e' :: tys =>
    (match persVs lk args with
    | some (args', _) =>
      (match datas tys args' with
      | some ds =>
        (match retsE 0 lk 0 (c.run (.list xs :: ds)).rets with
        | some (vs, _) => if e = e' ∧ (c.run (.list xs :: ds)).rets.all RV.plain = true then some ⟨[(c.run (.list xs :: ds)).pre], packV vs, []⟩ else none
        | none => none)
      | none => none)
    | none => none)
  | [] => none

def makeMapE (tt : TT) (d : Nat) (lk : Look) (t : Nat) : Option Eff :=
  match tt.getM t, lk.get d with
  | some (_, e), none => (match tt.get e with
    | some ti => if ti.ty.flat = true ∧ ti.ty.wf = true then some ⟨[], .v (.one (.mp d)), [(d, .box [.mapc ti.ty []])]⟩ else none
    | none => none)
  | _, _ => none
def mapUpdE (tt : TT) (t : Nat) (lk : Look) (h : Nat) (k : IntKind) (n : Int) (x : V0) : Option Eff :=
  match tt.getM t, lk.get h, k with
  | some (_, e), some (.box [.mapc ty xs]), .i64 =>
    (match tt.get e, dOf ty x.cells with
    | some ti, some d => if ti.ty = ty ∧ ty.flat = true ∧ x.isAgg = ty.isAgg then some ⟨[], .v (.one .undf), [(h, .box [.mapc ty (mput xs n d)])]⟩ else none
    | _, _ => none)
  | _, _, _ => none
def lookE (tt : TT) (t : Nat) (lk : Look) (h : Nat) (k : IntKind) (n : Int) (ok : Bool) : Option Eff :=
  match tt.getM t, lk.get h, k with
  | some (_, e), some (.box [.mapc ty xs]), .i64 =>
    (match tt.get e with
    | some ti => if ti.ty = ty ∧ ty.wf = true then
        (match ok with
        | true => some ⟨[], .tup [svOf ty (mgetD ty xs n), .one (.bool (mhas xs n))], []⟩
        | false => some ⟨[], .v (svOf ty (mgetD ty xs n)), []⟩) else none
    | none => none)
  | _, _, _ => none

def capOf : V0 → Option Nat
  | .one (.ptr h 0) => some h
  | _ => none

/-- Operations, by their operands' values. -/
def core (tt : TT) (tb : Nat → Option Con) (d : Nat) (o : Op) (vals : List SV) (lk : Look) : Option Eff :=
  match o, vals with
  | .move _, [x] | .assign _, [x] => some ⟨[], x, []⟩
  | .pick .., [.v (.one .tt), x, _] => some ⟨[], x, []⟩
  | .pick .., [.v (.one .ff), _, x] => some ⟨[], x, []⟩
  | .alloc t, [] => (match tt.get t, lk.get d with
    | some ti, none => some ⟨[], .v (.one (.ptr d 0)), [(d, .box ti.ty.zeroS)]⟩
    | _, _ => none)
  | .box t _, [.v x] => (match tt.get t, lk.get d with
    | some ti, none => if x.cells.length = ti.ty.n ∧ x.ok = true then some ⟨[], .v (.one (.ptr d 0)), [(d, .box x.cells)]⟩ else none
    | _, _ => none)
  | .build t ps, vs => (match plainV vs with
    | some l => buildE tt t ((ps.toList.map (·.1)).zip l)
    | none => none)
  | .buildSlice t len ps, vs => (match plainV vs with
    | some l => buildSliceE tt d lk t len ((ps.toList.map (·.1)).zip l)
    | none => none)
  | .load t _, [.v (.one p)] => loadE tt t lk p
  | .store t _ _, [.v (.one p), .v x] => storeE tt t lk p x
  | .nilCheck _, [.v (.one p)] => (match p with
    | .ptr .. | .rptr .. | .pptr .. => Eff.one p
    | .fn .. => Eff.one p
    | _ => none)
  | .binOp op t _ _ _, [.v x, .v y] => binE tt op t x y
  | .unOp op _ _, [.v (.one x)] => unE op x
  | .convert src dst _, [.v (.one x)] => convE tt src dst lk x
  | .makeInterface t _, [.v (.one (.int k n))] => (match tt.get t with
    | some _ => Eff.one (.ifc t k n)
    | none => none)
  | .typeAssert _ _ t true, [.v (.one x)] => (match tt.get t with
    | some ⟨.int k', _, _⟩ => (match x with
      | .ifc t' k n => if t' = t ∧ k = k' then some ⟨[], .tup [.one (.int k n), .one .tt], []⟩ else none
      | .nilifc => some ⟨[], .tup [.one (.int k' 0), .one .ff], []⟩
      | _ => none)
    | _ => none)
  | .makeFunc (.func f) first _, caps =>
    if first.size = 0 then
      (match plainV caps with
      | some l => (match l.mapM capOf with
        | some hs => Eff.one (.fn f hs)
        | none => none)
      | none => none)
    else none
  | .makeSlice t _ _, [.v (.one l), .v (.one c)] => makeSliceE tt d lk t l c
  | .makeMap t none, [] => makeMapE tt d lk t
  | .mapUpdate t _ _ _, [.v (.one (.mp h)), .v (.one (.int k n)), .v x] => mapUpdE tt t lk h k n x
  | .lookup t _ _ ok, [.v (.one (.mp h)), .v (.one (.int k n))] => lookE tt t lk h k n ok
  | .slice t _ lo hi mx, .v (.one x) :: bs =>
    match lo, hi, bs with
    | none, none, [] => sliceE tt t lk x none none mx.isSome
    | some _, none, [.v (.one l)] => sliceE tt t lk x (some l) none mx.isSome
    | none, some _, [.v (.one h)] => sliceE tt t lk x none (some h) mx.isSome
    | some _, some _, [.v (.one l), .v (.one h)] => sliceE tt t lk x (some l) (some h) mx.isSome
    | _, _, _ => none
  | .fieldAddr t _ j, [.v (.one p)] => fieldAddrE tt t j p
  | .field t _ j, [.v x] => fieldE tt t j x
  | .indexAddr t _ _, [.v (.one x), .v (.one i)] => indexAddrE tt t lk x i
  | .index t _ _, [.v (.one (.str s)), .v (.one (.int _ n))] => (match tt.get t with
    | some ⟨.str, _, _⟩ => Eff.when ((0 : Int) ≤ n ∧ n < lenS s) (.int .u8 (sget s n))
    | _ => none)
  | .extract _ i, [.tup l] => (match l[i]? with
    | some x => some ⟨[], .v x, []⟩
    | none => none)
  | .call c, vs =>
    match c.callee with
    | .builtin .len => (match vs with | [.v (.one x)] => if c.argTypes.size = 1 then (match tt.get (c.argTypes.getD 0 0) with | some ⟨.str, _, _⟩ => (match x with | .str _ => lenE lk x | _ => none) | some ⟨.slice _, _, _⟩ => (match x with | .str _ => none | _ => lenE lk x) | _ => none) else none | _ => none)
    | .builtin .append => (match vs with | [.v (.one s), .v (.one x)] => if c.argTypes.size = 2 then appendE tt d lk (c.argTypes.getD 0 0) (c.argTypes.getD 1 0) s x else none | _ => none)
    | .builtin .copy => (match vs with | [.v (.one s), .v (.one x)] => if c.argTypes.size = 2 then copyE tt lk (c.argTypes.getD 0 0) (c.argTypes.getD 1 0) s x else none | _ => none)
    | .builtin .min => (match vs with | [.v (.one (.int k a)), .v (.one (.int k' b))] => if k = k' then Eff.one (.int k (imin a b)) else none | _ => none)
    | .builtin .max => (match vs with | [.v (.one (.int k a)), .v (.one (.int k' b))] => if k = k' then Eff.one (.int k (imax a b)) else none | _ => none)
    | .value _ => (match vs with
      | .v (.one (.fn f [])) :: .v (.one (.mp h)) :: args => (match tb (1000000 + f), lk.get h, plainV args with
        | some con, some (.box [.mapc e xs]), some l => callME con e xs lk l
        | _, _, _ => none)
      | .v (.one (.fn f [])) :: args => (match Nat.ble 1000000 f, tb f, plainV args with
        | false, some con, some l => callE con d lk l
        | _, _, _ => none)
      | _ => none)
    | _ => none
  | _, _ => none

/-! ### States -/
def hid (base d : Nat) : Nat := base + 8 * d

def look (H : Heap) (hs : List Nat) : Look := hs.map fun h => (h, H.get h)

def putAll (H : Heap) : List (Nat × SB) → Heap
  | [] => H
  | (h, b) :: r => putAll (H.put h b) r

/-- The names that an operation may make. -/
def newNames (d : Nat) : List Nat := [d, d + 1, d + 2, d + 3, d + 4, d + 5]

def stepE (tt : TT) (tb : Nat → Option Con) (base : Nat) (o : Oper) (s : St) : Option Eff :=
  match evs s.slots o.op.operands.toList with
  | some vals => core tt tb (hid base (o.dst.getD 0)) o.op vals (look s.heap (vals.flatMap SV.hs ++ newNames (hid base (o.dst.getD 0))))
  | none => none

def St.eff (s : St) (o : Oper) (f : Eff) : St := s.with o.dst f.v (putAll s.heap f.e)

def conj : List Prop → Prop → Prop
  | [], K => K
  | c :: r, K => c ∧ conj r K

/-- Where the executor does not know how to go on. -/
def Stuck (_ : Nat) (_ : Oper) : Prop := False

/-- Is the guard of an operation met? -/
inductive GS where
  | run
  | skip
  | lost

def guardE (ops : List Oper) (slots : List SV) (o : Oper) : GS :=
  match o.guard with
  | none => .run
  | some (j, want) =>
    match ops[j]? with
    | some p =>
      match p.dst with
      | some g =>
        match slots[g]? with
        | some (.v (.one .tt)) => if want then .run else .skip
        | some (.v (.one .ff)) => if want then .skip else .run
        | some (.v (.one .undf)) => .skip
        | _ => .lost
      | none => .lost
    | none => .lost

/-- Is operation i a guard? -/
def isGuard (ops : List Oper) (i : Nat) : Bool := ops.any fun o => match o.guard with
  | some (j, _) => j == i
  | none => false

/-- What one operation of a region left, in the text's order. -/
structure Rec where
  o : Oper
  v : SV
  e : List (Nat × SB)
  rd : List Nat

def readsE (base : Nat) (o : Oper) (s : St) : List Nat :=
  match evs s.slots o.op.operands.toList with
  | some vals => vals.flatMap SV.hs ++ newNames (hid base (o.dst.getD 0))
  | none => []

/-- A region's operations, in the text's order. -/
def runOps (tt : TT) (tb : Nat → Option Con) (base : Nat) (ops : List Oper) : List Oper → Nat → St → List Rec → (St → List Rec → Prop) → Prop
  | [], _, s, recs, K => K s recs
  | o :: rest, i, s, recs, K =>
    match guardE ops s.slots o with
    | .run =>
      match stepE tt tb base o s with
      | some f =>
        match isGuard ops i, f.v with
        | true, .v (.one (.bool e)) =>
          conj f.cs ((e = true → runOps tt tb base ops rest (i + 1) (s.with o.dst (.v (.one .tt)) (putAll s.heap f.e)) (recs ++ [⟨o, .v (.one .tt), f.e, readsE base o s⟩]) K) ∧
            (e = false → runOps tt tb base ops rest (i + 1) (s.with o.dst (.v (.one .ff)) (putAll s.heap f.e)) (recs ++ [⟨o, .v (.one .ff), f.e, readsE base o s⟩]) K))
        | _, v => conj f.cs (runOps tt tb base ops rest (i + 1) (s.with o.dst v (putAll s.heap f.e)) (recs ++ [⟨o, v, f.e, readsE base o s⟩]) K)
      | none => Stuck i o
    | .skip => runOps tt tb base ops rest (i + 1) (s.with o.dst (.v (.one .undf)) s.heap) (recs ++ [⟨o, .v (.one .undf), [], []⟩]) K
    | .lost => Stuck i o

/-! ### Regions that draw their order -/
def afters (o : Oper) : List Nat := (o.after.toList.filter (Region.binds .any)).map (·.on)
/-- What must have come before: operation by operation. -/
def ancs : List Oper → List (List Nat) → List (List Nat)
  | [], acc => acc
  | o :: r, acc => ancs r (acc ++ [(afters o) ++ (afters o).flatMap fun j => acc.getD j []])

def meets (a b : List Nat) : Bool := a.any fun x => b.contains x
def looksL (ops : List Oper) (o : Oper) : List Nat :=
  (o.op.operands.toList.filterMap fun x => match x with | .tmp t => some t | _ => none) ++
  (match o.guard with
   | some (g, _) => (match ops[g]? with | some p => p.dst.toList | none => [])
   | none => [])
def Rec.slotsR (ops : List Oper) (r : Rec) : List Nat := looksL ops r.o
def Rec.slotsW (r : Rec) : List Nat := r.o.dst.toList
def Rec.hW (r : Rec) : List Nat := r.e.map (·.1)

def apart (ops : List Oper) (x y : Rec) : Bool :=
  !(meets x.slotsW (y.slotsR ops)) && !(meets x.slotsW y.slotsW) && !(meets y.slotsW (x.slotsR ops)) &&
  !(meets x.hW y.rd) && !(meets x.hW y.hW) && !(meets y.hW x.rd)

/-- Record x (number i) against those behind it. -/
def apartFrom (ops : List Oper) (an : List (List Nat)) (x : Rec) (i : Nat) : List Rec → Nat → Bool
  | [], _ => true
  | y :: r, j => ((an.getD j []).contains i || apart ops x y) && apartFrom ops an x i r (j + 1)
def apartAll (ops : List Oper) (an : List (List Nat)) : List Rec → Nat → Bool
  | [], _ => true
  | x :: r, i => apartFrom ops an x i r (i + 1) && apartAll ops an r (i + 1)
def aftersOK : List Oper → Nat → Bool
  | [], _ => true
  | o :: r, i => ((afters o).all fun j => decide (j < i)) && (match o.op with | .select .. => false | _ => true) && aftersOK r (i + 1)

/-- The same by bits: what must have come before. -/
def ancM : List Oper → List Nat → List Nat
  | [], acc => acc
  | o :: r, acc => ancM r (acc ++ [(afters o).foldl (fun m j => m ||| (2 ^ j ||| acc.getD j 0)) 0])
def apartFromM (ops : List Oper) (an : List Nat) (x : Rec) (i : Nat) : List Rec → Nat → Bool
  | [], _ => true
  | y :: r, j => ((an.getD j 0).testBit i || apart ops x y) && apartFromM ops an x i r (j + 1)
def apartAllM (ops : List Oper) (an : List Nat) : List Rec → Nat → Bool
  | [], _ => true
  | x :: r, i => apartFromM ops an x i r (i + 1) && apartAllM ops an r (i + 1)

def okDraw (ops : List Oper) (n : Nat) (recs : List Rec) : Bool :=
  aftersOK ops 0 && apartAllM ops (ancM ops []) recs 0 && (ops.all fun o => match o.dst with | some d => decide (d < n) | none => true)

inductive Ex where
  | normal
  | exit (id : Nat)
  | ret
  | panic (x : S1)

structure Cfg where
  tt : TT
  tb : Nat → Option Con
  inl : Nat → Option Func

end Go.RX
