/- Part of the proof of the laws of this seat: contracts of its functions, for every input. -/
import Derived.Test.YtafpahkcjdfpiaaDoorWJ
set_option linter.all false
namespace Go.RX
def rowN (s : St) (t : Nat) : Nat := match s.slots[t]? with
  | some (.v (.one (.row h _))) => h
  | _ => 0
def ptrN (s : St) (t : Nat) : Nat := match s.slots[t]? with
  | some (.v (.one (.ptr h _))) => h
  | _ => 0
def allH (s : St) : List Nat := s.heap.map Prod.fst
def allU (s : St) : List Nat := List.range s.susp.length
end Go.RX
namespace Go.Proofs.YtafpahkcjdfpiaaDoor
open Go Go.RX Go.Proofs
set_option maxRecDepth 100000
set_option linter.all false
def u64 : Ty := .int .u64
def u8 : Ty := .int .u8
def lu : Ty := .slice u64
def lb : Ty := .slice u8
def ls : Ty := .slice .str
def okC (b : UInt8) : Bool := decide (32 ≤ b.toNat) && decide (b.toNat ≤ 126)
def oneZ (s : List UInt8) : Bool := decide (1 ≤ s.length) && (decide (s.length ≤ 512) && s.all fun b => decide (33 ≤ b.toNat) && decide (b.toNat ≤ 126))
structure FL where
  l : List D
  e : Int
def fieldsZ (s : List UInt8) : FL :=
  if 512 < s.length then ⟨[], 4⟩
  else if s = [] then ⟨[], 0⟩
  else if s.all okC = false then ⟨[], 5⟩
  else if (splitD s).all (fun d => decide (d.s ≠ [])) = false then ⟨[], 5⟩
  else ⟨splitD s, 0⟩
structure PS where
  l : List D
  st : Nat
def sepAt (s : List UInt8) (i : Nat) : Bool := decide (i = s.length) || decide (sget s (i : Int) = 32)
def pcTo (s : List UInt8) : Nat → PS
  | 0 => ⟨[], 0⟩
  | i + 1 => if sepAt s i = true then ⟨xcat (pcTo s i).l [.str (ssub s ((pcTo s i).st : Int) (i : Int))], i + 1⟩ else pcTo s i
def errAt (s : List UInt8) (i : Nat) : Bool := (decide (i < s.length) && (decide (sget s (i : Int) < 32) || decide (126 < sget s (i : Int)))) || (sepAt s i && decide (i = (pcTo s i).st))
def fields2 (s : List UInt8) : FL :=
  if 512 < s.length then ⟨[], 4⟩
  else if s = [] then ⟨[], 0⟩
  else if (List.range (s.length + 1)).any (errAt s) = true then ⟨[], 5⟩
  else ⟨(pcTo s (s.length + 1)).l, 0⟩
def con66 : Con := ⟨[.str], fun | [s] => ⟨True, [vSl .str (fieldsZ s.s).l, vI (fieldsZ s.s).e]⟩ | _ => bad⟩
def con70 : Con := ⟨[.str], fun | [s] => ⟨True, [vSl .str (fields2 s.s).l, vI (fields2 s.s).e]⟩ | _ => bad⟩
def con38 : Con := ⟨[.str], fun | [s] => ⟨True, [vB (oneZ s.s)]⟩ | _ => bad⟩
def con43 : Con := con38
def tb66 : Tab := fun f => match f with
  | 78 => some con78
  | _ => none
def tb38 : Tab := fun f => match f with
  | 66 => some con66
  | _ => none
def tb43 : Tab := fun f => match f with
  | 70 => some con70
  | _ => none
def lp66 : Loops := fun r s => match r with
  | 6 => some ⟨[], Nat, fun i => i ≤ (strOf s 0).length ∧ ∀ j, j < i → 32 ≤ sget (strOf s 0) (j : Int) ∧ sget (strOf s 0) (j : Int) ≤ 126, fun i => (strOf s 0).length - i, fun i => frame s [0, 14] [] [(15, sI (i : Int))] []⟩
  | 13 => some ⟨[], Nat, fun i => i ≤ (rowL s 241).length ∧ ∀ j, j < i → (elt (rowL s 241) (j : Int)).s ≠ [], fun i => (rowL s 241).length - i, fun i => frame s [5, 31, 32] [241] [(33, sI (i : Int))] []⟩
  | _ => none
def lp70 : Loops := fun r s => match r with
  | 8 => some ⟨[(4, 7000, 9, .str)], Nat, fun i => i ≤ (strOf s 0).length + 1 ∧ ∀ j, j < i → errAt (strOf s 0) j = false, fun i => (strOf s 0).length + 1 - i,
      fun i => frame s [0] [] [(4, sRow 7000), (5, sI ((pcTo (strOf s 0) i).st : Int)), (6, sI (i : Int))] [(7000, .row 0 9 .str (pcTo (strOf s 0) i).l)]⟩
  | _ => none
def glF : Nat → Int → Nat
  | 0, _ => 0
  | f + 1, c => if c < 128 then 0 else glF f (c / 128) + 1
def glen (c : Int) : Nat := glF 10 c
def encP (c : Int) (k : Nat) : List D := mkL k fun i => .int (c / 128 ^ i % 128 + 128)
def encB (c : Int) : List D := encP c (glen c) ++ [.int (c / 128 ^ glen c)]
def codeOf (n : Int) : Int := if n < 0 then 2 * (-(n + 1)) + 1 else 2 * n
def putI (b : List D) (n : Int) : List D := b ++ encB (codeOf n)
def putT (b : List D) (s : List UInt8) : List D := putI b (s.length : Int) ++ bytesD s
def con77 : Con := ⟨[lb], fun | [b] => ⟨b.l.length ≤ 10000000, [.fresh 5 u8 b.l]⟩ | _ => bad⟩
def con65 : Con := ⟨[lb, i64], fun | [b, n] => ⟨b.l.length ≤ 1000000, [.fresh 5 u8 (putI b.l n.i)]⟩ | _ => bad⟩
def con63 : Con := con65
def con64 : Con := ⟨[lb, .str], fun | [b, s] => ⟨b.l.length ≤ 1000000 ∧ s.s.length ≤ 1000000, [.fresh 5 u8 (putT b.l s.s)]⟩ | _ => bad⟩
def con62 : Con := con64
def con34 : Con := ⟨[lb, lb], fun | [a, b] => ⟨True, [vB (sameZ a.l b.l)]⟩ | _ => bad⟩
def tb63 : Tab := fun f => match f with
  | 77 => some con77
  | _ => none
def tb64 : Tab := fun f => match f with
  | 65 => some con65
  | _ => none
def tb62 : Tab := fun f => match f with
  | 63 => some con63
  | _ => none
def lp65 : Loops := fun r s => match r with
  | 5 => some ⟨[], Nat, fun k => k ≤ glen (intOf s 5), fun k => glen (intOf s 5) - k, fun k => frame s [] [] [(5, sU (intOf s 5 / 128 ^ k)), (6, sRow (rowN s 6))] [(rowN s 6, .row 0 5 u8 (xcat (rowL s (rowN s 6)) (encP (intOf s 5) k)))]⟩
  | 1000004 => some ⟨[], Unit, fun _ => True, fun _ => 0, fun _ => frame s [0] [] [(5, sU (codeOf (intOf s 1)))] []⟩
  | _ => none
def lp63 : Loops := fun r s => match r with
  | 6 => some ⟨[], Nat, fun k => k ≤ glen (intOf s 6), fun k => glen (intOf s 6) - k, fun k => frame s [] [] [(6, sU (intOf s 6 / 128 ^ k)), (5, sRow (rowN s 5))] [(rowN s 5, .row 0 5 u8 (xcat (rowL s (rowN s 5)) (encP (intOf s 6) k)))]⟩
  | 1000006 => some ⟨[], Unit, fun _ => True, fun _ => 0, fun _ => frame s [5] [rowN s 5] [(6, sU (codeOf (intOf s 1)))] []⟩
  | _ => none
def lp62 : Loops := fun r s => match r with
  | 3 => some ⟨[], Nat, fun k => k ≤ (strOf s 1).length, fun k => (strOf s 1).length - k, fun k => frame s [1] [] [(5, sRow (rowN s 5)), (6, sI (k : Int))] [(rowN s 5, .row 0 5 u8 (xcat (rowL s (rowN s 5)) (mkL k fun i => .int (sget (strOf s 1) (i : Int)))))]⟩
  | _ => none
def lp34 : Loops := fun r s => match r with
  | 4 => some ⟨[], Nat, fun i => i ≤ (slOf s 0).length ∧ sameTo (slOf s 0) (slOf s 1) i, fun i => (slOf s 0).length - i, fun i => frame s [0, 1] [] [(5, sI (i : Int))] []⟩
  | _ => none
def hashTo (l : List D) : Nat → Int
  | 0 => 14695981039346656037
  | i + 1 => imul .u64 (bits .xor .u64 (hashTo l i) (iconv .u64 (ei l i))) 1099511628211
def hashZ (l : List D) : Int := hashTo l l.length
def byteOf (x : Int) (k : Nat) : Int := x / 2 ^ (56 - 8 * k) % 256
def jf (a b : Int) (j : Nat) : D := .int (byteOf (if j < 8 then a else b) (j % 8))
def joinZ (a b : Int) : Int := hashZ (mkL 16 (jf a b))
def chTo (start : Int) (l : List D) : Nat → Int
  | 0 => start
  | i + 1 => joinZ (chTo start l i) (hashZ (elt l (i : Int)).l)
def chainZ (start : Int) (l : List D) : List D := mkL l.length fun i => .int (chTo start l (i + 1))
def con36 : Con := ⟨[lb], fun | [l] => ⟨True, [vU (hashZ l.l)]⟩ | _ => bad⟩
def con26 : Con := con36
def con46 : Con := ⟨[u64, u64], fun | [a, b] => ⟨True, [vU (joinZ a.i b.i)]⟩ | _ => bad⟩
def con27 : Con := con46
def con28 : Con := ⟨[lu, lu], fun | [a, b] => ⟨True, [vB (sameZ a.l b.l)]⟩ | _ => bad⟩
def con69 : Con := ⟨[u64, .slice lb], fun | [s, l] => ⟨l.l.length ≤ 1000000, [.fresh 23 u64 (chainZ s.i l.l)]⟩ | _ => bad⟩
def con72 : Con := con69
def tb46 : Tab := fun f => match f with
  | 36 => some con36
  | _ => none
def tb27 : Tab := fun f => match f with
  | 26 => some con26
  | _ => none
def tb69 : Tab := fun f => match f with
  | 36 => some con36
  | 46 => some con46
  | _ => none
def tb72 : Tab := fun f => match f with
  | 26 => some con26
  | 27 => some con27
  | _ => none
def lp36 : Loops := fun r s => match r with
  | 3 => some ⟨[], Nat, fun i => i ≤ (slOf s 6).length, fun i => (slOf s 6).length - i, fun i => frame s [6, 7] [] [(3, sU (hashTo (slOf s 6) i)), (8, sI (i : Int))] []⟩
  | _ => none
def lp26 : Loops := fun r s => match r with
  | 3 => some ⟨[], Nat, fun i => i ≤ (slOf s 0).length, fun i => (slOf s 0).length - i, fun i => frame s [0] [] [(3, sU (hashTo (slOf s 0) i)), (4, sI (i : Int))] []⟩
  | _ => none
def lp46 : Loops := fun r s => match r with
  | 3 => some ⟨[(5, 7000, 5, u8)], Nat, fun i => i ≤ 2, fun i => 2 - i, fun i => frame s [11, 12] [88] [(5, sRow 7000), (13, sI (i : Int))] [(7000, .row 0 5 u8 (mkL (8 * i) (jf (intOf s 0) (intOf s 1))))]⟩
  | 6 => some ⟨[], Nat, fun k => k ≤ 8, fun k => 8 - k, fun k => frame s [7, 11, 12, 13] [88] [(5, sRow 7000), (17, sI (k : Int))] [(7000, .row 0 5 u8 (mkL (8 * (intOf s 13).toNat + k) (jf (ei (rowL s 88) 0) (ei (rowL s 88) 1))))]⟩
  | _ => none
def byK (k : Nat) : Int := 72057594037927936 / 256 ^ k
def lp50 : Loops := fun r s => match r with
  | 3 => some ⟨if isNil s 0 = true then [(0, 7100, 5, u8)] else [], Nat, fun k => k ≤ 8, fun k => 8 - k,
      fun k => frameU s [1] [1] [] [(0, sRow 7100), (5, sU (byK k)), (6, sI (k : Int))] [(7100, .row 0 5 u8 (xcat (rowL s 7100) (mkL k fun j => .int (byteOf (intOf s 1) j))))]⟩
  | _ => none
noncomputable def inl27 : InlT := fun f => match f with
  | 50 => some ⟨Tryd.f50, bodyOf Tryd.f50, lp50⟩
  | _ => none
def lp28 : Loops := fun r s => match r with
  | 4 => some ⟨[], Nat, fun i => i ≤ (slOf s 0).length ∧ sameTo (slOf s 0) (slOf s 1) i, fun i => (slOf s 0).length - i, fun i => frame s [0, 1] [] [(5, sI (i : Int))] []⟩
  | _ => none
def lp69 : Loops := fun r s => match r with
  | 4 => some ⟨[(5, 7000, 23, u64)], Nat, fun i => i ≤ (slOf s 10).length, fun i => (slOf s 10).length - i,
      fun i => frame s [10, 11] [] [(5, sRow 7000), (6, sU (chTo (intOf s 6) (slOf s 10) i)), (12, sI (i : Int))] [(7000, .row 0 23 u64 (mkL i fun i => .int (chTo (intOf s 6) (slOf s 10) (i + 1))))]⟩
  | _ => none
def lp72 : Loops := fun r s => match r with
  | 4 => some ⟨[(5, 7000, 23, u64)], Nat, fun i => i ≤ (slOf s 1).length, fun i => (slOf s 1).length - i,
      fun i => frame s [1] [] [(5, sRow 7000), (6, sU (chTo (intOf s 6) (slOf s 1) i)), (7, sI (i : Int))] [(7000, .row 0 23 u64 (mkL i fun i => .int (chTo (intOf s 6) (slOf s 1) (i + 1))))]⟩
  | _ => none
end Go.Proofs.YtafpahkcjdfpiaaDoor
