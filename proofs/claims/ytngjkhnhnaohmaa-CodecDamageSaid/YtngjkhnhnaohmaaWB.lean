/- Part of the proof of the laws of this seat: contracts of its functions, for every input. -/
import Derived.Test.YtngjkhnhnaohmaaWA
import Derived.Test.YtngjkhnhnaohmaaRxV
set_option linter.all false
namespace Go.RX
/-- The name of the row in a slot; of the block to which a slot points. -/
def rowN (s : St) (t : Nat) : Nat := match s.slots[t]? with
  | some (.v (.one (.row h _))) => h
  | _ => 0
def ptrN (s : St) (t : Nat) : Nat := match s.slots[t]? with
  | some (.v (.one (.ptr h _))) => h
  | _ => 0
def sU32 (n : Int) : SV := .v (.one (.int .u32 n))
def allH (s : St) : List Nat := s.heap.map Prod.fst
def allU (s : St) : List Nat := List.range s.susp.length
end Go.RX
namespace Go.Proofs.Ytngjkhnhnaohmaa
open Go Go.RX Go.Proofs
set_option maxRecDepth 100000
set_option linter.all false
def u64 : Ty := .int .u64
def u8 : Ty := .int .u8
def lb : Ty := .slice u8
def glF : Nat → Int → Nat
  | 0, _ => 0
  | f + 1, c => if c < 128 then 0 else glF f (c / 128) + 1
def glen (c : Int) : Nat := glF 10 c
def encP (c : Int) (k : Nat) : List D := mkL k fun i => .int (c / 128 ^ i % 128 + 128)
def encB (c : Int) : List D := encP c (glen c) ++ [.int (c / 128 ^ glen c)]
def codeOf (n : Int) : Int := if n < 0 then 2 * (-(n + 1)) + 1 else 2 * n
def putI (b : List D) (n : Int) : List D := b ++ encB (codeOf n)
def putT (b : List D) (s : List UInt8) : List D := putI b (s.length : Int) ++ bytesD s
def crc1 (x : Int) : Int := if irem x 2 = 1 then bits .xor .u32 (iquo .u32 x 2) 2197175160 else iquo .u32 x 2
def crcK (x : Int) : Nat → Int
  | 0 => x
  | k + 1 => crc1 (crcK x k)
def sumTo (l : List D) : Nat → Int
  | 0 => 4294967295
  | i + 1 => crcK (bits .xor .u32 (sumTo l i) (iconv .u32 (ei l i))) 8
def sumZ (l : List D) : Int := iconv .i64 (bits .xor .u32 (sumTo l l.length) 4294967295)
def grpTo (b : List D) (at' : Nat) : Nat → Nat
  | 0 => 0
  | i + 1 => if grpTo b at' i ≠ 0 then grpTo b at' i else if at' + i < b.length ∧ ei b (at' + i) < 128 then i + 1 else 0
def grpZ (b : List D) (at' : Nat) : Nat := grpTo b at' 10
def codeTo (b : List D) (at' : Nat) : Nat → Int
  | 0 => 0
  | i + 1 => codeTo b at' i + ei b (at' + i) % 128 * 128 ^ i
structure IR where
  n : Int
  x : Int
  e : Int
def decZ (c : Int) : Int := if c % 2 = 1 then -(c / 2) - 1 else c / 2
def intA (b : List D) (at' : Nat) : IR :=
  if grpZ b at' = 0 ∧ b.length < at' + 10 then ⟨0, 0, 7⟩
  else if grpZ b at' = 0 ∨ (grpZ b at' = 10 ∧ 1 < ei b (at' + 9)) ∨ (1 < grpZ b at' ∧ ei b (at' + grpZ b at' - 1) = 0) then ⟨0, 0, 5⟩
  else ⟨decZ (codeTo b at' (grpZ b at')), ((at' + grpZ b at' : Nat) : Int), 0⟩
def intZ (b : List D) (a : Int) : IR := if a < 0 ∨ (b.length : Int) < a then ⟨0, 0, 2⟩ else intA b a.toNat
structure TR where
  s : List UInt8
  x : Int
  e : Int
def textZ (b : List D) (a : Int) : TR :=
  if (intZ b a).e ≠ 0 then ⟨[], 0, (intZ b a).e⟩
  else if (intZ b a).n < 0 then ⟨[], 0, 5⟩
  else if 65536 < (intZ b a).n then ⟨[], 0, 4⟩
  else if (b.length : Int) - (intZ b a).x < (intZ b a).n then ⟨[], 0, 7⟩
  else ⟨strD (xsub b (intZ b a).x ((intZ b a).x + (intZ b a).n)), (intZ b a).x + (intZ b a).n, 0⟩

def con11 : Con := ⟨[lb], fun | [b] => ⟨b.l.length ≤ 10000000, [.fresh 5 u8 b.l]⟩ | _ => bad⟩
def con12 : Con := ⟨[lb, i64], fun | [b, n] => ⟨b.l.length ≤ 1000000, [.fresh 5 u8 (putI b.l n.i)]⟩ | _ => bad⟩
def con15 : Con := con12
def con13 : Con := ⟨[lb, .str], fun | [b, s] => ⟨b.l.length ≤ 1000000 ∧ s.s.length ≤ 1000000, [.fresh 5 u8 (putT b.l s.s)]⟩ | _ => bad⟩
def con16 : Con := con13
def con14 : Con := ⟨[lb, lb], fun | [a, b] => ⟨True, [vB (sameZ a.l b.l)]⟩ | _ => bad⟩
def con24 : Con := ⟨[lb], fun | [b] => ⟨True, [vI (sumZ b.l)]⟩ | _ => bad⟩
def con25 : Con := con24
def con36 : Con := ⟨[lb, i64], fun | [b, a] => ⟨b.l.length ≤ 1000000 ∧ 0 ≤ a.i ∧ a.i ≤ lenI b.l, [vI (grpZ b.l a.i.toNat : Nat)]⟩ | _ => bad⟩
def con19 : Con := ⟨[lb, i64], fun | [b, a] => ⟨b.l.length ≤ 1000000, [vI (intZ b.l a.i).n, vI (intZ b.l a.i).x, vI (intZ b.l a.i).e]⟩ | _ => bad⟩
def con21 : Con := ⟨[lb, i64], fun | [b, a] => ⟨b.l.length ≤ 1000000, [.sv (.one (.str (textZ b.l a.i).s)), vI (textZ b.l a.i).x, vI (textZ b.l a.i).e]⟩ | _ => bad⟩
def tb15 : Tab := fun f => match f with
  | 11 => some con11
  | _ => none
def tb13 : Tab := fun f => match f with
  | 12 => some con12
  | _ => none
def tb16 : Tab := fun f => match f with
  | 15 => some con15
  | _ => none
def tb19 : Tab := fun f => match f with
  | 36 => some con36
  | _ => none
def tb21 : Tab := fun f => match f with
  | 19 => some con19
  | _ => none
def lp12 : Loops := fun r s => match r with
  | 5 => some ⟨[], Nat, fun k => k ≤ glen (intOf s 5), fun k => glen (intOf s 5) - k, fun k => frame s [] [] [(5, sU (intOf s 5 / 128 ^ k)), (6, sRow (rowN s 6))] [(rowN s 6, .row 0 5 u8 (xcat (rowL s (rowN s 6)) (encP (intOf s 5) k)))]⟩
  | 1000004 => some ⟨[], Unit, fun _ => True, fun _ => 0, fun _ => frame s [0] [] [(5, sU (codeOf (intOf s 1)))] []⟩
  | _ => none
def lp15 : Loops := fun r s => match r with
  | 6 => some ⟨[], Nat, fun k => k ≤ glen (intOf s 6), fun k => glen (intOf s 6) - k, fun k => frame s [] [] [(6, sU (intOf s 6 / 128 ^ k)), (5, sRow (rowN s 5))] [(rowN s 5, .row 0 5 u8 (xcat (rowL s (rowN s 5)) (encP (intOf s 6) k)))]⟩
  | 1000006 => some ⟨[], Unit, fun _ => True, fun _ => 0, fun _ => frame s [5] [rowN s 5] [(6, sU (codeOf (intOf s 1)))] []⟩
  | _ => none
def lp16 : Loops := fun r s => match r with
  | 3 => some ⟨[], Nat, fun k => k ≤ (strOf s 1).length, fun k => (strOf s 1).length - k, fun k => frame s [1] [] [(5, sRow (rowN s 5)), (6, sI (k : Int))] [(rowN s 5, .row 0 5 u8 (xcat (rowL s (rowN s 5)) (mkL k fun i => .int (sget (strOf s 1) (i : Int)))))]⟩
  | _ => none
def lp14 : Loops := fun r s => match r with
  | 4 => some ⟨[], Nat, fun i => i ≤ (slOf s 0).length ∧ sameTo (slOf s 0) (slOf s 1) i, fun i => (slOf s 0).length - i, fun i => frame s [0, 1] [] [(5, sI (i : Int))] []⟩
  | _ => none
def lp24 : Loops := fun r s => match r with
  | 3 => some ⟨[], Nat, fun i => i ≤ (slOf s 7).length, fun i => (slOf s 7).length - i, fun i => frame s [7, 8] [] [(3, sU32 (sumTo (slOf s 7) i)), (9, sI (i : Int))] []⟩
  | 7 => some ⟨[], Nat, fun i => i ≤ 8, fun i => 8 - i, fun i => frame s [7, 8, 9] [] [(3, sU32 (crcK (intOf s 3) i)), (17, sI (i : Int))] []⟩
  | _ => none
def lp25 : Loops := fun r s => match r with
  | 3 => some ⟨[], Nat, fun i => i ≤ (slOf s 0).length, fun i => (slOf s 0).length - i, fun i => frame s [0] [] [(3, sU32 (sumTo (slOf s 0) i)), (4, sI (i : Int))] []⟩
  | 7 => some ⟨[], Nat, fun i => i ≤ 8, fun i => 8 - i, fun i => frame s [0, 4] [] [(3, sU32 (crcK (intOf s 3) i)), (5, sI (i : Int))] []⟩
  | _ => none
def lp36 : Loops := fun r s => match r with
  | 2 => some ⟨[], Nat, fun i => i ≤ 10 ∧ grpTo (slOf s 0) (intOf s 1).toNat i = 0, fun i => 10 - i, fun i => frame s [0, 1] [] [(5, sI (i : Int))] []⟩
  | _ => none
def lp19 : Loops := fun r s => match r with
  | 10 => some ⟨[], Nat, fun k => (k : Int) ≤ intOf s 7, fun k => (intOf s 7).toNat - k, fun k => frame s [0, 1, 7] [] [(8, sU ((codeTo (slOf s 0) (intOf s 1).toNat (intOf s 7).toNat) / 128 ^ ((intOf s 7).toNat - k))), (9, sI (intOf s 7 - 1 - (k : Int)))] []⟩
  | 1000006 => some ⟨[], Unit, fun _ => ¬ (intOf s 7 = 0 ∧ lenI (slOf s 0) < intOf s 1 + 10), fun _ => 0, fun _ => frame s [0, 1, 7] [] [] []⟩
  | 1000008 => some ⟨[], Unit, fun _ => intOf s 7 ≠ 0 ∧ ¬ (intOf s 7 = 10 ∧ 1 < ei (slOf s 0) ((intOf s 1).toNat + 9)) ∧ ¬ (1 < intOf s 7 ∧ ei (slOf s 0) ((intOf s 1).toNat + (intOf s 7).toNat - 1) = 0), fun _ => 0, fun _ => frame s [0, 1, 7] [] [] []⟩
  | _ => none
end Go.Proofs.Ytngjkhnhnaohmaa
