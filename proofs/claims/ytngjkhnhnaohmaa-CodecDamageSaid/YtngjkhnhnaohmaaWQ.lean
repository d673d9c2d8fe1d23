/- Part of the proof of the laws of this seat: contracts of its functions, for every input. -/
import Derived.Test.YtngjkhnhnaohmaaWP
set_option linter.all false
namespace Go.RX
def sU8 (n : Int) : SV := .v (.one (.int .u8 n))
end Go.RX
namespace Go.Proofs.Ytngjkhnhnaohmaa
open Go Go.RX Go.Proofs
set_option maxRecDepth 100000
set_option linter.all false
def be4L (s : Int) : List D := [.int (s / 16777216), .int (s / 65536 % 256), .int (s / 256 % 256), .int (s % 256)]
def frB (k : Int) (p : List UInt8) : List D := putT [.int (k % 256)] p
def frF (k : Int) (p : List UInt8) : List D := frB k p ++ be4L (sumZ (frB k p))
def putF (b : List D) (k : Int) (p : List UInt8) : List D := b ++ frF k p
structure NX where
  n : Int
  x : Int
def inF (b : List D) : Nat → Nat → Int → NX
  | 0, n, a => ⟨n, a⟩
  | f + 1, n, a => if (frameZ b a).e ≠ 0 then ⟨n, a⟩ else inF b f (n + 1) (frameZ b a).x
def inZ (b : List D) : NX := inF b (b.length + 1) 0 0
def inOk (b : List D) (g : Nat × Int) : Prop := (g.1 : Int) ≤ g.2 ∧ g.2 ≤ b.length ∧ inF b (b.length + 1 - g.1) g.1 g.2 = inZ b
def partZ (b : List D) (f t : Int) (w : List D) : Bool := decide (f ≤ t) && (decide (t ≤ b.length) && sameZ (xsub b f t) w)
def con22 : Con := ⟨[lb, i64, lb], fun | [b, k, p] => ⟨b.l.length ≤ 1000000 ∧ p.l.length ≤ 1000000, [.fresh 5 u8 (putF b.l k.i (strD p.l))]⟩ | _ => bad⟩
def con23 : Con := con22
def con29 : Con := con26
def con30 : Con := ⟨[lb], fun | [b] => ⟨b.l.length ≤ 1000000, [vI (inZ b.l).n, vI (inZ b.l).x]⟩ | _ => bad⟩
def con31 : Con := con30
def con27 : Con := ⟨[i64, i64], fun | [c, n] => ⟨0 < n.i, [vI (c.i % n.i)]⟩ | _ => bad⟩
def con28 : Con := ⟨[lb, i64, i64, lb], fun | [b, f, t, w] => ⟨0 ≤ f.i, [vB (partZ b.l f.i t.i w.l)]⟩ | _ => bad⟩
def con32 : Con := ⟨[i64], fun | [n] => ⟨0 ≤ n.i ∧ n.i ≤ 7, [.sv (.one (.int .u8 (2 ^ n.i.toNat)))]⟩ | _ => bad⟩
def tb22 : Tab := fun f => match f with
  | 13 => some con13
  | 24 => some con24
  | _ => none
def tb23 : Tab := fun f => match f with
  | 11 => some con11
  | 16 => some con16
  | 25 => some con25
  | _ => none
def tb29 : Tab := fun f => match f with
  | 21 => some con21
  | 25 => some con25
  | _ => none
def tb30 : Tab := fun f => match f with
  | 26 => some con26
  | _ => none
def tb31 : Tab := fun f => match f with
  | 29 => some con29
  | _ => none
def tb28 : Tab := fun f => match f with
  | 14 => some con14
  | _ => none
def lp29 : Loops := fun r s => match r with
  | 12 => some ⟨[], Nat, fun i => i ≤ 4, fun i => 4 - i, fun i => frame s [0, 1, 8, 9] [] [(11, sI (be4 (slOf s 0) (intOf s 9) i)), (12, sI (i : Int))] []⟩
  | _ => none
def lp30 : Loops := fun r s => match r with
  | 2 => some ⟨[], Nat × Int, fun g => inOk (slOf s 0) g, fun g => (slOf s 0).length + 1 - g.1, fun g => frame s [0] [] [(4, sI (g.1 : Int)), (5, sI g.2)] []⟩
  | _ => none
def lp31 : Loops := fun r s => match r with
  | 2 => some ⟨[], Nat × Int, fun g => inOk (slOf s 0) g, fun g => (slOf s 0).length + 1 - g.1, fun g => frame s [0] [] [(4, sI (g.1 : Int)), (5, sI g.2)] []⟩
  | _ => none
def lp32 : Loops := fun r s => match r with
  | 3 => some ⟨[], Nat, fun i => (i : Int) ≤ intOf s 0, fun i => (intOf s 0).toNat - i, fun i => frame s [0] [] [(3, sU8 (2 ^ i)), (4, sI (i : Int))] []⟩
  | _ => none
end Go.Proofs.Ytngjkhnhnaohmaa
