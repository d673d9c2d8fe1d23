/- Part of the proof of the laws of this seat: contracts of its functions, for every input. -/
import Derived.Test.YtoabcfpmjhjmfaaWA
import Derived.Test.YtoabcfpmjhjmfaaRxV
set_option linter.all false
namespace Go.Proofs.Ytoabcfpmjhjmfaa
open Go Go.RX Go.Proofs
def li : Ty := .slice i64
def scT : Ty := .pair i64 (.pair li (.pair li (.pair li .unit)))
def bad1 (up down : List D) (i : Nat) : Int :=
  if ei down i < 0 ∨ ei up i ≤ ei down i ∨ 2147483648 < ei up i then 1
  else if 0 < i ∧ (ei up i ≤ ei up (i - 1) ∨ ei down i ≤ ei down (i - 1)) then 15 else 0
def bad2 (parts : List D) (i : Nat) : Int := if ei parts i < 0 ∨ 10000 < ei parts i then 1 else 0
def checkZ (p : Int) (up down parts : List D) : Int :=
  if 8 < up.length then 3
  else if p < 1 ∨ 86400 < p ∨ down.length ≠ up.length ∨ parts.length ≠ up.length + 1 then 1
  else if errTo (bad1 up down) up.length ≠ 0 then errTo (bad1 up down) up.length
  else errTo (bad2 parts) parts.length
def ckS (s : D) : Int := checkZ (ri s 0) (rl s 1) (rl s 2) (rl s 3)
def upTo (up : List D) (c : Int) : Nat → Nat
  | 0 => 0
  | k + 1 => if ei up k ≤ c then k + 1 else upTo up c k
def downZ (down : List D) (c : Int) : Nat → Nat
  | 0 => 0
  | k + 1 => if c < ei down k then downZ down c k else k + 1
def clampZ (n : Nat) (level : Int) : Nat := min level.toNat n
def nextZ (up down : List D) (level c : Int) : Nat :=
  if clampZ up.length level < upTo up c up.length then upTo up c up.length else downZ down c (clampZ up.length level)
def nextV (s : D) (level c : Int) : Int := if ckS s ≠ 0 then 0 else (nextZ (rl s 1) (rl s 2) level c : Int)
def levZ (up down counts : List D) : Nat → Nat
  | 0 => 0
  | i + 1 => nextZ up down (levZ up down counts i : Int) (ei counts i)
def levV (s counts : D) : List D := if ckS s ≠ 0 then [] else mkL counts.l.length fun i => .int (levZ (rl s 1) (rl s 2) counts.l i : Int)
/-- How many of the first i times lie in period k. -/
def cntK (p : Int) (times : List D) (from_ : Int) : Nat → Nat → Nat
  | 0, _ => 0
  | i + 1, k => if from_ ≤ ei times i ∧ (ei times i - from_) / p = (k : Int) then cntK p times from_ i k + 1 else cntK p times from_ i k
def cntL (p : Int) (times : List D) (from_ : Int) (n i : Nat) : List D := mkL n fun k => .int (cntK p times from_ i k : Int)
def timeZ (t : Int) : Bool := decide (0 ≤ t) && decide (t < 68719476736)
def cntV (s times : D) (from_ n : Int) : List D :=
  if ckS s ≠ 0 ∨ timeZ from_ = false ∨ n < 0 ∨ 1024 < n then [] else cntL (ri s 0) times.l from_ n.toNat times.l.length
def atZ (p : Int) (up down times : List D) (t : Int) : Nat :=
  levZ up down (cntL p times ((t / p - min (t / p) 64) * p) (min (t / p) 64).toNat times.length) (min (t / p) 64).toNat
def atV (s times : D) (t : Int) : Int := if ckS s ≠ 0 ∨ timeZ t = false then 0 else (atZ (ri s 0) (rl s 1) (rl s 2) times.l t : Int)
def partV (s : D) (level : Int) : Int := if ckS s ≠ 0 then 0 else if level < 0 ∨ lenI (rl s 3) ≤ level then 1000 else (elt (rl s 3) level).i
def greatZ (s : D) : Bool := decide (20 < (rl s 1).length) || (decide (20 < (rl s 2).length) || decide (20 < (rl s 3).length))

def con10 : Con := ⟨[scT], fun | [s] => ⟨True, [vB (greatZ s)]⟩ | _ => bad⟩
def con12 : Con := ⟨[scT], fun | [s] => ⟨True, [vI (ckS s)]⟩ | _ => bad⟩
def con13 : Con := con12
def con14 : Con := ⟨[scT, i64], fun | [s, l] => ⟨True, [vI (partV s l.i)]⟩ | _ => bad⟩
def con15 : Con := con14
def con16 : Con := ⟨[scT, i64, i64], fun | [s, l, c] => ⟨True, [vI (nextV s l.i c.i)]⟩ | _ => bad⟩
def con17 : Con := con16
def con25 : Con := ⟨[scT, i64, i64], fun | [s, l, c] => ⟨ckS s = 0, [vI (nextZ (rl s 1) (rl s 2) l.i c.i : Int)]⟩ | _ => bad⟩
def con18 : Con := ⟨[li, li], fun | [a, b] => ⟨True, [vB (sameZ a.l b.l)]⟩ | _ => bad⟩
def con19 : Con := ⟨[scT, li], fun | [s, c] => ⟨c.l.length ≤ 1024, [.sv (.one (.sl i64 (levV s c)))]⟩ | _ => bad⟩
def con20 : Con := con19
def con26 : Con := ⟨[scT, li, i64, i64], fun | [s, t, f, n] => ⟨ckS s = 0 ∧ 0 ≤ f.i ∧ 0 ≤ n.i ∧ n.i ≤ 1024, [.sv (.one (.sl i64 (cntL (ri s 0) t.l f.i n.i.toNat t.l.length)))]⟩ | _ => bad⟩
def con21 : Con := ⟨[scT, li, i64, i64], fun | [s, t, f, n] => ⟨True, [.sv (.one (.sl i64 (cntV s t f.i n.i)))]⟩ | _ => bad⟩
def con22 : Con := con21
def con23 : Con := ⟨[scT, li, i64], fun | [s, t, x] => ⟨True, [vI (atV s t x.i)]⟩ | _ => bad⟩
def con24 : Con := con23
def con27 : Con := ⟨[i64], fun | [a] => ⟨True, [vB (timeZ a.i)]⟩ | _ => bad⟩

def tbP : Tab := fun f => match f with
  | 12 => some con12
  | 13 => some con13
  | 27 => some con27
  | _ => none
def tbQ : Tab := fun f => match f with
  | 12 => some con12
  | 13 => some con13
  | 27 => some con27
  | 25 => some con25
  | 17 => some con17
  | _ => none
def tbR : Tab := fun f => match f with
  | 12 => some con12
  | 13 => some con13
  | 25 => some con25
  | 17 => some con17
  | 26 => some con26
  | 22 => some con22
  | 27 => some con27
  | _ => none
def tb17 := tbP
def tb14 := tbQ
def tb15 := tbQ
def tb16 := tbQ
def tb19 := tbQ
def tb20 := tbQ
def tb22 := tbQ
def tb21 := tbR
def tb23 := tbR
def tb24 := tbR
def lp12 : Loops := fun r s => match r with
  | 6 => some ⟨[], Nat, fun i => i ≤ (boxL s 8 1).length ∧ errTo (bad1 (boxL s 8 1) (boxL s 8 2)) i = 0, fun i => (boxL s 8 1).length - i, fun i => frame s [1, 39] [8] [(40, sI (i : Int))] []⟩
  | 14 => some ⟨[], Nat, fun i => i ≤ (slOf s 102).length ∧ errTo (bad2 (slOf s 102)) i = 0, fun i => (slOf s 102).length - i, fun i => frame s [102, 103] [] [(104, sI (i : Int))] []⟩
  | _ => none
def lp13 : Loops := fun r s => match r with
  | 6 => some ⟨[], Nat, fun i => i ≤ (boxL s 8 1).length ∧ errTo (bad1 (boxL s 8 1) (boxL s 8 2)) i = 0, fun i => (boxL s 8 1).length - i, fun i => frame s [1] [8] [(3, sI (i : Int))] []⟩
  | 13 => some ⟨[], Nat, fun i => i ≤ (boxL s 8 3).length ∧ errTo (bad2 (boxL s 8 3)) i = 0, fun i => (boxL s 8 3).length - i, fun i => frame s [1] [8] [(4, sI (i : Int))] []⟩
  | _ => none
def lp25 : Loops := fun r s => match r with
  | 3 => some ⟨[], Nat, fun u => u ≤ (boxL s 24 1).length ∧ ∀ j, j < u → ei (boxL s 24 1) j ≤ intOf s 2, fun u => (boxL s 24 1).length - u, fun u => frame s [1, 2, 3] [24] [(7, sI (u : Int))] []⟩
  | 7 => some ⟨[], Nat, fun k => (k : Int) ≤ intOf s 1 ∧ downZ (boxL s 24 2) (intOf s 2) k = downZ (boxL s 24 2) (intOf s 2) (intOf s 1).toNat, fun k => k, fun k => frame s [2, 3] [24] [(1, sI (k : Int))] []⟩
  | _ => none
def lp17 : Loops := fun r s => match r with
  | 1000006 => some ⟨[], Unit, fun _ => True, fun _ => 0, fun _ => frame s [2, 3] [24] [(7, sI (imax (intOf s 7) 0))] []⟩
  | 1000008 => some ⟨[], Unit, fun _ => True, fun _ => 0, fun _ => frame s [2, 3] [24] [(7, sI (imin (intOf s 7) (lenI (boxL s 24 1))))] []⟩
  | 10 => some ⟨[], Nat, fun k => k ≤ (boxL s 24 1).length, fun k => (boxL s 24 1).length - k, fun k => frame s [2, 3, 7] [24] [(8, sI (upTo (boxL s 24 1) (intOf s 2) k : Int)), (9, sI ((k : Int) + 1))] []⟩
  | 16 => some ⟨[], Nat, fun k => (k : Int) ≤ intOf s 7 ∧ downZ (boxL s 24 2) (intOf s 2) k = downZ (boxL s 24 2) (intOf s 2) (intOf s 7).toNat, fun k => k, fun k => frame s [2, 3] [24] [(7, sI (k : Int))] []⟩
  | _ => none
def lp18 : Loops := fun r s => match r with
  | 4 => some ⟨[], Nat, fun i => i ≤ (slOf s 0).length ∧ sameTo (slOf s 0) (slOf s 1) i, fun i => (slOf s 0).length - i, fun i => frame s [0, 1, 12] [] [(13, sI (i : Int))] []⟩
  | _ => none
def lp19 : Loops := fun r s => match r with
  | 6 => some ⟨[], Nat, fun i => i ≤ (slOf s 15).length, fun i => (slOf s 15).length - i,
      fun i => frame s [2, 15, 16] [16] [(5, .v (.one (.row 112 0))), (6, sI (levZ (boxL s 16 1) (boxL s 16 2) (slOf s 15) i : Int)), (17, sI (i : Int))]
        [(112, .row 0 3 i64 (mkL i fun j => .int (levZ (boxL s 16 1) (boxL s 16 2) (slOf s 15) j : Int)))]⟩
  | _ => none
def lp20 : Loops := fun r s => match r with
  | 6 => some ⟨[(5, 2000, 3, i64)], Nat, fun i => i ≤ (slOf s 1).length, fun i => (slOf s 1).length - i,
      fun i => frame s [1, 2] [16] [(5, .v (.one (.row 2000 0))), (6, sI (levZ (boxL s 16 1) (boxL s 16 2) (slOf s 1) i : Int)), (7, sI (i : Int))]
        [(2000, .row 0 3 i64 (mkL i fun j => .int (levZ (boxL s 16 1) (boxL s 16 2) (slOf s 1) j : Int)))]⟩
  | _ => none
def lp26 : Loops := fun r s => match r with
  | 3 => some ⟨[], Nat, fun i => i ≤ (slOf s 15).length, fun i => (slOf s 15).length - i,
      fun i => frame s [2, 3, 4, 9, 15, 16] [32] [(17, sI (i : Int))] [(112, .row 0 3 i64 (cntL (boxI s 32 0) (slOf s 15) (intOf s 2) (intOf s 3).toNat i))]⟩
  | _ => none
def lp22 : Loops := fun r s => match r with
  | 5 => some ⟨[], Nat, fun i => i ≤ (slOf s 1).length, fun i => (slOf s 1).length - i,
      fun i => frame s [1, 2, 3, 4, 9] [32] [(10, sI (i : Int))] [(224, .row 0 3 i64 (cntL (boxI s 32 0) (slOf s 1) (intOf s 2) (intOf s 3).toNat i))]⟩
  | _ => none
def lp23 : Loops := fun r s => match r with
  | 8 => some ⟨[], Nat, fun i => (i : Int) ≤ intOf s 39, fun i => (intOf s 39).toNat - i,
      fun i => frame s [3, 9, 39] [24] [(10, sI (levZ (boxL s 24 1) (boxL s 24 2) (slOf s 9) i : Int)), (40, sI (i : Int))] []⟩
  | _ => none
def lp24 : Loops := fun r s => match r with
  | 1000007 => some ⟨[], Unit, fun _ => True, fun _ => 0, fun _ => frame s [1, 3, 7] [24] [(8, sI (imax (isub .i64 (intOf s 7) 64) 0))] []⟩
  | 10 => some ⟨[], Nat, fun i => i ≤ (slOf s 9).length, fun i => (slOf s 9).length - i,
      fun i => frame s [3, 9] [24] [(10, sI (levZ (boxL s 24 1) (boxL s 24 2) (slOf s 9) i : Int)), (11, sI (i : Int))] []⟩
  | _ => none
end Go.Proofs.Ytoabcfpmjhjmfaa
