/- Part of the proof of the laws of this seat: contracts of its functions, for every input. -/
import Derived.Test.YtgbhkndbfigieaaWA
set_option linter.all false
namespace Go.Proofs.Ytgbhkndbfigieaa
open Go Go.RX Go.Proofs

def ruleT : Ty := .pair i64 (.pair i64 (.pair i64 (.pair i64 .unit)))
def fillT : Ty := .pair i64 (.pair i64 (.pair i64 .unit))
structure F where
  s : Int
  f : Int
  n : Int
def vF (x : F) : RV := .sv (.agg [.int .i64 x.s, .int .i64 x.f, .int .i64 x.n])

def fitsZ (n : Int) : Bool := decide (-1125899906842624 ≤ n) && decide (n ≤ 1125899906842624)
def timeZ (t : Int) : Bool := decide (0 ≤ t) && decide (t < 68719476736)
def checkZ (r0 r1 r2 r3 : Int) : Int :=
  if r0 = 0 ∧ r1 = 0 ∧ r2 = 0 ∧ r3 = 0 then 0
  else if fitsZ r0 = false ∨ fitsZ r1 = false then 13
  else if r0 < 0 ∨ r1 < 1 ∨ r2 < 1 ∨ 16 < r2 ∨ timeZ r3 = false then 1 else 0
def stepZ (r0 r1 : Int) (f : F) (bal t : Int) : F × Int :=
  if f.s ≠ 1 ∨ r1 ≤ 0 ∨ r0 ≤ bal ∨ t < f.n then (f, 0) else (⟨2, f.f, f.n⟩, r1)
def succZ (f : F) : F × Int := if f.s ≠ 2 then (f, 11) else (⟨1, 0, 0⟩, 0)
def resuZ (f : F) : F × Int := if f.s ≠ 3 then (f, 11) else (⟨1, 0, 0⟩, 0)
def failZ (r2 r3 : Int) (f : F) (t : Int) : F × Int :=
  if f.s ≠ 2 then (f, 11)
  else if timeZ t = false then (f, 12)
  else if r2 ≤ iadd .i64 f.f 1 then (⟨3, iadd .i64 f.f 1, 0⟩, 0)
  else (⟨1, iadd .i64 f.f 1, iadd .i64 t r3⟩, 0)

def con25 : Con := ⟨[i64], fun | [a] => ⟨True, [vB (fitsZ a.i)]⟩ | _ => bad⟩
def con26 : Con := con25
def con27 : Con := ⟨[i64], fun | [a] => ⟨True, [vB (timeZ a.i)]⟩ | _ => bad⟩
def con11 : Con := ⟨[ruleT], fun | [r] => ⟨True, [vI (checkZ (ri r 0) (ri r 1) (ri r 2) (ri r 3))]⟩ | _ => bad⟩
def con12 : Con := con11
def con14 : Con := ⟨[ruleT, fillT, i64], fun
  | [r, f, t] => ⟨True, [vF (failZ (ri r 2) (ri r 3) ⟨ri f 0, ri f 1, ri f 2⟩ t.i).1, vI (failZ (ri r 2) (ri r 3) ⟨ri f 0, ri f 1, ri f 2⟩ t.i).2]⟩
  | _ => bad⟩
def con15 : Con := con14
def con19 : Con := ⟨[ruleT, fillT, i64, i64], fun
  | [r, f, b, t] => ⟨True, [vF (stepZ (ri r 0) (ri r 1) ⟨ri f 0, ri f 1, ri f 2⟩ b.i t.i).1, vI (stepZ (ri r 0) (ri r 1) ⟨ri f 0, ri f 1, ri f 2⟩ b.i t.i).2]⟩
  | _ => bad⟩
def con20 : Con := con19
def con21 : Con := ⟨[ruleT, fillT], fun | [_, f] => ⟨True, [vF (succZ ⟨ri f 0, ri f 1, ri f 2⟩).1, vI (succZ ⟨ri f 0, ri f 1, ri f 2⟩).2]⟩ | _ => bad⟩
def con22 : Con := con21
def con23 : Con := ⟨[fillT], fun | [f] => ⟨True, [vF (resuZ ⟨ri f 0, ri f 1, ri f 2⟩).1, vI (resuZ ⟨ri f 0, ri f 1, ri f 2⟩).2]⟩ | _ => bad⟩
def con24 : Con := con23

def tbN : Tab := fun _ => none
def tbF : Tab := fun f => match f with
  | 25 => some con25
  | 26 => some con26
  | 27 => some con27
  | _ => none
def tb25 := tbN
def tb26 := tbN
def tb27 := tbN
def tb11 := tbF
def tb12 := tbF
def tb14 := tbF
def tb15 := tbF
def tb19 := tbN
def tb20 := tbN
def tb21 := tbN
def tb22 := tbN
def tb23 := tbN
def tb24 := tbN
def lp25 := noLp
def lp26 := noLp
def lp27 := noLp
def lp11 := noLp
def lp12 := noLp
def lp14 := noLp
def lp15 := noLp
def lp19 := noLp
def lp20 := noLp
def lp21 := noLp
def lp22 := noLp
def lp23 := noLp
def lp24 := noLp
end Go.Proofs.Ytgbhkndbfigieaa
