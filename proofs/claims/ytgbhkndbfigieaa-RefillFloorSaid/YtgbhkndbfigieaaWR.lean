/- Part of the proof of the laws of this seat: contracts of its functions, for every input. -/
import Derived.Test.YtgbhkndbfigieaaWQ
set_option linter.all false
namespace Go.Proofs.Ytgbhkndbfigieaa
open Go Go.RX Go.Proofs
set_option maxRecDepth 100000
def cntT (ok : List D) : Nat → Nat
  | 0 => 0
  | i + 1 => if (elt ok (i : Int)).b = true then cntT ok i + 1 else cntT ok i
def lp7 : Loops := fun r s => match r with
  | 10 => some ⟨[], Nat, fun i => i ≤ (slOf s 3).length, fun i => (slOf s 3).length - i, fun i => frame s [1, 2, 3, 4, 9] [32] [(12, sI (cntT (slOf s 3) i : Nat)), (13, sI (i : Int))] []⟩
  | 16 => some ⟨[], Nat × RS × Nat, fun g => g.1 ≤ (slOf s 9).length ∧
      runTo (boxI s 32 0) (boxI s 32 1) (boxI s 32 2) (boxI s 32 3) (intOf s 1) (slOf s 2) (slOf s 3) g.1 = some g.2.1 ∧ g.2.2 ≤ cntT (slOf s 3) g.2.1.n,
      fun g => (slOf s 9).length - g.1, fun g => frame s [2, 4, 9, 12] [32] [(14, sI g.2.1.b), (15, sI (g.2.2 : Int)), (16, sI (g.1 : Int))] []⟩
  | _ => none
def downTo (mv : List D) (c : Int) : Nat → List D
  | 0 => xrep (lenI mv) (.int 0)
  | i + 1 => xset (downTo mv c i) ((i : Int).toNat) (.int (isub .i64 0 (irem (iconv .i64 (elt mv (i : Int)).i) (iadd .i64 c 1))))
def okTo (mv : List D) : Nat → List D
  | 0 => xrep (lenI mv) (.bool false)
  | i + 1 => xset (okTo mv i) ((i : Int).toNat) (.bool true)
def lp8 : Loops := fun r s => match r with
  | 6 => some ⟨[], Nat, fun i => i ≤ (slOf s 2).length, fun i => (slOf s 2).length - i,
      fun i => frame s [1, 2, 3, 7, 8] [24] [(9, sI (i : Int))] [(232, .row 0 3 i64 (downTo (slOf s 2) (boxI s 24 1) i)), (256, .row 0 4 .bool (okTo (slOf s 2) i))]⟩
  | 14 => some ⟨[], Nat, fun i => i ≤ (slOf s 10).length, fun i => (slOf s 10).length - i, fun i => frame s [1, 3, 10, 11] [24, 88] [(13, sI (i : Int))] []⟩
  | _ => none
structure PS where
  t : Nat
  n : Nat
  last : Int
  f : F
def lp10 : Loops := fun r s => match r with
  | 6 => some ⟨[], PS, fun g => (g.t : Int) ≤ intOf s 1 ∧ g.f.f = (g.n : Int) ∧ (g.n : Int) ≤ boxI s 16 2 ∧ (g.f.s = 1 ∧ (g.n : Int) < boxI s 16 2 ∨ g.f.s = 3 ∧ (g.n : Int) = boxI s 16 2) ∧
        (g.last = -1 ∧ g.n = 0 ∧ g.f.n = 0 ∨ 0 ≤ g.last ∧ g.last < (g.t : Int) ∧ (g.f.s = 1 → g.f.n = g.last + boxI s 16 3)),
      fun g => (intOf s 1).toNat - g.t,
      fun g => frame s [1, 2, 5] [16] [(6, sI (g.n : Int)), (7, sI g.last), (8, sI (g.t : Int))] [(40, .box [.int .i64 g.f.s, .int .i64 g.f.f, .int .i64 g.f.n])]⟩
  | _ => none
end Go.Proofs.Ytgbhkndbfigieaa
