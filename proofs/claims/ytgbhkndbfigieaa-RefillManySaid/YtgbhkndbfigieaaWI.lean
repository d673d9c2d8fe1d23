/- Part of the proof of the laws of this seat: contracts of its functions, for every input. -/
import Derived.Test.YtgbhkndbfigieaaWH
set_option linter.all false
namespace Go.Proofs.Ytgbhkndbfigieaa
open Go Go.RX Go.Proofs
set_option maxRecDepth 100000
theorem c28 : ConOK Try.prog 28 con28 := by
  refine conOK_of_exec (lp := lp28) (tb := tb28) (c := bodyOf Try.f28) ⟨tt_ok, tb28_ok⟩ mixed Try.func28 (by kernel_rfl) (by kernel_rfl) ?_
  intro dat hpre hwt
  match dat, hpre, hwt with
  | [d0, d1], _, hw =>
    refine Eq.mpr (vc28 d0 d1) ?_
    have hs : sumTo [.int d0.i, .int d1.i] ([.int d0.i, .int d1.i] : List D).length = iadd .i64 (iadd .i64 0 d0.i) d1.i := rfl
    rw [hs]
    generalize d0.i = a
    generalize d1.i = b
    simp only [bnot_t, bnot_f, true_and]
    have key : fitsZ a = true → fitsZ b = true → iadd .i64 (iadd .i64 0 a) b = a + b := fun h1 h2 => by
      rw [fits_t] at h1 h2
      rw [iadd_eq (a := 0) (b := a) (by omega), iadd_eq (by omega)]; omega
    unfold addZ
    refine ⟨fun h => by simp [h], fun h => ⟨fun h2 => by simp [h2], fun h2 => ⟨fun h3 => ?_, fun h3 => ?_⟩⟩⟩
    · rw [key h h2] at h3; simp [h3]
    · rw [key h h2] at h3 ⊢; simp [h, h2, h3]

structure RS where
  b : Int
  f : F
  n : Nat
  out : List D
def runStep (r0 r1 r2 r3 : Int) (ok : List D) (m : Int) (i : Nat) (s : RS) : Option RS :=
  if (addZ s.b m).2 ≠ 0 then none
  else if 0 < (stepZ r0 r1 s.f (addZ s.b m).1 (i : Int)).2 then
    if (s.n : Int) < lenI ok ∧ (elt ok (s.n : Int)).b = true then
      if (addZ (addZ s.b m).1 (stepZ r0 r1 s.f (addZ s.b m).1 (i : Int)).2).2 ≠ 0 then none
      else some ⟨(addZ (addZ s.b m).1 (stepZ r0 r1 s.f (addZ s.b m).1 (i : Int)).2).1, (succZ (stepZ r0 r1 s.f (addZ s.b m).1 (i : Int)).1).1, s.n + 1,
        s.out ++ [.int (addZ (addZ s.b m).1 (stepZ r0 r1 s.f (addZ s.b m).1 (i : Int)).2).1]⟩
    else some ⟨(addZ s.b m).1, (failZ r2 r3 (stepZ r0 r1 s.f (addZ s.b m).1 (i : Int)).1 (i : Int)).1, s.n + 1, s.out ++ [.int (addZ s.b m).1]⟩
  else some ⟨(addZ s.b m).1, (stepZ r0 r1 s.f (addZ s.b m).1 (i : Int)).1, s.n, s.out ++ [.int (addZ s.b m).1]⟩
def runTo (r0 r1 r2 r3 bal : Int) (mv ok : List D) : Nat → Option RS
  | 0 => some ⟨bal, ⟨1, 0, 0⟩, 0, []⟩
  | i + 1 => match runTo r0 r1 r2 r3 bal mv ok i with
    | some s => runStep r0 r1 r2 r3 ok (elt mv (i : Int)).i i s
    | none => none
structure RR where
  l : List D
  f : F
  e : Int
def runZ (r0 r1 r2 r3 bal : Int) (mv ok : List D) : RR :=
  if checkZ r0 r1 r2 r3 ≠ 0 then ⟨[], ⟨0, 0, 0⟩, checkZ r0 r1 r2 r3⟩
  else if 1024 < mv.length then ⟨[], ⟨0, 0, 0⟩, 3⟩
  else if fitsZ bal = false then ⟨[], ⟨0, 0, 0⟩, 13⟩
  else match runTo r0 r1 r2 r3 bal mv ok mv.length with
    | some s => ⟨s.out, s.f, 0⟩
    | none => ⟨[], ⟨0, 0, 0⟩, 13⟩
def con16 : Con := ⟨[ruleT, i64, .slice i64, .slice .bool], fun
  | [r, b, mv, ok] => ⟨True, [.sv (.one (.sl i64 (runZ (ri r 0) (ri r 1) (ri r 2) (ri r 3) b.i mv.l ok.l).l)), vF (runZ (ri r 0) (ri r 1) (ri r 2) (ri r 3) b.i mv.l ok.l).f, vI (runZ (ri r 0) (ri r 1) (ri r 2) (ri r 3) b.i mv.l ok.l).e]⟩
  | _ => bad⟩
def tb16 : Tab := fun f => match f with
  | 11 => some con11
  | 14 => some con14
  | 19 => some con19
  | 21 => some con21
  | 25 => some con25
  | 28 => some con28
  | _ => none
def lp16 : Loops := fun r s => match r with
  | 12 => some ⟨[(13, 2000, 3, i64)], Nat × RS, fun g => g.1 ≤ (slOf s 2).length ∧ runTo (boxI s 32 0) (boxI s 32 1) (boxI s 32 2) (boxI s 32 3) (intOf s 1) (slOf s 2) (slOf s 3) g.1 = some g.2,
      fun g => (slOf s 2).length - g.1,
      fun g => frame s [3, 4, 9, 12, 38, 39] [32, 72] [(1, sI g.2.b), (13, .v (.one (.row 2000 0))), (14, sI (g.2.n : Int)), (40, sI (g.1 : Int))]
        [(96, .box [.int .i64 g.2.f.s, .int .i64 g.2.f.f, .int .i64 g.2.f.n]), (2000, .row 0 3 i64 g.2.out)]⟩
  | _ => none
def con17 : Con := con16
def tb17 : Tab := fun f => match f with
  | 12 => some con12
  | 15 => some con15
  | 20 => some con20
  | 22 => some con22
  | 26 => some con26
  | _ => none
def lp17 : Loops := fun r s => match r with
  | 13 => some ⟨[(14, 2000, 3, i64)], Nat × RS, fun g => g.1 ≤ (slOf s 2).length ∧ runTo (boxI s 32 0) (boxI s 32 1) (boxI s 32 2) (boxI s 32 3) (intOf s 1) (slOf s 2) (slOf s 3) g.1 = some g.2,
      fun g => (slOf s 2).length - g.1,
      fun g => frame s [2, 3, 4, 9, 11, 13] [32, 72, 88] [(14, .v (.one (.row 2000 0))), (15, sI g.2.b), (16, sI (g.2.n : Int)), (17, sI (g.1 : Int))]
        [(104, .box [.int .i64 g.2.f.s, .int .i64 g.2.f.f, .int .i64 g.2.f.n]), (2000, .row 0 3 i64 g.2.out)]⟩
  | _ => none
end Go.Proofs.Ytgbhkndbfigieaa
