/- Part of the proof of the laws of this seat: contracts of its functions, for every input. -/
import Derived.Test.YtngjkhnhnaohmaaWU
set_option linter.all false
namespace Go.Proofs.Ytngjkhnhnaohmaa
open Go Go.RX Go.Proofs
set_option maxRecDepth 100000
set_option linter.all false
theorem vc6 (d0 d1 d2 : D) : (exec tt tb6 noInl noLp (bodyOf Try.f6) (initSt Try.f6.ntmps (svs con6.tys [d0, d1, d2])) (doneE tt Try.f6.results.toList (con6.run [d0, d1, d2]).rets)) =
  (((((ilt (2000 : Int) (lenI d0.l)) = true) →
 True) ∧ (((ilt (2000 : Int) (lenI d0.l)) = false) →
 ((((ilt (2000 : Int) (lenI d2.l)) = true) →
 True) ∧ (((ilt (2000 : Int) (lenI d2.l)) = false) →
 ((((List.length d0.l) ≤ (1000000 : Nat)) ∧ ((List.length d2.l) ≤ (1000000 : Nat))) ∧ ((((List.length d0.l) ≤ (1000000 : Nat)) ∧ ((List.length d2.l) ≤ (1000000 : Nat))) ∧ (True ∧ ((((sameZ (putF d0.l d1.i (strD d2.l)) (putF d0.l d1.i (strD d2.l))) = true) →
 (True ∧ (True ∧ ((((ieq (sumZ d2.l) (sumZ d2.l)) = true) →
 (True ∧ True)) ∧ (((ieq (sumZ d2.l) (sumZ d2.l)) = false) →
 False))))) ∧ (((sameZ (putF d0.l d1.i (strD d2.l)) (putF d0.l d1.i (strD d2.l))) = false) →
 False)))))))))) := by kernel_rfl
theorem vc7 (d0 d1 d2 d3 d4 : D) : (exec tt tb7 noInl noLp (bodyOf Try.f7) (initSt Try.f7.ntmps (svs con7.tys [d0, d1, d2, d3, d4])) (doneE tt Try.f7.results.toList (con7.run [d0, d1, d2, d3, d4]).rets)) =
  (((((ilt (2000 : Int) (lenI d0.l)) = true) →
 True) ∧ (((ilt (2000 : Int) (lenI d0.l)) = false) →
 ((((ilt (2000 : Int) (lenI d1.l)) = true) →
 True) ∧ (((ilt (2000 : Int) (lenI d1.l)) = false) →
 ((((ilt (2000 : Int) (lenS d3.s)) = true) →
 True) ∧ (((ilt (2000 : Int) (lenS d3.s)) = false) →
 (((List.length ([] : List (D))) ≤ (1000000 : Nat)) ∧ ((((List.length ([] : List (D))) ≤ (1000000 : Nat)) ∧ ((List.length d3.s) ≤ (1000000 : Nat))) ∧ ((((List.length ([] : List (D))) ≤ (1000000 : Nat)) ∧ ((List.length (bytesD d3.s)) ≤ (1000000 : Nat))) ∧ ((((ieq (lenI (putI ([] : List (D)) d2.i)) (0 : Int)) = true) →
 False) ∧ (((ieq (lenI (putI ([] : List (D)) d2.i)) (0 : Int)) = false) →
 ((((ieq (lenI (putT ([] : List (D)) d3.s)) (0 : Int)) = true) →
 False) ∧ (((ieq (lenI (putT ([] : List (D)) d3.s)) (0 : Int)) = false) →
 ((((ieq (lenI (putF ([] : List (D)) d2.i (strD (bytesD d3.s)))) (0 : Int)) = true) →
 False) ∧ (((ieq (lenI (putF ([] : List (D)) d2.i (strD (bytesD d3.s)))) (0 : Int)) = false) →
 (((List.length d0.l) ≤ (10000000 : Nat)) ∧ (((((lenI d0.l) + (lenI (putI ([] : List (D)) d2.i))) * ((1 : Nat) : Int)) ≤ (140737488355328 : Int)) ∧ (((((lenI (xcat d0.l (putI ([] : List (D)) d2.i))) + (lenI (putT ([] : List (D)) d3.s))) * ((1 : Nat) : Int)) ≤ (140737488355328 : Int)) ∧ (((((lenI (xcat (xcat d0.l (putI ([] : List (D)) d2.i)) (putT ([] : List (D)) d3.s))) + (lenI (putF ([] : List (D)) d2.i (strD (bytesD d3.s))))) * ((1 : Nat) : Int)) ≤ (140737488355328 : Int)) ∧ (((((lenI (xcat (xcat (xcat d0.l (putI ([] : List (D)) d2.i)) (putT ([] : List (D)) d3.s)) (putF ([] : List (D)) d2.i (strD (bytesD d3.s))))) + (lenI d1.l)) * ((1 : Nat) : Int)) ≤ (140737488355328 : Int)) ∧ (((List.length (xcat (xcat (xcat (xcat d0.l (putI ([] : List (D)) d2.i)) (putT ([] : List (D)) d3.s)) (putF ([] : List (D)) d2.i (strD (bytesD d3.s)))) d1.l)) ≤ (1000000 : Nat)) ∧ (((List.length (xcat (xcat (xcat (xcat d0.l (putI ([] : List (D)) d2.i)) (putT ([] : List (D)) d3.s)) (putF ([] : List (D)) d2.i (strD (bytesD d3.s)))) d1.l)) ≤ (1000000 : Nat)) ∧ (((List.length (xcat (xcat (xcat (xcat d0.l (putI ([] : List (D)) d2.i)) (putT ([] : List (D)) d3.s)) (putF ([] : List (D)) d2.i (strD (bytesD d3.s)))) d1.l)) ≤ (1000000 : Nat)) ∧ ((((bnot (ieq (IR.e (intZ (xcat (xcat (xcat (xcat d0.l (putI ([] : List (D)) d2.i)) (putT ([] : List (D)) d3.s)) (putF ([] : List (D)) d2.i (strD (bytesD d3.s)))) d1.l) (lenI d0.l))) (0 : Int))) = true) →
 False) ∧ (((bnot (ieq (IR.e (intZ (xcat (xcat (xcat (xcat d0.l (putI ([] : List (D)) d2.i)) (putT ([] : List (D)) d3.s)) (putF ([] : List (D)) d2.i (strD (bytesD d3.s)))) d1.l) (lenI d0.l))) (0 : Int))) = false) →
 ((((bnot (ieq (TR.e (textZ (xcat (xcat (xcat (xcat d0.l (putI ([] : List (D)) d2.i)) (putT ([] : List (D)) d3.s)) (putF ([] : List (D)) d2.i (strD (bytesD d3.s)))) d1.l) (IR.x (intZ (xcat (xcat (xcat (xcat d0.l (putI ([] : List (D)) d2.i)) (putT ([] : List (D)) d3.s)) (putF ([] : List (D)) d2.i (strD (bytesD d3.s)))) d1.l) (lenI d0.l))))) (0 : Int))) = true) →
 False) ∧ (((bnot (ieq (TR.e (textZ (xcat (xcat (xcat (xcat d0.l (putI ([] : List (D)) d2.i)) (putT ([] : List (D)) d3.s)) (putF ([] : List (D)) d2.i (strD (bytesD d3.s)))) d1.l) (IR.x (intZ (xcat (xcat (xcat (xcat d0.l (putI ([] : List (D)) d2.i)) (putT ([] : List (D)) d3.s)) (putF ([] : List (D)) d2.i (strD (bytesD d3.s)))) d1.l) (lenI d0.l))))) (0 : Int))) = false) →
 ((((bnot (ieq (FR.e (frameZ (xcat (xcat (xcat (xcat d0.l (putI ([] : List (D)) d2.i)) (putT ([] : List (D)) d3.s)) (putF ([] : List (D)) d2.i (strD (bytesD d3.s)))) d1.l) (TR.x (textZ (xcat (xcat (xcat (xcat d0.l (putI ([] : List (D)) d2.i)) (putT ([] : List (D)) d3.s)) (putF ([] : List (D)) d2.i (strD (bytesD d3.s)))) d1.l) (IR.x (intZ (xcat (xcat (xcat (xcat d0.l (putI ([] : List (D)) d2.i)) (putT ([] : List (D)) d3.s)) (putF ([] : List (D)) d2.i (strD (bytesD d3.s)))) d1.l) (lenI d0.l))))))) (0 : Int))) = true) →
 False) ∧ (((bnot (ieq (FR.e (frameZ (xcat (xcat (xcat (xcat d0.l (putI ([] : List (D)) d2.i)) (putT ([] : List (D)) d3.s)) (putF ([] : List (D)) d2.i (strD (bytesD d3.s)))) d1.l) (TR.x (textZ (xcat (xcat (xcat (xcat d0.l (putI ([] : List (D)) d2.i)) (putT ([] : List (D)) d3.s)) (putF ([] : List (D)) d2.i (strD (bytesD d3.s)))) d1.l) (IR.x (intZ (xcat (xcat (xcat (xcat d0.l (putI ([] : List (D)) d2.i)) (putT ([] : List (D)) d3.s)) (putF ([] : List (D)) d2.i (strD (bytesD d3.s)))) d1.l) (lenI d0.l))))))) (0 : Int))) = false) →
 ((((bnot (ieq (IR.n (intZ (xcat (xcat (xcat (xcat d0.l (putI ([] : List (D)) d2.i)) (putT ([] : List (D)) d3.s)) (putF ([] : List (D)) d2.i (strD (bytesD d3.s)))) d1.l) (lenI d0.l))) d2.i)) = true) →
 False) ∧ (((bnot (ieq (IR.n (intZ (xcat (xcat (xcat (xcat d0.l (putI ([] : List (D)) d2.i)) (putT ([] : List (D)) d3.s)) (putF ([] : List (D)) d2.i (strD (bytesD d3.s)))) d1.l) (lenI d0.l))) d2.i)) = false) →
 ((((bnot (seq' (TR.s (textZ (xcat (xcat (xcat (xcat d0.l (putI ([] : List (D)) d2.i)) (putT ([] : List (D)) d3.s)) (putF ([] : List (D)) d2.i (strD (bytesD d3.s)))) d1.l) (IR.x (intZ (xcat (xcat (xcat (xcat d0.l (putI ([] : List (D)) d2.i)) (putT ([] : List (D)) d3.s)) (putF ([] : List (D)) d2.i (strD (bytesD d3.s)))) d1.l) (lenI d0.l))))) d3.s)) = true) →
 False) ∧ (((bnot (seq' (TR.s (textZ (xcat (xcat (xcat (xcat d0.l (putI ([] : List (D)) d2.i)) (putT ([] : List (D)) d3.s)) (putF ([] : List (D)) d2.i (strD (bytesD d3.s)))) d1.l) (IR.x (intZ (xcat (xcat (xcat (xcat d0.l (putI ([] : List (D)) d2.i)) (putT ([] : List (D)) d3.s)) (putF ([] : List (D)) d2.i (strD (bytesD d3.s)))) d1.l) (lenI d0.l))))) d3.s)) = false) →
 ((((bnot (seq' (strD (FR.p (frameZ (xcat (xcat (xcat (xcat d0.l (putI ([] : List (D)) d2.i)) (putT ([] : List (D)) d3.s)) (putF ([] : List (D)) d2.i (strD (bytesD d3.s)))) d1.l) (TR.x (textZ (xcat (xcat (xcat (xcat d0.l (putI ([] : List (D)) d2.i)) (putT ([] : List (D)) d3.s)) (putF ([] : List (D)) d2.i (strD (bytesD d3.s)))) d1.l) (IR.x (intZ (xcat (xcat (xcat (xcat d0.l (putI ([] : List (D)) d2.i)) (putT ([] : List (D)) d3.s)) (putF ([] : List (D)) d2.i (strD (bytesD d3.s)))) d1.l) (lenI d0.l)))))))) d3.s)) = true) →
 False) ∧ (((bnot (seq' (strD (FR.p (frameZ (xcat (xcat (xcat (xcat d0.l (putI ([] : List (D)) d2.i)) (putT ([] : List (D)) d3.s)) (putF ([] : List (D)) d2.i (strD (bytesD d3.s)))) d1.l) (TR.x (textZ (xcat (xcat (xcat (xcat d0.l (putI ([] : List (D)) d2.i)) (putT ([] : List (D)) d3.s)) (putF ([] : List (D)) d2.i (strD (bytesD d3.s)))) d1.l) (IR.x (intZ (xcat (xcat (xcat (xcat d0.l (putI ([] : List (D)) d2.i)) (putT ([] : List (D)) d3.s)) (putF ([] : List (D)) d2.i (strD (bytesD d3.s)))) d1.l) (lenI d0.l)))))))) d3.s)) = false) →
 ((((bnot (ieq (FR.x (frameZ (xcat (xcat (xcat (xcat d0.l (putI ([] : List (D)) d2.i)) (putT ([] : List (D)) d3.s)) (putF ([] : List (D)) d2.i (strD (bytesD d3.s)))) d1.l) (TR.x (textZ (xcat (xcat (xcat (xcat d0.l (putI ([] : List (D)) d2.i)) (putT ([] : List (D)) d3.s)) (putF ([] : List (D)) d2.i (strD (bytesD d3.s)))) d1.l) (IR.x (intZ (xcat (xcat (xcat (xcat d0.l (putI ([] : List (D)) d2.i)) (putT ([] : List (D)) d3.s)) (putF ([] : List (D)) d2.i (strD (bytesD d3.s)))) d1.l) (lenI d0.l))))))) (isub IntKind.i64 (lenI (xcat (xcat (xcat (xcat d0.l (putI ([] : List (D)) d2.i)) (putT ([] : List (D)) d3.s)) (putF ([] : List (D)) d2.i (strD (bytesD d3.s)))) d1.l)) (lenI d1.l)))) = true) →
 False) ∧ (((bnot (ieq (FR.x (frameZ (xcat (xcat (xcat (xcat d0.l (putI ([] : List (D)) d2.i)) (putT ([] : List (D)) d3.s)) (putF ([] : List (D)) d2.i (strD (bytesD d3.s)))) d1.l) (TR.x (textZ (xcat (xcat (xcat (xcat d0.l (putI ([] : List (D)) d2.i)) (putT ([] : List (D)) d3.s)) (putF ([] : List (D)) d2.i (strD (bytesD d3.s)))) d1.l) (IR.x (intZ (xcat (xcat (xcat (xcat d0.l (putI ([] : List (D)) d2.i)) (putT ([] : List (D)) d3.s)) (putF ([] : List (D)) d2.i (strD (bytesD d3.s)))) d1.l) (lenI d0.l))))))) (isub IntKind.i64 (lenI (xcat (xcat (xcat (xcat d0.l (putI ([] : List (D)) d2.i)) (putT ([] : List (D)) d3.s)) (putF ([] : List (D)) d2.i (strD (bytesD d3.s)))) d1.l)) (lenI d1.l)))) = false) →
 (((256 : Int) ≠ (0 : Int)) ∧ ((((bnot (ieq (irem (isub IntKind.i64 d2.i (FR.k (frameZ (xcat (xcat (xcat (xcat d0.l (putI ([] : List (D)) d2.i)) (putT ([] : List (D)) d3.s)) (putF ([] : List (D)) d2.i (strD (bytesD d3.s)))) d1.l) (TR.x (textZ (xcat (xcat (xcat (xcat d0.l (putI ([] : List (D)) d2.i)) (putT ([] : List (D)) d3.s)) (putF ([] : List (D)) d2.i (strD (bytesD d3.s)))) d1.l) (IR.x (intZ (xcat (xcat (xcat (xcat d0.l (putI ([] : List (D)) d2.i)) (putT ([] : List (D)) d3.s)) (putF ([] : List (D)) d2.i (strD (bytesD d3.s)))) d1.l) (lenI d0.l)))))))) (256 : Int)) (0 : Int))) = true) →
 False) ∧ (((bnot (ieq (irem (isub IntKind.i64 d2.i (FR.k (frameZ (xcat (xcat (xcat (xcat d0.l (putI ([] : List (D)) d2.i)) (putT ([] : List (D)) d3.s)) (putF ([] : List (D)) d2.i (strD (bytesD d3.s)))) d1.l) (TR.x (textZ (xcat (xcat (xcat (xcat d0.l (putI ([] : List (D)) d2.i)) (putT ([] : List (D)) d3.s)) (putF ([] : List (D)) d2.i (strD (bytesD d3.s)))) d1.l) (IR.x (intZ (xcat (xcat (xcat (xcat d0.l (putI ([] : List (D)) d2.i)) (putT ([] : List (D)) d3.s)) (putF ([] : List (D)) d2.i (strD (bytesD d3.s)))) d1.l) (lenI d0.l)))))))) (256 : Int)) (0 : Int))) = false) →
 ((((ilt (FR.k (frameZ (xcat (xcat (xcat (xcat d0.l (putI ([] : List (D)) d2.i)) (putT ([] : List (D)) d3.s)) (putF ([] : List (D)) d2.i (strD (bytesD d3.s)))) d1.l) (TR.x (textZ (xcat (xcat (xcat (xcat d0.l (putI ([] : List (D)) d2.i)) (putT ([] : List (D)) d3.s)) (putF ([] : List (D)) d2.i (strD (bytesD d3.s)))) d1.l) (IR.x (intZ (xcat (xcat (xcat (xcat d0.l (putI ([] : List (D)) d2.i)) (putT ([] : List (D)) d3.s)) (putF ([] : List (D)) d2.i (strD (bytesD d3.s)))) d1.l) (lenI d0.l))))))) (0 : Int)) = true) →
 False) ∧ (((ilt (FR.k (frameZ (xcat (xcat (xcat (xcat d0.l (putI ([] : List (D)) d2.i)) (putT ([] : List (D)) d3.s)) (putF ([] : List (D)) d2.i (strD (bytesD d3.s)))) d1.l) (TR.x (textZ (xcat (xcat (xcat (xcat d0.l (putI ([] : List (D)) d2.i)) (putT ([] : List (D)) d3.s)) (putF ([] : List (D)) d2.i (strD (bytesD d3.s)))) d1.l) (IR.x (intZ (xcat (xcat (xcat (xcat d0.l (putI ([] : List (D)) d2.i)) (putT ([] : List (D)) d3.s)) (putF ([] : List (D)) d2.i (strD (bytesD d3.s)))) d1.l) (lenI d0.l))))))) (0 : Int)) = false) →
 ((((ilt (255 : Int) (FR.k (frameZ (xcat (xcat (xcat (xcat d0.l (putI ([] : List (D)) d2.i)) (putT ([] : List (D)) d3.s)) (putF ([] : List (D)) d2.i (strD (bytesD d3.s)))) d1.l) (TR.x (textZ (xcat (xcat (xcat (xcat d0.l (putI ([] : List (D)) d2.i)) (putT ([] : List (D)) d3.s)) (putF ([] : List (D)) d2.i (strD (bytesD d3.s)))) d1.l) (IR.x (intZ (xcat (xcat (xcat (xcat d0.l (putI ([] : List (D)) d2.i)) (putT ([] : List (D)) d3.s)) (putF ([] : List (D)) d2.i (strD (bytesD d3.s)))) d1.l) (lenI d0.l)))))))) = true) →
 False) ∧ (((ilt (255 : Int) (FR.k (frameZ (xcat (xcat (xcat (xcat d0.l (putI ([] : List (D)) d2.i)) (putT ([] : List (D)) d3.s)) (putF ([] : List (D)) d2.i (strD (bytesD d3.s)))) d1.l) (TR.x (textZ (xcat (xcat (xcat (xcat d0.l (putI ([] : List (D)) d2.i)) (putT ([] : List (D)) d3.s)) (putF ([] : List (D)) d2.i (strD (bytesD d3.s)))) d1.l) (IR.x (intZ (xcat (xcat (xcat (xcat d0.l (putI ([] : List (D)) d2.i)) (putT ([] : List (D)) d3.s)) (putF ([] : List (D)) d2.i (strD (bytesD d3.s)))) d1.l) (lenI d0.l)))))))) = false) →
 (((0 : Int) < (lenI (putI ([] : List (D)) d2.i))) ∧ (((0 : Int) < (lenI (putT ([] : List (D)) d3.s))) ∧ (((0 : Int) < (lenI (putF ([] : List (D)) d2.i (strD (bytesD d3.s))))) ∧ ((((0 : Int) ≤ (0 : Int)) ∧ (((0 : Int) ≤ (HMod.hMod d4.i (lenI (putI ([] : List (D)) d2.i)))) ∧ ((HMod.hMod d4.i (lenI (putI ([] : List (D)) d2.i))) ≤ (lenI (putI ([] : List (D)) d2.i))))) ∧ (((List.length (xsub (putI ([] : List (D)) d2.i) (0 : Int) (HMod.hMod d4.i (lenI (putI ([] : List (D)) d2.i))))) ≤ (1000000 : Nat)) ∧ ((((0 : Int) ≤ (0 : Int)) ∧ (((0 : Int) ≤ (HMod.hMod d4.i (lenI (putT ([] : List (D)) d3.s)))) ∧ ((HMod.hMod d4.i (lenI (putT ([] : List (D)) d3.s))) ≤ (lenI (putT ([] : List (D)) d3.s))))) ∧ (((List.length (xsub (putT ([] : List (D)) d3.s) (0 : Int) (HMod.hMod d4.i (lenI (putT ([] : List (D)) d3.s))))) ≤ (1000000 : Nat)) ∧ ((((0 : Int) ≤ (0 : Int)) ∧ (((0 : Int) ≤ (HMod.hMod d4.i (lenI (putF ([] : List (D)) d2.i (strD (bytesD d3.s)))))) ∧ ((HMod.hMod d4.i (lenI (putF ([] : List (D)) d2.i (strD (bytesD d3.s))))) ≤ (lenI (putF ([] : List (D)) d2.i (strD (bytesD d3.s))))))) ∧ (((List.length (xsub (putF ([] : List (D)) d2.i (strD (bytesD d3.s))) (0 : Int) (HMod.hMod d4.i (lenI (putF ([] : List (D)) d2.i (strD (bytesD d3.s))))))) ≤ (1000000 : Nat)) ∧ ((((ieq (IR.e (intZ (xsub (putI ([] : List (D)) d2.i) (0 : Int) (HMod.hMod d4.i (lenI (putI ([] : List (D)) d2.i)))) (0 : Int))) (7 : Int)) = true) →
 ((((ieq (TR.e (textZ (xsub (putT ([] : List (D)) d3.s) (0 : Int) (HMod.hMod d4.i (lenI (putT ([] : List (D)) d3.s)))) (0 : Int))) (7 : Int)) = true) →
 ((((ieq (FR.e (frameZ (xsub (putF ([] : List (D)) d2.i (strD (bytesD d3.s))) (0 : Int) (HMod.hMod d4.i (lenI (putF ([] : List (D)) d2.i (strD (bytesD d3.s)))))) (0 : Int))) (7 : Int)) = true) →
 (True ∧ True)) ∧ (((ieq (FR.e (frameZ (xsub (putF ([] : List (D)) d2.i (strD (bytesD d3.s))) (0 : Int) (HMod.hMod d4.i (lenI (putF ([] : List (D)) d2.i (strD (bytesD d3.s)))))) (0 : Int))) (7 : Int)) = false) →
 False))) ∧ (((ieq (TR.e (textZ (xsub (putT ([] : List (D)) d3.s) (0 : Int) (HMod.hMod d4.i (lenI (putT ([] : List (D)) d3.s)))) (0 : Int))) (7 : Int)) = false) →
 False))) ∧ (((ieq (IR.e (intZ (xsub (putI ([] : List (D)) d2.i) (0 : Int) (HMod.hMod d4.i (lenI (putI ([] : List (D)) d2.i)))) (0 : Int))) (7 : Int)) = false) →
 False)))))))))))))))))))))))))))))))))))))))))))))))))))))))) := by kernel_rfl
theorem vc8 (d0 d1 : D) : (exec tt tb8 noInl lp8 (bodyOf Try.f8) (initSt Try.f8.ntmps (svs con8.tys [d0, d1])) (doneE tt Try.f8.results.toList (con8.run [d0, d1]).rets)) =
  (((((ilt (2000 : Int) (lenI d0.l)) = true) →
 True) ∧ (((ilt (2000 : Int) (lenI d0.l)) = false) →
 ((((ilt d1.i (0 : Int)) = true) →
 True) ∧ (((ilt d1.i (0 : Int)) = false) →
 ((((ilt (lenI d0.l) d1.i) = true) →
 True) ∧ (((ilt (lenI d0.l) d1.i) = false) →
 (((List.length d0.l) ≤ (1000000 : Nat)) ∧ (((((ieq (IR.e (intZ d0.l d1.i)) (0 : Int)) = true) →
 (((List.length ([] : List (D))) ≤ (1000000 : Nat)) ∧ (((0 : Int) ≤ d1.i) ∧ ((((bnot (partZ d0.l d1.i (IR.x (intZ d0.l d1.i)) (putI ([] : List (D)) (IR.n (intZ d0.l d1.i))))) = true) →
 False) ∧ (((bnot (partZ d0.l d1.i (IR.x (intZ d0.l d1.i)) (putI ([] : List (D)) (IR.n (intZ d0.l d1.i))))) = false) →
 (∃ (g : Unit), (True ∧ (((d0.l = d0.l) ∧ ((d1.i = d1.i) ∧ True)) ∧ (True ∧ True))))))))) ∧ (((ieq (IR.e (intZ d0.l d1.i)) (0 : Int)) = false) →
 (∃ (g : Unit), (True ∧ (((d0.l = d0.l) ∧ ((d1.i = d1.i) ∧ True)) ∧ (True ∧ True)))))) ∧ (∀ (g : Unit), (True →
 (((List.length d0.l) ≤ (1000000 : Nat)) ∧ (((((ieq (TR.e (textZ d0.l d1.i)) (0 : Int)) = true) →
 ((((List.length ([] : List (D))) ≤ (1000000 : Nat)) ∧ ((List.length (TR.s (textZ d0.l d1.i))) ≤ (1000000 : Nat))) ∧ (((0 : Int) ≤ d1.i) ∧ ((((bnot (partZ d0.l d1.i (TR.x (textZ d0.l d1.i)) (putT ([] : List (D)) (TR.s (textZ d0.l d1.i))))) = true) →
 False) ∧ (((bnot (partZ d0.l d1.i (TR.x (textZ d0.l d1.i)) (putT ([] : List (D)) (TR.s (textZ d0.l d1.i))))) = false) →
 (∃ (g_1 : Unit), (True ∧ (((d0.l = d0.l) ∧ ((d1.i = d1.i) ∧ True)) ∧ (True ∧ True))))))))) ∧ (((ieq (TR.e (textZ d0.l d1.i)) (0 : Int)) = false) →
 (∃ (g_1 : Unit), (True ∧ (((d0.l = d0.l) ∧ ((d1.i = d1.i) ∧ True)) ∧ (True ∧ True)))))) ∧ (∀ (g_1 : Unit), (True →
 (((List.length d0.l) ≤ (1000000 : Nat)) ∧ (((((ieq (FR.e (frameZ d0.l d1.i)) (0 : Int)) = true) →
 ((((List.length ([] : List (D))) ≤ (1000000 : Nat)) ∧ ((List.length (FR.p (frameZ d0.l d1.i))) ≤ (1000000 : Nat))) ∧ (((0 : Int) ≤ d1.i) ∧ ((((bnot (partZ d0.l d1.i (FR.x (frameZ d0.l d1.i)) (putF ([] : List (D)) (FR.k (frameZ d0.l d1.i)) (strD (FR.p (frameZ d0.l d1.i)))))) = true) →
 False) ∧ (((bnot (partZ d0.l d1.i (FR.x (frameZ d0.l d1.i)) (putF ([] : List (D)) (FR.k (frameZ d0.l d1.i)) (strD (FR.p (frameZ d0.l d1.i)))))) = false) →
 (∃ (g_2 : Unit), (True ∧ (True ∧ (True ∧ True))))))))) ∧ (((ieq (FR.e (frameZ d0.l d1.i)) (0 : Int)) = false) →
 (∃ (g_2 : Unit), (True ∧ (True ∧ (True ∧ True)))))) ∧ (∀ (g_2 : Unit), (True →
 (True ∧ True)))))))))))))))))))) := by kernel_rfl
theorem vc9 (d0 d1 : D) : (exec tt tb9 noInl noLp (bodyOf Try.f9) (initSt Try.f9.ntmps (svs con9.tys [d0, d1])) (doneE tt Try.f9.results.toList (con9.run [d0, d1]).rets)) =
  (((((ilt (2000 : Int) (lenI d0.l)) = true) →
 True) ∧ (((ilt (2000 : Int) (lenI d0.l)) = false) →
 (((List.length d0.l) ≤ (1000000 : Nat)) ∧ (((List.length d0.l) ≤ (1000000 : Nat)) ∧ (((List.length d0.l) ≤ (1000000 : Nat)) ∧ (((List.length d0.l) ≤ (1000000 : Nat)) ∧ ((((ieq (FR.k (frameZ d0.l d1.i)) (FR.k (frameZ d0.l d1.i))) = true) →
 (True ∧ ((((sameZ (FR.p (frameZ d0.l d1.i)) (FR.p (frameZ d0.l d1.i))) = true) →
 ((((ieq (FR.x (frameZ d0.l d1.i)) (FR.x (frameZ d0.l d1.i))) = true) →
 ((((ieq (FR.e (frameZ d0.l d1.i)) (FR.e (frameZ d0.l d1.i))) = true) →
 ((((ieq (NX.n (inZ d0.l)) (NX.n (inZ d0.l))) = true) →
 ((((ieq (NX.x (inZ d0.l)) (NX.x (inZ d0.l))) = true) →
 (True ∧ True)) ∧ (((ieq (NX.x (inZ d0.l)) (NX.x (inZ d0.l))) = false) →
 False))) ∧ (((ieq (NX.n (inZ d0.l)) (NX.n (inZ d0.l))) = false) →
 False))) ∧ (((ieq (FR.e (frameZ d0.l d1.i)) (FR.e (frameZ d0.l d1.i))) = false) →
 False))) ∧ (((ieq (FR.x (frameZ d0.l d1.i)) (FR.x (frameZ d0.l d1.i))) = false) →
 False))) ∧ (((sameZ (FR.p (frameZ d0.l d1.i)) (FR.p (frameZ d0.l d1.i))) = false) →
 False)))) ∧ (((ieq (FR.k (frameZ d0.l d1.i)) (FR.k (frameZ d0.l d1.i))) = false) →
 False))))))))) := by kernel_rfl
end Go.Proofs.Ytngjkhnhnaohmaa
