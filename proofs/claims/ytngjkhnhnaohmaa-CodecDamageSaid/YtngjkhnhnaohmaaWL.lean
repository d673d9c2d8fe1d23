/- Part of the proof of the laws of this seat: contracts of its functions, for every input. -/
import Derived.Test.YtngjkhnhnaohmaaWK
set_option linter.all false
namespace Go.Proofs.Ytngjkhnhnaohmaa
open Go Go.RX Go.Proofs
set_option maxRecDepth 100000
set_option linter.all false
theorem vc17 : (exec tt tb17 noInl noLp (bodyOf Try.f17) (initSt Try.f17.ntmps (svs con17.tys [])) (doneE tt Try.f17.results.toList (con17.run []).rets)) =
  ((((List.length ((D.int (128 : Int)) :: ((D.int (1 : Int)) :: ([] : List (D))))) ≤ (1000000 : Nat)) ∧ (((List.length ((D.int (128 : Int)) :: ((D.int (1 : Int)) :: ([] : List (D))))) ≤ (1000000 : Nat)) ∧ (((List.length ((D.int (128 : Int)) :: ((D.int (1 : Int)) :: ([] : List (D))))) ≤ (1000000 : Nat)) ∧ (((List.length ((D.int (128 : Int)) :: ((D.int (0 : Int)) :: ([] : List (D))))) ≤ (1000000 : Nat)) ∧ (((List.length ((D.int (128 : Int)) :: ([] : List (D)))) ≤ (1000000 : Nat)) ∧ (((List.length ((D.int (1 : Int)) :: ([] : List (D)))) ≤ (1000000 : Nat)) ∧ (((List.length ((D.int (6 : Int)) :: ((D.int (97 : Int)) :: ((D.int (98 : Int)) :: ([] : List (D)))))) ≤ (1000000 : Nat)) ∧ (((false = true) →
 False) ∧ ((false = false) →
 (((false = true) →
 False) ∧ ((false = false) →
 (((false = true) →
 False) ∧ ((false = false) →
 (((false = true) →
 False) ∧ ((false = false) →
 (((false = true) →
 False) ∧ ((false = false) →
 (((false = true) →
 False) ∧ ((false = false) →
 (((false = true) →
 False) ∧ ((false = false) →
 (((false = true) →
 False) ∧ ((false = false) →
 (((false = true) →
 False) ∧ ((false = false) →
 (((List.length ((D.int (7 : Int)) :: ([] : List (D)))) ≤ (1000000 : Nat)) ∧ (True ∧ (((true = true) →
 (((List.length ([] : List (D))) ≤ (1000000 : Nat)) ∧ (True ∧ (((true = true) →
 (((List.length ([] : List (D))) ≤ (1000000 : Nat)) ∧ (True ∧ (((true = true) →
 ((((List.length ([] : List (D))) ≤ (1000000 : Nat)) ∧ ((List.length (Array.toList (ByteArray.data (ByteArray.mk (List.toArray ((97 : UInt8) :: ((98 : UInt8) :: ([] : List (UInt8))))))))) ≤ (1000000 : Nat))) ∧ (True ∧ (((true = true) →
 (((0 : Int) < (9 : Int)) ∧ (True ∧ (true = true)))) ∧ ((true = false) →
 False))))) ∧ ((true = false) →
 False))))) ∧ ((true = false) →
 False))))) ∧ ((true = false) →
 False)))))))))))))))))))))))))))))) := by kernel_rfl
theorem vc3 (d0 d1 d2 : D) : (exec tt tb3 noInl noLp (bodyOf Try.f3) (initSt Try.f3.ntmps (svs con3.tys [d0, d1, d2])) (doneE tt Try.f3.results.toList (con3.run [d0, d1, d2]).rets)) =
  (((((ilt (2000 : Int) (lenI d0.l)) = true) →
 True) ∧ (((ilt (2000 : Int) (lenI d0.l)) = false) →
 ((((ilt (2000 : Int) (lenS d2.s)) = true) →
 True) ∧ (((ilt (2000 : Int) (lenS d2.s)) = false) →
 (((List.length d0.l) ≤ (10000000 : Nat)) ∧ (((((lenI d0.l) + (4 : Int)) * ((1 : Nat) : Int)) ≤ (140737488355328 : Int)) ∧ ((((0 : Int) ≤ (0 : Int)) ∧ (((0 : Int) ≤ (lenI d0.l)) ∧ ((lenI d0.l) ≤ (lenI (xcat d0.l ((D.int (1 : Int)) :: ((D.int (2 : Int)) :: ((D.int (3 : Int)) :: ((D.int (4 : Int)) :: ([] : List (D))))))))))) ∧ (((List.length (xsub (xcat d0.l ((D.int (1 : Int)) :: ((D.int (2 : Int)) :: ((D.int (3 : Int)) :: ((D.int (4 : Int)) :: ([] : List (D))))))) (0 : Int) (lenI d0.l))) ≤ (1000000 : Nat)) ∧ ((((List.length (xsub (xcat d0.l ((D.int (1 : Int)) :: ((D.int (2 : Int)) :: ((D.int (3 : Int)) :: ((D.int (4 : Int)) :: ([] : List (D))))))) (0 : Int) (lenI d0.l))) ≤ (1000000 : Nat)) ∧ ((List.length d2.s) ≤ (1000000 : Nat))) ∧ ((((0 : Int) ≤ (0 : Int)) ∧ (((0 : Int) ≤ (iadd IntKind.i64 (lenI d0.l) (4 : Int))) ∧ ((iadd IntKind.i64 (lenI d0.l) (4 : Int)) ≤ (lenI (xcat d0.l ((D.int (1 : Int)) :: ((D.int (2 : Int)) :: ((D.int (3 : Int)) :: ((D.int (4 : Int)) :: ([] : List (D))))))))))) ∧ (((List.length d0.l) ≤ (10000000 : Nat)) ∧ (((((lenI d0.l) + (4 : Int)) * ((1 : Nat) : Int)) ≤ (140737488355328 : Int)) ∧ (True ∧ ((((bnot (sameZ (xsub (xcat d0.l ((D.int (1 : Int)) :: ((D.int (2 : Int)) :: ((D.int (3 : Int)) :: ((D.int (4 : Int)) :: ([] : List (D))))))) (0 : Int) (iadd IntKind.i64 (lenI d0.l) (4 : Int))) (xcat d0.l ((D.int (1 : Int)) :: ((D.int (2 : Int)) :: ((D.int (3 : Int)) :: ((D.int (4 : Int)) :: ([] : List (D))))))))) = true) →
 False) ∧ (((bnot (sameZ (xsub (xcat d0.l ((D.int (1 : Int)) :: ((D.int (2 : Int)) :: ((D.int (3 : Int)) :: ((D.int (4 : Int)) :: ([] : List (D))))))) (0 : Int) (iadd IntKind.i64 (lenI d0.l) (4 : Int))) (xcat d0.l ((D.int (1 : Int)) :: ((D.int (2 : Int)) :: ((D.int (3 : Int)) :: ((D.int (4 : Int)) :: ([] : List (D))))))))) = false) →
 (((List.length d0.l) ≤ (1000000 : Nat)) ∧ (True ∧ ((((sameZ (putI (xsub (xcat d0.l ((D.int (1 : Int)) :: ((D.int (2 : Int)) :: ((D.int (3 : Int)) :: ((D.int (4 : Int)) :: ([] : List (D))))))) (0 : Int) (lenI d0.l)) d1.i) (putI d0.l d1.i)) = true) →
 ((((List.length d0.l) ≤ (1000000 : Nat)) ∧ ((List.length d2.s) ≤ (1000000 : Nat))) ∧ (True ∧ ((((sameZ (putT (xsub (xcat d0.l ((D.int (1 : Int)) :: ((D.int (2 : Int)) :: ((D.int (3 : Int)) :: ((D.int (4 : Int)) :: ([] : List (D))))))) (0 : Int) (lenI d0.l)) d2.s) (putT d0.l d2.s)) = true) →
 (True ∧ True)) ∧ (((sameZ (putT (xsub (xcat d0.l ((D.int (1 : Int)) :: ((D.int (2 : Int)) :: ((D.int (3 : Int)) :: ((D.int (4 : Int)) :: ([] : List (D))))))) (0 : Int) (lenI d0.l)) d2.s) (putT d0.l d2.s)) = false) →
 False))))) ∧ (((sameZ (putI (xsub (xcat d0.l ((D.int (1 : Int)) :: ((D.int (2 : Int)) :: ((D.int (3 : Int)) :: ((D.int (4 : Int)) :: ([] : List (D))))))) (0 : Int) (lenI d0.l)) d1.i) (putI d0.l d1.i)) = false) →
 False)))))))))))))))))))) := by kernel_rfl
theorem vc4 (d0 d1 : D) : (exec tt tb4 noInl noLp (bodyOf Try.f4) (initSt Try.f4.ntmps (svs con4.tys [d0, d1])) (doneE tt Try.f4.results.toList (con4.run [d0, d1]).rets)) =
  (((((ilt (2000 : Int) (lenI d0.l)) = true) →
 True) ∧ (((ilt (2000 : Int) (lenI d0.l)) = false) →
 (((List.length d0.l) ≤ (1000000 : Nat)) ∧ (((List.length d0.l) ≤ (1000000 : Nat)) ∧ ((((ieq (IR.n (intZ d0.l d1.i)) (IR.n (intZ d0.l d1.i))) = true) →
 ((((ieq (IR.x (intZ d0.l d1.i)) (IR.x (intZ d0.l d1.i))) = true) →
 ((((ieq (IR.e (intZ d0.l d1.i)) (IR.e (intZ d0.l d1.i))) = true) →
 (True ∧ True)) ∧ (((ieq (IR.e (intZ d0.l d1.i)) (IR.e (intZ d0.l d1.i))) = false) →
 False))) ∧ (((ieq (IR.x (intZ d0.l d1.i)) (IR.x (intZ d0.l d1.i))) = false) →
 False))) ∧ (((ieq (IR.n (intZ d0.l d1.i)) (IR.n (intZ d0.l d1.i))) = false) →
 False))))))) := by kernel_rfl
theorem vc5 (d0 d1 : D) : (exec tt tb5 noInl noLp (bodyOf Try.f5) (initSt Try.f5.ntmps (svs con5.tys [d0, d1])) (doneE tt Try.f5.results.toList (con5.run [d0, d1]).rets)) =
  (((((ilt (2000 : Int) (lenI d0.l)) = true) →
 True) ∧ (((ilt (2000 : Int) (lenI d0.l)) = false) →
 (((List.length d0.l) ≤ (1000000 : Nat)) ∧ (((List.length d0.l) ≤ (1000000 : Nat)) ∧ ((((seq' (TR.s (textZ d0.l d1.i)) (TR.s (textZ d0.l d1.i))) = true) →
 ((((ieq (TR.x (textZ d0.l d1.i)) (TR.x (textZ d0.l d1.i))) = true) →
 ((((ieq (TR.e (textZ d0.l d1.i)) (TR.e (textZ d0.l d1.i))) = true) →
 (True ∧ True)) ∧ (((ieq (TR.e (textZ d0.l d1.i)) (TR.e (textZ d0.l d1.i))) = false) →
 False))) ∧ (((ieq (TR.x (textZ d0.l d1.i)) (TR.x (textZ d0.l d1.i))) = false) →
 False))) ∧ (((seq' (TR.s (textZ d0.l d1.i)) (TR.s (textZ d0.l d1.i))) = false) →
 False))))))) := by kernel_rfl
end Go.Proofs.Ytngjkhnhnaohmaa
