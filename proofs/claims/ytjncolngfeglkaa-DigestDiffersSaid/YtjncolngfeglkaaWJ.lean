/- Part of the proof of the laws of this seat: contracts of its functions, for every input. -/
import Derived.Test.YtjncolngfeglkaaWI
set_option linter.all false
namespace Go.Proofs.Ytjncolngfeglkaa
open Go Go.RX Go.Proofs
set_option maxRecDepth 100000
set_option linter.all false
theorem vc15 : (exec tt tb15 noInl noLp (bodyOf Try.f15) (initSt Try.f15.ntmps (svs con15.tys [])) (doneE tt Try.f15.results.toList (con15.run []).rets)) =
  ((((List.length ((D.int (1 : Int)) :: ((D.int (2 : Int)) :: ((D.int (3 : Int)) :: ([] : List (D)))))) ≤ (1000000 : Nat)) ∧ (((List.length ((D.int (1 : Int)) :: ((D.int (2 : Int)) :: ((D.int (3 : Int)) :: ([] : List (D)))))) ≤ (1000000 : Nat)) ∧ (((List.length ((D.int (1 : Int)) :: ((D.int (2 : Int)) :: ((D.int (3 : Int)) :: ([] : List (D)))))) ≤ (1000000 : Nat)) ∧ (((false = true) →
 False) ∧ ((false = false) →
 (((false = true) →
 False) ∧ ((false = false) →
 (((false = true) →
 False) ∧ ((false = false) →
 (((false = true) →
 False) ∧ ((false = false) →
 ((((0 : Int) ≤ (0 : Int)) ∧ ((0 : Int) < (1 : Int))) ∧ (True ∧ (((false = true) →
 False) ∧ ((false = false) →
 (True ∧ (((false = true) →
 False) ∧ ((false = false) →
 ((((List.length ((D.int (1 : Int)) :: ((D.int (2 : Int)) :: ((D.int (3 : Int)) :: ([] : List (D)))))) ≤ (100000 : Nat)) ∧ ((List.length ((D.int (1 : Int)) :: ((D.int (2 : Int)) :: ((D.int (4 : Int)) :: ([] : List (D)))))) ≤ (100000 : Nat))) ∧ (True ∧ (((false = true) →
 False) ∧ ((false = false) →
 (((false = true) →
 False) ∧ ((false = false) →
 (True ∧ (True ∧ (True ∧ (((true = true) →
 (((0 : Int) < (1 : Int)) ∧ (True ∧ (((true = true) →
 (((List.length ((D.int (5 : Int)) :: ([] : List (D)))) ≤ (1000000 : Nat)) ∧ (((true = true) →
 (((List.length ((D.int (1 : Int)) :: ((D.int (2 : Int)) :: ((D.int (3 : Int)) :: ([] : List (D)))))) ≤ (1000000 : Nat)) ∧ (((true = true) →
 (((List.length ([] : List (D))) ≤ (1000000 : Nat)) ∧ (((true = true) →
 (True ∧ (((true = true) →
 (True ∧ (true = true))) ∧ ((true = false) →
 False)))) ∧ ((true = false) →
 False)))) ∧ ((true = false) →
 False)))) ∧ ((true = false) →
 False)))) ∧ ((true = false) →
 False))))) ∧ ((true = false) →
 False)))))))))))))))))))))))))))))) := by kernel_rfl
theorem vc26 (d0 : D) : (exec tt tbN noInl lp26 (bodyOf Try.f26) (initSt Try.f26.ntmps (svs con26.tys [d0])) (doneE tt Try.f26.results.toList (con26.run [d0]).rets)) =
  (((((ilt (100 : Int) (lenI d0.l)) = true) →
 ((fewZ d0.l) = false)) ∧ (((ilt (100 : Int) (lenI d0.l)) = false) →
 ((∃ (g : Nat), (((g ≤ (List.length d0.l)) ∧ (fewTo d0.l g)) ∧ (((d0.l = d0.l) ∧ (((0 : Int) = ((g : Nat) : Int)) ∧ True)) ∧ (True ∧ True)))) ∧ (∀ (g : Nat), (((g ≤ (List.length d0.l)) ∧ (fewTo d0.l g)) →
 ((((ilt ((g : Nat) : Int) (lenI d0.l)) = true) →
 ((((0 : Int) ≤ ((g : Nat) : Int)) ∧ (((g : Nat) : Int) < (lenI d0.l))) ∧ ((((ilt (100 : Int) (lenI (D.l (elt d0.l ((g : Nat) : Int))))) = true) →
 ((fewZ d0.l) = false)) ∧ (((ilt (100 : Int) (lenI (D.l (elt d0.l ((g : Nat) : Int))))) = false) →
 (∃ (g' : Nat), (((g' ≤ (List.length d0.l)) ∧ (fewTo d0.l g')) ∧ ((((List.length d0.l) - g') < ((List.length d0.l) - g)) ∧ (((d0.l = d0.l) ∧ (((iadd IntKind.i64 ((g : Nat) : Int) (1 : Int)) = ((g' : Nat) : Int)) ∧ True)) ∧ (True ∧ True))))))))) ∧ (((ilt ((g : Nat) : Int) (lenI d0.l)) = false) →
 ((fewZ d0.l) = true))))))))) := by kernel_rfl
theorem vc3 (d0 d1 d2 : D) : (exec tt tb3 noInl noLp (bodyOf Try.f3) (initSt Try.f3.ntmps (svs con3.tys [d0, d1, d2])) (doneE tt Try.f3.results.toList (con3.run [d0, d1, d2]).rets)) =
  (((((ilt (1000 : Int) (lenI d0.l)) = true) →
 True) ∧ (((ilt (1000 : Int) (lenI d0.l)) = false) →
 (True ∧ (True ∧ ((((ieq (hashZ d0.l) (hashZ d0.l)) = true) →
 (True ∧ (True ∧ ((((ieq (joinZ d1.i d2.i) (joinZ d1.i d2.i)) = true) →
 (True ∧ True)) ∧ (((ieq (joinZ d1.i d2.i) (joinZ d1.i d2.i)) = false) →
 False))))) ∧ (((ieq (hashZ d0.l) (hashZ d0.l)) = false) →
 False))))))) := by kernel_rfl
theorem vc4 (d0 d1 : D) : (exec tt tb4 noInl noLp (bodyOf Try.f4) (initSt Try.f4.ntmps (svs con4.tys [d0, d1])) (doneE tt Try.f4.results.toList (con4.run [d0, d1]).rets)) =
  (((((ilt (100 : Int) (lenI d0.l)) = true) →
 True) ∧ (((ilt (100 : Int) (lenI d0.l)) = false) →
 (((List.length d0.l) ≤ (1000000 : Nat)) ∧ (((List.length d0.l) ≤ (1000000 : Nat)) ∧ (((List.length d0.l) ≤ (1000000 : Nat)) ∧ (((List.length d0.l) ≤ (1000000 : Nat)) ∧ ((((ieq (rootZ d0.l) (rootZ d0.l)) = true) →
 (True ∧ ((((sameZ (PR2.l (proofZ d0.l d1.i)) (PR2.l (proofZ d0.l d1.i))) = true) →
 ((((ieq (PR2.e (proofZ d0.l d1.i)) (PR2.e (proofZ d0.l d1.i))) = true) →
 (True ∧ True)) ∧ (((ieq (PR2.e (proofZ d0.l d1.i)) (PR2.e (proofZ d0.l d1.i))) = false) →
 False))) ∧ (((sameZ (PR2.l (proofZ d0.l d1.i)) (PR2.l (proofZ d0.l d1.i))) = false) →
 False)))) ∧ (((ieq (rootZ d0.l) (rootZ d0.l)) = false) →
 False))))))))) := by kernel_rfl
theorem vc5 (d0 : D) : (exec tt tb5 noInl noLp (bodyOf Try.f5) (initSt Try.f5.ntmps (svs con5.tys [d0])) (doneE tt Try.f5.results.toList (con5.run [d0]).rets)) =
  (((((ilt (100 : Int) (lenI (D.l (d0.fld 4)))) = true) →
 True) ∧ (((ilt (100 : Int) (lenI (D.l (d0.fld 4)))) = false) →
 (True ∧ (True ∧ ((((beqB (verZ (d0.fld 0).i (d0.fld 1).i (d0.fld 2).i (d0.fld 3).i (D.l (d0.fld 4))) (verZ (d0.fld 0).i (d0.fld 1).i (d0.fld 2).i (d0.fld 3).i (D.l (d0.fld 4)))) = true) →
 (True ∧ True)) ∧ (((beqB (verZ (d0.fld 0).i (d0.fld 1).i (d0.fld 2).i (d0.fld 3).i (D.l (d0.fld 4))) (verZ (d0.fld 0).i (d0.fld 1).i (d0.fld 2).i (d0.fld 3).i (D.l (d0.fld 4)))) = false) →
 False))))))) := by kernel_rfl
theorem vc7 (d0 d1 : D) : (exec tt tb7 noInl lp7 (bodyOf Try.f7) (initSt Try.f7.ntmps (svs con7.tys [d0, d1])) (doneE tt Try.f7.results.toList (con7.run [d0, d1]).rets)) =
  (((((ilt (100 : Int) (lenI d0.l)) = true) →
 True) ∧ (((ilt (100 : Int) (lenI d0.l)) = false) →
 (((List.length d0.l) ≤ (1000000 : Nat)) ∧ ((∃ (g : Nat), ((g ≤ (List.length d0.l)) ∧ (((d0.l = d0.l) ∧ ((d1.i = d1.i) ∧ (((rootZ d0.l) = (rootZ d0.l)) ∧ (((0 : Int) = ((g : Nat) : Int)) ∧ True)))) ∧ (True ∧ True)))) ∧ (∀ (g : Nat), ((g ≤ (List.length d0.l)) →
 ((((ilt ((g : Nat) : Int) (lenI d0.l)) = true) →
 (((List.length d0.l) ≤ (1000000 : Nat)) ∧ ((((bnot (ieq (PR2.e (proofZ d0.l ((g : Nat) : Int))) (0 : Int))) = true) →
 False) ∧ (((bnot (ieq (PR2.e (proofZ d0.l ((g : Nat) : Int))) (0 : Int))) = false) →
 ((((0 : Int) ≤ ((g : Nat) : Int)) ∧ (((g : Nat) : Int) < (lenI d0.l))) ∧ (True ∧ ((((bnot (verZ (rootZ d0.l) (D.i (elt d0.l ((g : Nat) : Int))) ((g : Nat) : Int) (lenI d0.l) (PR2.l (proofZ d0.l ((g : Nat) : Int))))) = true) →
 False) ∧ (((bnot (verZ (rootZ d0.l) (D.i (elt d0.l ((g : Nat) : Int))) ((g : Nat) : Int) (lenI d0.l) (PR2.l (proofZ d0.l ((g : Nat) : Int))))) = false) →
 ((((0 : Int) ≤ ((g : Nat) : Int)) ∧ (((g : Nat) : Int) < (lenI d0.l))) ∧ (((((0 : Int) + (lenI (PR2.l (proofZ d0.l ((g : Nat) : Int))))) * (((8 : Nat) : Nat) : Int)) ≤ (140737488355328 : Int)) ∧ (((((lenI (xcat ([] : List (D)) (PR2.l (proofZ d0.l ((g : Nat) : Int))))) + (lenI ((D.int d1.i) :: ([] : List (D))))) * (((8 : Nat) : Nat) : Int)) ≤ (140737488355328 : Int)) ∧ (True ∧ ((((verZ (rootZ d0.l) (D.i (elt d0.l ((g : Nat) : Int))) ((g : Nat) : Int) (lenI d0.l) (xcat (xcat ([] : List (D)) (PR2.l (proofZ d0.l ((g : Nat) : Int)))) ((D.int d1.i) :: ([] : List (D))))) = true) →
 False) ∧ (((verZ (rootZ d0.l) (D.i (elt d0.l ((g : Nat) : Int))) ((g : Nat) : Int) (lenI d0.l) (xcat (xcat ([] : List (D)) (PR2.l (proofZ d0.l ((g : Nat) : Int)))) ((D.int d1.i) :: ([] : List (D))))) = false) →
 ((((ilt (0 : Int) (lenI (PR2.l (proofZ d0.l ((g : Nat) : Int))))) = true) →
 ((((0 : Int) ≤ ((g : Nat) : Int)) ∧ (((g : Nat) : Int) < (lenI d0.l))) ∧ ((((0 : Int) ≤ (0 : Int)) ∧ (((0 : Int) ≤ (isub IntKind.i64 (lenI (PR2.l (proofZ d0.l ((g : Nat) : Int)))) (1 : Int))) ∧ ((isub IntKind.i64 (lenI (PR2.l (proofZ d0.l ((g : Nat) : Int)))) (1 : Int)) ≤ (lenI (PR2.l (proofZ d0.l ((g : Nat) : Int))))))) ∧ (True ∧ ((((verZ (rootZ d0.l) (D.i (elt d0.l ((g : Nat) : Int))) ((g : Nat) : Int) (lenI d0.l) (xsub (PR2.l (proofZ d0.l ((g : Nat) : Int))) (0 : Int) (isub IntKind.i64 (lenI (PR2.l (proofZ d0.l ((g : Nat) : Int)))) (1 : Int)))) = true) →
 False) ∧ (((verZ (rootZ d0.l) (D.i (elt d0.l ((g : Nat) : Int))) ((g : Nat) : Int) (lenI d0.l) (xsub (PR2.l (proofZ d0.l ((g : Nat) : Int))) (0 : Int) (isub IntKind.i64 (lenI (PR2.l (proofZ d0.l ((g : Nat) : Int)))) (1 : Int)))) = false) →
 (∃ (g' : Nat), ((g' ≤ (List.length d0.l)) ∧ ((((List.length d0.l) - g') < ((List.length d0.l) - g)) ∧ (((d0.l = d0.l) ∧ ((d1.i = d1.i) ∧ (((rootZ d0.l) = (rootZ d0.l)) ∧ (((iadd IntKind.i64 ((g : Nat) : Int) (1 : Int)) = ((g' : Nat) : Int)) ∧ True)))) ∧ (True ∧ True))))))))))) ∧ (((ilt (0 : Int) (lenI (PR2.l (proofZ d0.l ((g : Nat) : Int))))) = false) →
 (∃ (g' : Nat), ((g' ≤ (List.length d0.l)) ∧ ((((List.length d0.l) - g') < ((List.length d0.l) - g)) ∧ (((d0.l = d0.l) ∧ ((d1.i = d1.i) ∧ (((rootZ d0.l) = (rootZ d0.l)) ∧ (((iadd IntKind.i64 ((g : Nat) : Int) (1 : Int)) = ((g' : Nat) : Int)) ∧ True)))) ∧ (True ∧ True))))))))))))))))))))) ∧ (((ilt ((g : Nat) : Int) (lenI d0.l)) = false) →
 (True ∧ True)))))))))) := by kernel_rfl
theorem vc8 (d0 d1 d2 : D) : (exec tt tb8 noInl lp8 (bodyOf Try.f8) (initSt Try.f8.ntmps (svs con8.tys [d0, d1, d2])) (doneE tt Try.f8.results.toList (con8.run [d0, d1, d2]).rets)) =
  (((((ieq (lenI d0.l) (0 : Int)) = true) →
 True) ∧ (((ieq (lenI d0.l) (0 : Int)) = false) →
 ((((ilt (100 : Int) (lenI d0.l)) = true) →
 True) ∧ (((ilt (100 : Int) (lenI d0.l)) = false) →
 ((((ilt (100 : Int) (lenI d1.l)) = true) →
 True) ∧ (((ilt (100 : Int) (lenI d1.l)) = false) →
 (((((0 : Int) + (lenI d0.l)) * (((8 : Nat) : Nat) : Int)) ≤ (140737488355328 : Int)) ∧ ((∃ (g : Nat), ((g ≤ (List.length d1.l)) ∧ (((d0.l = d0.l) ∧ ((d1.l = d1.l) ∧ ((d2.i = d2.i) ∧ (True ∧ (((0 : Int) = ((g : Nat) : Int)) ∧ True))))) ∧ ((((xcat ([] : List (D)) d0.l) = (xorTo d0.l d1.l d2.i g)) ∧ True) ∧ True)))) ∧ (∀ (g : Nat), ((g ≤ (List.length d1.l)) →
 ((((ilt ((g : Nat) : Int) (lenI d1.l)) = true) →
 ((((0 : Int) ≤ ((g : Nat) : Int)) ∧ (((g : Nat) : Int) < (lenI d1.l))) ∧ (((lenI (xorTo d0.l d1.l d2.i g)) ≠ (0 : Int)) ∧ ((((0 : Int) ≤ (irem (iconv IntKind.i64 (D.i (elt d1.l ((g : Nat) : Int)))) (lenI (xorTo d0.l d1.l d2.i g)))) ∧ ((irem (iconv IntKind.i64 (D.i (elt d1.l ((g : Nat) : Int)))) (lenI (xorTo d0.l d1.l d2.i g))) < (lenI (xorTo d0.l d1.l d2.i g)))) ∧ ((((0 : Int) ≤ (irem (iconv IntKind.i64 (D.i (elt d1.l ((g : Nat) : Int)))) (lenI (xorTo d0.l d1.l d2.i g)))) ∧ ((irem (iconv IntKind.i64 (D.i (elt d1.l ((g : Nat) : Int)))) (lenI (xorTo d0.l d1.l d2.i g))) < (lenI (xorTo d0.l d1.l d2.i g)))) ∧ (∃ (g' : Nat), ((g' ≤ (List.length d1.l)) ∧ ((((List.length d1.l) - g') < ((List.length d1.l) - g)) ∧ (((d0.l = d0.l) ∧ ((d1.l = d1.l) ∧ ((d2.i = d2.i) ∧ (True ∧ (((iadd IntKind.i64 ((g : Nat) : Int) (1 : Int)) = ((g' : Nat) : Int)) ∧ True))))) ∧ ((((xset (xorTo d0.l d1.l d2.i g) (Int.toNat (irem (iconv IntKind.i64 (D.i (elt d1.l ((g : Nat) : Int)))) (lenI (xorTo d0.l d1.l d2.i g)))) (D.int (Go.bits Go.BinOp.xor IntKind.u64 (D.i (elt (xorTo d0.l d1.l d2.i g) (((Int.toNat (irem (iconv IntKind.i64 (D.i (elt d1.l ((g : Nat) : Int)))) (lenI (xorTo d0.l d1.l d2.i g)))) : Nat) : Int))) d2.i))) = (xorTo d0.l d1.l d2.i g')) ∧ True) ∧ True)))))))))) ∧ (((ilt ((g : Nat) : Int) (lenI d1.l)) = false) →
 ((((List.length d0.l) ≤ (100000 : Nat)) ∧ ((List.length (xorTo d0.l d1.l d2.i g)) ≤ (100000 : Nat))) ∧ ((∃ (g_1 : Nat), ((g_1 ≤ (hgt d0.l)) ∧ (((d0.l = d0.l) ∧ (True ∧ (((DR.l (difZ d0.l (xorTo d0.l d1.l d2.i g))) = (DR.l (difZ d0.l (xorTo d0.l d1.l d2.i g)))) ∧ (((DR.c (difZ d0.l (xorTo d0.l d1.l d2.i g))) = (DR.c (difZ d0.l (xorTo d0.l d1.l d2.i g)))) ∧ (((0 : Int) = ((g_1 : Nat) : Int)) ∧ (((lenI d0.l) = (((szN (List.length d0.l) g_1) : Nat) : Int)) ∧ True)))))) ∧ ((((xorTo d0.l d1.l d2.i g) = (xorTo d0.l d1.l d2.i g)) ∧ True) ∧ True)))) ∧ (∀ (g_1 : Nat), ((g_1 ≤ (hgt d0.l)) →
 ((((ilt (1 : Int) (((szN (List.length d0.l) g_1) : Nat) : Int)) = true) →
 (((2 : Int) ≠ (0 : Int)) ∧ (((2 : Int) ≠ (0 : Int)) ∧ (∃ (g' : Nat), ((g' ≤ (hgt d0.l)) ∧ ((((hgt d0.l) - g') < ((hgt d0.l) - g_1)) ∧ (((d0.l = d0.l) ∧ (True ∧ (((DR.l (difZ d0.l (xorTo d0.l d1.l d2.i g))) = (DR.l (difZ d0.l (xorTo d0.l d1.l d2.i g)))) ∧ (((DR.c (difZ d0.l (xorTo d0.l d1.l d2.i g))) = (DR.c (difZ d0.l (xorTo d0.l d1.l d2.i g)))) ∧ (((iadd IntKind.i64 ((g_1 : Nat) : Int) (1 : Int)) = ((g' : Nat) : Int)) ∧ (((iadd IntKind.i64 (iquo IntKind.i64 (((szN (List.length d0.l) g_1) : Nat) : Int) (2 : Int)) (irem (((szN (List.length d0.l) g_1) : Nat) : Int) (2 : Int))) = (((szN (List.length d0.l) g') : Nat) : Int)) ∧ True)))))) ∧ ((((xorTo d0.l d1.l d2.i g) = (xorTo d0.l d1.l d2.i g)) ∧ True) ∧ True)))))))) ∧ (((ilt (1 : Int) (((szN (List.length d0.l) g_1) : Nat) : Int)) = false) →
 ((∃ (g_2 : Nat), ((g_2 ≤ (List.length (DR.l (difZ d0.l (xorTo d0.l d1.l d2.i g))))) ∧ (((d0.l = d0.l) ∧ (True ∧ (((DR.l (difZ d0.l (xorTo d0.l d1.l d2.i g))) = (DR.l (difZ d0.l (xorTo d0.l d1.l d2.i g)))) ∧ (((DR.c (difZ d0.l (xorTo d0.l d1.l d2.i g))) = (DR.c (difZ d0.l (xorTo d0.l d1.l d2.i g)))) ∧ ((((g_1 : Nat) : Int) = ((g_1 : Nat) : Int)) ∧ (((0 : Int) = ((g_2 : Nat) : Int)) ∧ True)))))) ∧ ((((xorTo d0.l d1.l d2.i g) = (xorTo d0.l d1.l d2.i g)) ∧ True) ∧ True)))) ∧ (∀ (g_2 : Nat), ((g_2 ≤ (List.length (DR.l (difZ d0.l (xorTo d0.l d1.l d2.i g))))) →
 ((((ilt ((g_2 : Nat) : Int) (lenI (DR.l (difZ d0.l (xorTo d0.l d1.l d2.i g))))) = true) →
 ((((0 : Int) ≤ ((g_2 : Nat) : Int)) ∧ (((g_2 : Nat) : Int) < (lenI (DR.l (difZ d0.l (xorTo d0.l d1.l d2.i g)))))) ∧ ((((ilt (D.i (elt (DR.l (difZ d0.l (xorTo d0.l d1.l d2.i g))) ((g_2 : Nat) : Int))) (0 : Int)) = true) →
 False) ∧ (((ilt (D.i (elt (DR.l (difZ d0.l (xorTo d0.l d1.l d2.i g))) ((g_2 : Nat) : Int))) (0 : Int)) = false) →
 ((((0 : Int) ≤ ((g_2 : Nat) : Int)) ∧ (((g_2 : Nat) : Int) < (lenI (DR.l (difZ d0.l (xorTo d0.l d1.l d2.i g)))))) ∧ ((((ile (lenI d0.l) (D.i (elt (DR.l (difZ d0.l (xorTo d0.l d1.l d2.i g))) ((g_2 : Nat) : Int)))) = true) →
 False) ∧ (((ile (lenI d0.l) (D.i (elt (DR.l (difZ d0.l (xorTo d0.l d1.l d2.i g))) ((g_2 : Nat) : Int)))) = false) →
 ((((0 : Int) ≤ ((g_2 : Nat) : Int)) ∧ (((g_2 : Nat) : Int) < (lenI (DR.l (difZ d0.l (xorTo d0.l d1.l d2.i g)))))) ∧ ((((0 : Int) ≤ (D.i (elt (DR.l (difZ d0.l (xorTo d0.l d1.l d2.i g))) ((g_2 : Nat) : Int)))) ∧ ((D.i (elt (DR.l (difZ d0.l (xorTo d0.l d1.l d2.i g))) ((g_2 : Nat) : Int))) < (lenI d0.l))) ∧ ((((0 : Int) ≤ ((g_2 : Nat) : Int)) ∧ (((g_2 : Nat) : Int) < (lenI (DR.l (difZ d0.l (xorTo d0.l d1.l d2.i g)))))) ∧ ((((0 : Int) ≤ (D.i (elt (DR.l (difZ d0.l (xorTo d0.l d1.l d2.i g))) ((g_2 : Nat) : Int)))) ∧ ((D.i (elt (DR.l (difZ d0.l (xorTo d0.l d1.l d2.i g))) ((g_2 : Nat) : Int))) < (lenI (xorTo d0.l d1.l d2.i g)))) ∧ ((((ieq (D.i (elt d0.l (D.i (elt (DR.l (difZ d0.l (xorTo d0.l d1.l d2.i g))) ((g_2 : Nat) : Int))))) (D.i (elt (xorTo d0.l d1.l d2.i g) (D.i (elt (DR.l (difZ d0.l (xorTo d0.l d1.l d2.i g))) ((g_2 : Nat) : Int)))))) = true) →
 False) ∧ (((ieq (D.i (elt d0.l (D.i (elt (DR.l (difZ d0.l (xorTo d0.l d1.l d2.i g))) ((g_2 : Nat) : Int))))) (D.i (elt (xorTo d0.l d1.l d2.i g) (D.i (elt (DR.l (difZ d0.l (xorTo d0.l d1.l d2.i g))) ((g_2 : Nat) : Int)))))) = false) →
 ((((ilt (0 : Int) ((g_2 : Nat) : Int)) = true) →
 ((((0 : Int) ≤ ((g_2 : Nat) : Int)) ∧ (((g_2 : Nat) : Int) < (lenI (DR.l (difZ d0.l (xorTo d0.l d1.l d2.i g)))))) ∧ ((((0 : Int) ≤ (isub IntKind.i64 ((g_2 : Nat) : Int) (1 : Int))) ∧ ((isub IntKind.i64 ((g_2 : Nat) : Int) (1 : Int)) < (lenI (DR.l (difZ d0.l (xorTo d0.l d1.l d2.i g)))))) ∧ ((((ile (D.i (elt (DR.l (difZ d0.l (xorTo d0.l d1.l d2.i g))) ((g_2 : Nat) : Int))) (D.i (elt (DR.l (difZ d0.l (xorTo d0.l d1.l d2.i g))) (isub IntKind.i64 ((g_2 : Nat) : Int) (1 : Int))))) = true) →
 False) ∧ (((ile (D.i (elt (DR.l (difZ d0.l (xorTo d0.l d1.l d2.i g))) ((g_2 : Nat) : Int))) (D.i (elt (DR.l (difZ d0.l (xorTo d0.l d1.l d2.i g))) (isub IntKind.i64 ((g_2 : Nat) : Int) (1 : Int))))) = false) →
 (∃ (g' : Nat), ((g' ≤ (List.length (DR.l (difZ d0.l (xorTo d0.l d1.l d2.i g))))) ∧ ((((List.length (DR.l (difZ d0.l (xorTo d0.l d1.l d2.i g)))) - g') < ((List.length (DR.l (difZ d0.l (xorTo d0.l d1.l d2.i g)))) - g_2)) ∧ (((d0.l = d0.l) ∧ (True ∧ (((DR.l (difZ d0.l (xorTo d0.l d1.l d2.i g))) = (DR.l (difZ d0.l (xorTo d0.l d1.l d2.i g)))) ∧ (((DR.c (difZ d0.l (xorTo d0.l d1.l d2.i g))) = (DR.c (difZ d0.l (xorTo d0.l d1.l d2.i g)))) ∧ ((((g_1 : Nat) : Int) = ((g_1 : Nat) : Int)) ∧ (((iadd IntKind.i64 ((g_2 : Nat) : Int) (1 : Int)) = ((g' : Nat) : Int)) ∧ True)))))) ∧ ((((xorTo d0.l d1.l d2.i g) = (xorTo d0.l d1.l d2.i g)) ∧ True) ∧ True)))))))))) ∧ (((ilt (0 : Int) ((g_2 : Nat) : Int)) = false) →
 (∃ (g' : Nat), ((g' ≤ (List.length (DR.l (difZ d0.l (xorTo d0.l d1.l d2.i g))))) ∧ ((((List.length (DR.l (difZ d0.l (xorTo d0.l d1.l d2.i g)))) - g') < ((List.length (DR.l (difZ d0.l (xorTo d0.l d1.l d2.i g)))) - g_2)) ∧ (((d0.l = d0.l) ∧ (True ∧ (((DR.l (difZ d0.l (xorTo d0.l d1.l d2.i g))) = (DR.l (difZ d0.l (xorTo d0.l d1.l d2.i g)))) ∧ (((DR.c (difZ d0.l (xorTo d0.l d1.l d2.i g))) = (DR.c (difZ d0.l (xorTo d0.l d1.l d2.i g)))) ∧ ((((g_1 : Nat) : Int) = ((g_1 : Nat) : Int)) ∧ (((iadd IntKind.i64 ((g_2 : Nat) : Int) (1 : Int)) = ((g' : Nat) : Int)) ∧ True)))))) ∧ ((((xorTo d0.l d1.l d2.i g) = (xorTo d0.l d1.l d2.i g)) ∧ True) ∧ True)))))))))))))))))))) ∧ (((ilt ((g_2 : Nat) : Int) (lenI (DR.l (difZ d0.l (xorTo d0.l d1.l d2.i g))))) = false) →
 ((((ilt (DR.c (difZ d0.l (xorTo d0.l d1.l d2.i g))) (1 : Int)) = true) →
 False) ∧ (((ilt (DR.c (difZ d0.l (xorTo d0.l d1.l d2.i g))) (1 : Int)) = false) →
 ((((ilt (iadd IntKind.i64 (1 : Int) (imul IntKind.i64 (imul IntKind.i64 (2 : Int) (lenI (DR.l (difZ d0.l (xorTo d0.l d1.l d2.i g))))) ((g_1 : Nat) : Int))) (DR.c (difZ d0.l (xorTo d0.l d1.l d2.i g)))) = true) →
 False) ∧ (((ilt (iadd IntKind.i64 (1 : Int) (imul IntKind.i64 (imul IntKind.i64 (2 : Int) (lenI (DR.l (difZ d0.l (xorTo d0.l d1.l d2.i g))))) ((g_1 : Nat) : Int))) (DR.c (difZ d0.l (xorTo d0.l d1.l d2.i g)))) = false) →
 (((List.length d0.l) ≤ (1000000 : Nat)) ∧ (((List.length (xorTo d0.l d1.l d2.i g)) ≤ (1000000 : Nat)) ∧ ((((bnot (beqB (ieq (lenI (DR.l (difZ d0.l (xorTo d0.l d1.l d2.i g)))) (0 : Int)) (ieq (rootZ d0.l) (rootZ (xorTo d0.l d1.l d2.i g))))) = true) →
 False) ∧ (((bnot (beqB (ieq (lenI (DR.l (difZ d0.l (xorTo d0.l d1.l d2.i g)))) (0 : Int)) (ieq (rootZ d0.l) (rootZ (xorTo d0.l d1.l d2.i g))))) = false) →
 (True ∧ True))))))))))))))))))))))))))))))))) := by kernel_rfl
theorem vc9 (d0 d1 : D) : (exec tt tb9 noInl noLp (bodyOf Try.f9) (initSt Try.f9.ntmps (svs con9.tys [d0, d1])) (doneE tt Try.f9.results.toList (con9.run [d0, d1]).rets)) =
  ((True ∧ ((((bnot (fewZ d1.l)) = true) →
 True) ∧ (((bnot (fewZ d1.l)) = false) →
 (((List.length d1.l) ≤ (1000000 : Nat)) ∧ (((List.length d1.l) ≤ (1000000 : Nat)) ∧ (True ∧ ((((sameZ (chainZ d0.i d1.l) (chainZ d0.i d1.l)) = true) →
 (True ∧ True)) ∧ (((sameZ (chainZ d0.i d1.l) (chainZ d0.i d1.l)) = false) →
 False))))))))) := by kernel_rfl
theorem vc10 (d0 d1 d2 : D) : (exec tt tb10 noInl noLp (bodyOf Try.f10) (initSt Try.f10.ntmps (svs con10.tys [d0, d1, d2])) (doneE tt Try.f10.results.toList (con10.run [d0, d1, d2]).rets)) =
  ((True ∧ ((((bnot (fewZ d1.l)) = true) →
 True) ∧ (((bnot (fewZ d1.l)) = false) →
 (((iadd IntKind.i64 (lenI d1.l) (1 : Int)) ≠ (0 : Int)) ∧ (((List.length d1.l) ≤ (1000000 : Nat)) ∧ ((((0 : Int) ≤ (0 : Int)) ∧ (((0 : Int) ≤ (irem (iconv IntKind.i64 d2.i) (iadd IntKind.i64 (lenI d1.l) (1 : Int)))) ∧ ((irem (iconv IntKind.i64 d2.i) (iadd IntKind.i64 (lenI d1.l) (1 : Int))) ≤ (lenI d1.l)))) ∧ (((List.length (xsub d1.l (0 : Int) (irem (iconv IntKind.i64 d2.i) (iadd IntKind.i64 (lenI d1.l) (1 : Int))))) ≤ (1000000 : Nat)) ∧ ((((bnot (ieq (lenI (chainZ d0.i (xsub d1.l (0 : Int) (irem (iconv IntKind.i64 d2.i) (iadd IntKind.i64 (lenI d1.l) (1 : Int)))))) (irem (iconv IntKind.i64 d2.i) (iadd IntKind.i64 (lenI d1.l) (1 : Int))))) = true) →
 False) ∧ (((bnot (ieq (lenI (chainZ d0.i (xsub d1.l (0 : Int) (irem (iconv IntKind.i64 d2.i) (iadd IntKind.i64 (lenI d1.l) (1 : Int)))))) (irem (iconv IntKind.i64 d2.i) (iadd IntKind.i64 (lenI d1.l) (1 : Int))))) = false) →
 ((((ilt (0 : Int) (irem (iconv IntKind.i64 d2.i) (iadd IntKind.i64 (lenI d1.l) (1 : Int)))) = true) →
 ((((0 : Int) ≤ (isub IntKind.i64 (irem (iconv IntKind.i64 d2.i) (iadd IntKind.i64 (lenI d1.l) (1 : Int))) (1 : Int))) ∧ ((isub IntKind.i64 (irem (iconv IntKind.i64 d2.i) (iadd IntKind.i64 (lenI d1.l) (1 : Int))) (1 : Int)) < (lenI (chainZ d0.i (xsub d1.l (0 : Int) (irem (iconv IntKind.i64 d2.i) (iadd IntKind.i64 (lenI d1.l) (1 : Int)))))))) ∧ ((((ieq (lenI (chainZ d0.i d1.l)) (lenI d1.l)) = true) →
 ((((0 : Int) ≤ (irem (iconv IntKind.i64 d2.i) (iadd IntKind.i64 (lenI d1.l) (1 : Int)))) ∧ (((irem (iconv IntKind.i64 d2.i) (iadd IntKind.i64 (lenI d1.l) (1 : Int))) ≤ (lenI d1.l)) ∧ ((lenI d1.l) ≤ (lenI d1.l)))) ∧ (((List.length (xsub d1.l (irem (iconv IntKind.i64 d2.i) (iadd IntKind.i64 (lenI d1.l) (1 : Int))) (lenI d1.l))) ≤ (1000000 : Nat)) ∧ (((((lenI (chainZ d0.i (xsub d1.l (0 : Int) (irem (iconv IntKind.i64 d2.i) (iadd IntKind.i64 (lenI d1.l) (1 : Int)))))) + (lenI (chainZ (D.i (elt (chainZ d0.i (xsub d1.l (0 : Int) (irem (iconv IntKind.i64 d2.i) (iadd IntKind.i64 (lenI d1.l) (1 : Int))))) (((Int.toNat (isub IntKind.i64 (irem (iconv IntKind.i64 d2.i) (iadd IntKind.i64 (lenI d1.l) (1 : Int))) (1 : Int))) : Nat) : Int))) (xsub d1.l (irem (iconv IntKind.i64 d2.i) (iadd IntKind.i64 (lenI d1.l) (1 : Int))) (lenI d1.l))))) * (((8 : Nat) : Nat) : Int)) ≤ (140737488355328 : Int)) ∧ (True ∧ ((((sameZ (xcat (chainZ d0.i (xsub d1.l (0 : Int) (irem (iconv IntKind.i64 d2.i) (iadd IntKind.i64 (lenI d1.l) (1 : Int))))) (chainZ (D.i (elt (chainZ d0.i (xsub d1.l (0 : Int) (irem (iconv IntKind.i64 d2.i) (iadd IntKind.i64 (lenI d1.l) (1 : Int))))) (((Int.toNat (isub IntKind.i64 (irem (iconv IntKind.i64 d2.i) (iadd IntKind.i64 (lenI d1.l) (1 : Int))) (1 : Int))) : Nat) : Int))) (xsub d1.l (irem (iconv IntKind.i64 d2.i) (iadd IntKind.i64 (lenI d1.l) (1 : Int))) (lenI d1.l)))) (chainZ d0.i d1.l)) = true) →
 (True ∧ True)) ∧ (((sameZ (xcat (chainZ d0.i (xsub d1.l (0 : Int) (irem (iconv IntKind.i64 d2.i) (iadd IntKind.i64 (lenI d1.l) (1 : Int))))) (chainZ (D.i (elt (chainZ d0.i (xsub d1.l (0 : Int) (irem (iconv IntKind.i64 d2.i) (iadd IntKind.i64 (lenI d1.l) (1 : Int))))) (((Int.toNat (isub IntKind.i64 (irem (iconv IntKind.i64 d2.i) (iadd IntKind.i64 (lenI d1.l) (1 : Int))) (1 : Int))) : Nat) : Int))) (xsub d1.l (irem (iconv IntKind.i64 d2.i) (iadd IntKind.i64 (lenI d1.l) (1 : Int))) (lenI d1.l)))) (chainZ d0.i d1.l)) = false) →
 False))))))) ∧ (((ieq (lenI (chainZ d0.i d1.l)) (lenI d1.l)) = false) →
 False)))) ∧ (((ilt (0 : Int) (irem (iconv IntKind.i64 d2.i) (iadd IntKind.i64 (lenI d1.l) (1 : Int)))) = false) →
 ((((ieq (lenI (chainZ d0.i d1.l)) (lenI d1.l)) = true) →
 ((((0 : Int) ≤ (irem (iconv IntKind.i64 d2.i) (iadd IntKind.i64 (lenI d1.l) (1 : Int)))) ∧ (((irem (iconv IntKind.i64 d2.i) (iadd IntKind.i64 (lenI d1.l) (1 : Int))) ≤ (lenI d1.l)) ∧ ((lenI d1.l) ≤ (lenI d1.l)))) ∧ (((List.length (xsub d1.l (irem (iconv IntKind.i64 d2.i) (iadd IntKind.i64 (lenI d1.l) (1 : Int))) (lenI d1.l))) ≤ (1000000 : Nat)) ∧ (((((lenI (chainZ d0.i (xsub d1.l (0 : Int) (irem (iconv IntKind.i64 d2.i) (iadd IntKind.i64 (lenI d1.l) (1 : Int)))))) + (lenI (chainZ d0.i (xsub d1.l (irem (iconv IntKind.i64 d2.i) (iadd IntKind.i64 (lenI d1.l) (1 : Int))) (lenI d1.l))))) * (((8 : Nat) : Nat) : Int)) ≤ (140737488355328 : Int)) ∧ (True ∧ ((((sameZ (xcat (chainZ d0.i (xsub d1.l (0 : Int) (irem (iconv IntKind.i64 d2.i) (iadd IntKind.i64 (lenI d1.l) (1 : Int))))) (chainZ d0.i (xsub d1.l (irem (iconv IntKind.i64 d2.i) (iadd IntKind.i64 (lenI d1.l) (1 : Int))) (lenI d1.l)))) (chainZ d0.i d1.l)) = true) →
 (True ∧ True)) ∧ (((sameZ (xcat (chainZ d0.i (xsub d1.l (0 : Int) (irem (iconv IntKind.i64 d2.i) (iadd IntKind.i64 (lenI d1.l) (1 : Int))))) (chainZ d0.i (xsub d1.l (irem (iconv IntKind.i64 d2.i) (iadd IntKind.i64 (lenI d1.l) (1 : Int))) (lenI d1.l)))) (chainZ d0.i d1.l)) = false) →
 False))))))) ∧ (((ieq (lenI (chainZ d0.i d1.l)) (lenI d1.l)) = false) →
 False)))))))))))))) := by kernel_rfl
end Go.Proofs.Ytjncolngfeglkaa
