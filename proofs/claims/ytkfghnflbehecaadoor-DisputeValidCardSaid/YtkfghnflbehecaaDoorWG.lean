/- Part of the proof of the laws of this seat: contracts of its functions, for every input. -/
import Derived.Test.YtkfghnflbehecaaDoorWF
set_option linter.all false
namespace Go.Proofs.YtkfghnflbehecaaDoor
open Go Go.RX Go.Proofs
set_option maxRecDepth 100000
set_option linter.all false
theorem vc15 (d0 d1 d2 d3 : D) : (exec tt tb15 noInl noLp (bodyOf Tryd.f15) (initSt Tryd.f15.ntmps (svs con15.tys [d0, d1, d2, d3])) (doneE tt Tryd.f15.results.toList (con15.run [d0, d1, d2, d3]).rets)) =
  ((True ∧ ((((bnot (refZ d1.s)) = true) →
 ((d0.l = (openL d0.l d1.s d2.i d3.i)) ∧ ((5 : Int) = (openE d0.l d1.s d2.i d3.i)))) ∧ (((bnot (refZ d1.s)) = false) →
 ((((ilt d2.i (1 : Int)) = true) →
 ((d0.l = (openL d0.l d1.s d2.i d3.i)) ∧ ((13 : Int) = (openE d0.l d1.s d2.i d3.i)))) ∧ (((ilt d2.i (1 : Int)) = false) →
 ((((ilt (1125899906842624 : Int) d2.i) = true) →
 ((d0.l = (openL d0.l d1.s d2.i d3.i)) ∧ ((13 : Int) = (openE d0.l d1.s d2.i d3.i)))) ∧ (((ilt (1125899906842624 : Int) d2.i) = false) →
 (True ∧ ((((bnot (timeZ d3.i)) = true) →
 ((d0.l = (openL d0.l d1.s d2.i d3.i)) ∧ ((12 : Int) = (openE d0.l d1.s d2.i d3.i)))) ∧ (((bnot (timeZ d3.i)) = false) →
 (True ∧ ((((ile (0 : Int) (findZ d0.l d1.s)) = true) →
 ((d0.l = (openL d0.l d1.s d2.i d3.i)) ∧ ((9 : Int) = (openE d0.l d1.s d2.i d3.i)))) ∧ (((ile (0 : Int) (findZ d0.l d1.s)) = false) →
 ((((ile (1024 : Int) (lenI d0.l)) = true) →
 ((d0.l = (openL d0.l d1.s d2.i d3.i)) ∧ ((3 : Int) = (openE d0.l d1.s d2.i d3.i)))) ∧ (((ile (1024 : Int) (lenI d0.l)) = false) →
 ((fit d0.l) ∧ (((((lenI d0.l) + (lenI ((D.agg ((D.str d1.s) :: ((D.int d3.i) :: ((D.int d2.i) :: ((D.int (1 : Int)) :: ((D.list ([] : List (D))) :: ([] : List (D)))))))) :: ([] : List (D))))) * (((64 : Nat) : Nat) : Int)) ≤ (140737488355328 : Int)) ∧ (((xcat d0.l ((D.agg ((D.str d1.s) :: ((D.int d3.i) :: ((D.int d2.i) :: ((D.int (1 : Int)) :: ((D.list ([] : List (D))) :: ([] : List (D)))))))) :: ([] : List (D)))) = (openL d0.l d1.s d2.i d3.i)) ∧ ((0 : Int) = (openE d0.l d1.s d2.i d3.i))))))))))))))))))))) := by kernel_rfl
theorem vc26 (d0 d1 d2 d3 : D) : (exec tt tb26 noInl noLp (bodyOf Tryd.f26) (initSt Tryd.f26.ntmps (svs con26.tys [d0, d1, d2, d3])) (doneE tt Tryd.f26.results.toList (con26.run [d0, d1, d2, d3]).rets)) =
  ((True ∧ ((((bnot (refZ d1.s)) = true) →
 ((d0.l = (openL d0.l d1.s d2.i d3.i)) ∧ ((5 : Int) = (openE d0.l d1.s d2.i d3.i)))) ∧ (((bnot (refZ d1.s)) = false) →
 (True ∧ ((((bnot (centsZ d2.i)) = true) →
 ((d0.l = (openL d0.l d1.s d2.i d3.i)) ∧ ((13 : Int) = (openE d0.l d1.s d2.i d3.i)))) ∧ (((bnot (centsZ d2.i)) = false) →
 (True ∧ ((((bnot (timeZ d3.i)) = true) →
 ((d0.l = (openL d0.l d1.s d2.i d3.i)) ∧ ((12 : Int) = (openE d0.l d1.s d2.i d3.i)))) ∧ (((bnot (timeZ d3.i)) = false) →
 (True ∧ ((((ile (0 : Int) (findZ d0.l d1.s)) = true) →
 ((d0.l = (openL d0.l d1.s d2.i d3.i)) ∧ ((9 : Int) = (openE d0.l d1.s d2.i d3.i)))) ∧ (((ile (0 : Int) (findZ d0.l d1.s)) = false) →
 ((((ile (1024 : Int) (lenI d0.l)) = true) →
 ((d0.l = (openL d0.l d1.s d2.i d3.i)) ∧ ((3 : Int) = (openE d0.l d1.s d2.i d3.i)))) ∧ (((ile (1024 : Int) (lenI d0.l)) = false) →
 ((fit d0.l) ∧ (((((lenI d0.l) + (lenI ((D.agg ((D.str d1.s) :: ((D.int d3.i) :: ((D.int d2.i) :: ((D.int (1 : Int)) :: ((D.list ([] : List (D))) :: ([] : List (D)))))))) :: ([] : List (D))))) * (((64 : Nat) : Nat) : Int)) ≤ (140737488355328 : Int)) ∧ (((xcat d0.l ((D.agg ((D.str d1.s) :: ((D.int d3.i) :: ((D.int d2.i) :: ((D.int (1 : Int)) :: ((D.list ([] : List (D))) :: ([] : List (D)))))))) :: ([] : List (D)))) = (openL d0.l d1.s d2.i d3.i)) ∧ ((0 : Int) = (openE d0.l d1.s d2.i d3.i)))))))))))))))))))) := by kernel_rfl
theorem vc16 (d0 d1 d2 d3 : D) : (execC tt tb16 noInl cut16 (bodyOf Tryd.f16) (doneE tt Tryd.f16.results.toList (con16.run [d0, d1, d2, d3]).rets) (kc16 [d0, d1, d2, d3]) (initSt Tryd.f16.ntmps (svs con16.tys [d0, d1, d2, d3]))) =
  ((True ∧ ((((bnot (ieq (opE d0.l d1.s) (0 : Int))) = true) →
 ((d0.l = (provL d0.l d1.s d2.s d3.i)) ∧ ((opE d0.l d1.s) = (provE d0.l d1.s d2.s d3.i)))) ∧ (((bnot (ieq (opE d0.l d1.s) (0 : Int))) = false) →
 ((((0 : Int) ≤ (opI d0.l d1.s)) ∧ ((opI d0.l d1.s) < (lenI d0.l))) ∧ ((((0 : Int) ≤ (2592000 : Int)) ∧ ((2592000 : Int) ≤ (100000000 : Int))) ∧ ((((bnot (ieq (lateZ (D.i (D.fld (elt d0.l (opI d0.l d1.s)) 1)) d3.i (2592000 : Int)) (0 : Int))) = true) →
 ((d0.l = (provL d0.l d1.s d2.s d3.i)) ∧ ((lateZ (D.i (D.fld (elt d0.l (opI d0.l d1.s)) 1)) d3.i (2592000 : Int)) = (provE d0.l d1.s d2.s d3.i)))) ∧ (((bnot (ieq (lateZ (D.i (D.fld (elt d0.l (opI d0.l d1.s)) 1)) d3.i (2592000 : Int)) (0 : Int))) = false) →
 (True ∧ ((((bnot (refZ d2.s)) = true) →
 ((d0.l = (provL d0.l d1.s d2.s d3.i)) ∧ ((5 : Int) = (provE d0.l d1.s d2.s d3.i)))) ∧ (((bnot (refZ d2.s)) = false) →
 ((((0 : Int) ≤ (opI d0.l d1.s)) ∧ ((opI d0.l d1.s) < (lenI d0.l))) ∧ (True ∧ ((((hasZ (D.l (D.fld (elt d0.l (opI d0.l d1.s)) 4)) d2.s) = true) →
 ((d0.l = (provL d0.l d1.s d2.s d3.i)) ∧ ((9 : Int) = (provE d0.l d1.s d2.s d3.i)))) ∧ (((hasZ (D.l (D.fld (elt d0.l (opI d0.l d1.s)) 4)) d2.s) = false) →
 ((((0 : Int) ≤ (opI d0.l d1.s)) ∧ ((opI d0.l d1.s) < (lenI d0.l))) ∧ ((((ile (16 : Int) (lenI (D.l (D.fld (elt d0.l (opI d0.l d1.s)) 4)))) = true) →
 ((d0.l = (provL d0.l d1.s d2.s d3.i)) ∧ ((3 : Int) = (provE d0.l d1.s d2.s d3.i)))) ∧ (((ile (16 : Int) (lenI (D.l (D.fld (elt d0.l (opI d0.l d1.s)) 4)))) = false) →
 (((d0.l = d0.l) ∧ ((d2.s = d2.s) ∧ ((opI d0.l d1.s) = (opI d0.l d1.s)))) ∧ ((provE d0.l d1.s d2.s d3.i) = (0 : Int))))))))))))))))))))) := by kernel_rfl
theorem vc27 (d0 d1 d2 d3 : D) : (execC tt tb27 noInl cut27 (bodyOf Tryd.f27) (doneE tt Tryd.f27.results.toList (con27.run [d0, d1, d2, d3]).rets) (kc27 [d0, d1, d2, d3]) (initSt Tryd.f27.ntmps (svs con27.tys [d0, d1, d2, d3]))) =
  ((True ∧ ((((bnot (ieq (opE d0.l d1.s) (0 : Int))) = true) →
 ((d0.l = (provL d0.l d1.s d2.s d3.i)) ∧ ((opE d0.l d1.s) = (provE d0.l d1.s d2.s d3.i)))) ∧ (((bnot (ieq (opE d0.l d1.s) (0 : Int))) = false) →
 (True ∧ ((((bnot (timeZ d3.i)) = true) →
 ((d0.l = (provL d0.l d1.s d2.s d3.i)) ∧ ((12 : Int) = (provE d0.l d1.s d2.s d3.i)))) ∧ (((bnot (timeZ d3.i)) = false) →
 ((((0 : Int) ≤ (opI d0.l d1.s)) ∧ ((opI d0.l d1.s) < (lenI d0.l))) ∧ ((((ilt d3.i (D.i (D.fld (elt d0.l (opI d0.l d1.s)) 1))) = true) →
 ((d0.l = (provL d0.l d1.s d2.s d3.i)) ∧ ((12 : Int) = (provE d0.l d1.s d2.s d3.i)))) ∧ (((ilt d3.i (D.i (D.fld (elt d0.l (opI d0.l d1.s)) 1))) = false) →
 ((((0 : Int) ≤ (opI d0.l d1.s)) ∧ ((opI d0.l d1.s) < (lenI d0.l))) ∧ ((((0 : Int) ≤ d3.i) ∧ (((0 : Int) ≤ (30 : Int)) ∧ ((30 : Int) ≤ (1000 : Int)))) ∧ ((((Decidable.decide ((D.i (D.fld (elt d0.l (opI d0.l d1.s)) 1)) < (d3.i - ((30 : Int) * (86400 : Int))))) = true) →
 ((d0.l = (provL d0.l d1.s d2.s d3.i)) ∧ ((29 : Int) = (provE d0.l d1.s d2.s d3.i)))) ∧ (((Decidable.decide ((D.i (D.fld (elt d0.l (opI d0.l d1.s)) 1)) < (d3.i - ((30 : Int) * (86400 : Int))))) = false) →
 (True ∧ ((((bnot (refZ d2.s)) = true) →
 ((d0.l = (provL d0.l d1.s d2.s d3.i)) ∧ ((5 : Int) = (provE d0.l d1.s d2.s d3.i)))) ∧ (((bnot (refZ d2.s)) = false) →
 ((((0 : Int) ≤ (opI d0.l d1.s)) ∧ ((opI d0.l d1.s) < (lenI d0.l))) ∧ (True ∧ ((((hasZ (D.l (D.fld (elt d0.l (opI d0.l d1.s)) 4)) d2.s) = true) →
 ((d0.l = (provL d0.l d1.s d2.s d3.i)) ∧ ((9 : Int) = (provE d0.l d1.s d2.s d3.i)))) ∧ (((hasZ (D.l (D.fld (elt d0.l (opI d0.l d1.s)) 4)) d2.s) = false) →
 ((((0 : Int) ≤ (opI d0.l d1.s)) ∧ ((opI d0.l d1.s) < (lenI d0.l))) ∧ ((((ile (16 : Int) (lenI (D.l (D.fld (elt d0.l (opI d0.l d1.s)) 4)))) = true) →
 ((d0.l = (provL d0.l d1.s d2.s d3.i)) ∧ ((3 : Int) = (provE d0.l d1.s d2.s d3.i)))) ∧ (((ile (16 : Int) (lenI (D.l (D.fld (elt d0.l (opI d0.l d1.s)) 4)))) = false) →
 (((d0.l = d0.l) ∧ ((d2.s = d2.s) ∧ ((opI d0.l d1.s) = (opI d0.l d1.s)))) ∧ ((provE d0.l d1.s d2.s d3.i) = (0 : Int))))))))))))))))))))))))))) := by kernel_rfl
theorem vc17 (d0 d1 d2 d3 : D) : (exec tt tb17 noInl noLp (bodyOf Tryd.f17) (initSt Tryd.f17.ntmps (svs con17.tys [d0, d1, d2, d3])) (doneE tt Tryd.f17.results.toList (con17.run [d0, d1, d2, d3]).rets)) =
  ((True ∧ ((((bnot (ieq (opE d0.l d1.s) (0 : Int))) = true) →
 ((d0.l = (decL d0.l d1.s d2.b d3.i)) ∧ (((0 : Int) = (decC d0.l d1.s d2.b d3.i)) ∧ ((opE d0.l d1.s) = (decE d0.l d1.s d3.i))))) ∧ (((bnot (ieq (opE d0.l d1.s) (0 : Int))) = false) →
 ((((0 : Int) ≤ (opI d0.l d1.s)) ∧ ((opI d0.l d1.s) < (lenI d0.l))) ∧ ((((0 : Int) ≤ (5184000 : Int)) ∧ ((5184000 : Int) ≤ (100000000 : Int))) ∧ ((((bnot (ieq (lateZ (D.i (D.fld (elt d0.l (opI d0.l d1.s)) 1)) d3.i (5184000 : Int)) (0 : Int))) = true) →
 ((d0.l = (decL d0.l d1.s d2.b d3.i)) ∧ (((0 : Int) = (decC d0.l d1.s d2.b d3.i)) ∧ ((lateZ (D.i (D.fld (elt d0.l (opI d0.l d1.s)) 1)) d3.i (5184000 : Int)) = (decE d0.l d1.s d3.i))))) ∧ (((bnot (ieq (lateZ (D.i (D.fld (elt d0.l (opI d0.l d1.s)) 1)) d3.i (5184000 : Int)) (0 : Int))) = false) →
 ((fit d0.l) ∧ (((d2.b = true) →
 ((((0 : Int) ≤ (opI d0.l d1.s)) ∧ ((opI d0.l d1.s) < (lenI d0.l))) ∧ ((((0 : Int) ≤ (opI d0.l d1.s)) ∧ ((opI d0.l d1.s) < (lenI (xset d0.l (Int.toNat (opI d0.l d1.s)) (dset (elt d0.l (((Int.toNat (opI d0.l d1.s)) : Nat) : Int)) 3 (D.int (2 : Int))))))) ∧ (((xset d0.l (Int.toNat (opI d0.l d1.s)) (dset (elt d0.l (((Int.toNat (opI d0.l d1.s)) : Nat) : Int)) 3 (D.int (2 : Int)))) = (decL d0.l d1.s d2.b d3.i)) ∧ (((D.i (D.fld (elt (xset d0.l (Int.toNat (opI d0.l d1.s)) (dset (elt d0.l (((Int.toNat (opI d0.l d1.s)) : Nat) : Int)) 3 (D.int (2 : Int)))) (((Int.toNat (opI d0.l d1.s)) : Nat) : Int)) 2)) = (decC d0.l d1.s d2.b d3.i)) ∧ ((0 : Int) = (decE d0.l d1.s d3.i))))))) ∧ ((d2.b = false) →
 ((((0 : Int) ≤ (opI d0.l d1.s)) ∧ ((opI d0.l d1.s) < (lenI d0.l))) ∧ (((xset d0.l (Int.toNat (opI d0.l d1.s)) (dset (elt d0.l (((Int.toNat (opI d0.l d1.s)) : Nat) : Int)) 3 (D.int (3 : Int)))) = (decL d0.l d1.s d2.b d3.i)) ∧ (((0 : Int) = (decC d0.l d1.s d2.b d3.i)) ∧ ((0 : Int) = (decE d0.l d1.s d3.i)))))))))))))))) := by kernel_rfl
theorem vc28 (d0 d1 d2 d3 : D) : (exec tt tb28 noInl noLp (bodyOf Tryd.f28) (initSt Tryd.f28.ntmps (svs con28.tys [d0, d1, d2, d3])) (doneE tt Tryd.f28.results.toList (con28.run [d0, d1, d2, d3]).rets)) =
  ((True ∧ ((((bnot (ieq (opE d0.l d1.s) (0 : Int))) = true) →
 ((d0.l = (decL d0.l d1.s d2.b d3.i)) ∧ (((0 : Int) = (decC d0.l d1.s d2.b d3.i)) ∧ ((opE d0.l d1.s) = (decE d0.l d1.s d3.i))))) ∧ (((bnot (ieq (opE d0.l d1.s) (0 : Int))) = false) →
 (True ∧ ((((bnot (timeZ d3.i)) = true) →
 ((d0.l = (decL d0.l d1.s d2.b d3.i)) ∧ (((0 : Int) = (decC d0.l d1.s d2.b d3.i)) ∧ ((12 : Int) = (decE d0.l d1.s d3.i))))) ∧ (((bnot (timeZ d3.i)) = false) →
 ((((0 : Int) ≤ (opI d0.l d1.s)) ∧ ((opI d0.l d1.s) < (lenI d0.l))) ∧ ((((ilt d3.i (D.i (D.fld (elt d0.l (opI d0.l d1.s)) 1))) = true) →
 ((d0.l = (decL d0.l d1.s d2.b d3.i)) ∧ (((0 : Int) = (decC d0.l d1.s d2.b d3.i)) ∧ ((12 : Int) = (decE d0.l d1.s d3.i))))) ∧ (((ilt d3.i (D.i (D.fld (elt d0.l (opI d0.l d1.s)) 1))) = false) →
 ((((0 : Int) ≤ (opI d0.l d1.s)) ∧ ((opI d0.l d1.s) < (lenI d0.l))) ∧ ((((0 : Int) ≤ d3.i) ∧ (((0 : Int) ≤ (60 : Int)) ∧ ((60 : Int) ≤ (1000 : Int)))) ∧ ((((Decidable.decide ((D.i (D.fld (elt d0.l (opI d0.l d1.s)) 1)) < (d3.i - ((60 : Int) * (86400 : Int))))) = true) →
 ((d0.l = (decL d0.l d1.s d2.b d3.i)) ∧ (((0 : Int) = (decC d0.l d1.s d2.b d3.i)) ∧ ((29 : Int) = (decE d0.l d1.s d3.i))))) ∧ (((Decidable.decide ((D.i (D.fld (elt d0.l (opI d0.l d1.s)) 1)) < (d3.i - ((60 : Int) * (86400 : Int))))) = false) →
 ((fit d0.l) ∧ (((d2.b = true) →
 ((((0 : Int) ≤ (opI d0.l d1.s)) ∧ ((opI d0.l d1.s) < (lenI d0.l))) ∧ ((((0 : Int) ≤ (opI d0.l d1.s)) ∧ ((opI d0.l d1.s) < (lenI (xset d0.l (Int.toNat (opI d0.l d1.s)) (dset (elt d0.l (((Int.toNat (opI d0.l d1.s)) : Nat) : Int)) 3 (D.int (2 : Int))))))) ∧ (((xset d0.l (Int.toNat (opI d0.l d1.s)) (dset (elt d0.l (((Int.toNat (opI d0.l d1.s)) : Nat) : Int)) 3 (D.int (2 : Int)))) = (decL d0.l d1.s d2.b d3.i)) ∧ (((D.i (D.fld (elt (xset d0.l (Int.toNat (opI d0.l d1.s)) (dset (elt d0.l (((Int.toNat (opI d0.l d1.s)) : Nat) : Int)) 3 (D.int (2 : Int)))) (((Int.toNat (opI d0.l d1.s)) : Nat) : Int)) 2)) = (decC d0.l d1.s d2.b d3.i)) ∧ ((0 : Int) = (decE d0.l d1.s d3.i))))))) ∧ ((d2.b = false) →
 ((((0 : Int) ≤ (opI d0.l d1.s)) ∧ ((opI d0.l d1.s) < (lenI d0.l))) ∧ (((xset d0.l (Int.toNat (opI d0.l d1.s)) (dset (elt d0.l (((Int.toNat (opI d0.l d1.s)) : Nat) : Int)) 3 (D.int (3 : Int)))) = (decL d0.l d1.s d2.b d3.i)) ∧ (((0 : Int) = (decC d0.l d1.s d2.b d3.i)) ∧ ((0 : Int) = (decE d0.l d1.s d3.i)))))))))))))))))))))) := by kernel_rfl
theorem vc25 (d0 d1 : D) : (exec tt tb25 noInl noLp (bodyOf Tryd.f25) (initSt Tryd.f25.ntmps (svs con25.tys [d0, d1])) (doneE tt Tryd.f25.results.toList (con25.run [d0, d1]).rets)) =
  ((True ∧ ((((bnot (ieq (opE d0.l d1.s) (0 : Int))) = true) →
 ((d0.l = (wdL d0.l d1.s)) ∧ ((opE d0.l d1.s) = (opE d0.l d1.s)))) ∧ (((bnot (ieq (opE d0.l d1.s) (0 : Int))) = false) →
 ((fit d0.l) ∧ ((((0 : Int) ≤ (opI d0.l d1.s)) ∧ ((opI d0.l d1.s) < (lenI d0.l))) ∧ (((xset d0.l (Int.toNat (opI d0.l d1.s)) (dset (elt d0.l (((Int.toNat (opI d0.l d1.s)) : Nat) : Int)) 3 (D.int (4 : Int)))) = (wdL d0.l d1.s)) ∧ ((0 : Int) = (opE d0.l d1.s))))))))) := by kernel_rfl
theorem vc29 (d0 d1 : D) : (exec tt tb29 noInl noLp (bodyOf Tryd.f29) (initSt Tryd.f29.ntmps (svs con29.tys [d0, d1])) (doneE tt Tryd.f29.results.toList (con29.run [d0, d1]).rets)) =
  ((True ∧ ((((bnot (ieq (opE d0.l d1.s) (0 : Int))) = true) →
 ((d0.l = (wdL d0.l d1.s)) ∧ ((opE d0.l d1.s) = (opE d0.l d1.s)))) ∧ (((bnot (ieq (opE d0.l d1.s) (0 : Int))) = false) →
 ((fit d0.l) ∧ ((((0 : Int) ≤ (opI d0.l d1.s)) ∧ ((opI d0.l d1.s) < (lenI d0.l))) ∧ (((xset d0.l (Int.toNat (opI d0.l d1.s)) (dset (elt d0.l (((Int.toNat (opI d0.l d1.s)) : Nat) : Int)) 3 (D.int (4 : Int)))) = (wdL d0.l d1.s)) ∧ ((0 : Int) = (opE d0.l d1.s))))))))) := by kernel_rfl
theorem vc18 (d0 d1 : D) : (exec tt tb18 noInl lp18 (bodyOf Tryd.f18) (initSt Tryd.f18.ntmps (svs con18.tys [d0, d1])) (doneE tt Tryd.f18.results.toList (con18.run [d0, d1]).rets)) =
  (((fit d0.l) ∧ ((∃ (g : Nat), ((g ≤ (List.length d0.l)) ∧ (((d0.l = d0.l) ∧ ((d1.i = d1.i) ∧ (True ∧ (((0 : Int) = (exS d0.l d1.i g)) ∧ (True ∧ (((lenI d0.l) = (lenI d0.l)) ∧ (((0 : Int) = ((g : Nat) : Int)) ∧ True))))))) ∧ (((d0.l = (exTo d0.l d1.i g)) ∧ True) ∧ True)))) ∧ (∀ (g : Nat), ((g ≤ (List.length d0.l)) →
 ((((ilt ((g : Nat) : Int) (lenI d0.l)) = true) →
 ((((0 : Int) ≤ ((g : Nat) : Int)) ∧ (((g : Nat) : Int) < (lenI (exTo d0.l d1.i g)))) ∧ ((((ieq (D.i (D.fld (elt (exTo d0.l d1.i g) (((Int.toNat ((g : Nat) : Int)) : Nat) : Int)) 3)) (1 : Int)) = true) →
 (True ∧ ((((timeZ d1.i) = true) →
 ((((ilt (D.i (D.fld (elt (exTo d0.l d1.i g) (((Int.toNat ((g : Nat) : Int)) : Nat) : Int)) 1)) (isub IntKind.i64 d1.i (5184000 : Int))) = true) →
 ((((0 : Int) ≤ ((g : Nat) : Int)) ∧ (((g : Nat) : Int) < (lenI (exTo d0.l d1.i g)))) ∧ (∃ (g' : Nat), ((g' ≤ (List.length d0.l)) ∧ ((((List.length d0.l) - g') < ((List.length d0.l) - g)) ∧ (((d0.l = d0.l) ∧ ((d1.i = d1.i) ∧ (True ∧ (((iadd IntKind.i64 (exS d0.l d1.i g) (D.i (D.fld (elt (exTo d0.l d1.i g) (((Int.toNat ((g : Nat) : Int)) : Nat) : Int)) 2))) = (exS d0.l d1.i g')) ∧ (True ∧ (((lenI d0.l) = (lenI d0.l)) ∧ (((iadd IntKind.i64 ((g : Nat) : Int) (1 : Int)) = ((g' : Nat) : Int)) ∧ True))))))) ∧ ((((xset (exTo d0.l d1.i g) (Int.toNat ((g : Nat) : Int)) (dset (elt (exTo d0.l d1.i g) (((Int.toNat ((g : Nat) : Int)) : Nat) : Int)) 3 (D.int (2 : Int)))) = (exTo d0.l d1.i g')) ∧ True) ∧ True))))))) ∧ (((ilt (D.i (D.fld (elt (exTo d0.l d1.i g) (((Int.toNat ((g : Nat) : Int)) : Nat) : Int)) 1)) (isub IntKind.i64 d1.i (5184000 : Int))) = false) →
 (∃ (g' : Nat), ((g' ≤ (List.length d0.l)) ∧ ((((List.length d0.l) - g') < ((List.length d0.l) - g)) ∧ (((d0.l = d0.l) ∧ ((d1.i = d1.i) ∧ (True ∧ (((exS d0.l d1.i g) = (exS d0.l d1.i g')) ∧ (True ∧ (((lenI d0.l) = (lenI d0.l)) ∧ (((iadd IntKind.i64 ((g : Nat) : Int) (1 : Int)) = ((g' : Nat) : Int)) ∧ True))))))) ∧ ((((exTo d0.l d1.i g) = (exTo d0.l d1.i g')) ∧ True) ∧ True)))))))) ∧ (((timeZ d1.i) = false) →
 (∃ (g' : Nat), ((g' ≤ (List.length d0.l)) ∧ ((((List.length d0.l) - g') < ((List.length d0.l) - g)) ∧ (((d0.l = d0.l) ∧ ((d1.i = d1.i) ∧ (True ∧ (((exS d0.l d1.i g) = (exS d0.l d1.i g')) ∧ (True ∧ (((lenI d0.l) = (lenI d0.l)) ∧ (((iadd IntKind.i64 ((g : Nat) : Int) (1 : Int)) = ((g' : Nat) : Int)) ∧ True))))))) ∧ ((((exTo d0.l d1.i g) = (exTo d0.l d1.i g')) ∧ True) ∧ True))))))))) ∧ (((ieq (D.i (D.fld (elt (exTo d0.l d1.i g) (((Int.toNat ((g : Nat) : Int)) : Nat) : Int)) 3)) (1 : Int)) = false) →
 (∃ (g' : Nat), ((g' ≤ (List.length d0.l)) ∧ ((((List.length d0.l) - g') < ((List.length d0.l) - g)) ∧ (((d0.l = d0.l) ∧ ((d1.i = d1.i) ∧ (True ∧ (((exS d0.l d1.i g) = (exS d0.l d1.i g')) ∧ (True ∧ (((lenI d0.l) = (lenI d0.l)) ∧ (((iadd IntKind.i64 ((g : Nat) : Int) (1 : Int)) = ((g' : Nat) : Int)) ∧ True))))))) ∧ ((((exTo d0.l d1.i g) = (exTo d0.l d1.i g')) ∧ True) ∧ True))))))))) ∧ (((ilt ((g : Nat) : Int) (lenI d0.l)) = false) →
 (((exTo d0.l d1.i g) = (exTo d0.l d1.i (List.length d0.l))) ∧ ((exS d0.l d1.i g) = (exS d0.l d1.i (List.length d0.l))))))))))) := by kernel_rfl
theorem vc30 (d0 d1 : D) : (exec tt tb30 noInl lp30 (bodyOf Tryd.f30) (initSt Tryd.f30.ntmps (svs con30.tys [d0, d1])) (doneE tt Tryd.f30.results.toList (con30.run [d0, d1]).rets)) =
  (((fit d0.l) ∧ ((∃ (g : Nat), (((g ≤ (List.length d0.l)) ∧ (((timeZ d1.i) = true) ∨ (g = 0))) ∧ (((d0.l = d0.l) ∧ ((d1.i = d1.i) ∧ (True ∧ (((0 : Int) = (exS d0.l d1.i g)) ∧ (((0 : Int) = ((g : Nat) : Int)) ∧ True))))) ∧ (((d0.l = (exTo d0.l d1.i g)) ∧ True) ∧ True)))) ∧ (∀ (g : Nat), (((g ≤ (List.length d0.l)) ∧ (((timeZ d1.i) = true) ∨ (g = 0))) →
 ((((ilt ((g : Nat) : Int) (lenI (exTo d0.l d1.i g))) = true) →
 (True ∧ ((((timeZ d1.i) = true) →
 ((((0 : Int) ≤ ((g : Nat) : Int)) ∧ (((g : Nat) : Int) < (lenI (exTo d0.l d1.i g)))) ∧ ((((ieq (D.i (D.fld (elt (exTo d0.l d1.i g) (((Int.toNat ((g : Nat) : Int)) : Nat) : Int)) 3)) (1 : Int)) = true) →
 ((((0 : Int) ≤ ((g : Nat) : Int)) ∧ (((g : Nat) : Int) < (lenI (exTo d0.l d1.i g)))) ∧ ((((0 : Int) ≤ d1.i) ∧ (((0 : Int) ≤ (60 : Int)) ∧ ((60 : Int) ≤ (1000 : Int)))) ∧ ((((Decidable.decide ((D.i (D.fld (elt (exTo d0.l d1.i g) (((Int.toNat ((g : Nat) : Int)) : Nat) : Int)) 1)) < (d1.i - ((60 : Int) * (86400 : Int))))) = true) →
 ((((0 : Int) ≤ ((g : Nat) : Int)) ∧ (((g : Nat) : Int) < (lenI (exTo d0.l d1.i g)))) ∧ ((((0 : Int) ≤ ((g : Nat) : Int)) ∧ (((g : Nat) : Int) < (lenI (xset (exTo d0.l d1.i g) (Int.toNat ((g : Nat) : Int)) (dset (elt (exTo d0.l d1.i g) (((Int.toNat ((g : Nat) : Int)) : Nat) : Int)) 3 (D.int (2 : Int))))))) ∧ (∃ (g' : Nat), (((g' ≤ (List.length d0.l)) ∧ (((timeZ d1.i) = true) ∨ (g' = 0))) ∧ ((((List.length d0.l) - g') < ((List.length d0.l) - g)) ∧ (((d0.l = d0.l) ∧ ((d1.i = d1.i) ∧ (True ∧ (((iadd IntKind.i64 (exS d0.l d1.i g) (D.i (D.fld (elt (xset (exTo d0.l d1.i g) (Int.toNat ((g : Nat) : Int)) (dset (elt (exTo d0.l d1.i g) (((Int.toNat ((g : Nat) : Int)) : Nat) : Int)) 3 (D.int (2 : Int)))) (((Int.toNat ((g : Nat) : Int)) : Nat) : Int)) 2))) = (exS d0.l d1.i g')) ∧ (((iadd IntKind.i64 ((g : Nat) : Int) (1 : Int)) = ((g' : Nat) : Int)) ∧ True))))) ∧ ((((xset (exTo d0.l d1.i g) (Int.toNat ((g : Nat) : Int)) (dset (elt (exTo d0.l d1.i g) (((Int.toNat ((g : Nat) : Int)) : Nat) : Int)) 3 (D.int (2 : Int)))) = (exTo d0.l d1.i g')) ∧ True) ∧ True)))))))) ∧ (((Decidable.decide ((D.i (D.fld (elt (exTo d0.l d1.i g) (((Int.toNat ((g : Nat) : Int)) : Nat) : Int)) 1)) < (d1.i - ((60 : Int) * (86400 : Int))))) = false) →
 (∃ (g' : Nat), (((g' ≤ (List.length d0.l)) ∧ (((timeZ d1.i) = true) ∨ (g' = 0))) ∧ ((((List.length d0.l) - g') < ((List.length d0.l) - g)) ∧ (((d0.l = d0.l) ∧ ((d1.i = d1.i) ∧ (True ∧ (((exS d0.l d1.i g) = (exS d0.l d1.i g')) ∧ (((iadd IntKind.i64 ((g : Nat) : Int) (1 : Int)) = ((g' : Nat) : Int)) ∧ True))))) ∧ ((((exTo d0.l d1.i g) = (exTo d0.l d1.i g')) ∧ True) ∧ True)))))))))) ∧ (((ieq (D.i (D.fld (elt (exTo d0.l d1.i g) (((Int.toNat ((g : Nat) : Int)) : Nat) : Int)) 3)) (1 : Int)) = false) →
 (∃ (g' : Nat), (((g' ≤ (List.length d0.l)) ∧ (((timeZ d1.i) = true) ∨ (g' = 0))) ∧ ((((List.length d0.l) - g') < ((List.length d0.l) - g)) ∧ (((d0.l = d0.l) ∧ ((d1.i = d1.i) ∧ (True ∧ (((exS d0.l d1.i g) = (exS d0.l d1.i g')) ∧ (((iadd IntKind.i64 ((g : Nat) : Int) (1 : Int)) = ((g' : Nat) : Int)) ∧ True))))) ∧ ((((exTo d0.l d1.i g) = (exTo d0.l d1.i g')) ∧ True) ∧ True))))))))) ∧ (((timeZ d1.i) = false) →
 (((exTo d0.l d1.i g) = (exTo d0.l d1.i (List.length d0.l))) ∧ ((exS d0.l d1.i g) = (exS d0.l d1.i (List.length d0.l)))))))) ∧ (((ilt ((g : Nat) : Int) (lenI (exTo d0.l d1.i g))) = false) →
 (((exTo d0.l d1.i g) = (exTo d0.l d1.i (List.length d0.l))) ∧ ((exS d0.l d1.i g) = (exS d0.l d1.i (List.length d0.l))))))))))) := by kernel_rfl
theorem vc12 (d0 d1 : D) : (exec tt tb12 noInl noLp (bodyOf Tryd.f12) (initSt Tryd.f12.ntmps (svs con12.tys [d0, d1])) (doneE tt Tryd.f12.results.toList (con12.run [d0, d1]).rets)) =
  (((((ieq (d1.fld 0).i (0 : Int)) = true) →
 ((fit d0.l) ∧ (((openL d0.l (D.s (d1.fld 1)) (d1.fld 3).i (d1.fld 4).i) = (Res.l (doZ d0.l (ddOf d1)))) ∧ (((0 : Int) = (Res.n (doZ d0.l (ddOf d1)))) ∧ ((openE d0.l (D.s (d1.fld 1)) (d1.fld 3).i (d1.fld 4).i) = (Res.e (doZ d0.l (ddOf d1)))))))) ∧ (((ieq (d1.fld 0).i (0 : Int)) = false) →
 ((((ieq (d1.fld 0).i (1 : Int)) = true) →
 ((fit d0.l) ∧ (((provL d0.l (D.s (d1.fld 1)) (D.s (d1.fld 2)) (d1.fld 4).i) = (Res.l (doZ d0.l (ddOf d1)))) ∧ (((0 : Int) = (Res.n (doZ d0.l (ddOf d1)))) ∧ ((provE d0.l (D.s (d1.fld 1)) (D.s (d1.fld 2)) (d1.fld 4).i) = (Res.e (doZ d0.l (ddOf d1)))))))) ∧ (((ieq (d1.fld 0).i (1 : Int)) = false) →
 ((((ieq (d1.fld 0).i (2 : Int)) = true) →
 ((fit d0.l) ∧ (((decL d0.l (D.s (d1.fld 1)) (D.b (d1.fld 5)) (d1.fld 4).i) = (Res.l (doZ d0.l (ddOf d1)))) ∧ (((decC d0.l (D.s (d1.fld 1)) (D.b (d1.fld 5)) (d1.fld 4).i) = (Res.n (doZ d0.l (ddOf d1)))) ∧ ((decE d0.l (D.s (d1.fld 1)) (d1.fld 4).i) = (Res.e (doZ d0.l (ddOf d1)))))))) ∧ (((ieq (d1.fld 0).i (2 : Int)) = false) →
 ((((ieq (d1.fld 0).i (3 : Int)) = true) →
 ((fit d0.l) ∧ (((wdL d0.l (D.s (d1.fld 1))) = (Res.l (doZ d0.l (ddOf d1)))) ∧ (((0 : Int) = (Res.n (doZ d0.l (ddOf d1)))) ∧ ((opE d0.l (D.s (d1.fld 1))) = (Res.e (doZ d0.l (ddOf d1)))))))) ∧ (((ieq (d1.fld 0).i (3 : Int)) = false) →
 ((fit d0.l) ∧ (((exTo d0.l (d1.fld 4).i (List.length d0.l)) = (Res.l (doZ d0.l (ddOf d1)))) ∧ (((exS d0.l (d1.fld 4).i (List.length d0.l)) = (Res.n (doZ d0.l (ddOf d1)))) ∧ ((0 : Int) = (Res.e (doZ d0.l (ddOf d1)))))))))))))))) := by kernel_rfl
theorem vc13 (d0 d1 : D) : (exec tt tb13 noInl noLp (bodyOf Tryd.f13) (initSt Tryd.f13.ntmps (svs con13.tys [d0, d1])) (doneE tt Tryd.f13.results.toList (con13.run [d0, d1]).rets)) =
  (((((ieq (d1.fld 0).i (0 : Int)) = true) →
 ((fit d0.l) ∧ (((openL d0.l (D.s (d1.fld 1)) (d1.fld 3).i (d1.fld 4).i) = (Res.l (doZ d0.l (ddOf d1)))) ∧ (((0 : Int) = (Res.n (doZ d0.l (ddOf d1)))) ∧ ((openE d0.l (D.s (d1.fld 1)) (d1.fld 3).i (d1.fld 4).i) = (Res.e (doZ d0.l (ddOf d1)))))))) ∧ (((ieq (d1.fld 0).i (0 : Int)) = false) →
 ((((ieq (d1.fld 0).i (1 : Int)) = true) →
 ((fit d0.l) ∧ (((provL d0.l (D.s (d1.fld 1)) (D.s (d1.fld 2)) (d1.fld 4).i) = (Res.l (doZ d0.l (ddOf d1)))) ∧ (((0 : Int) = (Res.n (doZ d0.l (ddOf d1)))) ∧ ((provE d0.l (D.s (d1.fld 1)) (D.s (d1.fld 2)) (d1.fld 4).i) = (Res.e (doZ d0.l (ddOf d1)))))))) ∧ (((ieq (d1.fld 0).i (1 : Int)) = false) →
 ((((ieq (d1.fld 0).i (2 : Int)) = true) →
 ((fit d0.l) ∧ (((decL d0.l (D.s (d1.fld 1)) (D.b (d1.fld 5)) (d1.fld 4).i) = (Res.l (doZ d0.l (ddOf d1)))) ∧ (((decC d0.l (D.s (d1.fld 1)) (D.b (d1.fld 5)) (d1.fld 4).i) = (Res.n (doZ d0.l (ddOf d1)))) ∧ ((decE d0.l (D.s (d1.fld 1)) (d1.fld 4).i) = (Res.e (doZ d0.l (ddOf d1)))))))) ∧ (((ieq (d1.fld 0).i (2 : Int)) = false) →
 ((((ieq (d1.fld 0).i (3 : Int)) = true) →
 ((fit d0.l) ∧ (((wdL d0.l (D.s (d1.fld 1))) = (Res.l (doZ d0.l (ddOf d1)))) ∧ (((0 : Int) = (Res.n (doZ d0.l (ddOf d1)))) ∧ ((opE d0.l (D.s (d1.fld 1))) = (Res.e (doZ d0.l (ddOf d1)))))))) ∧ (((ieq (d1.fld 0).i (3 : Int)) = false) →
 ((fit d0.l) ∧ (((exTo d0.l (d1.fld 4).i (List.length d0.l)) = (Res.l (doZ d0.l (ddOf d1)))) ∧ (((exS d0.l (d1.fld 4).i (List.length d0.l)) = (Res.n (doZ d0.l (ddOf d1)))) ∧ ((0 : Int) = (Res.e (doZ d0.l (ddOf d1)))))))))))))))) := by kernel_rfl
theorem vc9 : (exec tt tb9 noInl noLp (bodyOf Tryd.f9) (initSt Tryd.f9.ntmps (svs con9.tys [])) (doneE tt Tryd.f9.results.toList (con9.run []).rets)) =
  (((fit ([] : List (D))) ∧ ((fit (openL ([] : List (D)) (Array.toList (ByteArray.data (ByteArray.mk (List.toArray ((120 : UInt8) :: ([] : List (UInt8))))))) (500 : Int) (1000 : Int))) ∧ ((fit (provL (openL ([] : List (D)) (Array.toList (ByteArray.data (ByteArray.mk (List.toArray ((120 : UInt8) :: ([] : List (UInt8))))))) (500 : Int) (1000 : Int)) (Array.toList (ByteArray.data (ByteArray.mk (List.toArray ((120 : UInt8) :: ([] : List (UInt8))))))) (Array.toList (ByteArray.data (ByteArray.mk (List.toArray ((112 : UInt8) :: ((49 : UInt8) :: ([] : List (UInt8)))))))) (2593000 : Int))) ∧ ((fit (provL (openL ([] : List (D)) (Array.toList (ByteArray.data (ByteArray.mk (List.toArray ((120 : UInt8) :: ([] : List (UInt8))))))) (500 : Int) (1000 : Int)) (Array.toList (ByteArray.data (ByteArray.mk (List.toArray ((120 : UInt8) :: ([] : List (UInt8))))))) (Array.toList (ByteArray.data (ByteArray.mk (List.toArray ((112 : UInt8) :: ((49 : UInt8) :: ([] : List (UInt8)))))))) (2593000 : Int))) ∧ ((fit (decL (provL (openL ([] : List (D)) (Array.toList (ByteArray.data (ByteArray.mk (List.toArray ((120 : UInt8) :: ([] : List (UInt8))))))) (500 : Int) (1000 : Int)) (Array.toList (ByteArray.data (ByteArray.mk (List.toArray ((120 : UInt8) :: ([] : List (UInt8))))))) (Array.toList (ByteArray.data (ByteArray.mk (List.toArray ((112 : UInt8) :: ((49 : UInt8) :: ([] : List (UInt8)))))))) (2593000 : Int)) (Array.toList (ByteArray.data (ByteArray.mk (List.toArray ((120 : UInt8) :: ([] : List (UInt8))))))) true (5185000 : Int))) ∧ ((fit (provL (openL ([] : List (D)) (Array.toList (ByteArray.data (ByteArray.mk (List.toArray ((120 : UInt8) :: ([] : List (UInt8))))))) (500 : Int) (1000 : Int)) (Array.toList (ByteArray.data (ByteArray.mk (List.toArray ((120 : UInt8) :: ([] : List (UInt8))))))) (Array.toList (ByteArray.data (ByteArray.mk (List.toArray ((112 : UInt8) :: ((49 : UInt8) :: ([] : List (UInt8)))))))) (2593000 : Int))) ∧ ((fit (provL (openL ([] : List (D)) (Array.toList (ByteArray.data (ByteArray.mk (List.toArray ((120 : UInt8) :: ([] : List (UInt8))))))) (500 : Int) (1000 : Int)) (Array.toList (ByteArray.data (ByteArray.mk (List.toArray ((120 : UInt8) :: ([] : List (UInt8))))))) (Array.toList (ByteArray.data (ByteArray.mk (List.toArray ((112 : UInt8) :: ((49 : UInt8) :: ([] : List (UInt8)))))))) (2593000 : Int))) ∧ ((fit (provL (openL ([] : List (D)) (Array.toList (ByteArray.data (ByteArray.mk (List.toArray ((120 : UInt8) :: ([] : List (UInt8))))))) (500 : Int) (1000 : Int)) (Array.toList (ByteArray.data (ByteArray.mk (List.toArray ((120 : UInt8) :: ([] : List (UInt8))))))) (Array.toList (ByteArray.data (ByteArray.mk (List.toArray ((112 : UInt8) :: ((49 : UInt8) :: ([] : List (UInt8)))))))) (2593000 : Int))) ∧ (((true = true) →
 (((true = true) →
 (((true = true) →
 (((true = true) →
 (((true = true) →
 (((true = true) →
 (((true = true) →
 (((true = true) →
 (((true = true) →
 (((true = true) →
 ((((0 : Int) ≤ (0 : Int)) ∧ ((0 : Int) < (1 : Int))) ∧ (((true = true) →
 ((((0 : Int) ≤ (0 : Int)) ∧ ((0 : Int) < (1 : Int))) ∧ (((true = true) →
 (True ∧ (true = true))) ∧ ((true = false) →
 (true = false))))) ∧ ((true = false) →
 (true = false))))) ∧ ((true = false) →
 (true = false)))) ∧ ((true = false) →
 (true = false)))) ∧ ((true = false) →
 (true = false)))) ∧ ((true = false) →
 (true = false)))) ∧ ((true = false) →
 (true = false)))) ∧ ((true = false) →
 (true = false)))) ∧ ((true = false) →
 (true = false)))) ∧ ((true = false) →
 (true = false)))) ∧ ((true = false) →
 (true = false)))) ∧ ((true = false) →
 (true = false)))))))))))) := by kernel_rfl
end Go.Proofs.YtkfghnflbehecaaDoor
