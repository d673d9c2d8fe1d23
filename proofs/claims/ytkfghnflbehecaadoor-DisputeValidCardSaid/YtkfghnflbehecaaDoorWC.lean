/- Part of the proof of the laws of this seat: contracts of its functions, for every input. -/
import Derived.Test.YtkfghnflbehecaaDoorWB
set_option linter.all false
namespace Go.Proofs.YtkfghnflbehecaaDoor
open Go Go.RX Go.Proofs
set_option maxRecDepth 100000
set_option linter.all false
theorem vc36 (d0 : D) : (exec tt tb36 noInl lp36 (bodyOf Tryd.f36) (initSt Tryd.f36.ntmps (svs con36.tys [d0])) (doneE tt Tryd.f36.results.toList (con36.run [d0]).rets)) =
  (((((ilt (512 : Int) (lenS d0.s)) = true) →
 (((FL.l (fieldsZ d0.s)) = ([] : List (D))) ∧ ((4 : Int) = (FL.e (fieldsZ d0.s))))) ∧ (((ilt (512 : Int) (lenS d0.s)) = false) →
 ((((seq' d0.s (Array.toList (ByteArray.data (ByteArray.mk (List.toArray ([] : List (UInt8))))))) = true) →
 (((FL.l (fieldsZ d0.s)) = ([] : List (D))) ∧ ((0 : Int) = (FL.e (fieldsZ d0.s))))) ∧ (((seq' d0.s (Array.toList (ByteArray.data (ByteArray.mk (List.toArray ([] : List (UInt8))))))) = false) →
 ((∃ (g : Nat), (((g ≤ (List.length d0.s)) ∧ (∀ (j : Nat), ((j < g) →
 (((32 : Int) ≤ (sget d0.s ((j : Nat) : Int))) ∧ ((sget d0.s ((j : Nat) : Int)) ≤ (126 : Int)))))) ∧ (((d0.s = d0.s) ∧ (((lenS d0.s) = (lenS d0.s)) ∧ (((0 : Int) = ((g : Nat) : Int)) ∧ True))) ∧ (True ∧ True)))) ∧ (∀ (g : Nat), (((g ≤ (List.length d0.s)) ∧ (∀ (j : Nat), ((j < g) →
 (((32 : Int) ≤ (sget d0.s ((j : Nat) : Int))) ∧ ((sget d0.s ((j : Nat) : Int)) ≤ (126 : Int)))))) →
 ((((ilt ((g : Nat) : Int) (lenS d0.s)) = true) →
 ((((0 : Int) ≤ ((g : Nat) : Int)) ∧ (((g : Nat) : Int) < (lenS d0.s))) ∧ ((((ilt (sget d0.s ((g : Nat) : Int)) (32 : Int)) = true) →
 (((FL.l (fieldsZ d0.s)) = ([] : List (D))) ∧ ((5 : Int) = (FL.e (fieldsZ d0.s))))) ∧ (((ilt (sget d0.s ((g : Nat) : Int)) (32 : Int)) = false) →
 ((((0 : Int) ≤ ((g : Nat) : Int)) ∧ (((g : Nat) : Int) < (lenS d0.s))) ∧ ((((ilt (126 : Int) (sget d0.s ((g : Nat) : Int))) = true) →
 (((FL.l (fieldsZ d0.s)) = ([] : List (D))) ∧ ((5 : Int) = (FL.e (fieldsZ d0.s))))) ∧ (((ilt (126 : Int) (sget d0.s ((g : Nat) : Int))) = false) →
 (∃ (g' : Nat), (((g' ≤ (List.length d0.s)) ∧ (∀ (j : Nat), ((j < g') →
 (((32 : Int) ≤ (sget d0.s ((j : Nat) : Int))) ∧ ((sget d0.s ((j : Nat) : Int)) ≤ (126 : Int)))))) ∧ ((((List.length d0.s) - g') < ((List.length d0.s) - g)) ∧ (((d0.s = d0.s) ∧ (((lenS d0.s) = (lenS d0.s)) ∧ (((iadd IntKind.i64 ((g : Nat) : Int) (1 : Int)) = ((g' : Nat) : Int)) ∧ True))) ∧ (True ∧ True)))))))))))) ∧ (((ilt ((g : Nat) : Int) (lenS d0.s)) = false) →
 ((((Array.toList (ByteArray.data (ByteArray.mk (List.toArray ((32 : UInt8) :: ([] : List (UInt8))))))) = ((32 : UInt8) :: ([] : List (UInt8)))) ∧ ((List.length d0.s) ≤ (1000000 : Nat))) ∧ ((∃ (g_1 : Nat), (((g_1 ≤ (List.length (splitD d0.s))) ∧ (∀ (j : Nat), ((j < g_1) →
 ((D.s (elt (splitD d0.s) ((j : Nat) : Int))) ≠ ([] : List (UInt8)))))) ∧ ((True ∧ (True ∧ (((lenI (splitD d0.s)) = (lenI (splitD d0.s))) ∧ (((0 : Int) = ((g_1 : Nat) : Int)) ∧ True)))) ∧ ((((splitD d0.s) = (splitD d0.s)) ∧ True) ∧ True)))) ∧ (∀ (g_1 : Nat), (((g_1 ≤ (List.length (splitD d0.s))) ∧ (∀ (j : Nat), ((j < g_1) →
 ((D.s (elt (splitD d0.s) ((j : Nat) : Int))) ≠ ([] : List (UInt8)))))) →
 ((((ilt ((g_1 : Nat) : Int) (lenI (splitD d0.s))) = true) →
 ((((0 : Int) ≤ ((g_1 : Nat) : Int)) ∧ (((g_1 : Nat) : Int) < (lenI (splitD d0.s)))) ∧ ((((seq' (D.s (elt (splitD d0.s) (((Int.toNat ((g_1 : Nat) : Int)) : Nat) : Int))) (Array.toList (ByteArray.data (ByteArray.mk (List.toArray ([] : List (UInt8))))))) = true) →
 (((FL.l (fieldsZ d0.s)) = ([] : List (D))) ∧ ((5 : Int) = (FL.e (fieldsZ d0.s))))) ∧ (((seq' (D.s (elt (splitD d0.s) (((Int.toNat ((g_1 : Nat) : Int)) : Nat) : Int))) (Array.toList (ByteArray.data (ByteArray.mk (List.toArray ([] : List (UInt8))))))) = false) →
 (∃ (g' : Nat), (((g' ≤ (List.length (splitD d0.s))) ∧ (∀ (j : Nat), ((j < g') →
 ((D.s (elt (splitD d0.s) ((j : Nat) : Int))) ≠ ([] : List (UInt8)))))) ∧ ((((List.length (splitD d0.s)) - g') < ((List.length (splitD d0.s)) - g_1)) ∧ ((True ∧ (True ∧ (((lenI (splitD d0.s)) = (lenI (splitD d0.s))) ∧ (((iadd IntKind.i64 ((g_1 : Nat) : Int) (1 : Int)) = ((g' : Nat) : Int)) ∧ True)))) ∧ ((((splitD d0.s) = (splitD d0.s)) ∧ True) ∧ True))))))))) ∧ (((ilt ((g_1 : Nat) : Int) (lenI (splitD d0.s))) = false) →
 (((splitD d0.s) = (FL.l (fieldsZ d0.s))) ∧ ((0 : Int) = (FL.e (fieldsZ d0.s)))))))))))))))))))) := by kernel_rfl
theorem vc19 (d0 : D) : (exec tt tb19 noInl noLp (bodyOf Tryd.f19) (initSt Tryd.f19.ntmps (svs con19.tys [d0])) (doneE tt Tryd.f19.results.toList (con19.run [d0]).rets)) =
  ((True ∧ ((((ieq (FL.e (fieldsZ d0.s)) (0 : Int)) = true) →
 ((((ieq (lenI (FL.l (fieldsZ d0.s))) (1 : Int)) = true) →
 ((ile (lenS d0.s) (64 : Int)) = (refZ d0.s))) ∧ (((ieq (lenI (FL.l (fieldsZ d0.s))) (1 : Int)) = false) →
 ((refZ d0.s) = false)))) ∧ (((ieq (FL.e (fieldsZ d0.s)) (0 : Int)) = false) →
 ((refZ d0.s) = false))))) := by kernel_rfl
theorem vc22 (d0 : D) : (exec tt tbN noInl lp22 (bodyOf Tryd.f22) (initSt Tryd.f22.ntmps (svs con22.tys [d0])) (doneE tt Tryd.f22.results.toList (con22.run [d0]).rets)) =
  (((∃ (g : Nat), (((g ≤ (List.length d0.s)) ∧ (∀ (j : Nat), ((j < g) →
 (((33 : Int) ≤ (sget d0.s ((j : Nat) : Int))) ∧ ((sget d0.s ((j : Nat) : Int)) ≤ (126 : Int)))))) ∧ (((d0.s = d0.s) ∧ (((0 : Int) = ((g : Nat) : Int)) ∧ True)) ∧ (True ∧ True)))) ∧ (∀ (g : Nat), (((g ≤ (List.length d0.s)) ∧ (∀ (j : Nat), ((j < g) →
 (((33 : Int) ≤ (sget d0.s ((j : Nat) : Int))) ∧ ((sget d0.s ((j : Nat) : Int)) ≤ (126 : Int)))))) →
 ((((ilt ((g : Nat) : Int) (lenS d0.s)) = true) →
 ((((0 : Int) ≤ ((g : Nat) : Int)) ∧ (((g : Nat) : Int) < (lenS d0.s))) ∧ ((((ilt (sget d0.s ((g : Nat) : Int)) (33 : Int)) = true) →
 ((refZ d0.s) = false)) ∧ (((ilt (sget d0.s ((g : Nat) : Int)) (33 : Int)) = false) →
 ((((0 : Int) ≤ ((g : Nat) : Int)) ∧ (((g : Nat) : Int) < (lenS d0.s))) ∧ ((((ilt (126 : Int) (sget d0.s ((g : Nat) : Int))) = true) →
 ((refZ d0.s) = false)) ∧ (((ilt (126 : Int) (sget d0.s ((g : Nat) : Int))) = false) →
 (∃ (g' : Nat), (((g' ≤ (List.length d0.s)) ∧ (∀ (j : Nat), ((j < g') →
 (((33 : Int) ≤ (sget d0.s ((j : Nat) : Int))) ∧ ((sget d0.s ((j : Nat) : Int)) ≤ (126 : Int)))))) ∧ ((((List.length d0.s) - g') < ((List.length d0.s) - g)) ∧ (((d0.s = d0.s) ∧ (((iadd IntKind.i64 ((g : Nat) : Int) (1 : Int)) = ((g' : Nat) : Int)) ∧ True)) ∧ (True ∧ True)))))))))))) ∧ (((ilt ((g : Nat) : Int) (lenS d0.s)) = false) →
 ((((ile (1 : Int) (lenS d0.s)) = true) →
 ((ile (lenS d0.s) (64 : Int)) = (refZ d0.s))) ∧ (((ile (1 : Int) (lenS d0.s)) = false) →
 ((refZ d0.s) = false))))))))) := by kernel_rfl
theorem vc31 (d0 : D) : (exec tt tbN noInl noLp (bodyOf Tryd.f31) (initSt Tryd.f31.ntmps (svs con31.tys [d0])) (doneE tt Tryd.f31.results.toList (con31.run [d0]).rets)) =
  (((((ile (0 : Int) d0.i) = true) →
 ((ilt d0.i (68719476736 : Int)) = (timeZ d0.i))) ∧ (((ile (0 : Int) d0.i) = false) →
 ((timeZ d0.i) = false)))) := by kernel_rfl
theorem vc39 (d0 : D) : (exec tt tbN noInl noLp (bodyOf Tryd.f39) (initSt Tryd.f39.ntmps (svs con39.tys [d0])) (doneE tt Tryd.f39.results.toList (con39.run [d0]).rets)) =
  (((((ile (0 : Int) d0.i) = true) →
 ((ilt d0.i (68719476736 : Int)) = (timeZ d0.i))) ∧ (((ile (0 : Int) d0.i) = false) →
 ((timeZ d0.i) = false)))) := by kernel_rfl
theorem vc40 (d0 : D) : (exec tt tbN noInl noLp (bodyOf Tryd.f40) (initSt Tryd.f40.ntmps (svs con40.tys [d0])) (doneE tt Tryd.f40.results.toList (con40.run [d0]).rets)) =
  (((((ile (1 : Int) d0.i) = true) →
 ((ile d0.i (1125899906842624 : Int)) = (centsZ d0.i))) ∧ (((ile (1 : Int) d0.i) = false) →
 ((centsZ d0.i) = false)))) := by kernel_rfl
theorem vc44 (d0 d1 d2 : D) : (exec tt tbN noInl noLp (bodyOf Tryd.f44) (initSt Tryd.f44.ntmps (svs con44.tys [d0, d1, d2])) (doneE tt Tryd.f44.results.toList (con44.run [d0, d1, d2]).rets)) =
  (((ilt d1.i (isub IntKind.i64 d0.i (imul IntKind.i64 d2.i (86400 : Int)))) = (Decidable.decide (d1.i < (d0.i - (d2.i * (86400 : Int))))))) := by kernel_rfl
theorem vc23 (d0 d1 : D) : (exec tt tbN noInl lp23 (bodyOf Tryd.f23) (initSt Tryd.f23.ntmps (svs con23.tys [d0, d1])) (doneE tt Tryd.f23.results.toList (con23.run [d0, d1]).rets)) =
  (((∃ (g : Nat), (((g ≤ (List.length d0.l)) ∧ (∀ (j : Nat), ((j < g) →
 ((D.s (D.fld (elt d0.l ((j : Nat) : Int)) 0)) ≠ d1.s)))) ∧ (((d0.l = d0.l) ∧ ((d1.s = d1.s) ∧ (((0 : Int) = ((g : Nat) : Int)) ∧ True))) ∧ (True ∧ True)))) ∧ (∀ (g : Nat), (((g ≤ (List.length d0.l)) ∧ (∀ (j : Nat), ((j < g) →
 ((D.s (D.fld (elt d0.l ((j : Nat) : Int)) 0)) ≠ d1.s)))) →
 ((((ilt ((g : Nat) : Int) (lenI d0.l)) = true) →
 ((((0 : Int) ≤ ((g : Nat) : Int)) ∧ (((g : Nat) : Int) < (lenI d0.l))) ∧ ((((seq' (D.s (D.fld (elt d0.l ((g : Nat) : Int)) 0)) d1.s) = true) →
 (((g : Nat) : Int) = (findZ d0.l d1.s))) ∧ (((seq' (D.s (D.fld (elt d0.l ((g : Nat) : Int)) 0)) d1.s) = false) →
 (∃ (g' : Nat), (((g' ≤ (List.length d0.l)) ∧ (∀ (j : Nat), ((j < g') →
 ((D.s (D.fld (elt d0.l ((j : Nat) : Int)) 0)) ≠ d1.s)))) ∧ ((((List.length d0.l) - g') < ((List.length d0.l) - g)) ∧ (((d0.l = d0.l) ∧ ((d1.s = d1.s) ∧ (((iadd IntKind.i64 ((g : Nat) : Int) (1 : Int)) = ((g' : Nat) : Int)) ∧ True))) ∧ (True ∧ True))))))))) ∧ (((ilt ((g : Nat) : Int) (lenI d0.l)) = false) →
 ((-(1 : Int)) = (findZ d0.l d1.s)))))))) := by kernel_rfl
theorem vc41 (d0 d1 : D) : (exec tt tbN noInl lp41 (bodyOf Tryd.f41) (initSt Tryd.f41.ntmps (svs con41.tys [d0, d1])) (doneE tt Tryd.f41.results.toList (con41.run [d0, d1]).rets)) =
  (((∃ (g : Nat), (((g ≤ (List.length d0.l)) ∧ (∀ (j : Nat), ((j < g) →
 ((D.s (elt d0.l ((j : Nat) : Int))) ≠ d1.s)))) ∧ (((d0.l = d0.l) ∧ ((d1.s = d1.s) ∧ (((0 : Int) = ((g : Nat) : Int)) ∧ True))) ∧ (True ∧ True)))) ∧ (∀ (g : Nat), (((g ≤ (List.length d0.l)) ∧ (∀ (j : Nat), ((j < g) →
 ((D.s (elt d0.l ((j : Nat) : Int))) ≠ d1.s)))) →
 ((((ilt ((g : Nat) : Int) (lenI d0.l)) = true) →
 ((((0 : Int) ≤ ((g : Nat) : Int)) ∧ (((g : Nat) : Int) < (lenI d0.l))) ∧ ((((seq' (D.s (elt d0.l ((g : Nat) : Int))) d1.s) = true) →
 ((hasZ d0.l d1.s) = true)) ∧ (((seq' (D.s (elt d0.l ((g : Nat) : Int))) d1.s) = false) →
 (∃ (g' : Nat), (((g' ≤ (List.length d0.l)) ∧ (∀ (j : Nat), ((j < g') →
 ((D.s (elt d0.l ((j : Nat) : Int))) ≠ d1.s)))) ∧ ((((List.length d0.l) - g') < ((List.length d0.l) - g)) ∧ (((d0.l = d0.l) ∧ ((d1.s = d1.s) ∧ (((iadd IntKind.i64 ((g : Nat) : Int) (1 : Int)) = ((g' : Nat) : Int)) ∧ True))) ∧ (True ∧ True))))))))) ∧ (((ilt ((g : Nat) : Int) (lenI d0.l)) = false) →
 ((hasZ d0.l d1.s) = false))))))) := by kernel_rfl
theorem vc33 (d0 d1 : D) : (exec tt tb33 noInl noLp (bodyOf Tryd.f33) (initSt Tryd.f33.ntmps (svs con33.tys [d0, d1])) (doneE tt Tryd.f33.results.toList (con33.run [d0, d1]).rets)) =
  ((True ∧ ((((ilt (findZ d0.l d1.s) (0 : Int)) = true) →
 (((0 : Int) = (opI d0.l d1.s)) ∧ ((10 : Int) = (opE d0.l d1.s)))) ∧ (((ilt (findZ d0.l d1.s) (0 : Int)) = false) →
 ((((0 : Int) ≤ (findZ d0.l d1.s)) ∧ ((findZ d0.l d1.s) < (lenI d0.l))) ∧ ((((bnot (ieq (D.i (D.fld (elt d0.l (findZ d0.l d1.s)) 3)) (1 : Int))) = true) →
 (((0 : Int) = (opI d0.l d1.s)) ∧ ((11 : Int) = (opE d0.l d1.s)))) ∧ (((bnot (ieq (D.i (D.fld (elt d0.l (findZ d0.l d1.s)) 3)) (1 : Int))) = false) →
 (((findZ d0.l d1.s) = (opI d0.l d1.s)) ∧ ((0 : Int) = (opE d0.l d1.s)))))))))) := by kernel_rfl
theorem vc43 (d0 d1 : D) : (exec tt tb43 noInl noLp (bodyOf Tryd.f43) (initSt Tryd.f43.ntmps (svs con43.tys [d0, d1])) (doneE tt Tryd.f43.results.toList (con43.run [d0, d1]).rets)) =
  ((True ∧ ((((ilt (findZ d0.l d1.s) (0 : Int)) = true) →
 (((0 : Int) = (opI d0.l d1.s)) ∧ ((10 : Int) = (opE d0.l d1.s)))) ∧ (((ilt (findZ d0.l d1.s) (0 : Int)) = false) →
 ((((0 : Int) ≤ (findZ d0.l d1.s)) ∧ ((findZ d0.l d1.s) < (lenI d0.l))) ∧ ((((bnot (ieq (D.i (D.fld (elt d0.l (findZ d0.l d1.s)) 3)) (1 : Int))) = true) →
 (((0 : Int) = (opI d0.l d1.s)) ∧ ((11 : Int) = (opE d0.l d1.s)))) ∧ (((bnot (ieq (D.i (D.fld (elt d0.l (findZ d0.l d1.s)) 3)) (1 : Int))) = false) →
 (((findZ d0.l d1.s) = (opI d0.l d1.s)) ∧ ((0 : Int) = (opE d0.l d1.s)))))))))) := by kernel_rfl
theorem vc34 (d0 d1 d2 : D) : (exec tt tb34 noInl noLp (bodyOf Tryd.f34) (initSt Tryd.f34.ntmps (svs con34.tys [d0, d1, d2])) (doneE tt Tryd.f34.results.toList (con34.run [d0, d1, d2]).rets)) =
  ((True ∧ ((((bnot (timeZ d1.i)) = true) →
 ((12 : Int) = (lateZ (d0.fld 1).i d1.i d2.i))) ∧ (((bnot (timeZ d1.i)) = false) →
 ((((ilt d1.i (d0.fld 1).i) = true) →
 ((12 : Int) = (lateZ (d0.fld 1).i d1.i d2.i))) ∧ (((ilt d1.i (d0.fld 1).i) = false) →
 ((((ilt (d0.fld 1).i (isub IntKind.i64 d1.i d2.i)) = true) →
 ((29 : Int) = (lateZ (d0.fld 1).i d1.i d2.i))) ∧ (((ilt (d0.fld 1).i (isub IntKind.i64 d1.i d2.i)) = false) →
 ((0 : Int) = (lateZ (d0.fld 1).i d1.i d2.i)))))))))) := by kernel_rfl
theorem vc21 (d0 : D) : (exec tt tb21 noInl lp21 (bodyOf Tryd.f21) (initSt Tryd.f21.ntmps (svs con21.tys [d0])) (doneE tt Tryd.f21.results.toList (con21.run [d0]).rets)) =
  ((True ∧ ((((bnot (timeZ (d0.fld 1).i)) = true) →
 ((12 : Int) = (oneE d0))) ∧ (((bnot (timeZ (d0.fld 1).i)) = false) →
 ((((ilt (d0.fld 2).i (1 : Int)) = true) →
 ((13 : Int) = (oneE d0))) ∧ (((ilt (d0.fld 2).i (1 : Int)) = false) →
 ((((ilt (1125899906842624 : Int) (d0.fld 2).i) = true) →
 ((13 : Int) = (oneE d0))) ∧ (((ilt (1125899906842624 : Int) (d0.fld 2).i) = false) →
 ((((ilt (d0.fld 3).i (1 : Int)) = true) →
 ((1 : Int) = (oneE d0))) ∧ (((ilt (d0.fld 3).i (1 : Int)) = false) →
 ((((ilt (4 : Int) (d0.fld 3).i) = true) →
 ((1 : Int) = (oneE d0))) ∧ (((ilt (4 : Int) (d0.fld 3).i) = false) →
 ((((ilt (16 : Int) (lenI (D.l (d0.fld 4)))) = true) →
 ((3 : Int) = (oneE d0))) ∧ (((ilt (16 : Int) (lenI (D.l (d0.fld 4)))) = false) →
 ((∃ (g : Nat), (((g ≤ (List.length (D.l (d0.fld 4)))) ∧ ((errTo (prfAt (D.l (d0.fld 4))) g) = (0 : Int))) ∧ ((True ∧ (((D.l (d0.fld 4)) = (D.l (d0.fld 4))) ∧ (((lenI (D.l (d0.fld 4))) = (lenI (D.l (d0.fld 4)))) ∧ (((0 : Int) = ((g : Nat) : Int)) ∧ True)))) ∧ (((((D.s (d0.fld 0)) = (D.s (d0.fld 0))) ∧ (((d0.fld 1).i = (d0.fld 1).i) ∧ (((d0.fld 2).i = (d0.fld 2).i) ∧ (((d0.fld 3).i = (d0.fld 3).i) ∧ ((D.l (d0.fld 4)) = (D.l (d0.fld 4))))))) ∧ True) ∧ True)))) ∧ (∀ (g : Nat), (((g ≤ (List.length (D.l (d0.fld 4)))) ∧ ((errTo (prfAt (D.l (d0.fld 4))) g) = (0 : Int))) →
 ((((ilt ((g : Nat) : Int) (lenI (D.l (d0.fld 4)))) = true) →
 ((((0 : Int) ≤ ((g : Nat) : Int)) ∧ (((g : Nat) : Int) < (lenI (D.l (d0.fld 4))))) ∧ (True ∧ ((((bnot (refZ (D.s (elt (D.l (d0.fld 4)) ((g : Nat) : Int))))) = true) →
 ((5 : Int) = (oneE d0))) ∧ (((bnot (refZ (D.s (elt (D.l (d0.fld 4)) ((g : Nat) : Int))))) = false) →
 ((((0 : Int) ≤ (0 : Int)) ∧ (((0 : Int) ≤ ((g : Nat) : Int)) ∧ (((g : Nat) : Int) ≤ (lenI (D.l (d0.fld 4)))))) ∧ (True ∧ ((((hasZ (xsub (D.l (d0.fld 4)) (0 : Int) ((g : Nat) : Int)) (D.s (elt (D.l (d0.fld 4)) ((g : Nat) : Int)))) = true) →
 ((9 : Int) = (oneE d0))) ∧ (((hasZ (xsub (D.l (d0.fld 4)) (0 : Int) ((g : Nat) : Int)) (D.s (elt (D.l (d0.fld 4)) ((g : Nat) : Int)))) = false) →
 (∃ (g' : Nat), (((g' ≤ (List.length (D.l (d0.fld 4)))) ∧ ((errTo (prfAt (D.l (d0.fld 4))) g') = (0 : Int))) ∧ ((((List.length (D.l (d0.fld 4))) - g') < ((List.length (D.l (d0.fld 4))) - g)) ∧ ((True ∧ (((D.l (d0.fld 4)) = (D.l (d0.fld 4))) ∧ (((lenI (D.l (d0.fld 4))) = (lenI (D.l (d0.fld 4)))) ∧ (((iadd IntKind.i64 ((g : Nat) : Int) (1 : Int)) = ((g' : Nat) : Int)) ∧ True)))) ∧ (((((D.s (d0.fld 0)) = (D.s (d0.fld 0))) ∧ (((d0.fld 1).i = (d0.fld 1).i) ∧ (((d0.fld 2).i = (d0.fld 2).i) ∧ (((d0.fld 3).i = (d0.fld 3).i) ∧ ((D.l (d0.fld 4)) = (D.l (d0.fld 4))))))) ∧ True) ∧ True)))))))))))))) ∧ (((ilt ((g : Nat) : Int) (lenI (D.l (d0.fld 4)))) = false) →
 ((0 : Int) = (oneE d0))))))))))))))))))))) := by kernel_rfl
theorem vc24 (d0 : D) : (exec tt tb24 noInl lp24 (bodyOf Tryd.f24) (initSt Tryd.f24.ntmps (svs con24.tys [d0])) (doneE tt Tryd.f24.results.toList (con24.run [d0]).rets)) =
  ((True ∧ ((((bnot (timeZ (d0.fld 1).i)) = true) →
 ((12 : Int) = (oneE d0))) ∧ (((bnot (timeZ (d0.fld 1).i)) = false) →
 (True ∧ ((((bnot (centsZ (d0.fld 2).i)) = true) →
 ((13 : Int) = (oneE d0))) ∧ (((bnot (centsZ (d0.fld 2).i)) = false) →
 ((((ilt (d0.fld 3).i (1 : Int)) = true) →
 ((1 : Int) = (oneE d0))) ∧ (((ilt (d0.fld 3).i (1 : Int)) = false) →
 ((((ilt (4 : Int) (d0.fld 3).i) = true) →
 ((1 : Int) = (oneE d0))) ∧ (((ilt (4 : Int) (d0.fld 3).i) = false) →
 ((((ilt (16 : Int) (lenI (D.l (d0.fld 4)))) = true) →
 ((3 : Int) = (oneE d0))) ∧ (((ilt (16 : Int) (lenI (D.l (d0.fld 4)))) = false) →
 ((∃ (g : Nat), (((g ≤ (List.length (D.l (d0.fld 4)))) ∧ ((errTo (prfAt (D.l (d0.fld 4))) g) = (0 : Int))) ∧ ((True ∧ (((0 : Int) = ((g : Nat) : Int)) ∧ True)) ∧ (((((D.s (d0.fld 0)) = (D.s (d0.fld 0))) ∧ (((d0.fld 1).i = (d0.fld 1).i) ∧ (((d0.fld 2).i = (d0.fld 2).i) ∧ (((d0.fld 3).i = (d0.fld 3).i) ∧ ((D.l (d0.fld 4)) = (D.l (d0.fld 4))))))) ∧ True) ∧ True)))) ∧ (∀ (g : Nat), (((g ≤ (List.length (D.l (d0.fld 4)))) ∧ ((errTo (prfAt (D.l (d0.fld 4))) g) = (0 : Int))) →
 ((((ilt ((g : Nat) : Int) (lenI (D.l (d0.fld 4)))) = true) →
 ((((0 : Int) ≤ ((g : Nat) : Int)) ∧ (((g : Nat) : Int) < (lenI (D.l (d0.fld 4))))) ∧ (True ∧ ((((bnot (refZ (D.s (elt (D.l (d0.fld 4)) ((g : Nat) : Int))))) = true) →
 ((5 : Int) = (oneE d0))) ∧ (((bnot (refZ (D.s (elt (D.l (d0.fld 4)) ((g : Nat) : Int))))) = false) →
 ((((0 : Int) ≤ (0 : Int)) ∧ (((0 : Int) ≤ ((g : Nat) : Int)) ∧ (((g : Nat) : Int) ≤ (lenI (D.l (d0.fld 4)))))) ∧ ((((0 : Int) ≤ ((g : Nat) : Int)) ∧ (((g : Nat) : Int) < (lenI (D.l (d0.fld 4))))) ∧ (True ∧ ((((hasZ (xsub (D.l (d0.fld 4)) (0 : Int) ((g : Nat) : Int)) (D.s (elt (D.l (d0.fld 4)) ((g : Nat) : Int)))) = true) →
 ((9 : Int) = (oneE d0))) ∧ (((hasZ (xsub (D.l (d0.fld 4)) (0 : Int) ((g : Nat) : Int)) (D.s (elt (D.l (d0.fld 4)) ((g : Nat) : Int)))) = false) →
 (∃ (g' : Nat), (((g' ≤ (List.length (D.l (d0.fld 4)))) ∧ ((errTo (prfAt (D.l (d0.fld 4))) g') = (0 : Int))) ∧ ((((List.length (D.l (d0.fld 4))) - g') < ((List.length (D.l (d0.fld 4))) - g)) ∧ ((True ∧ (((iadd IntKind.i64 ((g : Nat) : Int) (1 : Int)) = ((g' : Nat) : Int)) ∧ True)) ∧ (((((D.s (d0.fld 0)) = (D.s (d0.fld 0))) ∧ (((d0.fld 1).i = (d0.fld 1).i) ∧ (((d0.fld 2).i = (d0.fld 2).i) ∧ (((d0.fld 3).i = (d0.fld 3).i) ∧ ((D.l (d0.fld 4)) = (D.l (d0.fld 4))))))) ∧ True) ∧ True))))))))))))))) ∧ (((ilt ((g : Nat) : Int) (lenI (D.l (d0.fld 4)))) = false) →
 ((0 : Int) = (oneE d0)))))))))))))))))))) := by kernel_rfl
theorem vc10 (d0 : D) : (exec tt tb10 noInl lp10 (bodyOf Tryd.f10) (initSt Tryd.f10.ntmps (svs con10.tys [d0])) (doneE tt Tryd.f10.results.toList (con10.run [d0]).rets)) =
  (((((ilt (1024 : Int) (lenI d0.l)) = true) →
 ((3 : Int) = (chkE d0.l))) ∧ (((ilt (1024 : Int) (lenI d0.l)) = false) →
 ((∃ (g : Nat), (((g ≤ (List.length d0.l)) ∧ ((errTo (chkAt d0.l) g) = (0 : Int))) ∧ (((d0.l = d0.l) ∧ ((d0.l = d0.l) ∧ (((lenI d0.l) = (lenI d0.l)) ∧ (((0 : Int) = ((g : Nat) : Int)) ∧ True)))) ∧ (True ∧ True)))) ∧ (∀ (g : Nat), (((g ≤ (List.length d0.l)) ∧ ((errTo (chkAt d0.l) g) = (0 : Int))) →
 ((((ilt ((g : Nat) : Int) (lenI d0.l)) = true) →
 ((((0 : Int) ≤ ((g : Nat) : Int)) ∧ (((g : Nat) : Int) < (lenI d0.l))) ∧ (True ∧ ((((bnot (refZ (D.s (D.fld (elt d0.l ((g : Nat) : Int)) 0)))) = true) →
 ((5 : Int) = (chkE d0.l))) ∧ (((bnot (refZ (D.s (D.fld (elt d0.l ((g : Nat) : Int)) 0)))) = false) →
 ((((0 : Int) ≤ (0 : Int)) ∧ (((0 : Int) ≤ ((g : Nat) : Int)) ∧ (((g : Nat) : Int) ≤ (lenI d0.l)))) ∧ (True ∧ ((((ile (0 : Int) (findZ (xsub d0.l (0 : Int) ((g : Nat) : Int)) (D.s (D.fld (elt d0.l ((g : Nat) : Int)) 0)))) = true) →
 ((9 : Int) = (chkE d0.l))) ∧ (((ile (0 : Int) (findZ (xsub d0.l (0 : Int) ((g : Nat) : Int)) (D.s (D.fld (elt d0.l ((g : Nat) : Int)) 0)))) = false) →
 (True ∧ ((((bnot (ieq (oneE (D.agg ((D.str (D.s (D.fld (elt d0.l ((g : Nat) : Int)) 0))) :: ((D.int (D.i (D.fld (elt d0.l ((g : Nat) : Int)) 1))) :: ((D.int (D.i (D.fld (elt d0.l ((g : Nat) : Int)) 2))) :: ((D.int (D.i (D.fld (elt d0.l ((g : Nat) : Int)) 3))) :: ((D.list (D.l (D.fld (elt d0.l ((g : Nat) : Int)) 4))) :: ([] : List (D))))))))) (0 : Int))) = true) →
 ((oneE (D.agg ((D.str (D.s (D.fld (elt d0.l ((g : Nat) : Int)) 0))) :: ((D.int (D.i (D.fld (elt d0.l ((g : Nat) : Int)) 1))) :: ((D.int (D.i (D.fld (elt d0.l ((g : Nat) : Int)) 2))) :: ((D.int (D.i (D.fld (elt d0.l ((g : Nat) : Int)) 3))) :: ((D.list (D.l (D.fld (elt d0.l ((g : Nat) : Int)) 4))) :: ([] : List (D))))))))) = (chkE d0.l))) ∧ (((bnot (ieq (oneE (D.agg ((D.str (D.s (D.fld (elt d0.l ((g : Nat) : Int)) 0))) :: ((D.int (D.i (D.fld (elt d0.l ((g : Nat) : Int)) 1))) :: ((D.int (D.i (D.fld (elt d0.l ((g : Nat) : Int)) 2))) :: ((D.int (D.i (D.fld (elt d0.l ((g : Nat) : Int)) 3))) :: ((D.list (D.l (D.fld (elt d0.l ((g : Nat) : Int)) 4))) :: ([] : List (D))))))))) (0 : Int))) = false) →
 (∃ (g' : Nat), (((g' ≤ (List.length d0.l)) ∧ ((errTo (chkAt d0.l) g') = (0 : Int))) ∧ ((((List.length d0.l) - g') < ((List.length d0.l) - g)) ∧ (((d0.l = d0.l) ∧ ((d0.l = d0.l) ∧ (((lenI d0.l) = (lenI d0.l)) ∧ (((iadd IntKind.i64 ((g : Nat) : Int) (1 : Int)) = ((g' : Nat) : Int)) ∧ True)))) ∧ (True ∧ True))))))))))))))))) ∧ (((ilt ((g : Nat) : Int) (lenI d0.l)) = false) →
 ((0 : Int) = (chkE d0.l)))))))))) := by kernel_rfl
theorem vc11 (d0 : D) : (exec tt tb11 noInl lp11 (bodyOf Tryd.f11) (initSt Tryd.f11.ntmps (svs con11.tys [d0])) (doneE tt Tryd.f11.results.toList (con11.run [d0]).rets)) =
  (((((ilt (1024 : Int) (lenI d0.l)) = true) →
 ((3 : Int) = (chkE d0.l))) ∧ (((ilt (1024 : Int) (lenI d0.l)) = false) →
 ((∃ (g : Nat), (((g ≤ (List.length d0.l)) ∧ ((errTo (chkAt d0.l) g) = (0 : Int))) ∧ (((d0.l = d0.l) ∧ (((0 : Int) = ((g : Nat) : Int)) ∧ True)) ∧ (True ∧ True)))) ∧ (∀ (g : Nat), (((g ≤ (List.length d0.l)) ∧ ((errTo (chkAt d0.l) g) = (0 : Int))) →
 ((((ilt ((g : Nat) : Int) (lenI d0.l)) = true) →
 ((((0 : Int) ≤ ((g : Nat) : Int)) ∧ (((g : Nat) : Int) < (lenI d0.l))) ∧ (True ∧ ((((bnot (refZ (D.s (D.fld (elt d0.l ((g : Nat) : Int)) 0)))) = true) →
 ((5 : Int) = (chkE d0.l))) ∧ (((bnot (refZ (D.s (D.fld (elt d0.l ((g : Nat) : Int)) 0)))) = false) →
 ((((0 : Int) ≤ (0 : Int)) ∧ (((0 : Int) ≤ ((g : Nat) : Int)) ∧ (((g : Nat) : Int) ≤ (lenI d0.l)))) ∧ ((((0 : Int) ≤ ((g : Nat) : Int)) ∧ (((g : Nat) : Int) < (lenI d0.l))) ∧ (True ∧ ((((ile (0 : Int) (findZ (xsub d0.l (0 : Int) ((g : Nat) : Int)) (D.s (D.fld (elt d0.l ((g : Nat) : Int)) 0)))) = true) →
 ((9 : Int) = (chkE d0.l))) ∧ (((ile (0 : Int) (findZ (xsub d0.l (0 : Int) ((g : Nat) : Int)) (D.s (D.fld (elt d0.l ((g : Nat) : Int)) 0)))) = false) →
 ((((0 : Int) ≤ ((g : Nat) : Int)) ∧ (((g : Nat) : Int) < (lenI d0.l))) ∧ (True ∧ ((((bnot (ieq (oneE (D.agg ((D.str (D.s (D.fld (elt d0.l ((g : Nat) : Int)) 0))) :: ((D.int (D.i (D.fld (elt d0.l ((g : Nat) : Int)) 1))) :: ((D.int (D.i (D.fld (elt d0.l ((g : Nat) : Int)) 2))) :: ((D.int (D.i (D.fld (elt d0.l ((g : Nat) : Int)) 3))) :: ((D.list (D.l (D.fld (elt d0.l ((g : Nat) : Int)) 4))) :: ([] : List (D))))))))) (0 : Int))) = true) →
 ((oneE (D.agg ((D.str (D.s (D.fld (elt d0.l ((g : Nat) : Int)) 0))) :: ((D.int (D.i (D.fld (elt d0.l ((g : Nat) : Int)) 1))) :: ((D.int (D.i (D.fld (elt d0.l ((g : Nat) : Int)) 2))) :: ((D.int (D.i (D.fld (elt d0.l ((g : Nat) : Int)) 3))) :: ((D.list (D.l (D.fld (elt d0.l ((g : Nat) : Int)) 4))) :: ([] : List (D))))))))) = (chkE d0.l))) ∧ (((bnot (ieq (oneE (D.agg ((D.str (D.s (D.fld (elt d0.l ((g : Nat) : Int)) 0))) :: ((D.int (D.i (D.fld (elt d0.l ((g : Nat) : Int)) 1))) :: ((D.int (D.i (D.fld (elt d0.l ((g : Nat) : Int)) 2))) :: ((D.int (D.i (D.fld (elt d0.l ((g : Nat) : Int)) 3))) :: ((D.list (D.l (D.fld (elt d0.l ((g : Nat) : Int)) 4))) :: ([] : List (D))))))))) (0 : Int))) = false) →
 (∃ (g' : Nat), (((g' ≤ (List.length d0.l)) ∧ ((errTo (chkAt d0.l) g') = (0 : Int))) ∧ ((((List.length d0.l) - g') < ((List.length d0.l) - g)) ∧ (((d0.l = d0.l) ∧ (((iadd IntKind.i64 ((g : Nat) : Int) (1 : Int)) = ((g' : Nat) : Int)) ∧ True)) ∧ (True ∧ True))))))))))))))))))) ∧ (((ilt ((g : Nat) : Int) (lenI d0.l)) = false) →
 ((0 : Int) = (chkE d0.l)))))))))) := by kernel_rfl
theorem vc8 (d0 : D) : (exec tt tbN noInl lp8 (bodyOf Tryd.f8) (initSt Tryd.f8.ntmps (svs con8.tys [d0])) (doneE tt Tryd.f8.results.toList (con8.run [d0]).rets)) =
  (((((ilt (1100 : Int) (lenI d0.l)) = true) →
 ((greatZ d0.l) = true)) ∧ (((ilt (1100 : Int) (lenI d0.l)) = false) →
 ((∃ (g : Nat), (((g ≤ (List.length d0.l)) ∧ (((prTo d0.l g) ≤ (2000 : Int)) ∧ (∀ (j : Nat), ((j < g) →
 ((badAt d0.l j) = false))))) ∧ ((((0 : Int) = (prTo d0.l g)) ∧ ((d0.l = d0.l) ∧ (((lenI d0.l) = (lenI d0.l)) ∧ (((0 : Int) = ((g : Nat) : Int)) ∧ True)))) ∧ (True ∧ True)))) ∧ (∀ (g : Nat), (((g ≤ (List.length d0.l)) ∧ (((prTo d0.l g) ≤ (2000 : Int)) ∧ (∀ (j : Nat), ((j < g) →
 ((badAt d0.l j) = false))))) →
 ((((ilt ((g : Nat) : Int) (lenI d0.l)) = true) →
 ((((0 : Int) ≤ ((g : Nat) : Int)) ∧ (((g : Nat) : Int) < (lenI d0.l))) ∧ ((((ilt (40 : Int) (lenI (D.l (D.fld (elt d0.l ((g : Nat) : Int)) 4)))) = true) →
 ((greatZ d0.l) = true)) ∧ (((ilt (40 : Int) (lenI (D.l (D.fld (elt d0.l ((g : Nat) : Int)) 4)))) = false) →
 ((((ilt (2000 : Int) (iadd IntKind.i64 (prTo d0.l g) (lenI (D.l (D.fld (elt d0.l ((g : Nat) : Int)) 4))))) = true) →
 ((greatZ d0.l) = true)) ∧ (((ilt (2000 : Int) (iadd IntKind.i64 (prTo d0.l g) (lenI (D.l (D.fld (elt d0.l ((g : Nat) : Int)) 4))))) = false) →
 ((((ilt (D.i (D.fld (elt d0.l ((g : Nat) : Int)) 2)) (0 : Int)) = true) →
 ((greatZ d0.l) = true)) ∧ (((ilt (D.i (D.fld (elt d0.l ((g : Nat) : Int)) 2)) (0 : Int)) = false) →
 ((((ilt (1125899906842625 : Int) (D.i (D.fld (elt d0.l ((g : Nat) : Int)) 2))) = true) →
 ((greatZ d0.l) = true)) ∧ (((ilt (1125899906842625 : Int) (D.i (D.fld (elt d0.l ((g : Nat) : Int)) 2))) = false) →
 ((((ilt (D.i (D.fld (elt d0.l ((g : Nat) : Int)) 1)) (-(68719476736 : Int))) = true) →
 ((greatZ d0.l) = true)) ∧ (((ilt (D.i (D.fld (elt d0.l ((g : Nat) : Int)) 1)) (-(68719476736 : Int))) = false) →
 ((((ilt (137438953472 : Int) (D.i (D.fld (elt d0.l ((g : Nat) : Int)) 1))) = true) →
 ((greatZ d0.l) = true)) ∧ (((ilt (137438953472 : Int) (D.i (D.fld (elt d0.l ((g : Nat) : Int)) 1))) = false) →
 (∃ (g' : Nat), (((g' ≤ (List.length d0.l)) ∧ (((prTo d0.l g') ≤ (2000 : Int)) ∧ (∀ (j : Nat), ((j < g') →
 ((badAt d0.l j) = false))))) ∧ ((((List.length d0.l) - g') < ((List.length d0.l) - g)) ∧ ((((iadd IntKind.i64 (prTo d0.l g) (lenI (D.l (D.fld (elt d0.l ((g : Nat) : Int)) 4)))) = (prTo d0.l g')) ∧ ((d0.l = d0.l) ∧ (((lenI d0.l) = (lenI d0.l)) ∧ (((iadd IntKind.i64 ((g : Nat) : Int) (1 : Int)) = ((g' : Nat) : Int)) ∧ True)))) ∧ (True ∧ True))))))))))))))))))) ∧ (((ilt ((g : Nat) : Int) (lenI d0.l)) = false) →
 ((greatZ d0.l) = false))))))))) := by kernel_rfl
theorem vc14 (d0 d1 : D) : (exec tt tbN noInl lp14 (bodyOf Tryd.f14) (initSt Tryd.f14.ntmps (svs con14.tys [d0, d1])) (doneE tt Tryd.f14.results.toList (con14.run [d0, d1]).rets)) =
  (((((bnot (ieq (lenI d0.l) (lenI d1.l))) = true) →
 ((sameL d0.l d1.l) = false)) ∧ (((bnot (ieq (lenI d0.l) (lenI d1.l))) = false) →
 ((∃ (g : Nat), (((g ≤ (List.length d0.l)) ∧ (∀ (j : Nat), ((j < g) →
 ((sameD (elt d0.l ((j : Nat) : Int)) (elt d1.l ((j : Nat) : Int))) = true)))) ∧ (((d0.l = d0.l) ∧ ((d1.l = d1.l) ∧ (((0 : Int) = ((g : Nat) : Int)) ∧ True))) ∧ (True ∧ True)))) ∧ (∀ (g : Nat), (((g ≤ (List.length d0.l)) ∧ (∀ (j : Nat), ((j < g) →
 ((sameD (elt d0.l ((j : Nat) : Int)) (elt d1.l ((j : Nat) : Int))) = true)))) →
 ((((ilt ((g : Nat) : Int) (lenI d0.l)) = true) →
 ((((0 : Int) ≤ ((g : Nat) : Int)) ∧ (((g : Nat) : Int) < (lenI d0.l))) ∧ ((((0 : Int) ≤ ((g : Nat) : Int)) ∧ (((g : Nat) : Int) < (lenI d1.l))) ∧ ((((bnot (seq' (D.s (D.fld (elt d0.l ((g : Nat) : Int)) 0)) (D.s (D.fld (elt d1.l ((g : Nat) : Int)) 0)))) = true) →
 ((sameL d0.l d1.l) = false)) ∧ (((bnot (seq' (D.s (D.fld (elt d0.l ((g : Nat) : Int)) 0)) (D.s (D.fld (elt d1.l ((g : Nat) : Int)) 0)))) = false) →
 ((((bnot (ieq (D.i (D.fld (elt d0.l ((g : Nat) : Int)) 1)) (D.i (D.fld (elt d1.l ((g : Nat) : Int)) 1)))) = true) →
 ((sameL d0.l d1.l) = false)) ∧ (((bnot (ieq (D.i (D.fld (elt d0.l ((g : Nat) : Int)) 1)) (D.i (D.fld (elt d1.l ((g : Nat) : Int)) 1)))) = false) →
 ((((bnot (ieq (D.i (D.fld (elt d0.l ((g : Nat) : Int)) 2)) (D.i (D.fld (elt d1.l ((g : Nat) : Int)) 2)))) = true) →
 ((sameL d0.l d1.l) = false)) ∧ (((bnot (ieq (D.i (D.fld (elt d0.l ((g : Nat) : Int)) 2)) (D.i (D.fld (elt d1.l ((g : Nat) : Int)) 2)))) = false) →
 ((((bnot (ieq (D.i (D.fld (elt d0.l ((g : Nat) : Int)) 3)) (D.i (D.fld (elt d1.l ((g : Nat) : Int)) 3)))) = true) →
 ((sameL d0.l d1.l) = false)) ∧ (((bnot (ieq (D.i (D.fld (elt d0.l ((g : Nat) : Int)) 3)) (D.i (D.fld (elt d1.l ((g : Nat) : Int)) 3)))) = false) →
 ((((bnot (ieq (lenI (D.l (D.fld (elt d0.l ((g : Nat) : Int)) 4))) (lenI (D.l (D.fld (elt d1.l ((g : Nat) : Int)) 4))))) = true) →
 ((sameL d0.l d1.l) = false)) ∧ (((bnot (ieq (lenI (D.l (D.fld (elt d0.l ((g : Nat) : Int)) 4))) (lenI (D.l (D.fld (elt d1.l ((g : Nat) : Int)) 4))))) = false) →
 ((∃ (g_1 : Nat), (((g_1 ≤ (List.length (D.l (D.fld (elt d0.l ((g : Nat) : Int)) 4)))) ∧ (∀ (j : Nat), ((j < g_1) →
 ((D.s (elt (D.l (D.fld (elt d0.l ((g : Nat) : Int)) 4)) ((j : Nat) : Int))) = (D.s (elt (D.l (D.fld (elt d1.l ((g : Nat) : Int)) 4)) ((j : Nat) : Int))))))) ∧ (((d0.l = d0.l) ∧ ((d1.l = d1.l) ∧ ((((g : Nat) : Int) = ((g : Nat) : Int)) ∧ (True ∧ (True ∧ (((0 : Int) = ((g_1 : Nat) : Int)) ∧ True)))))) ∧ (((((D.s (D.fld (elt d0.l ((g : Nat) : Int)) 0)) = (D.s (D.fld (elt d0.l ((g : Nat) : Int)) 0))) ∧ (((D.i (D.fld (elt d0.l ((g : Nat) : Int)) 1)) = (D.i (D.fld (elt d0.l ((g : Nat) : Int)) 1))) ∧ (((D.i (D.fld (elt d0.l ((g : Nat) : Int)) 2)) = (D.i (D.fld (elt d0.l ((g : Nat) : Int)) 2))) ∧ (((D.i (D.fld (elt d0.l ((g : Nat) : Int)) 3)) = (D.i (D.fld (elt d0.l ((g : Nat) : Int)) 3))) ∧ ((D.l (D.fld (elt d0.l ((g : Nat) : Int)) 4)) = (D.l (D.fld (elt d0.l ((g : Nat) : Int)) 4))))))) ∧ ((((D.s (D.fld (elt d1.l ((g : Nat) : Int)) 0)) = (D.s (D.fld (elt d1.l ((g : Nat) : Int)) 0))) ∧ (((D.i (D.fld (elt d1.l ((g : Nat) : Int)) 1)) = (D.i (D.fld (elt d1.l ((g : Nat) : Int)) 1))) ∧ (((D.i (D.fld (elt d1.l ((g : Nat) : Int)) 2)) = (D.i (D.fld (elt d1.l ((g : Nat) : Int)) 2))) ∧ (((D.i (D.fld (elt d1.l ((g : Nat) : Int)) 3)) = (D.i (D.fld (elt d1.l ((g : Nat) : Int)) 3))) ∧ ((D.l (D.fld (elt d1.l ((g : Nat) : Int)) 4)) = (D.l (D.fld (elt d1.l ((g : Nat) : Int)) 4))))))) ∧ True)) ∧ True)))) ∧ (∀ (g_1 : Nat), (((g_1 ≤ (List.length (D.l (D.fld (elt d0.l ((g : Nat) : Int)) 4)))) ∧ (∀ (j : Nat), ((j < g_1) →
 ((D.s (elt (D.l (D.fld (elt d0.l ((g : Nat) : Int)) 4)) ((j : Nat) : Int))) = (D.s (elt (D.l (D.fld (elt d1.l ((g : Nat) : Int)) 4)) ((j : Nat) : Int))))))) →
 ((((ilt ((g_1 : Nat) : Int) (lenI (D.l (D.fld (elt d0.l ((g : Nat) : Int)) 4)))) = true) →
 ((((0 : Int) ≤ ((g_1 : Nat) : Int)) ∧ (((g_1 : Nat) : Int) < (lenI (D.l (D.fld (elt d0.l ((g : Nat) : Int)) 4))))) ∧ ((((0 : Int) ≤ ((g_1 : Nat) : Int)) ∧ (((g_1 : Nat) : Int) < (lenI (D.l (D.fld (elt d1.l ((g : Nat) : Int)) 4))))) ∧ ((((bnot (seq' (D.s (elt (D.l (D.fld (elt d0.l ((g : Nat) : Int)) 4)) ((g_1 : Nat) : Int))) (D.s (elt (D.l (D.fld (elt d1.l ((g : Nat) : Int)) 4)) ((g_1 : Nat) : Int))))) = true) →
 ((sameL d0.l d1.l) = false)) ∧ (((bnot (seq' (D.s (elt (D.l (D.fld (elt d0.l ((g : Nat) : Int)) 4)) ((g_1 : Nat) : Int))) (D.s (elt (D.l (D.fld (elt d1.l ((g : Nat) : Int)) 4)) ((g_1 : Nat) : Int))))) = false) →
 (∃ (g' : Nat), (((g' ≤ (List.length (D.l (D.fld (elt d0.l ((g : Nat) : Int)) 4)))) ∧ (∀ (j : Nat), ((j < g') →
 ((D.s (elt (D.l (D.fld (elt d0.l ((g : Nat) : Int)) 4)) ((j : Nat) : Int))) = (D.s (elt (D.l (D.fld (elt d1.l ((g : Nat) : Int)) 4)) ((j : Nat) : Int))))))) ∧ ((((List.length (D.l (D.fld (elt d0.l ((g : Nat) : Int)) 4))) - g') < ((List.length (D.l (D.fld (elt d0.l ((g : Nat) : Int)) 4))) - g_1)) ∧ (((d0.l = d0.l) ∧ ((d1.l = d1.l) ∧ ((((g : Nat) : Int) = ((g : Nat) : Int)) ∧ (True ∧ (True ∧ (((iadd IntKind.i64 ((g_1 : Nat) : Int) (1 : Int)) = ((g' : Nat) : Int)) ∧ True)))))) ∧ (((((D.s (D.fld (elt d0.l ((g : Nat) : Int)) 0)) = (D.s (D.fld (elt d0.l ((g : Nat) : Int)) 0))) ∧ (((D.i (D.fld (elt d0.l ((g : Nat) : Int)) 1)) = (D.i (D.fld (elt d0.l ((g : Nat) : Int)) 1))) ∧ (((D.i (D.fld (elt d0.l ((g : Nat) : Int)) 2)) = (D.i (D.fld (elt d0.l ((g : Nat) : Int)) 2))) ∧ (((D.i (D.fld (elt d0.l ((g : Nat) : Int)) 3)) = (D.i (D.fld (elt d0.l ((g : Nat) : Int)) 3))) ∧ ((D.l (D.fld (elt d0.l ((g : Nat) : Int)) 4)) = (D.l (D.fld (elt d0.l ((g : Nat) : Int)) 4))))))) ∧ ((((D.s (D.fld (elt d1.l ((g : Nat) : Int)) 0)) = (D.s (D.fld (elt d1.l ((g : Nat) : Int)) 0))) ∧ (((D.i (D.fld (elt d1.l ((g : Nat) : Int)) 1)) = (D.i (D.fld (elt d1.l ((g : Nat) : Int)) 1))) ∧ (((D.i (D.fld (elt d1.l ((g : Nat) : Int)) 2)) = (D.i (D.fld (elt d1.l ((g : Nat) : Int)) 2))) ∧ (((D.i (D.fld (elt d1.l ((g : Nat) : Int)) 3)) = (D.i (D.fld (elt d1.l ((g : Nat) : Int)) 3))) ∧ ((D.l (D.fld (elt d1.l ((g : Nat) : Int)) 4)) = (D.l (D.fld (elt d1.l ((g : Nat) : Int)) 4))))))) ∧ True)) ∧ True)))))))))) ∧ (((ilt ((g_1 : Nat) : Int) (lenI (D.l (D.fld (elt d0.l ((g : Nat) : Int)) 4)))) = false) →
 (∃ (g' : Nat), (((g' ≤ (List.length d0.l)) ∧ (∀ (j : Nat), ((j < g') →
 ((sameD (elt d0.l ((j : Nat) : Int)) (elt d1.l ((j : Nat) : Int))) = true)))) ∧ ((((List.length d0.l) - g') < ((List.length d0.l) - g)) ∧ (((d0.l = d0.l) ∧ ((d1.l = d1.l) ∧ (((iadd IntKind.i64 ((g : Nat) : Int) (1 : Int)) = ((g' : Nat) : Int)) ∧ True))) ∧ (True ∧ True))))))))))))))))))))))) ∧ (((ilt ((g : Nat) : Int) (lenI d0.l)) = false) →
 ((sameL d0.l d1.l) = true))))))))) := by kernel_rfl
end Go.Proofs.YtkfghnflbehecaaDoor
