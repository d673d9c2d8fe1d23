/- Part of the proof of the laws of this seat: contracts of its functions, for every input. -/
import Derived.Test.YtafpahkcjdfpiaaDoorWTA
set_option linter.all false
namespace Go.Proofs.YtafpahkcjdfpiaaDoor
open Go Go.RX Go.Proofs
set_option maxRecDepth 100000
set_option linter.all false
theorem vc51 (d0 : D) : (exec tt tbN noInl lp51 (bodyOf Tryd.f51) (initSt Tryd.f51.ntmps (svs con51.tys [d0])) (doneE tt Tryd.f51.results.toList (con51.run [d0]).rets)) =
  (((((ilt (4 : Int) (lenI d0.l)) = true) →
 ((3 : Int) = (ckZ d0.l))) ∧ (((ilt (4 : Int) (lenI d0.l)) = false) →
 ((∃ (g : Nat), (((g ≤ (List.length d0.l)) ∧ ((errTo (ckOne d0.l) g) = (0 : Int))) ∧ ((True ∧ ((d0.l = d0.l) ∧ (((lenI d0.l) = (lenI d0.l)) ∧ (((0 : Int) = ((g : Nat) : Int)) ∧ True)))) ∧ (((([] : List (D)) = (seenTo d0.l g)) ∧ True) ∧ True)))) ∧ (∀ (g : Nat), (((g ≤ (List.length d0.l)) ∧ ((errTo (ckOne d0.l) g) = (0 : Int))) →
 ((((ilt ((g : Nat) : Int) (lenI d0.l)) = true) →
 ((((0 : Int) ≤ ((g : Nat) : Int)) ∧ (((g : Nat) : Int) < (lenI d0.l))) ∧ ((((ilt (D.i (D.fld (elt d0.l ((g : Nat) : Int)) 0)) (1 : Int)) = true) →
 ((1 : Int) = (ckZ d0.l))) ∧ (((ilt (D.i (D.fld (elt d0.l ((g : Nat) : Int)) 0)) (1 : Int)) = false) →
 ((((ilt (4 : Int) (D.i (D.fld (elt d0.l ((g : Nat) : Int)) 0))) = true) →
 ((1 : Int) = (ckZ d0.l))) ∧ (((ilt (4 : Int) (D.i (D.fld (elt d0.l ((g : Nat) : Int)) 0))) = false) →
 ((((D.b (mgetD Ty.bool (seenTo d0.l g) (D.i (D.fld (elt d0.l ((g : Nat) : Int)) 0)))) = true) →
 ((9 : Int) = (ckZ d0.l))) ∧ (((D.b (mgetD Ty.bool (seenTo d0.l g) (D.i (D.fld (elt d0.l ((g : Nat) : Int)) 0)))) = false) →
 ((((ilt (D.i (D.fld (elt d0.l ((g : Nat) : Int)) 1)) (0 : Int)) = true) →
 ((12 : Int) = (ckZ d0.l))) ∧ (((ilt (D.i (D.fld (elt d0.l ((g : Nat) : Int)) 1)) (0 : Int)) = false) →
 ((((ilt (68719476736 : Int) (D.i (D.fld (elt d0.l ((g : Nat) : Int)) 1))) = true) →
 ((12 : Int) = (ckZ d0.l))) ∧ (((ilt (68719476736 : Int) (D.i (D.fld (elt d0.l ((g : Nat) : Int)) 1))) = false) →
 ((((ilt (D.i (D.fld (elt d0.l ((g : Nat) : Int)) 2)) (0 : Int)) = true) →
 ((12 : Int) = (ckZ d0.l))) ∧ (((ilt (D.i (D.fld (elt d0.l ((g : Nat) : Int)) 2)) (0 : Int)) = false) →
 ((((ilt (68719476736 : Int) (D.i (D.fld (elt d0.l ((g : Nat) : Int)) 2))) = true) →
 ((12 : Int) = (ckZ d0.l))) ∧ (((ilt (68719476736 : Int) (D.i (D.fld (elt d0.l ((g : Nat) : Int)) 2))) = false) →
 (∃ (g' : Nat), (((g' ≤ (List.length d0.l)) ∧ ((errTo (ckOne d0.l) g') = (0 : Int))) ∧ ((((List.length d0.l) - g') < ((List.length d0.l) - g)) ∧ ((True ∧ ((d0.l = d0.l) ∧ (((lenI d0.l) = (lenI d0.l)) ∧ (((iadd IntKind.i64 ((g : Nat) : Int) (1 : Int)) = ((g' : Nat) : Int)) ∧ True)))) ∧ ((((mput (seenTo d0.l g) (D.i (D.fld (elt d0.l ((g : Nat) : Int)) 0)) (D.bool true)) = (seenTo d0.l g')) ∧ True) ∧ True))))))))))))))))))))) ∧ (((ilt ((g : Nat) : Int) (lenI d0.l)) = false) →
 ((0 : Int) = (ckZ d0.l)))))))))) := by kernel_rfl
theorem vc52 (d0 : D) : (exec tt tbN noInl noLp (bodyOf Tryd.f52) (initSt Tryd.f52.ntmps (svs con52.tys [d0])) (doneE tt Tryd.f52.results.toList (con52.run [d0]).rets)) =
  (((((ile (0 : Int) d0.i) = true) →
 ((ilt d0.i (68719476736 : Int)) = (timeZ d0.i))) ∧ (((ile (0 : Int) d0.i) = false) →
 ((timeZ d0.i) = false)))) := by kernel_rfl
theorem vc55 (d0 : D) : (exec tt tb55 noInl noLp (bodyOf Tryd.f55) (initSt Tryd.f55.ntmps (svs con55.tys [d0])) (doneE tt Tryd.f55.results.toList (con55.run [d0]).rets)) =
  ((((List.length (D.l (d0.fld 3))) ≤ (100000 : Nat)) ∧ (((D.s (d0.fld 0)) = (D.s (d0.fld 0))) ∧ (((d0.fld 1).i = (d0.fld 1).i) ∧ (((d0.fld 2).i = (d0.fld 2).i) ∧ (((D.l (d0.fld 3)) = (D.l (d0.fld 3))) ∧ ((d0.fld 4).i = (d0.fld 4).i))))))) := by kernel_rfl
theorem vc60 (d0 d1 : D) : (exec tt tbN noInl lp60 (bodyOf Tryd.f60) (initSt Tryd.f60.ntmps (svs con60.tys [d0, d1])) (doneE tt Tryd.f60.results.toList (con60.run [d0, d1]).rets)) =
  (((∃ (g : Nat), (((g ≤ (List.length d0.l)) ∧ ((idxTo d0.l d1.s g) < (0 : Int))) ∧ (((d0.l = d0.l) ∧ ((d1.s = d1.s) ∧ (((lenI d0.l) = (lenI d0.l)) ∧ (((0 : Int) = ((g : Nat) : Int)) ∧ True)))) ∧ (True ∧ True)))) ∧ (∀ (g : Nat), (((g ≤ (List.length d0.l)) ∧ ((idxTo d0.l d1.s g) < (0 : Int))) →
 ((((ilt ((g : Nat) : Int) (lenI d0.l)) = true) →
 ((((0 : Int) ≤ ((g : Nat) : Int)) ∧ (((g : Nat) : Int) < (lenI d0.l))) ∧ ((((seq' d1.s (D.s (elt d0.l ((g : Nat) : Int)))) = true) →
 (((g : Nat) : Int) = (idxZ d0.l d1.s))) ∧ (((seq' d1.s (D.s (elt d0.l ((g : Nat) : Int)))) = false) →
 (∃ (g' : Nat), (((g' ≤ (List.length d0.l)) ∧ ((idxTo d0.l d1.s g') < (0 : Int))) ∧ ((((List.length d0.l) - g') < ((List.length d0.l) - g)) ∧ (((d0.l = d0.l) ∧ ((d1.s = d1.s) ∧ (((lenI d0.l) = (lenI d0.l)) ∧ (((iadd IntKind.i64 ((g : Nat) : Int) (1 : Int)) = ((g' : Nat) : Int)) ∧ True)))) ∧ (True ∧ True))))))))) ∧ (((ilt ((g : Nat) : Int) (lenI d0.l)) = false) →
 ((-(1 : Int)) = (idxZ d0.l d1.s)))))))) := by kernel_rfl
theorem vc58 (d0 d1 : D) : (exec tt tb58 noInl noLp (bodyOf Tryd.f58) (initSt Tryd.f58.ntmps (svs con58.tys [d0, d1])) (doneE tt Tryd.f58.results.toList (con58.run [d0, d1]).rets)) =
  ((True ∧ ((ile (0 : Int) (idxZ d0.l d1.s)) = (Decidable.decide ((0 : Int) ≤ (idxZ d0.l d1.s)))))) := by kernel_rfl
theorem vc29 (d0 : D) : (exec tt tbN noInl lp29 (bodyOf Tryd.f29) (initSt Tryd.f29.ntmps (svs con29.tys [d0])) (doneE tt Tryd.f29.results.toList (con29.run [d0]).rets)) =
  (((∃ (g : Nat), (((g ≤ (List.length d0.l)) ∧ (∀ (j : Nat), ((j < g) →
 ((picI (imOf (elt d0.l ((j : Nat) : Int)))) = true)))) ∧ (((d0.l = d0.l) ∧ (((0 : Int) = ((g : Nat) : Int)) ∧ True)) ∧ (True ∧ True)))) ∧ (∀ (g : Nat), (((g ≤ (List.length d0.l)) ∧ (∀ (j : Nat), ((j < g) →
 ((picI (imOf (elt d0.l ((j : Nat) : Int)))) = true)))) →
 ((((ilt ((g : Nat) : Int) (lenI d0.l)) = true) →
 ((((0 : Int) ≤ ((g : Nat) : Int)) ∧ (((g : Nat) : Int) < (lenI d0.l))) ∧ ((((ilt (100 : Int) (lenS (D.s (D.fld (elt d0.l ((g : Nat) : Int)) 0)))) = true) →
 ((picZ (ims d0.l)) = false)) ∧ (((ilt (100 : Int) (lenS (D.s (D.fld (elt d0.l ((g : Nat) : Int)) 0)))) = false) →
 ((((0 : Int) ≤ ((g : Nat) : Int)) ∧ (((g : Nat) : Int) < (lenI d0.l))) ∧ ((((ilt (4 : Int) (lenI (D.l (D.fld (elt d0.l ((g : Nat) : Int)) 3)))) = true) →
 ((picZ (ims d0.l)) = false)) ∧ (((ilt (4 : Int) (lenI (D.l (D.fld (elt d0.l ((g : Nat) : Int)) 3)))) = false) →
 ((∃ (g_1 : Nat), (((g_1 ≤ (List.length (holdOf d0.l ((g : Nat) : Int)))) ∧ (∀ (j : Nat), ((j < g_1) →
 (((List.length (D.s (elt (holdOf d0.l ((g : Nat) : Int)) ((j : Nat) : Int)))) ≤ (100 : Nat)) ∧ ((D.s (elt (holdOf d0.l ((g : Nat) : Int)) ((j : Nat) : Int))) ≠ caseB))))) ∧ (((d0.l = d0.l) ∧ ((((g : Nat) : Int) = ((g : Nat) : Int)) ∧ (((0 : Int) = ((g_1 : Nat) : Int)) ∧ True))) ∧ (True ∧ True)))) ∧ (∀ (g_1 : Nat), (((g_1 ≤ (List.length (holdOf d0.l ((g : Nat) : Int)))) ∧ (∀ (j : Nat), ((j < g_1) →
 (((List.length (D.s (elt (holdOf d0.l ((g : Nat) : Int)) ((j : Nat) : Int)))) ≤ (100 : Nat)) ∧ ((D.s (elt (holdOf d0.l ((g : Nat) : Int)) ((j : Nat) : Int))) ≠ caseB))))) →
 ((((0 : Int) ≤ ((g : Nat) : Int)) ∧ (((g : Nat) : Int) < (lenI d0.l))) ∧ ((((ilt ((g_1 : Nat) : Int) (lenI (D.l (D.fld (elt d0.l ((g : Nat) : Int)) 3)))) = true) →
 ((((0 : Int) ≤ ((g : Nat) : Int)) ∧ (((g : Nat) : Int) < (lenI d0.l))) ∧ ((((0 : Int) ≤ ((g_1 : Nat) : Int)) ∧ (((g_1 : Nat) : Int) < (lenI (D.l (D.fld (elt d0.l ((g : Nat) : Int)) 3))))) ∧ ((((ilt (100 : Int) (lenS (D.s (elt (D.l (D.fld (elt d0.l ((g : Nat) : Int)) 3)) ((g_1 : Nat) : Int))))) = true) →
 ((picZ (ims d0.l)) = false)) ∧ (((ilt (100 : Int) (lenS (D.s (elt (D.l (D.fld (elt d0.l ((g : Nat) : Int)) 3)) ((g_1 : Nat) : Int))))) = false) →
 ((((0 : Int) ≤ ((g : Nat) : Int)) ∧ (((g : Nat) : Int) < (lenI d0.l))) ∧ ((((0 : Int) ≤ ((g_1 : Nat) : Int)) ∧ (((g_1 : Nat) : Int) < (lenI (D.l (D.fld (elt d0.l ((g : Nat) : Int)) 3))))) ∧ ((((seq' (D.s (elt (D.l (D.fld (elt d0.l ((g : Nat) : Int)) 3)) ((g_1 : Nat) : Int))) ((99 : UInt8) :: ((97 : UInt8) :: ((115 : UInt8) :: ((101 : UInt8) :: ([] : List (UInt8))))))) = true) →
 ((picZ (ims d0.l)) = false)) ∧ (((seq' (D.s (elt (D.l (D.fld (elt d0.l ((g : Nat) : Int)) 3)) ((g_1 : Nat) : Int))) ((99 : UInt8) :: ((97 : UInt8) :: ((115 : UInt8) :: ((101 : UInt8) :: ([] : List (UInt8))))))) = false) →
 (∃ (g' : Nat), (((g' ≤ (List.length (holdOf d0.l ((g : Nat) : Int)))) ∧ (∀ (j : Nat), ((j < g') →
 (((List.length (D.s (elt (holdOf d0.l ((g : Nat) : Int)) ((j : Nat) : Int)))) ≤ (100 : Nat)) ∧ ((D.s (elt (holdOf d0.l ((g : Nat) : Int)) ((j : Nat) : Int))) ≠ caseB))))) ∧ ((((List.length (holdOf d0.l ((g : Nat) : Int))) - g') < ((List.length (holdOf d0.l ((g : Nat) : Int))) - g_1)) ∧ (((d0.l = d0.l) ∧ ((((g : Nat) : Int) = ((g : Nat) : Int)) ∧ (((iadd IntKind.i64 ((g_1 : Nat) : Int) (1 : Int)) = ((g' : Nat) : Int)) ∧ True))) ∧ (True ∧ True)))))))))))))) ∧ (((ilt ((g_1 : Nat) : Int) (lenI (D.l (D.fld (elt d0.l ((g : Nat) : Int)) 3)))) = false) →
 (∃ (g' : Nat), (((g' ≤ (List.length d0.l)) ∧ (∀ (j : Nat), ((j < g') →
 ((picI (imOf (elt d0.l ((j : Nat) : Int)))) = true)))) ∧ ((((List.length d0.l) - g') < ((List.length d0.l) - g)) ∧ (((d0.l = d0.l) ∧ (((iadd IntKind.i64 ((g : Nat) : Int) (1 : Int)) = ((g' : Nat) : Int)) ∧ True)) ∧ (True ∧ True)))))))))))))))))) ∧ (((ilt ((g : Nat) : Int) (lenI d0.l)) = false) →
 ((ile (lenI d0.l) (10 : Int)) = (picZ (ims d0.l))))))))) := by kernel_rfl
theorem vc31 (d0 d1 d2 d3 : D) : (exec tt tb31 inl31 lp31 (bodyOf Tryd.f31) (initSt Tryd.f31.ntmps (svs con31.tys [d0, d1, d2, d3])) (doneE tt Tryd.f31.results.toList (con31.run [d0, d1, d2, d3]).rets)) =
  ((True ∧ ((((bnot (ieq (ckZ d0.l) (0 : Int))) = true) →
 (((Pur.k (purZ d0.l d1.l d2.l d3.i)) = ([] : List (D))) ∧ (((Pur.g (purZ d0.l d1.l d2.l d3.i)) = ([] : List (D))) ∧ ((ckZ d0.l) = (Pur.e (purZ d0.l d1.l d2.l d3.i)))))) ∧ (((bnot (ieq (ckZ d0.l) (0 : Int))) = false) →
 ((((bnot (ieq (lenI d2.l) (lenI d1.l))) = true) →
 (((Pur.k (purZ d0.l d1.l d2.l d3.i)) = ([] : List (D))) ∧ (((Pur.g (purZ d0.l d1.l d2.l d3.i)) = ([] : List (D))) ∧ ((1 : Int) = (Pur.e (purZ d0.l d1.l d2.l d3.i)))))) ∧ (((bnot (ieq (lenI d2.l) (lenI d1.l))) = false) →
 (True ∧ ((((bnot (timeZ d3.i)) = true) →
 (((Pur.k (purZ d0.l d1.l d2.l d3.i)) = ([] : List (D))) ∧ (((Pur.g (purZ d0.l d1.l d2.l d3.i)) = ([] : List (D))) ∧ ((12 : Int) = (Pur.e (purZ d0.l d1.l d2.l d3.i)))))) ∧ (((bnot (timeZ d3.i)) = false) →
 ((∃ (g : Nat), ((g ≤ (List.length d0.l)) ∧ ((True ∧ ((d0.l = d0.l) ∧ (((lenI d0.l) = (lenI d0.l)) ∧ (((0 : Int) = ((g : Nat) : Int)) ∧ True)))) ∧ (((([] : List (D)) = (rulTo d0.l g)) ∧ True) ∧ ((d1.l = d1.l) ∧ ((d2.l = d2.l) ∧ ((d3.i = d3.i) ∧ True))))))) ∧ (∀ (g : Nat), ((g ≤ (List.length d0.l)) →
 ((((ilt ((g : Nat) : Int) (lenI d0.l)) = true) →
 ((((0 : Int) ≤ ((g : Nat) : Int)) ∧ (((g : Nat) : Int) < (lenI d0.l))) ∧ (∃ (g' : Nat), ((g' ≤ (List.length d0.l)) ∧ ((((List.length d0.l) - g') < ((List.length d0.l) - g)) ∧ ((True ∧ ((d0.l = d0.l) ∧ (((lenI d0.l) = (lenI d0.l)) ∧ (((iadd IntKind.i64 ((g : Nat) : Int) (1 : Int)) = ((g' : Nat) : Int)) ∧ True)))) ∧ ((((mput (rulTo d0.l g) (D.i (D.fld (elt d0.l ((g : Nat) : Int)) 0)) (keD (elt d0.l ((g : Nat) : Int)))) = (rulTo d0.l g')) ∧ True) ∧ ((d1.l = d1.l) ∧ ((d2.l = d2.l) ∧ ((d3.i = d3.i) ∧ True)))))))))) ∧ (((ilt ((g : Nat) : Int) (lenI d0.l)) = false) →
 ((∃ (g_1 : Nat), (((g_1 ≤ (List.length d1.l)) ∧ ((errTo (purF (rulTo d0.l g) d1.l d2.l d3.i) g_1) = (0 : Int))) ∧ (((d2.l = d2.l) ∧ ((d3.i = d3.i) ∧ (True ∧ (True ∧ (True ∧ ((d1.l = d1.l) ∧ (((lenI d1.l) = (lenI d1.l)) ∧ (((0 : Int) = ((g_1 : Nat) : Int)) ∧ True)))))))) ∧ ((((rulTo d0.l g) = (rulTo d0.l g)) ∧ ((([] : List (D)) = (kepTo (rulTo d0.l g) d1.l d2.l d3.i g_1)) ∧ ((([] : List (D)) = (gonTo (rulTo d0.l g) d1.l d2.l d3.i g_1)) ∧ True))) ∧ True)))) ∧ (∀ (g_1 : Nat), (((g_1 ≤ (List.length d1.l)) ∧ ((errTo (purF (rulTo d0.l g) d1.l d2.l d3.i) g_1) = (0 : Int))) →
 ((((ilt ((g_1 : Nat) : Int) (lenI d1.l)) = true) →
 ((((0 : Int) ≤ ((g_1 : Nat) : Int)) ∧ (((g_1 : Nat) : Int) < (lenI d1.l))) ∧ ((((0 : Int) ≤ ((g_1 : Nat) : Int)) ∧ (((g_1 : Nat) : Int) < (lenI d2.l))) ∧ (True ∧ ((((ieq (untE (rulTo d0.l g) (imD (elt d1.l ((g_1 : Nat) : Int))) (D.i (elt d2.l ((g_1 : Nat) : Int)))) (32 : Int)) = true) →
 (((List.length (D.l (D.fld (elt d1.l ((g_1 : Nat) : Int)) 3))) ≤ (100000 : Nat)) ∧ (((((lenI (kepTo (rulTo d0.l g) d1.l d2.l d3.i g_1)) + (lenI ((imD (elt d1.l ((g_1 : Nat) : Int))) :: ([] : List (D))))) * (((64 : Nat) : Nat) : Int)) ≤ (140737488355328 : Int)) ∧ (∃ (g' : Nat), (((g' ≤ (List.length d1.l)) ∧ ((errTo (purF (rulTo d0.l g) d1.l d2.l d3.i) g') = (0 : Int))) ∧ ((((List.length d1.l) - g') < ((List.length d1.l) - g_1)) ∧ (((d2.l = d2.l) ∧ ((d3.i = d3.i) ∧ (True ∧ (True ∧ (True ∧ ((d1.l = d1.l) ∧ (((lenI d1.l) = (lenI d1.l)) ∧ (((iadd IntKind.i64 ((g_1 : Nat) : Int) (1 : Int)) = ((g' : Nat) : Int)) ∧ True)))))))) ∧ ((((rulTo d0.l g) = (rulTo d0.l g)) ∧ (((xcat (kepTo (rulTo d0.l g) d1.l d2.l d3.i g_1) ((imD (elt d1.l ((g_1 : Nat) : Int))) :: ([] : List (D)))) = (kepTo (rulTo d0.l g) d1.l d2.l d3.i g')) ∧ (((gonTo (rulTo d0.l g) d1.l d2.l d3.i g_1) = (gonTo (rulTo d0.l g) d1.l d2.l d3.i g')) ∧ True))) ∧ True)))))))) ∧ (((ieq (untE (rulTo d0.l g) (imD (elt d1.l ((g_1 : Nat) : Int))) (D.i (elt d2.l ((g_1 : Nat) : Int)))) (32 : Int)) = false) →
 ((((ieq (untE (rulTo d0.l g) (imD (elt d1.l ((g_1 : Nat) : Int))) (D.i (elt d2.l ((g_1 : Nat) : Int)))) (11 : Int)) = true) →
 (((List.length (D.l (D.fld (elt d1.l ((g_1 : Nat) : Int)) 3))) ≤ (100000 : Nat)) ∧ (((((lenI (kepTo (rulTo d0.l g) d1.l d2.l d3.i g_1)) + (lenI ((imD (elt d1.l ((g_1 : Nat) : Int))) :: ([] : List (D))))) * (((64 : Nat) : Nat) : Int)) ≤ (140737488355328 : Int)) ∧ (∃ (g' : Nat), (((g' ≤ (List.length d1.l)) ∧ ((errTo (purF (rulTo d0.l g) d1.l d2.l d3.i) g') = (0 : Int))) ∧ ((((List.length d1.l) - g') < ((List.length d1.l) - g_1)) ∧ (((d2.l = d2.l) ∧ ((d3.i = d3.i) ∧ (True ∧ (True ∧ (True ∧ ((d1.l = d1.l) ∧ (((lenI d1.l) = (lenI d1.l)) ∧ (((iadd IntKind.i64 ((g_1 : Nat) : Int) (1 : Int)) = ((g' : Nat) : Int)) ∧ True)))))))) ∧ ((((rulTo d0.l g) = (rulTo d0.l g)) ∧ (((xcat (kepTo (rulTo d0.l g) d1.l d2.l d3.i g_1) ((imD (elt d1.l ((g_1 : Nat) : Int))) :: ([] : List (D)))) = (kepTo (rulTo d0.l g) d1.l d2.l d3.i g')) ∧ (((gonTo (rulTo d0.l g) d1.l d2.l d3.i g_1) = (gonTo (rulTo d0.l g) d1.l d2.l d3.i g')) ∧ True))) ∧ True)))))))) ∧ (((ieq (untE (rulTo d0.l g) (imD (elt d1.l ((g_1 : Nat) : Int))) (D.i (elt d2.l ((g_1 : Nat) : Int)))) (11 : Int)) = false) →
 ((((ieq (untE (rulTo d0.l g) (imD (elt d1.l ((g_1 : Nat) : Int))) (D.i (elt d2.l ((g_1 : Nat) : Int)))) (0 : Int)) = true) →
 ((((ilt d3.i (untD (rulTo d0.l g) (imD (elt d1.l ((g_1 : Nat) : Int))) (D.i (elt d2.l ((g_1 : Nat) : Int))))) = true) →
 (((List.length (D.l (D.fld (elt d1.l ((g_1 : Nat) : Int)) 3))) ≤ (100000 : Nat)) ∧ (((((lenI (kepTo (rulTo d0.l g) d1.l d2.l d3.i g_1)) + (lenI ((imD (elt d1.l ((g_1 : Nat) : Int))) :: ([] : List (D))))) * (((64 : Nat) : Nat) : Int)) ≤ (140737488355328 : Int)) ∧ (∃ (g' : Nat), (((g' ≤ (List.length d1.l)) ∧ ((errTo (purF (rulTo d0.l g) d1.l d2.l d3.i) g') = (0 : Int))) ∧ ((((List.length d1.l) - g') < ((List.length d1.l) - g_1)) ∧ (((d2.l = d2.l) ∧ ((d3.i = d3.i) ∧ (True ∧ (True ∧ (True ∧ ((d1.l = d1.l) ∧ (((lenI d1.l) = (lenI d1.l)) ∧ (((iadd IntKind.i64 ((g_1 : Nat) : Int) (1 : Int)) = ((g' : Nat) : Int)) ∧ True)))))))) ∧ ((((rulTo d0.l g) = (rulTo d0.l g)) ∧ (((xcat (kepTo (rulTo d0.l g) d1.l d2.l d3.i g_1) ((imD (elt d1.l ((g_1 : Nat) : Int))) :: ([] : List (D)))) = (kepTo (rulTo d0.l g) d1.l d2.l d3.i g')) ∧ (((gonTo (rulTo d0.l g) d1.l d2.l d3.i g_1) = (gonTo (rulTo d0.l g) d1.l d2.l d3.i g')) ∧ True))) ∧ True)))))))) ∧ (((ilt d3.i (untD (rulTo d0.l g) (imD (elt d1.l ((g_1 : Nat) : Int))) (D.i (elt d2.l ((g_1 : Nat) : Int))))) = false) →
 ((((ieq (untE (rulTo d0.l g) (imD (elt d1.l ((g_1 : Nat) : Int))) (D.i (elt d2.l ((g_1 : Nat) : Int)))) (0 : Int)) = true) →
 (((((lenI (gonTo (rulTo d0.l g) d1.l d2.l d3.i g_1)) + (lenI ((D.str (D.s (D.fld (elt d1.l ((g_1 : Nat) : Int)) 0))) :: ([] : List (D))))) * (((16 : Nat) : Nat) : Int)) ≤ (140737488355328 : Int)) ∧ (∃ (g' : Nat), (((g' ≤ (List.length d1.l)) ∧ ((errTo (purF (rulTo d0.l g) d1.l d2.l d3.i) g') = (0 : Int))) ∧ ((((List.length d1.l) - g') < ((List.length d1.l) - g_1)) ∧ (((d2.l = d2.l) ∧ ((d3.i = d3.i) ∧ (True ∧ (True ∧ (True ∧ ((d1.l = d1.l) ∧ (((lenI d1.l) = (lenI d1.l)) ∧ (((iadd IntKind.i64 ((g_1 : Nat) : Int) (1 : Int)) = ((g' : Nat) : Int)) ∧ True)))))))) ∧ ((((rulTo d0.l g) = (rulTo d0.l g)) ∧ (((kepTo (rulTo d0.l g) d1.l d2.l d3.i g_1) = (kepTo (rulTo d0.l g) d1.l d2.l d3.i g')) ∧ (((xcat (gonTo (rulTo d0.l g) d1.l d2.l d3.i g_1) ((D.str (D.s (D.fld (elt d1.l ((g_1 : Nat) : Int)) 0))) :: ([] : List (D)))) = (gonTo (rulTo d0.l g) d1.l d2.l d3.i g')) ∧ True))) ∧ True))))))) ∧ (((ieq (untE (rulTo d0.l g) (imD (elt d1.l ((g_1 : Nat) : Int))) (D.i (elt d2.l ((g_1 : Nat) : Int)))) (0 : Int)) = false) →
 (((Pur.k (purZ d0.l d1.l d2.l d3.i)) = ([] : List (D))) ∧ (((Pur.g (purZ d0.l d1.l d2.l d3.i)) = ([] : List (D))) ∧ ((untE (rulTo d0.l g) (imD (elt d1.l ((g_1 : Nat) : Int))) (D.i (elt d2.l ((g_1 : Nat) : Int)))) = (Pur.e (purZ d0.l d1.l d2.l d3.i)))))))))) ∧ (((ieq (untE (rulTo d0.l g) (imD (elt d1.l ((g_1 : Nat) : Int))) (D.i (elt d2.l ((g_1 : Nat) : Int)))) (0 : Int)) = false) →
 ((((ieq (untE (rulTo d0.l g) (imD (elt d1.l ((g_1 : Nat) : Int))) (D.i (elt d2.l ((g_1 : Nat) : Int)))) (0 : Int)) = true) →
 (((((lenI (gonTo (rulTo d0.l g) d1.l d2.l d3.i g_1)) + (lenI ((D.str (D.s (D.fld (elt d1.l ((g_1 : Nat) : Int)) 0))) :: ([] : List (D))))) * (((16 : Nat) : Nat) : Int)) ≤ (140737488355328 : Int)) ∧ (∃ (g' : Nat), (((g' ≤ (List.length d1.l)) ∧ ((errTo (purF (rulTo d0.l g) d1.l d2.l d3.i) g') = (0 : Int))) ∧ ((((List.length d1.l) - g') < ((List.length d1.l) - g_1)) ∧ (((d2.l = d2.l) ∧ ((d3.i = d3.i) ∧ (True ∧ (True ∧ (True ∧ ((d1.l = d1.l) ∧ (((lenI d1.l) = (lenI d1.l)) ∧ (((iadd IntKind.i64 ((g_1 : Nat) : Int) (1 : Int)) = ((g' : Nat) : Int)) ∧ True)))))))) ∧ ((((rulTo d0.l g) = (rulTo d0.l g)) ∧ (((kepTo (rulTo d0.l g) d1.l d2.l d3.i g_1) = (kepTo (rulTo d0.l g) d1.l d2.l d3.i g')) ∧ (((xcat (gonTo (rulTo d0.l g) d1.l d2.l d3.i g_1) ((D.str (D.s (D.fld (elt d1.l ((g_1 : Nat) : Int)) 0))) :: ([] : List (D)))) = (gonTo (rulTo d0.l g) d1.l d2.l d3.i g')) ∧ True))) ∧ True))))))) ∧ (((ieq (untE (rulTo d0.l g) (imD (elt d1.l ((g_1 : Nat) : Int))) (D.i (elt d2.l ((g_1 : Nat) : Int)))) (0 : Int)) = false) →
 (((Pur.k (purZ d0.l d1.l d2.l d3.i)) = ([] : List (D))) ∧ (((Pur.g (purZ d0.l d1.l d2.l d3.i)) = ([] : List (D))) ∧ ((untE (rulTo d0.l g) (imD (elt d1.l ((g_1 : Nat) : Int))) (D.i (elt d2.l ((g_1 : Nat) : Int)))) = (Pur.e (purZ d0.l d1.l d2.l d3.i))))))))))))))))) ∧ (((ilt ((g_1 : Nat) : Int) (lenI d1.l)) = false) →
 (((kepTo (rulTo d0.l g) d1.l d2.l d3.i g_1) = (Pur.k (purZ d0.l d1.l d2.l d3.i))) ∧ (((gonTo (rulTo d0.l g) d1.l d2.l d3.i g_1) = (Pur.g (purZ d0.l d1.l d2.l d3.i))) ∧ ((0 : Int) = (Pur.e (purZ d0.l d1.l d2.l d3.i)))))))))))))))))))))))) := by kernel_rfl
theorem vc10 (d0 d1 d2 d3 : D) : (exec tt tb10 noInl lp10 (bodyOf Tryd.f10) (initSt Tryd.f10.ntmps (svs con10.tys [d0, d1, d2, d3])) (doneE tt Tryd.f10.results.toList (con10.run [d0, d1, d2, d3]).rets)) =
  (((((ilt (8 : Int) (lenI d0.l)) = true) →
 (True ∧ True)) ∧ (((ilt (8 : Int) (lenI d0.l)) = false) →
 (True ∧ ((((bnot (picZ (ims d1.l))) = true) →
 (True ∧ True)) ∧ (((bnot (picZ (ims d1.l))) = false) →
 ((smL (ims d1.l)) ∧ ((fit d1.l) ∧ ((((bnot (ieq (PkE.e (bldZ ((118 : UInt8) :: ((49 : UInt8) :: ([] : List (UInt8)))) d1.l)) (0 : Int))) = true) →
 (True ∧ True)) ∧ (((bnot (ieq (PkE.e (bldZ ((118 : UInt8) :: ((49 : UInt8) :: ([] : List (UInt8)))) d1.l)) (0 : Int))) = false) →
 ((((bnot (ieq (Pur.e (purZ d0.l d1.l d2.l d3.i)) (0 : Int))) = true) →
 (True ∧ True)) ∧ (((bnot (ieq (Pur.e (purZ d0.l d1.l d2.l d3.i)) (0 : Int))) = false) →
 ((∃ (g : Nat), ((g ≤ (List.length d1.l)) ∧ (((d0.l = d0.l) ∧ ((d1.l = d1.l) ∧ ((d2.l = d2.l) ∧ ((d3.i = d3.i) ∧ (((Pur.k (purZ d0.l d1.l d2.l d3.i)) = (Pur.k (purZ d0.l d1.l d2.l d3.i))) ∧ (((Pur.g (purZ d0.l d1.l d2.l d3.i)) = (Pur.g (purZ d0.l d1.l d2.l d3.i))) ∧ ((d1.l = (heldTo d1.l g)) ∧ (((0 : Int) = ((g : Nat) : Int)) ∧ True)))))))) ∧ (True ∧ True)))) ∧ (∀ (g : Nat), ((g ≤ (List.length d1.l)) →
 ((((ilt ((g : Nat) : Int) (lenI d1.l)) = true) →
 ((((0 : Int) ≤ ((g : Nat) : Int)) ∧ (((g : Nat) : Int) < (lenI d1.l))) ∧ (((fit (heldTo d1.l g)) ∧ (((99 : UInt8) :: ((97 : UInt8) :: ((115 : UInt8) :: ((101 : UInt8) :: ([] : List (UInt8)))))) = caseB)) ∧ ((((bnot (ieq (hdE (heldTo d1.l g) (D.s (D.fld (elt d1.l ((g : Nat) : Int)) 0)) ((99 : UInt8) :: ((97 : UInt8) :: ((115 : UInt8) :: ((101 : UInt8) :: ([] : List (UInt8))))))) (0 : Int))) = true) →
 False) ∧ (((bnot (ieq (hdE (heldTo d1.l g) (D.s (D.fld (elt d1.l ((g : Nat) : Int)) 0)) ((99 : UInt8) :: ((97 : UInt8) :: ((115 : UInt8) :: ((101 : UInt8) :: ([] : List (UInt8))))))) (0 : Int))) = false) →
 (∃ (g' : Nat), ((g' ≤ (List.length d1.l)) ∧ ((((List.length d1.l) - g') < ((List.length d1.l) - g)) ∧ (((d0.l = d0.l) ∧ ((d1.l = d1.l) ∧ ((d2.l = d2.l) ∧ ((d3.i = d3.i) ∧ (((Pur.k (purZ d0.l d1.l d2.l d3.i)) = (Pur.k (purZ d0.l d1.l d2.l d3.i))) ∧ (((Pur.g (purZ d0.l d1.l d2.l d3.i)) = (Pur.g (purZ d0.l d1.l d2.l d3.i))) ∧ (((hdL (heldTo d1.l g) (D.s (D.fld (elt d1.l ((g : Nat) : Int)) 0)) ((99 : UInt8) :: ((97 : UInt8) :: ((115 : UInt8) :: ((101 : UInt8) :: ([] : List (UInt8))))))) = (heldTo d1.l g')) ∧ (((iadd IntKind.i64 ((g : Nat) : Int) (1 : Int)) = ((g' : Nat) : Int)) ∧ True)))))))) ∧ (True ∧ True)))))))))) ∧ (((ilt ((g : Nat) : Int) (lenI d1.l)) = false) →
 ((smL (ims (heldTo d1.l g))) ∧ ((fit (heldTo d1.l g)) ∧ ((((bnot (ieq (PkE.e (bldZ ((118 : UInt8) :: ((49 : UInt8) :: ([] : List (UInt8)))) (heldTo d1.l g))) (0 : Int))) = true) →
 False) ∧ (((bnot (ieq (PkE.e (bldZ ((118 : UInt8) :: ((49 : UInt8) :: ([] : List (UInt8)))) (heldTo d1.l g))) (0 : Int))) = false) →
 ((((bnot (ieq (Pur.e (purZ d0.l (heldTo d1.l g) d2.l d3.i)) (0 : Int))) = true) →
 False) ∧ (((bnot (ieq (Pur.e (purZ d0.l (heldTo d1.l g) d2.l d3.i)) (0 : Int))) = false) →
 ((smL (ims (PkE.im (bldZ ((118 : UInt8) :: ((49 : UInt8) :: ([] : List (UInt8)))) (heldTo d1.l g))))) ∧ ((((bnot (verZ (PkE.c (bldZ ((118 : UInt8) :: ((49 : UInt8) :: ([] : List (UInt8)))) (heldTo d1.l g))) (ims (PkE.im (bldZ ((118 : UInt8) :: ((49 : UInt8) :: ([] : List (UInt8)))) (heldTo d1.l g)))) (PkE.ch (bldZ ((118 : UInt8) :: ((49 : UInt8) :: ([] : List (UInt8)))) (heldTo d1.l g))))) = true) →
 False) ∧ (((bnot (verZ (PkE.c (bldZ ((118 : UInt8) :: ((49 : UInt8) :: ([] : List (UInt8)))) (heldTo d1.l g))) (ims (PkE.im (bldZ ((118 : UInt8) :: ((49 : UInt8) :: ([] : List (UInt8)))) (heldTo d1.l g)))) (PkE.ch (bldZ ((118 : UInt8) :: ((49 : UInt8) :: ([] : List (UInt8)))) (heldTo d1.l g))))) = false) →
 ((((bnot (ieq (lenI (Pur.g (purZ d0.l (heldTo d1.l g) d2.l d3.i))) (0 : Int))) = true) →
 False) ∧ (((bnot (ieq (lenI (Pur.g (purZ d0.l (heldTo d1.l g) d2.l d3.i))) (0 : Int))) = false) →
 ((((bnot (ieq (lenI (Pur.k (purZ d0.l (heldTo d1.l g) d2.l d3.i))) (lenI d1.l))) = true) →
 False) ∧ (((bnot (ieq (lenI (Pur.k (purZ d0.l (heldTo d1.l g) d2.l d3.i))) (lenI d1.l))) = false) →
 ((∃ (g_1 : Nat), ((g_1 ≤ (List.length d1.l)) ∧ (((d0.l = d0.l) ∧ ((d1.l = d1.l) ∧ ((d2.l = d2.l) ∧ ((d3.i = d3.i) ∧ (((Pur.k (purZ d0.l d1.l d2.l d3.i)) = (Pur.k (purZ d0.l d1.l d2.l d3.i))) ∧ (((Pur.g (purZ d0.l d1.l d2.l d3.i)) = (Pur.g (purZ d0.l d1.l d2.l d3.i))) ∧ (((heldTo d1.l g) = (freeTo d1.l g_1)) ∧ (((0 : Int) = ((g_1 : Nat) : Int)) ∧ True)))))))) ∧ (True ∧ True)))) ∧ (∀ (g_1 : Nat), ((g_1 ≤ (List.length d1.l)) →
 ((((ilt ((g_1 : Nat) : Int) (lenI d1.l)) = true) →
 ((((0 : Int) ≤ ((g_1 : Nat) : Int)) ∧ (((g_1 : Nat) : Int) < (lenI d1.l))) ∧ (((fit (freeTo d1.l g_1)) ∧ (((reE (freeTo d1.l g_1) (D.s (D.fld (elt d1.l ((g_1 : Nat) : Int)) 0)) ((99 : UInt8) :: ((97 : UInt8) :: ((115 : UInt8) :: ((101 : UInt8) :: ([] : List (UInt8))))))) = (0 : Int)) →
 (((idxZ (D.l (D.fld (elt (freeTo d1.l g_1) (fdZ (freeTo d1.l g_1) (D.s (D.fld (elt d1.l ((g_1 : Nat) : Int)) 0)))) 3)) ((99 : UInt8) :: ((97 : UInt8) :: ((115 : UInt8) :: ((101 : UInt8) :: ([] : List (UInt8))))))) + (1 : Int)) = (((List.length (D.l (D.fld (elt (freeTo d1.l g_1) (fdZ (freeTo d1.l g_1) (D.s (D.fld (elt d1.l ((g_1 : Nat) : Int)) 0)))) 3))) : Nat) : Int)))) ∧ ((((bnot (ieq (reE (freeTo d1.l g_1) (D.s (D.fld (elt d1.l ((g_1 : Nat) : Int)) 0)) ((99 : UInt8) :: ((97 : UInt8) :: ((115 : UInt8) :: ((101 : UInt8) :: ([] : List (UInt8))))))) (0 : Int))) = true) →
 False) ∧ (((bnot (ieq (reE (freeTo d1.l g_1) (D.s (D.fld (elt d1.l ((g_1 : Nat) : Int)) 0)) ((99 : UInt8) :: ((97 : UInt8) :: ((115 : UInt8) :: ((101 : UInt8) :: ([] : List (UInt8))))))) (0 : Int))) = false) →
 (∃ (g' : Nat), ((g' ≤ (List.length d1.l)) ∧ ((((List.length d1.l) - g') < ((List.length d1.l) - g_1)) ∧ (((d0.l = d0.l) ∧ ((d1.l = d1.l) ∧ ((d2.l = d2.l) ∧ ((d3.i = d3.i) ∧ (((Pur.k (purZ d0.l d1.l d2.l d3.i)) = (Pur.k (purZ d0.l d1.l d2.l d3.i))) ∧ (((Pur.g (purZ d0.l d1.l d2.l d3.i)) = (Pur.g (purZ d0.l d1.l d2.l d3.i))) ∧ (((reL (freeTo d1.l g_1) (D.s (D.fld (elt d1.l ((g_1 : Nat) : Int)) 0)) ((99 : UInt8) :: ((97 : UInt8) :: ((115 : UInt8) :: ((101 : UInt8) :: ([] : List (UInt8))))))) = (freeTo d1.l g')) ∧ (((iadd IntKind.i64 ((g_1 : Nat) : Int) (1 : Int)) = ((g' : Nat) : Int)) ∧ True)))))))) ∧ (True ∧ True)))))))))) ∧ (((ilt ((g_1 : Nat) : Int) (lenI d1.l)) = false) →
 ((fit (freeTo d1.l g_1)) ∧ ((((bnot (ieq (Pur.e (purZ d0.l (freeTo d1.l g_1) d2.l d3.i)) (0 : Int))) = true) →
 False) ∧ (((bnot (ieq (Pur.e (purZ d0.l (freeTo d1.l g_1) d2.l d3.i)) (0 : Int))) = false) →
 ((((bnot (ieq (lenI (Pur.k (purZ d0.l (freeTo d1.l g_1) d2.l d3.i))) (lenI (Pur.k (purZ d0.l d1.l d2.l d3.i))))) = true) →
 False) ∧ (((bnot (ieq (lenI (Pur.k (purZ d0.l (freeTo d1.l g_1) d2.l d3.i))) (lenI (Pur.k (purZ d0.l d1.l d2.l d3.i))))) = false) →
 ((((bnot (ieq (lenI (Pur.g (purZ d0.l (freeTo d1.l g_1) d2.l d3.i))) (lenI (Pur.g (purZ d0.l d1.l d2.l d3.i))))) = true) →
 False) ∧ (((bnot (ieq (lenI (Pur.g (purZ d0.l (freeTo d1.l g_1) d2.l d3.i))) (lenI (Pur.g (purZ d0.l d1.l d2.l d3.i))))) = false) →
 ((∃ (g_2 : Nat), ((g_2 ≤ (List.length (Pur.k (purZ d0.l d1.l d2.l d3.i)))) ∧ ((((Pur.k (purZ d0.l d1.l d2.l d3.i)) = (Pur.k (purZ d0.l d1.l d2.l d3.i))) ∧ (((Pur.g (purZ d0.l d1.l d2.l d3.i)) = (Pur.g (purZ d0.l d1.l d2.l d3.i))) ∧ (((Pur.k (purZ d0.l (freeTo d1.l g_1) d2.l d3.i)) = (Pur.k (purZ d0.l (freeTo d1.l g_1) d2.l d3.i))) ∧ (((Pur.g (purZ d0.l (freeTo d1.l g_1) d2.l d3.i)) = (Pur.g (purZ d0.l (freeTo d1.l g_1) d2.l d3.i))) ∧ (((0 : Int) = ((g_2 : Nat) : Int)) ∧ True))))) ∧ (True ∧ True)))) ∧ (∀ (g_2 : Nat), ((g_2 ≤ (List.length (Pur.k (purZ d0.l d1.l d2.l d3.i)))) →
 ((((ilt ((g_2 : Nat) : Int) (lenI (Pur.k (purZ d0.l d1.l d2.l d3.i)))) = true) →
 ((((0 : Int) ≤ ((g_2 : Nat) : Int)) ∧ (((g_2 : Nat) : Int) < (lenI (Pur.k (purZ d0.l (freeTo d1.l g_1) d2.l d3.i))))) ∧ ((((0 : Int) ≤ ((g_2 : Nat) : Int)) ∧ (((g_2 : Nat) : Int) < (lenI (Pur.k (purZ d0.l d1.l d2.l d3.i))))) ∧ ((((bnot (seq' (D.s (D.fld (elt (Pur.k (purZ d0.l (freeTo d1.l g_1) d2.l d3.i)) ((g_2 : Nat) : Int)) 0)) (D.s (D.fld (elt (Pur.k (purZ d0.l d1.l d2.l d3.i)) ((g_2 : Nat) : Int)) 0)))) = true) →
 False) ∧ (((bnot (seq' (D.s (D.fld (elt (Pur.k (purZ d0.l (freeTo d1.l g_1) d2.l d3.i)) ((g_2 : Nat) : Int)) 0)) (D.s (D.fld (elt (Pur.k (purZ d0.l d1.l d2.l d3.i)) ((g_2 : Nat) : Int)) 0)))) = false) →
 (∃ (g' : Nat), ((g' ≤ (List.length (Pur.k (purZ d0.l d1.l d2.l d3.i)))) ∧ ((((List.length (Pur.k (purZ d0.l d1.l d2.l d3.i))) - g') < ((List.length (Pur.k (purZ d0.l d1.l d2.l d3.i))) - g_2)) ∧ ((((Pur.k (purZ d0.l d1.l d2.l d3.i)) = (Pur.k (purZ d0.l d1.l d2.l d3.i))) ∧ (((Pur.g (purZ d0.l d1.l d2.l d3.i)) = (Pur.g (purZ d0.l d1.l d2.l d3.i))) ∧ (((Pur.k (purZ d0.l (freeTo d1.l g_1) d2.l d3.i)) = (Pur.k (purZ d0.l (freeTo d1.l g_1) d2.l d3.i))) ∧ (((Pur.g (purZ d0.l (freeTo d1.l g_1) d2.l d3.i)) = (Pur.g (purZ d0.l (freeTo d1.l g_1) d2.l d3.i))) ∧ (((iadd IntKind.i64 ((g_2 : Nat) : Int) (1 : Int)) = ((g' : Nat) : Int)) ∧ True))))) ∧ (True ∧ True)))))))))) ∧ (((ilt ((g_2 : Nat) : Int) (lenI (Pur.k (purZ d0.l d1.l d2.l d3.i)))) = false) →
 ((∃ (g_3 : Nat), ((g_3 ≤ (List.length (Pur.g (purZ d0.l d1.l d2.l d3.i)))) ∧ ((((Pur.g (purZ d0.l d1.l d2.l d3.i)) = (Pur.g (purZ d0.l d1.l d2.l d3.i))) ∧ (((Pur.g (purZ d0.l (freeTo d1.l g_1) d2.l d3.i)) = (Pur.g (purZ d0.l (freeTo d1.l g_1) d2.l d3.i))) ∧ (((0 : Int) = ((g_3 : Nat) : Int)) ∧ True))) ∧ (True ∧ True)))) ∧ (∀ (g_3 : Nat), ((g_3 ≤ (List.length (Pur.g (purZ d0.l d1.l d2.l d3.i)))) →
 ((((ilt ((g_3 : Nat) : Int) (lenI (Pur.g (purZ d0.l d1.l d2.l d3.i)))) = true) →
 ((((0 : Int) ≤ ((g_3 : Nat) : Int)) ∧ (((g_3 : Nat) : Int) < (lenI (Pur.g (purZ d0.l (freeTo d1.l g_1) d2.l d3.i))))) ∧ ((((0 : Int) ≤ ((g_3 : Nat) : Int)) ∧ (((g_3 : Nat) : Int) < (lenI (Pur.g (purZ d0.l d1.l d2.l d3.i))))) ∧ ((((bnot (seq' (D.s (elt (Pur.g (purZ d0.l (freeTo d1.l g_1) d2.l d3.i)) ((g_3 : Nat) : Int))) (D.s (elt (Pur.g (purZ d0.l d1.l d2.l d3.i)) ((g_3 : Nat) : Int))))) = true) →
 False) ∧ (((bnot (seq' (D.s (elt (Pur.g (purZ d0.l (freeTo d1.l g_1) d2.l d3.i)) ((g_3 : Nat) : Int))) (D.s (elt (Pur.g (purZ d0.l d1.l d2.l d3.i)) ((g_3 : Nat) : Int))))) = false) →
 (∃ (g' : Nat), ((g' ≤ (List.length (Pur.g (purZ d0.l d1.l d2.l d3.i)))) ∧ ((((List.length (Pur.g (purZ d0.l d1.l d2.l d3.i))) - g') < ((List.length (Pur.g (purZ d0.l d1.l d2.l d3.i))) - g_3)) ∧ ((((Pur.g (purZ d0.l d1.l d2.l d3.i)) = (Pur.g (purZ d0.l d1.l d2.l d3.i))) ∧ (((Pur.g (purZ d0.l (freeTo d1.l g_1) d2.l d3.i)) = (Pur.g (purZ d0.l (freeTo d1.l g_1) d2.l d3.i))) ∧ (((iadd IntKind.i64 ((g_3 : Nat) : Int) (1 : Int)) = ((g' : Nat) : Int)) ∧ True))) ∧ (True ∧ True)))))))))) ∧ (((ilt ((g_3 : Nat) : Int) (lenI (Pur.g (purZ d0.l d1.l d2.l d3.i)))) = false) →
 (True ∧ True))))))))))))))))))))))))))))))))))))))))))))))))))))) := by kernel_rfl
theorem vc30 : (exec tt tb30 noInl noLp (bodyOf Tryd.f30) (initSt Tryd.f30.ntmps (svs con30.tys [])) (doneE tt Tryd.f30.results.toList (con30.run []).rets)) =
  (((fit ((D.agg ((D.str ((97 : UInt8) :: ([] : List (UInt8)))) :: ((D.int (5 : Int)) :: ((D.int (1 : Int)) :: ((D.list ([] : List (D))) :: ((D.int (0 : Int)) :: ([] : List (D)))))))) :: ([] : List (D)))) ∧ (((fit ((D.agg ((D.str ((97 : UInt8) :: ([] : List (UInt8)))) :: ((D.int (5 : Int)) :: ((D.int (1 : Int)) :: ((D.list ([] : List (D))) :: ((D.int (0 : Int)) :: ([] : List (D)))))))) :: ([] : List (D)))) ∧ (((99 : UInt8) :: ((97 : UInt8) :: ((115 : UInt8) :: ((101 : UInt8) :: ([] : List (UInt8)))))) = caseB)) ∧ ((fit (hdL ((D.agg ((D.str ((97 : UInt8) :: ([] : List (UInt8)))) :: ((D.int (5 : Int)) :: ((D.int (1 : Int)) :: ((D.list ([] : List (D))) :: ((D.int (0 : Int)) :: ([] : List (D)))))))) :: ([] : List (D))) ((97 : UInt8) :: ([] : List (UInt8))) ((99 : UInt8) :: ((97 : UInt8) :: ((115 : UInt8) :: ((101 : UInt8) :: ([] : List (UInt8)))))))) ∧ ((smL (ims (hdL ((D.agg ((D.str ((97 : UInt8) :: ([] : List (UInt8)))) :: ((D.int (5 : Int)) :: ((D.int (1 : Int)) :: ((D.list ([] : List (D))) :: ((D.int (0 : Int)) :: ([] : List (D)))))))) :: ([] : List (D))) ((97 : UInt8) :: ([] : List (UInt8))) ((99 : UInt8) :: ((97 : UInt8) :: ((115 : UInt8) :: ((101 : UInt8) :: ([] : List (UInt8))))))))) ∧ (((true = true) →
 (((true = true) →
 (((true = true) →
 (((true = true) →
 (((true = true) →
 (((true = true) →
 (((true = true) →
 (((true = true) →
 ((smL (ims (PkE.im (bldZ ((118 : UInt8) :: ((49 : UInt8) :: ([] : List (UInt8)))) (hdL ((D.agg ((D.str ((97 : UInt8) :: ([] : List (UInt8)))) :: ((D.int (5 : Int)) :: ((D.int (1 : Int)) :: ((D.list ([] : List (D))) :: ((D.int (0 : Int)) :: ([] : List (D)))))))) :: ([] : List (D))) ((97 : UInt8) :: ([] : List (UInt8))) ((99 : UInt8) :: ((97 : UInt8) :: ((115 : UInt8) :: ((101 : UInt8) :: ([] : List (UInt8))))))))))) ∧ (true = true))) ∧ ((true = false) →
 False))) ∧ ((true = false) →
 False))) ∧ ((true = false) →
 False))) ∧ ((true = false) →
 False))) ∧ ((true = false) →
 False))) ∧ ((true = false) →
 False))) ∧ ((true = false) →
 False))) ∧ ((true = false) →
 False))))))) := by kernel_rfl
theorem vc32 (d0 d1 d2 : D) : (execC tt tb32 noInl cut32 (bodyOf Tryd.f32) (doneE tt Tryd.f32.results.toList (con32.run [d0, d1, d2]).rets) (kc32 [d0, d1, d2]) (initSt Tryd.f32.ntmps (svs con32.tys [d0, d1, d2]))) =
  (((d2.s = caseB) ∧ (True ∧ ((((ilt (fdZ d0.l d1.s) (0 : Int)) = true) →
 ((d0.l = (hdL d0.l d1.s d2.s)) ∧ ((10 : Int) = (hdE d0.l d1.s d2.s)))) ∧ (((ilt (fdZ d0.l d1.s) (0 : Int)) = false) →
 ((((0 : Int) ≤ (fdZ d0.l d1.s)) ∧ ((fdZ d0.l d1.s) < (lenI d0.l))) ∧ (True ∧ ((((Decidable.decide ((0 : Int) ≤ (idxZ (D.l (D.fld (elt d0.l (fdZ d0.l d1.s)) 3)) d2.s))) = true) →
 ((d0.l = (hdL d0.l d1.s d2.s)) ∧ ((9 : Int) = (hdE d0.l d1.s d2.s)))) ∧ (((Decidable.decide ((0 : Int) ≤ (idxZ (D.l (D.fld (elt d0.l (fdZ d0.l d1.s)) 3)) d2.s))) = false) →
 ((((0 : Int) ≤ (fdZ d0.l d1.s)) ∧ ((fdZ d0.l d1.s) < (lenI d0.l))) ∧ ((((ile (16 : Int) (lenI (D.l (D.fld (elt d0.l (fdZ d0.l d1.s)) 3)))) = true) →
 ((d0.l = (hdL d0.l d1.s d2.s)) ∧ ((3 : Int) = (hdE d0.l d1.s d2.s)))) ∧ (((ile (16 : Int) (lenI (D.l (D.fld (elt d0.l (fdZ d0.l d1.s)) 3)))) = false) →
 (((d0.l = d0.l) ∧ ((d2.s = d2.s) ∧ ((fdZ d0.l d1.s) = (fdZ d0.l d1.s)))) ∧ ((hdE d0.l d1.s d2.s) = (0 : Int))))))))))))))) := by kernel_rfl
theorem vc33 (d0 d1 d2 : D) : (execC tt tb33 noInl cut33 (bodyOf Tryd.f33) (doneE tt Tryd.f33.results.toList (con33.run [d0, d1, d2]).rets) (kc33 [d0, d1, d2]) (initSt Tryd.f33.ntmps (svs con33.tys [d0, d1, d2]))) =
  ((True ∧ ((((ilt (fdZ d0.l d1.s) (0 : Int)) = true) →
 ((d0.l = (reL d0.l d1.s d2.s)) ∧ ((10 : Int) = (reE d0.l d1.s d2.s)))) ∧ (((ilt (fdZ d0.l d1.s) (0 : Int)) = false) →
 ((((0 : Int) ≤ (fdZ d0.l d1.s)) ∧ ((fdZ d0.l d1.s) < (lenI d0.l))) ∧ (True ∧ ((((ilt (idxZ (D.l (D.fld (elt d0.l (fdZ d0.l d1.s)) 3)) d2.s) (0 : Int)) = true) →
 ((d0.l = (reL d0.l d1.s d2.s)) ∧ ((10 : Int) = (reE d0.l d1.s d2.s)))) ∧ (((ilt (idxZ (D.l (D.fld (elt d0.l (fdZ d0.l d1.s)) 3)) d2.s) (0 : Int)) = false) →
 (((d0.l = d0.l) ∧ (((fdZ d0.l d1.s) = (fdZ d0.l d1.s)) ∧ ((idxZ (D.l (D.fld (elt d0.l (fdZ d0.l d1.s)) 3)) d2.s) = (idxZ (holdOf d0.l (fdZ d0.l d1.s)) d2.s)))) ∧ ((reE d0.l d1.s d2.s) = (0 : Int))))))))))) := by kernel_rfl
end Go.Proofs.YtafpahkcjdfpiaaDoor
