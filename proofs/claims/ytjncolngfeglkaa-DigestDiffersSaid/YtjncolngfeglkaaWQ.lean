/- Part of the proof of the laws of this seat: contracts of its functions, for every input. -/
import Derived.Test.YtjncolngfeglkaaWP
set_option linter.all false
namespace Go.Proofs.Ytjncolngfeglkaa
open Go Go.RX Go.Proofs
set_option maxRecDepth 100000
set_option linter.all false
theorem vc34 (d0 : D) : (exec tt tb34 noInl lp34 (bodyOf Try.f34) (initSt Try.f34.ntmps (svs con34.tys [d0])) (doneE tt Try.f34.results.toList (con34.run [d0]).rets)) =
  (((((lenI ((D.list d0.l) :: ([] : List (D)))) * (((24 : Nat) : Nat) : Int)) ≤ (140737488355328 : Int)) ∧ ((∃ (g : Nat), ((g ≤ (hgt d0.l)) ∧ (((d0.l = d0.l) ∧ (True ∧ ((d0.l = (levN d0.l g)) ∧ True))) ∧ (((((D.list d0.l) :: ([] : List (D))) = (mkL (g + 1) (fun (k : Nat) => (D.list (levN d0.l k))))) ∧ True) ∧ True)))) ∧ (∀ (g : Nat), ((g ≤ (hgt d0.l)) →
 ((((ilt (1 : Int) (lenI (levN d0.l g))) = true) →
 (((List.length (levN d0.l g)) ≤ (1000000 : Nat)) ∧ (((((lenI (mkL (g + 1) (fun (k : Nat) => (D.list (levN d0.l k))))) + (lenI ((D.list (upZ (levN d0.l g))) :: ([] : List (D))))) * (((24 : Nat) : Nat) : Int)) ≤ (140737488355328 : Int)) ∧ (∃ (g' : Nat), ((g' ≤ (hgt d0.l)) ∧ ((((hgt d0.l) - g') < ((hgt d0.l) - g)) ∧ (((d0.l = d0.l) ∧ (True ∧ (((upZ (levN d0.l g)) = (levN d0.l g')) ∧ True))) ∧ ((((xcat (mkL (g + 1) (fun (k : Nat) => (D.list (levN d0.l k)))) ((D.list (upZ (levN d0.l g))) :: ([] : List (D)))) = (mkL (g' + 1) (fun (k : Nat) => (D.list (levN d0.l k))))) ∧ True) ∧ True)))))))) ∧ (((ilt (1 : Int) (lenI (levN d0.l g))) = false) →
 ((mkL (g + 1) (fun (k : Nat) => (D.list (levN d0.l k)))) = (levs d0.l))))))))) := by kernel_rfl
theorem vc24 (d0 d1 : D) : (execL tt tb24 noInl lp24 cutl24 (bodyOf Try.f24) (doneE tt Try.f24.results.toList (con24.run [d0, d1]).rets) (kc24 [d0, d1]) (initSt Try.f24.ntmps (svs con24.tys [d0, d1]))) =
  (((((bnot (ieq (lenI d0.l) (lenI d1.l))) = true) →
 ((∃ (g : Nat), ((g ≤ (Max.max (List.length d0.l) (List.length d1.l))) ∧ (((d0.l = d0.l) ∧ ((d1.l = d1.l) ∧ (True ∧ (((0 : Int) = ((g : Nat) : Int)) ∧ True)))) ∧ (((([] : List (D)) = (mkL g (fun (j : Nat) => (D.int ((j : Nat) : Int))))) ∧ True) ∧ True)))) ∧ (∀ (g : Nat), ((g ≤ (Max.max (List.length d0.l) (List.length d1.l))) →
 ((((ilt ((g : Nat) : Int) (imax (lenI d0.l) (lenI d1.l))) = true) →
 (((((lenI (mkL g (fun (j : Nat) => (D.int ((j : Nat) : Int))))) + (lenI ((D.int ((g : Nat) : Int)) :: ([] : List (D))))) * (((8 : Nat) : Nat) : Int)) ≤ (140737488355328 : Int)) ∧ (∃ (g' : Nat), ((g' ≤ (Max.max (List.length d0.l) (List.length d1.l))) ∧ ((((Max.max (List.length d0.l) (List.length d1.l)) - g') < ((Max.max (List.length d0.l) (List.length d1.l)) - g)) ∧ (((d0.l = d0.l) ∧ ((d1.l = d1.l) ∧ (True ∧ (((iadd IntKind.i64 ((g : Nat) : Int) (1 : Int)) = ((g' : Nat) : Int)) ∧ True)))) ∧ ((((xcat (mkL g (fun (j : Nat) => (D.int ((j : Nat) : Int)))) ((D.int ((g : Nat) : Int)) :: ([] : List (D)))) = (mkL g' (fun (j : Nat) => (D.int ((j : Nat) : Int))))) ∧ True) ∧ True))))))) ∧ (((ilt ((g : Nat) : Int) (imax (lenI d0.l) (lenI d1.l))) = false) →
 (((mkL g (fun (j : Nat) => (D.int ((j : Nat) : Int)))) = (DR.l (difZ d0.l d1.l))) ∧ ((0 : Int) = (DR.c (difZ d0.l d1.l)))))))))) ∧ (((bnot (ieq (lenI d0.l) (lenI d1.l))) = false) →
 ((((ieq (lenI d0.l) (0 : Int)) = true) →
 (((DR.l (difZ d0.l d1.l)) = ([] : List (D))) ∧ ((0 : Int) = (DR.c (difZ d0.l d1.l))))) ∧ (((ieq (lenI d0.l) (0 : Int)) = false) →
 (((d0.l = d0.l) ∧ (d1.l = d1.l)) ∧ (((List.length d0.l) = (List.length d1.l)) ∧ (1 ≤ (List.length d0.l))))))))) := by kernel_rfl
end Go.Proofs.Ytjncolngfeglkaa
