/- Part of the proof of the laws of this seat: contracts of its functions, for every input. -/
import Derived.Test.YtjncolngfeglkaaWU
set_option linter.all false
namespace Go.Proofs.Ytjncolngfeglkaa
open Go Go.RX Go.Proofs
set_option maxRecDepth 100000
set_option linter.all false
theorem vc6 (d0 d1 : D) : (exec tt tb6 noInl noLp (bodyOf Try.f6) (initSt Try.f6.ntmps (svs con6.tys [d0, d1])) (doneE tt Try.f6.results.toList (con6.run [d0, d1]).rets)) =
  (((((ilt (100 : Int) (lenI d0.l)) = true) →
 True) ∧ (((ilt (100 : Int) (lenI d0.l)) = false) →
 ((((ilt (100 : Int) (lenI d1.l)) = true) →
 True) ∧ (((ilt (100 : Int) (lenI d1.l)) = false) →
 ((((List.length d0.l) ≤ (100000 : Nat)) ∧ ((List.length d1.l) ≤ (100000 : Nat))) ∧ ((((List.length d0.l) ≤ (1000 : Nat)) ∧ ((List.length d1.l) ≤ (1000 : Nat))) ∧ (True ∧ ((((sameZ (DR.l (difZ d0.l d1.l)) (DR.l (difZ d0.l d1.l))) = true) →
 ((((ieq (DR.c (difZ d0.l d1.l)) (DR.c (difZ d0.l d1.l))) = true) →
 (True ∧ True)) ∧ (((ieq (DR.c (difZ d0.l d1.l)) (DR.c (difZ d0.l d1.l))) = false) →
 False))) ∧ (((sameZ (DR.l (difZ d0.l d1.l)) (DR.l (difZ d0.l d1.l))) = false) →
 False)))))))))) := by kernel_rfl
end Go.Proofs.Ytjncolngfeglkaa
