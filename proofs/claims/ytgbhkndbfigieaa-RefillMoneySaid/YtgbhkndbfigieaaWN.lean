/- Part of the proof of the laws of this seat: contracts of its functions, for every input. -/
import Derived.Test.YtgbhkndbfigieaaWM
set_option linter.all false
namespace Go.Proofs.Ytgbhkndbfigieaa
open Go Go.RX Go.Proofs
set_option maxRecDepth 100000
theorem vc13 : (exec tt tb13 noLp (bodyOf Try.f13) (initSt Try.f13.ntmps (svs con13.tys [])) (doneE tt Try.f13.results.toList (con13.run []).rets)) =
  ((True ∧ (True ∧ (True ∧ (True ∧ (True ∧ (((false = true) →
 False) ∧ ((false = false) →
 (((false = true) →
 False) ∧ ((false = false) →
 (((false = true) →
 False) ∧ ((false = false) →
 (((false = true) →
 False) ∧ ((false = false) →
 (((false = true) →
 False) ∧ ((false = false) →
 (((false = true) →
 False) ∧ ((false = false) →
 (((false = true) →
 False) ∧ ((false = false) →
 (((false = true) →
 False) ∧ ((false = false) →
 (((false = true) →
 False) ∧ ((false = false) →
 (((false = true) →
 False) ∧ ((false = false) →
 (((false = true) →
 False) ∧ ((false = false) →
 (True ∧ (True ∧ (((true = true) →
 (((true = true) →
 (True ∧ (((true = true) →
 (True ∧ (((true = true) →
 (((true = true) →
 (True ∧ (true = true))) ∧ ((true = false) →
 False))) ∧ ((true = false) →
 False)))) ∧ ((true = false) →
 False)))) ∧ ((true = false) →
 False))) ∧ ((true = false) →
 False)))))))))))))))))))))))))))))))) := by kernel_rfl
end Go.Proofs.Ytgbhkndbfigieaa
