/- Part of the proof of the laws of this seat: contracts of its functions, for every input. -/
import Derived.Test.YtgbhkndbfigieaaWG
set_option linter.all false
namespace Go.Proofs.Ytgbhkndbfigieaa
open Go Go.RX Go.Proofs
set_option maxRecDepth 100000
theorem vc28 (d0 d1 : D) : (exec tt tb28 lp28 (bodyOf Try.f28) (initSt Try.f28.ntmps (svs con28.tys [d0, d1])) (doneE tt Try.f28.results.toList (con28.run [d0, d1]).rets)) =
  ((True ∧ ((((Go.RX.bnot (Go.Proofs.Ytgbhkndbfigieaa.fitsZ (Go.RX.D.i d0))) = Bool.true) →
 (((0 : Int) = (Prod.fst (Go.Proofs.Ytgbhkndbfigieaa.addZ (Go.RX.D.i d0) (Go.RX.D.i d1)))) ∧ ((13 : Int) = (Prod.snd (Go.Proofs.Ytgbhkndbfigieaa.addZ (Go.RX.D.i d0) (Go.RX.D.i d1)))))) ∧ (((Go.RX.bnot (Go.Proofs.Ytgbhkndbfigieaa.fitsZ (Go.RX.D.i d0))) = Bool.false) →
 (True ∧ ((((Go.RX.bnot (Go.Proofs.Ytgbhkndbfigieaa.fitsZ (Go.RX.D.i d1))) = Bool.true) →
 (((0 : Int) = (Prod.fst (Go.Proofs.Ytgbhkndbfigieaa.addZ (Go.RX.D.i d0) (Go.RX.D.i d1)))) ∧ ((13 : Int) = (Prod.snd (Go.Proofs.Ytgbhkndbfigieaa.addZ (Go.RX.D.i d0) (Go.RX.D.i d1)))))) ∧ (((Go.RX.bnot (Go.Proofs.Ytgbhkndbfigieaa.fitsZ (Go.RX.D.i d1))) = Bool.false) →
 (True ∧ (True ∧ ((((Go.RX.bnot (Go.Proofs.Ytgbhkndbfigieaa.fitsZ (Go.Proofs.Ytgbhkndbfigieaa.sumTo ((Go.RX.D.int (Go.RX.D.i d0)) :: ((Go.RX.D.int (Go.RX.D.i d1)) :: ([] : List (D)))) (List.length ((Go.RX.D.int (Go.RX.D.i d0)) :: ((Go.RX.D.int (Go.RX.D.i d1)) :: ([] : List (D)))))))) = Bool.true) →
 (((0 : Int) = (Prod.fst (Go.Proofs.Ytgbhkndbfigieaa.addZ (Go.RX.D.i d0) (Go.RX.D.i d1)))) ∧ ((13 : Int) = (Prod.snd (Go.Proofs.Ytgbhkndbfigieaa.addZ (Go.RX.D.i d0) (Go.RX.D.i d1)))))) ∧ (((Go.RX.bnot (Go.Proofs.Ytgbhkndbfigieaa.fitsZ (Go.Proofs.Ytgbhkndbfigieaa.sumTo ((Go.RX.D.int (Go.RX.D.i d0)) :: ((Go.RX.D.int (Go.RX.D.i d1)) :: ([] : List (D)))) (List.length ((Go.RX.D.int (Go.RX.D.i d0)) :: ((Go.RX.D.int (Go.RX.D.i d1)) :: ([] : List (D)))))))) = Bool.false) →
 (True ∧ (((Go.Proofs.Ytgbhkndbfigieaa.sumTo ((Go.RX.D.int (Go.RX.D.i d0)) :: ((Go.RX.D.int (Go.RX.D.i d1)) :: ([] : List (D)))) (List.length ((Go.RX.D.int (Go.RX.D.i d0)) :: ((Go.RX.D.int (Go.RX.D.i d1)) :: ([] : List (D)))))) = (Prod.fst (Go.Proofs.Ytgbhkndbfigieaa.addZ (Go.RX.D.i d0) (Go.RX.D.i d1)))) ∧ ((0 : Int) = (Prod.snd (Go.Proofs.Ytgbhkndbfigieaa.addZ (Go.RX.D.i d0) (Go.RX.D.i d1))))))))))))))))) := by kernel_rfl
end Go.Proofs.Ytgbhkndbfigieaa
