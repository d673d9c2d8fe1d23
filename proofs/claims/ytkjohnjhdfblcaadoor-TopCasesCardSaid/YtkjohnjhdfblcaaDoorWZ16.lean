/- Part of the proof of the laws of this seat: contracts of its functions, for every input. -/
import Derived.Test.YtkjohnjhdfblcaaDoorWAE
import Derived.Test.YtkjohnjhdfblcaaDoorWZ0
import Derived.Test.YtkjohnjhdfblcaaDoorTie
import Derived.Test.YtkjohnjhdfblcaaDoorCards
import Derived.ProofKit
import Derived.OpenShut
import Derived.LaidMore
import Derived.Lay
import Derived.SevenTiedAt
import Derived.Stop.Joined
set_option linter.all false
namespace Go.Proofs.YtkjohnjhdfblcaaDoor
open Go Go.RX Go.ChangeShapes Go.WideShapes Go.ChangeAt Go.RowKit
set_option maxRecDepth 100000 in
theorem topCases_lifted (os : Os) (started : os.Started) (H : Type) (enc : TypeId × Value → H) :
    ReturnsInHanded {} Tryd.checked os 16 .any (fun w args => (Rows.topCasesSpec.pre enc Tryd.prog Tryd.f16 Rows.topCasesRow.domain false w args ∧ laidMetH Tryd.prog Rows.topCasesRow.laid w) ∧ sizedMet enc Tryd.prog Tryd.f16 (OpenSpec.ofChange Rows.topCasesSpec) false w args) (Rows.topCasesSpec.post enc Tryd.prog Tryd.f16 false true false false) := by
  refine handed_and_shaped (C := Tryd.checked) (X := fun w _ => laidMetH Tryd.prog Rows.topCasesRow.laid w) (fun _ _ _ hh h => h.of_heap hh) Try.own started (by kernel_rfl) Tryd.func16
    (ChangeSpec.witness_shaped (enc := enc) (C := Tryd.checked) (os := os) (X := fun w _ => laidMetH Tryd.prog Rows.topCasesRow.laid w) false (World.laidAll Tryd.prog os Rows.topCasesRow.laid) #[.agg #[.slice none 0 0, .slice none 0 0, .int .i64 0], .slice none 0 0, .int .u16 0, .slice none 0 0] 8 (World.laidAll_os _ _ _)
      (World.shaped_of_ZipB (by kernel_rfl) (by kernel_rfl)) (by kernel_rfl) (by kernel_rfl) (by kernel_rfl)
      (by rw [MakeChecks.laidMetH_plain _ _ _ (by kernel_rfl)]; exact laidMet_laidAll _ (by kernel_rfl) (by kernel_rfl))) ?_
  intro W base args ds gs before hval0 hW hsh
  exact law_row tt_ok c16 Try.laidOut rfl (by kernel_rfl) (by kernel_rfl) (tb := 4) (by kernel_rfl) Tryd.underlying4 (fun ds h => match ds, h with | [d0, d1, d2, d3], _ => rfl) hval0 hsh hW
theorem topCases_said : Rows.TopCasesSaid :=
  OpenClaim.holds_of_wide 16 Tryd.f16 rfl rfl rfl rfl rfl rfl rfl ⟨rfl, rfl, rfl, rfl, rfl⟩ rfl rfl rfl rfl rfl (by kernel_rfl) Tryd.func16 (by kernel_rfl)
    (of_decide_eq_true (by kernel_rfl)) (by unfold Func.isWrapper; first | (rw [if_pos (by decide +kernel)]; kernel_rfl) | (rw [if_neg (by decide +kernel)]; exact ⟨rfl, rfl⟩))
    (fun os started H enc _ => topCases_lifted os started H enc)
theorem topCases_holds : Rows.TopCasesCardSaid :=
  Claim7.holds_tied_plain_at .later [] [.data, .pinned] true (true, "77120d331608b0cb9f42f5965c4d956c6f81642ae8517a29629ca3d3e090b02d") false topCases_said (fun _ h => by cases h) (by kernel_rfl) (fun _ h => by cases h) topCases_row_tie rfl ⟨rfl, rfl⟩ (by kernel_rfl) rfl
    (fun f fn hf hfn => by
      obtain rfl : f = 16 := Option.some.inj ((show Tryd.prog.funcNamed "tollway/tollwaytop.TopCases" = some 16 by kernel_rfl).symm.trans hf) |>.symm
      obtain rfl : fn = Tryd.f16 := (Option.some.inj (Tryd.func16.symm.trans hfn)).symm
      exact ⟨by kernel_rfl, fun j t ht => by
        rw [Tryd.params16] at ht
        have hm : t ∈ [24, 22, 68, 71] := by simpa using Array.mem_of_getElem? ht
        have hall : ([24, 22, 68, 71].all fun u => !Tryd.prog.wantsStandIn u) = true := by kernel_rfl
        exact (show Tryd.prog.wantsStandIn t = false by simpa using List.all_eq_true.1 hall t hm)⟩)
    (by kernel_rfl)
end Go.Proofs.YtkjohnjhdfblcaaDoor
