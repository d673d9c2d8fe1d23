/-
  DERIVED. GIVEN WITH THE SEED: THE CARDS: each row of YtafpahkcjdfpiaaDoorRows.lean that lists a variable, with what it lists TIED to the program's text (the seventh form; the later family's looks); each row that meets fmt, with fmt's text TOLD by the authors' own Lean function (tested against real Go, not proved from fmt's source: count such statements apart). THE CARD IS WHAT COUNTS. Prove the row's statement (the work); the ties are given (YtafpahkcjdfpiaaDoorTie.lean); close each card by the builder's one call (the guide's Derived/Test/ToyasCard.lean, 'card_holds'). Laid BY PROGRAM, IN A SANDBOX (cutbox-door.mjs). By AI agents, Wed Nov 11 2026. No macro, syntax, notation, axiom, sorry.
-/
import Derived.Test.YtafpahkcjdfpiaaDoorRows
import GoSem.ClaimSeven
namespace Go.Proofs.YtafpahkcjdfpiaaDoor
namespace Rows

/-- THE TIED CARD OF 'tollwaylaw41.EvidenceDigests'. -/
def evidenceDigestsCard : Claim7 := { stood := { row := evidenceDigestsRow, standIns := [], harness := (true, "5b01c2c7ad8dd93a3de8a27f6289e8e6b116e9d755653d2231e1a83bd17c3ea9"), looks := false }, kinds := [], alts := [], laidByText := true, laidKinds := [.data, .pinned], laidTests := true, laidLooks := .later }
def EvidenceDigestsCardSaid : Prop := Claim7.holds Tryd.pinned (.plain (OpenSpec.ofChange evidenceDigestsSpec)) evidenceDigestsCard

/-- THE TIED CARD OF 'tollwaylaw41.EvidenceBuilds'. -/
def evidenceBuildsCard : Claim7 := { stood := { row := evidenceBuildsRow, standIns := [], harness := (true, "5b01c2c7ad8dd93a3de8a27f6289e8e6b116e9d755653d2231e1a83bd17c3ea9"), looks := false }, kinds := [], alts := [], laidByText := true, laidKinds := [.data, .pinned], laidTests := true, laidLooks := .later }
def EvidenceBuildsCardSaid : Prop := Claim7.holds Tryd.pinned (.plain (OpenSpec.ofChange evidenceBuildsSpec)) evidenceBuildsCard

/-- THE TIED CARD OF 'tollwaylaw41.EvidenceAdds'. -/
def evidenceAddsCard : Claim7 := { stood := { row := evidenceAddsRow, standIns := [], harness := (true, "5b01c2c7ad8dd93a3de8a27f6289e8e6b116e9d755653d2231e1a83bd17c3ea9"), looks := false }, kinds := [], alts := [], laidByText := true, laidKinds := [.data, .pinned], laidTests := true, laidLooks := .later }
def EvidenceAddsCardSaid : Prop := Claim7.holds Tryd.pinned (.plain (OpenSpec.ofChange evidenceAddsSpec)) evidenceAddsCard

/-- THE TIED CARD OF 'tollwaylaw41.EvidenceFirst'. -/
def evidenceFirstCard : Claim7 := { stood := { row := evidenceFirstRow, standIns := [], harness := (true, "5b01c2c7ad8dd93a3de8a27f6289e8e6b116e9d755653d2231e1a83bd17c3ea9"), looks := false }, kinds := [], alts := [], laidByText := true, laidKinds := [.data, .pinned], laidTests := true, laidLooks := .later }
def EvidenceFirstCardSaid : Prop := Claim7.holds Tryd.pinned (.plain (OpenSpec.ofChange evidenceFirstSpec)) evidenceFirstCard

/-- THE TIED CARD OF 'tollwaylaw41.EvidenceSteps'. -/
def evidenceStepsCard : Claim7 := { stood := { row := evidenceStepsRow, standIns := [], harness := (true, "5b01c2c7ad8dd93a3de8a27f6289e8e6b116e9d755653d2231e1a83bd17c3ea9"), looks := false }, kinds := [], alts := [], laidByText := true, laidKinds := [.data, .pinned], laidTests := true, laidLooks := .later }
def EvidenceStepsCardSaid : Prop := Claim7.holds Tryd.pinned (.plain (OpenSpec.ofChange evidenceStepsSpec)) evidenceStepsCard

/-- THE TIED CARD OF 'tollwaylaw41.EvidenceReveals'. -/
def evidenceRevealsCard : Claim7 := { stood := { row := evidenceRevealsRow, standIns := [], harness := (true, "5b01c2c7ad8dd93a3de8a27f6289e8e6b116e9d755653d2231e1a83bd17c3ea9"), looks := false }, kinds := [], alts := [], laidByText := true, laidKinds := [.data, .pinned], laidTests := true, laidLooks := .later }
def EvidenceRevealsCardSaid : Prop := Claim7.holds Tryd.pinned (.plain (OpenSpec.ofChange evidenceRevealsSpec)) evidenceRevealsCard

/-- THE TIED CARD OF 'tollwaylaw41.EvidenceAgree'. -/
def evidenceAgreeCard : Claim7 := { stood := { row := evidenceAgreeRow, standIns := [], harness := (true, "5b01c2c7ad8dd93a3de8a27f6289e8e6b116e9d755653d2231e1a83bd17c3ea9"), looks := false }, kinds := [], alts := [], laidByText := true, laidKinds := [.data, .pinned], laidTests := true, laidLooks := .later }
def EvidenceAgreeCardSaid : Prop := Claim7.holds Tryd.pinned (.plain (OpenSpec.ofChange evidenceAgreeSpec)) evidenceAgreeCard

/-- THE TIED CARD OF 'tollwaytop.TopImages'. -/
def topImagesCard : Claim7 := { stood := { row := topImagesRow, standIns := [], harness := (true, "5b01c2c7ad8dd93a3de8a27f6289e8e6b116e9d755653d2231e1a83bd17c3ea9"), looks := false }, kinds := [], alts := [], laidByText := true, laidKinds := [.data, .pinned], laidTests := true, laidLooks := .later }
def TopImagesCardSaid : Prop := Claim7.holds Tryd.pinned (.plain (OpenSpec.ofChange topImagesSpec)) topImagesCard

/-- THE SECOND FORM's CARD OF 'tollwaylaw41.EvidenceDigests'. -/
def evidenceDigestsUptoCard : Claim7 := { stood := { row := evidenceDigestsUptoRow, standIns := [], harness := (true, "5b01c2c7ad8dd93a3de8a27f6289e8e6b116e9d755653d2231e1a83bd17c3ea9"), looks := false }, kinds := [], alts := [], laidByText := true, laidKinds := [.data, .pinned], laidTests := true, laidLooks := .later }
def EvidenceDigestsUptoCardSaid : Prop := Claim7.holds Tryd.pinned (.plain (OpenSpec.upto evidenceDigestsSpec)) evidenceDigestsUptoCard

/-- THE SECOND FORM's CARD OF 'tollwaylaw41.EvidenceBuilds'. -/
def evidenceBuildsUptoCard : Claim7 := { stood := { row := evidenceBuildsUptoRow, standIns := [], harness := (true, "5b01c2c7ad8dd93a3de8a27f6289e8e6b116e9d755653d2231e1a83bd17c3ea9"), looks := false }, kinds := [], alts := [], laidByText := true, laidKinds := [.data, .pinned], laidTests := true, laidLooks := .later }
def EvidenceBuildsUptoCardSaid : Prop := Claim7.holds Tryd.pinned (.plain (OpenSpec.upto evidenceBuildsSpec)) evidenceBuildsUptoCard

/-- THE SECOND FORM's CARD OF 'tollwaylaw41.EvidenceAdds'. -/
def evidenceAddsUptoCard : Claim7 := { stood := { row := evidenceAddsUptoRow, standIns := [], harness := (true, "5b01c2c7ad8dd93a3de8a27f6289e8e6b116e9d755653d2231e1a83bd17c3ea9"), looks := false }, kinds := [], alts := [], laidByText := true, laidKinds := [.data, .pinned], laidTests := true, laidLooks := .later }
def EvidenceAddsUptoCardSaid : Prop := Claim7.holds Tryd.pinned (.plain (OpenSpec.upto evidenceAddsSpec)) evidenceAddsUptoCard

/-- THE SECOND FORM's CARD OF 'tollwaylaw41.EvidenceFirst'. -/
def evidenceFirstUptoCard : Claim7 := { stood := { row := evidenceFirstUptoRow, standIns := [], harness := (true, "5b01c2c7ad8dd93a3de8a27f6289e8e6b116e9d755653d2231e1a83bd17c3ea9"), looks := false }, kinds := [], alts := [], laidByText := true, laidKinds := [.data, .pinned], laidTests := true, laidLooks := .later }
def EvidenceFirstUptoCardSaid : Prop := Claim7.holds Tryd.pinned (.plain (OpenSpec.upto evidenceFirstSpec)) evidenceFirstUptoCard

/-- THE SECOND FORM's CARD OF 'tollwaylaw41.EvidenceSteps'. -/
def evidenceStepsUptoCard : Claim7 := { stood := { row := evidenceStepsUptoRow, standIns := [], harness := (true, "5b01c2c7ad8dd93a3de8a27f6289e8e6b116e9d755653d2231e1a83bd17c3ea9"), looks := false }, kinds := [], alts := [], laidByText := true, laidKinds := [.data, .pinned], laidTests := true, laidLooks := .later }
def EvidenceStepsUptoCardSaid : Prop := Claim7.holds Tryd.pinned (.plain (OpenSpec.upto evidenceStepsSpec)) evidenceStepsUptoCard

/-- THE SECOND FORM's CARD OF 'tollwaylaw41.EvidenceReveals'. -/
def evidenceRevealsUptoCard : Claim7 := { stood := { row := evidenceRevealsUptoRow, standIns := [], harness := (true, "5b01c2c7ad8dd93a3de8a27f6289e8e6b116e9d755653d2231e1a83bd17c3ea9"), looks := false }, kinds := [], alts := [], laidByText := true, laidKinds := [.data, .pinned], laidTests := true, laidLooks := .later }
def EvidenceRevealsUptoCardSaid : Prop := Claim7.holds Tryd.pinned (.plain (OpenSpec.upto evidenceRevealsSpec)) evidenceRevealsUptoCard

/-- THE SECOND FORM's CARD OF 'tollwaylaw41.EvidenceAgree'. -/
def evidenceAgreeUptoCard : Claim7 := { stood := { row := evidenceAgreeUptoRow, standIns := [], harness := (true, "5b01c2c7ad8dd93a3de8a27f6289e8e6b116e9d755653d2231e1a83bd17c3ea9"), looks := false }, kinds := [], alts := [], laidByText := true, laidKinds := [.data, .pinned], laidTests := true, laidLooks := .later }
def EvidenceAgreeUptoCardSaid : Prop := Claim7.holds Tryd.pinned (.plain (OpenSpec.upto evidenceAgreeSpec)) evidenceAgreeUptoCard

/-- THE SECOND FORM's CARD OF 'tollwaytop.TopImages'. -/
def topImagesUptoCard : Claim7 := { stood := { row := topImagesUptoRow, standIns := [], harness := (true, "5b01c2c7ad8dd93a3de8a27f6289e8e6b116e9d755653d2231e1a83bd17c3ea9"), looks := false }, kinds := [], alts := [], laidByText := true, laidKinds := [.data, .pinned], laidTests := true, laidLooks := .later }
def TopImagesUptoCardSaid : Prop := Claim7.holds Tryd.pinned (.plain (OpenSpec.upto topImagesSpec)) topImagesUptoCard
end Rows
end Go.Proofs.YtafpahkcjdfpiaaDoor
