/-
  DERIVED. GIVEN WITH THE SEED: THE CARDS: each row of YtkjohnjhdfblcaaDoorRows.lean that lists a variable, with what it lists TIED to the program's text (the seventh form; the later family's looks); each row that meets fmt, with fmt's text TOLD by the authors' own Lean function (tested against real Go, not proved from fmt's source: count such statements apart). THE CARD IS WHAT COUNTS. Prove the row's statement (the work); the ties are given (YtkjohnjhdfblcaaDoorTie.lean); close each card by the builder's one call (the guide's Derived/Test/ToyasCard.lean, 'card_holds'). Laid BY PROGRAM, IN A SANDBOX (cutbox-door.mjs). By AI agents, Wed Nov 11 2026. No macro, syntax, notation, axiom, sorry.
-/
import Derived.Test.YtkjohnjhdfblcaaDoorRows
import GoSem.ClaimSeven
namespace Go.Proofs.YtkjohnjhdfblcaaDoor
namespace Rows

/-- THE TIED CARD OF 'tollwaylaw38.NoticeChecks'. -/
def noticeChecksCard : Claim7 := { stood := { row := noticeChecksRow, standIns := [], harness := (true, "77120d331608b0cb9f42f5965c4d956c6f81642ae8517a29629ca3d3e090b02d"), looks := false }, kinds := [], alts := [], laidByText := true, laidKinds := [.data, .pinned], laidTests := true, laidLooks := .later }
def NoticeChecksCardSaid : Prop := Claim7.holds Tryd.pinned (.plain (OpenSpec.ofChange noticeChecksSpec)) noticeChecksCard

/-- THE TIED CARD OF 'tollwaylaw38.NoticeNew'. -/
def noticeNewCard : Claim7 := { stood := { row := noticeNewRow, standIns := [], harness := (true, "77120d331608b0cb9f42f5965c4d956c6f81642ae8517a29629ca3d3e090b02d"), looks := false }, kinds := [], alts := [], laidByText := true, laidKinds := [.data, .pinned], laidTests := true, laidLooks := .later }
def NoticeNewCardSaid : Prop := Claim7.holds Tryd.pinned (.plain (OpenSpec.ofChange noticeNewSpec)) noticeNewCard

/-- THE TIED CARD OF 'tollwaylaw38.NoticeAdvances'. -/
def noticeAdvancesCard : Claim7 := { stood := { row := noticeAdvancesRow, standIns := [], harness := (true, "77120d331608b0cb9f42f5965c4d956c6f81642ae8517a29629ca3d3e090b02d"), looks := false }, kinds := [], alts := [], laidByText := true, laidKinds := [.data, .pinned], laidTests := true, laidLooks := .later }
def NoticeAdvancesCardSaid : Prop := Claim7.holds Tryd.pinned (.plain (OpenSpec.ofChange noticeAdvancesSpec)) noticeAdvancesCard

/-- THE TIED CARD OF 'tollwaylaw38.NoticePays'. -/
def noticePaysCard : Claim7 := { stood := { row := noticePaysRow, standIns := [], harness := (true, "77120d331608b0cb9f42f5965c4d956c6f81642ae8517a29629ca3d3e090b02d"), looks := false }, kinds := [], alts := [], laidByText := true, laidKinds := [.data, .pinned], laidTests := true, laidLooks := .later }
def NoticePaysCardSaid : Prop := Claim7.holds Tryd.pinned (.plain (OpenSpec.ofChange noticePaysSpec)) noticePaysCard

/-- THE TIED CARD OF 'tollwaylaw38.NoticeTwice'. -/
def noticeTwiceCard : Claim7 := { stood := { row := noticeTwiceRow, standIns := [], harness := (true, "77120d331608b0cb9f42f5965c4d956c6f81642ae8517a29629ca3d3e090b02d"), looks := false }, kinds := [], alts := [], laidByText := true, laidKinds := [.data, .pinned], laidTests := true, laidLooks := .later }
def NoticeTwiceCardSaid : Prop := Claim7.holds Tryd.pinned (.plain (OpenSpec.ofChange noticeTwiceSpec)) noticeTwiceCard

/-- THE TIED CARD OF 'tollwaylaw38.NoticeStages'. -/
def noticeStagesCard : Claim7 := { stood := { row := noticeStagesRow, standIns := [], harness := (true, "77120d331608b0cb9f42f5965c4d956c6f81642ae8517a29629ca3d3e090b02d"), looks := false }, kinds := [], alts := [], laidByText := true, laidKinds := [.data, .pinned], laidTests := true, laidLooks := .later }
def NoticeStagesCardSaid : Prop := Claim7.holds Tryd.pinned (.plain (OpenSpec.ofChange noticeStagesSpec)) noticeStagesCard

/-- THE TIED CARD OF 'tollwaylaw38.NoticeWhole'. -/
def noticeWholeCard : Claim7 := { stood := { row := noticeWholeRow, standIns := [], harness := (true, "77120d331608b0cb9f42f5965c4d956c6f81642ae8517a29629ca3d3e090b02d"), looks := false }, kinds := [], alts := [], laidByText := true, laidKinds := [.data, .pinned], laidTests := true, laidLooks := .later }
def NoticeWholeCardSaid : Prop := Claim7.holds Tryd.pinned (.plain (OpenSpec.ofChange noticeWholeSpec)) noticeWholeCard

/-- THE TIED CARD OF 'tollwaylaw39.AppealFiles'. -/
def appealFilesCard : Claim7 := { stood := { row := appealFilesRow, standIns := [], harness := (true, "77120d331608b0cb9f42f5965c4d956c6f81642ae8517a29629ca3d3e090b02d"), looks := false }, kinds := [], alts := [], laidByText := true, laidKinds := [.data, .pinned], laidTests := true, laidLooks := .later }
def AppealFilesCardSaid : Prop := Claim7.holds Tryd.pinned (.plain (OpenSpec.ofChange appealFilesSpec)) appealFilesCard

/-- THE TIED CARD OF 'tollwaylaw39.AppealDecides'. -/
def appealDecidesCard : Claim7 := { stood := { row := appealDecidesRow, standIns := [], harness := (true, "77120d331608b0cb9f42f5965c4d956c6f81642ae8517a29629ca3d3e090b02d"), looks := false }, kinds := [], alts := [], laidByText := true, laidKinds := [.data, .pinned], laidTests := true, laidLooks := .later }
def AppealDecidesCardSaid : Prop := Claim7.holds Tryd.pinned (.plain (OpenSpec.ofChange appealDecidesSpec)) appealDecidesCard

/-- THE TIED CARD OF 'tollwaylaw39.AppealAsks'. -/
def appealAsksCard : Claim7 := { stood := { row := appealAsksRow, standIns := [], harness := (true, "77120d331608b0cb9f42f5965c4d956c6f81642ae8517a29629ca3d3e090b02d"), looks := false }, kinds := [], alts := [], laidByText := true, laidKinds := [.data, .pinned], laidTests := true, laidLooks := .later }
def AppealAsksCardSaid : Prop := Claim7.holds Tryd.pinned (.plain (OpenSpec.ofChange appealAsksSpec)) appealAsksCard

/-- THE TIED CARD OF 'tollwaylaw39.AppealStops'. -/
def appealStopsCard : Claim7 := { stood := { row := appealStopsRow, standIns := [], harness := (true, "77120d331608b0cb9f42f5965c4d956c6f81642ae8517a29629ca3d3e090b02d"), looks := false }, kinds := [], alts := [], laidByText := true, laidKinds := [.data, .pinned], laidTests := true, laidLooks := .later }
def AppealStopsCardSaid : Prop := Claim7.holds Tryd.pinned (.plain (OpenSpec.ofChange appealStopsSpec)) appealStopsCard

/-- THE TIED CARD OF 'tollwaylaw39.AppealOnce'. -/
def appealOnceCard : Claim7 := { stood := { row := appealOnceRow, standIns := [], harness := (true, "77120d331608b0cb9f42f5965c4d956c6f81642ae8517a29629ca3d3e090b02d"), looks := false }, kinds := [], alts := [], laidByText := true, laidKinds := [.data, .pinned], laidTests := true, laidLooks := .later }
def AppealOnceCardSaid : Prop := Claim7.holds Tryd.pinned (.plain (OpenSpec.ofChange appealOnceSpec)) appealOnceCard

/-- THE TIED CARD OF 'tollwaylaw39.AppealDelays'. -/
def appealDelaysCard : Claim7 := { stood := { row := appealDelaysRow, standIns := [], harness := (true, "77120d331608b0cb9f42f5965c4d956c6f81642ae8517a29629ca3d3e090b02d"), looks := false }, kinds := [], alts := [], laidByText := true, laidKinds := [.data, .pinned], laidTests := true, laidLooks := .later }
def AppealDelaysCardSaid : Prop := Claim7.holds Tryd.pinned (.plain (OpenSpec.ofChange appealDelaysSpec)) appealDelaysCard

/-- THE TIED CARD OF 'tollwaytop.TopCases'. -/
def topCasesCard : Claim7 := { stood := { row := topCasesRow, standIns := [], harness := (true, "77120d331608b0cb9f42f5965c4d956c6f81642ae8517a29629ca3d3e090b02d"), looks := false }, kinds := [], alts := [], laidByText := true, laidKinds := [.data, .pinned], laidTests := true, laidLooks := .later }
def TopCasesCardSaid : Prop := Claim7.holds Tryd.pinned (.plain (OpenSpec.ofChange topCasesSpec)) topCasesCard

/-- THE SECOND FORM's CARD OF 'tollwaylaw38.NoticeChecks'. -/
def noticeChecksUptoCard : Claim7 := { stood := { row := noticeChecksUptoRow, standIns := [], harness := (true, "77120d331608b0cb9f42f5965c4d956c6f81642ae8517a29629ca3d3e090b02d"), looks := false }, kinds := [], alts := [], laidByText := true, laidKinds := [.data, .pinned], laidTests := true, laidLooks := .later }
def NoticeChecksUptoCardSaid : Prop := Claim7.holds Tryd.pinned (.plain (OpenSpec.upto noticeChecksSpec)) noticeChecksUptoCard

/-- THE SECOND FORM's CARD OF 'tollwaylaw38.NoticeNew'. -/
def noticeNewUptoCard : Claim7 := { stood := { row := noticeNewUptoRow, standIns := [], harness := (true, "77120d331608b0cb9f42f5965c4d956c6f81642ae8517a29629ca3d3e090b02d"), looks := false }, kinds := [], alts := [], laidByText := true, laidKinds := [.data, .pinned], laidTests := true, laidLooks := .later }
def NoticeNewUptoCardSaid : Prop := Claim7.holds Tryd.pinned (.plain (OpenSpec.upto noticeNewSpec)) noticeNewUptoCard

/-- THE SECOND FORM's CARD OF 'tollwaylaw38.NoticeAdvances'. -/
def noticeAdvancesUptoCard : Claim7 := { stood := { row := noticeAdvancesUptoRow, standIns := [], harness := (true, "77120d331608b0cb9f42f5965c4d956c6f81642ae8517a29629ca3d3e090b02d"), looks := false }, kinds := [], alts := [], laidByText := true, laidKinds := [.data, .pinned], laidTests := true, laidLooks := .later }
def NoticeAdvancesUptoCardSaid : Prop := Claim7.holds Tryd.pinned (.plain (OpenSpec.upto noticeAdvancesSpec)) noticeAdvancesUptoCard

/-- THE SECOND FORM's CARD OF 'tollwaylaw38.NoticePays'. -/
def noticePaysUptoCard : Claim7 := { stood := { row := noticePaysUptoRow, standIns := [], harness := (true, "77120d331608b0cb9f42f5965c4d956c6f81642ae8517a29629ca3d3e090b02d"), looks := false }, kinds := [], alts := [], laidByText := true, laidKinds := [.data, .pinned], laidTests := true, laidLooks := .later }
def NoticePaysUptoCardSaid : Prop := Claim7.holds Tryd.pinned (.plain (OpenSpec.upto noticePaysSpec)) noticePaysUptoCard

/-- THE SECOND FORM's CARD OF 'tollwaylaw38.NoticeTwice'. -/
def noticeTwiceUptoCard : Claim7 := { stood := { row := noticeTwiceUptoRow, standIns := [], harness := (true, "77120d331608b0cb9f42f5965c4d956c6f81642ae8517a29629ca3d3e090b02d"), looks := false }, kinds := [], alts := [], laidByText := true, laidKinds := [.data, .pinned], laidTests := true, laidLooks := .later }
def NoticeTwiceUptoCardSaid : Prop := Claim7.holds Tryd.pinned (.plain (OpenSpec.upto noticeTwiceSpec)) noticeTwiceUptoCard

/-- THE SECOND FORM's CARD OF 'tollwaylaw38.NoticeStages'. -/
def noticeStagesUptoCard : Claim7 := { stood := { row := noticeStagesUptoRow, standIns := [], harness := (true, "77120d331608b0cb9f42f5965c4d956c6f81642ae8517a29629ca3d3e090b02d"), looks := false }, kinds := [], alts := [], laidByText := true, laidKinds := [.data, .pinned], laidTests := true, laidLooks := .later }
def NoticeStagesUptoCardSaid : Prop := Claim7.holds Tryd.pinned (.plain (OpenSpec.upto noticeStagesSpec)) noticeStagesUptoCard

/-- THE SECOND FORM's CARD OF 'tollwaylaw38.NoticeWhole'. -/
def noticeWholeUptoCard : Claim7 := { stood := { row := noticeWholeUptoRow, standIns := [], harness := (true, "77120d331608b0cb9f42f5965c4d956c6f81642ae8517a29629ca3d3e090b02d"), looks := false }, kinds := [], alts := [], laidByText := true, laidKinds := [.data, .pinned], laidTests := true, laidLooks := .later }
def NoticeWholeUptoCardSaid : Prop := Claim7.holds Tryd.pinned (.plain (OpenSpec.upto noticeWholeSpec)) noticeWholeUptoCard

/-- THE SECOND FORM's CARD OF 'tollwaylaw39.AppealFiles'. -/
def appealFilesUptoCard : Claim7 := { stood := { row := appealFilesUptoRow, standIns := [], harness := (true, "77120d331608b0cb9f42f5965c4d956c6f81642ae8517a29629ca3d3e090b02d"), looks := false }, kinds := [], alts := [], laidByText := true, laidKinds := [.data, .pinned], laidTests := true, laidLooks := .later }
def AppealFilesUptoCardSaid : Prop := Claim7.holds Tryd.pinned (.plain (OpenSpec.upto appealFilesSpec)) appealFilesUptoCard

/-- THE SECOND FORM's CARD OF 'tollwaylaw39.AppealDecides'. -/
def appealDecidesUptoCard : Claim7 := { stood := { row := appealDecidesUptoRow, standIns := [], harness := (true, "77120d331608b0cb9f42f5965c4d956c6f81642ae8517a29629ca3d3e090b02d"), looks := false }, kinds := [], alts := [], laidByText := true, laidKinds := [.data, .pinned], laidTests := true, laidLooks := .later }
def AppealDecidesUptoCardSaid : Prop := Claim7.holds Tryd.pinned (.plain (OpenSpec.upto appealDecidesSpec)) appealDecidesUptoCard

/-- THE SECOND FORM's CARD OF 'tollwaylaw39.AppealAsks'. -/
def appealAsksUptoCard : Claim7 := { stood := { row := appealAsksUptoRow, standIns := [], harness := (true, "77120d331608b0cb9f42f5965c4d956c6f81642ae8517a29629ca3d3e090b02d"), looks := false }, kinds := [], alts := [], laidByText := true, laidKinds := [.data, .pinned], laidTests := true, laidLooks := .later }
def AppealAsksUptoCardSaid : Prop := Claim7.holds Tryd.pinned (.plain (OpenSpec.upto appealAsksSpec)) appealAsksUptoCard

/-- THE SECOND FORM's CARD OF 'tollwaylaw39.AppealStops'. -/
def appealStopsUptoCard : Claim7 := { stood := { row := appealStopsUptoRow, standIns := [], harness := (true, "77120d331608b0cb9f42f5965c4d956c6f81642ae8517a29629ca3d3e090b02d"), looks := false }, kinds := [], alts := [], laidByText := true, laidKinds := [.data, .pinned], laidTests := true, laidLooks := .later }
def AppealStopsUptoCardSaid : Prop := Claim7.holds Tryd.pinned (.plain (OpenSpec.upto appealStopsSpec)) appealStopsUptoCard

/-- THE SECOND FORM's CARD OF 'tollwaylaw39.AppealOnce'. -/
def appealOnceUptoCard : Claim7 := { stood := { row := appealOnceUptoRow, standIns := [], harness := (true, "77120d331608b0cb9f42f5965c4d956c6f81642ae8517a29629ca3d3e090b02d"), looks := false }, kinds := [], alts := [], laidByText := true, laidKinds := [.data, .pinned], laidTests := true, laidLooks := .later }
def AppealOnceUptoCardSaid : Prop := Claim7.holds Tryd.pinned (.plain (OpenSpec.upto appealOnceSpec)) appealOnceUptoCard

/-- THE SECOND FORM's CARD OF 'tollwaylaw39.AppealDelays'. -/
def appealDelaysUptoCard : Claim7 := { stood := { row := appealDelaysUptoRow, standIns := [], harness := (true, "77120d331608b0cb9f42f5965c4d956c6f81642ae8517a29629ca3d3e090b02d"), looks := false }, kinds := [], alts := [], laidByText := true, laidKinds := [.data, .pinned], laidTests := true, laidLooks := .later }
def AppealDelaysUptoCardSaid : Prop := Claim7.holds Tryd.pinned (.plain (OpenSpec.upto appealDelaysSpec)) appealDelaysUptoCard

/-- THE SECOND FORM's CARD OF 'tollwaytop.TopCases'. -/
def topCasesUptoCard : Claim7 := { stood := { row := topCasesUptoRow, standIns := [], harness := (true, "77120d331608b0cb9f42f5965c4d956c6f81642ae8517a29629ca3d3e090b02d"), looks := false }, kinds := [], alts := [], laidByText := true, laidKinds := [.data, .pinned], laidTests := true, laidLooks := .later }
def TopCasesUptoCardSaid : Prop := Claim7.holds Tryd.pinned (.plain (OpenSpec.upto topCasesSpec)) topCasesUptoCard
end Rows
end Go.Proofs.YtkjohnjhdfblcaaDoor
