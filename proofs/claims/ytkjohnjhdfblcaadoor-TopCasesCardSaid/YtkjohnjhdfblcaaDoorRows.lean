/-
  NARROWER THAN 'FOR EVERY INPUT', by the rows' own cells (each row's printed sentence says how): NoticeChecks: laid · NoticeNew: laid · NoticeAdvances: laid · NoticePays: laid · NoticeTwice: laid · NoticeStages: laid · NoticeWhole: laid · AppealFiles: laid · AppealDecides: laid · AppealAsks: laid · AppealStops: laid · AppealOnce: laid · AppealDelays: laid · TopCases: laid.
  DERIVED. THE GIVEN ROWS OF THIS SEAT. 14 by the template 'for every input the law returns true; each argument reads behind the call as it read before'; 0 by the template 'total and deterministic' (their statements: YtkjohnjhdfblcaaDoorTotals.lean).
  GIVEN WITH THE SEED: the statements are not yours to turn. If you find one false, say at which input.
  Laid BY PROGRAM, IN A SANDBOX (cutbox-rows.mjs): the forced cells as the released guide's own fill.sh prints them over the translation 9cd5f0cd5255e460… (all of the seat's roots in one cut). By AI agents, Wed Nov 11 2026. No macro, syntax, notation, axiom, sorry.
-/
import Derived.Test.YtkjohnjhdfblcaaDoorChecked
import GoSem.PinnedTables
import GoSem.Claim
import GoSem.ClaimJoined
import GoSem.ClaimMapViews
import Derived.JoinedTies
import Derived.KernelRfl
namespace Go.Proofs.YtkjohnjhdfblcaaDoor
/- THE CELL 'sum', in the pinned program and in every row, IS THE sha256 OF THE DUMP (.gsa) THAT YtkjohnjhdfblcaaDoorProg.lean LOADS. Nothing in Lean hashes anything: it is a label: what it is worth is what the hold of that sum in a sandbox is worth. -/
noncomputable def Tryd.pinned : Pinned := { name := "ytkjohnjhdfblcaadoor", sum := "9cd5f0cd5255e4601a7c11f0c13c086065724de0cf716c63143eaef0e5f6135d", checked := Tryd.checked }
namespace Rows
def none {H : Type} : Left H := { results := [], args := [] }

/- WHAT THE LISTED PACKAGE-LEVEL VARIABLES READ AS WHEN THE CALL BEGINS. Each datum BY PROGRAM (the guide's laid-datum.mjs) off the statement by which the dump's own 'gosem.cut.vars' lays the variable. In a bare row this is a premise. The card (YtkjohnjhdfblcaaDoorCards.lean) ties it to the program's text. -/
def laid_unicode_utf8_acceptRanges {H : Type} : DataW H := .agg [.agg [.lit (.int .u8 128), .lit (.int .u8 191)], .agg [.lit (.int .u8 160), .lit (.int .u8 191)], .agg [.lit (.int .u8 128), .lit (.int .u8 159)], .agg [.lit (.int .u8 144), .lit (.int .u8 191)], .agg [.lit (.int .u8 128), .lit (.int .u8 143)], .agg [.lit (.int .u8 0), .lit (.int .u8 0)], .agg [.lit (.int .u8 0), .lit (.int .u8 0)], .agg [.lit (.int .u8 0), .lit (.int .u8 0)], .agg [.lit (.int .u8 0), .lit (.int .u8 0)], .agg [.lit (.int .u8 0), .lit (.int .u8 0)], .agg [.lit (.int .u8 0), .lit (.int .u8 0)], .agg [.lit (.int .u8 0), .lit (.int .u8 0)], .agg [.lit (.int .u8 0), .lit (.int .u8 0)], .agg [.lit (.int .u8 0), .lit (.int .u8 0)], .agg [.lit (.int .u8 0), .lit (.int .u8 0)], .agg [.lit (.int .u8 0), .lit (.int .u8 0)]]
/-- One of Go's own tables, pinned by name: the form's constant. -/
def laid_unicode_utf8_first : DataW Unit := Go.Pinned.utf8First

/-- 'tollwaylaw38.NoticeChecks': WHATEVER THE INPUT: true; the input reads as it did. -/
def noticeChecksSpec : ChangeSpec := { name := "noticeChecks", fn := fun _ => fun
  | [d] => { results := [.lit (.bool true)], args := [d] }
  | _ => none }
def noticeChecksRow : OpenClaim := { program := "ytkjohnjhdfblcaadoor", sum := "9cd5f0cd5255e4601a7c11f0c13c086065724de0cf716c63143eaef0e5f6135d", func := "tollway/tollwaylaw38.NoticeChecks", spec := "noticeChecks", inPlace := ["internal/bytealg.CountString", "internal/bytealg.IndexByteString", "internal/bytealg.IndexString"], named := ["unicode/utf8.first", "unicode/utf8.acceptRanges", "internal/bytealg.MaxLen"], apart := false, laid := [("unicode/utf8.acceptRanges", laid_unicode_utf8_acceptRanges), ("unicode/utf8.first", laid_unicode_utf8_first)] }
def NoticeChecksSaid : Prop := noticeChecksRow.holds Tryd.pinned (OpenSpec.ofChange noticeChecksSpec)

/-- ITS FALSE NEIGHBOUR: 'it returns false'. Refute it at one input. -/
def noticeChecksWrong : ChangeSpec := { name := "noticeChecks", fn := fun _ => fun
  | [d] => { results := [.lit (.bool false)], args := [d] }
  | _ => none }
def NoticeChecksWrongFalsely : Prop := noticeChecksRow.holds Tryd.pinned (OpenSpec.ofChange noticeChecksWrong)

/-- 'tollwaylaw38.NoticeNew': WHATEVER THE INPUT: true; the input reads as it did. -/
def noticeNewSpec : ChangeSpec := { name := "noticeNew", fn := fun _ => fun
  | [d] => { results := [.lit (.bool true)], args := [d] }
  | _ => none }
def noticeNewRow : OpenClaim := { program := "ytkjohnjhdfblcaadoor", sum := "9cd5f0cd5255e4601a7c11f0c13c086065724de0cf716c63143eaef0e5f6135d", func := "tollway/tollwaylaw38.NoticeNew", spec := "noticeNew", inPlace := ["internal/bytealg.CountString", "internal/bytealg.IndexByteString", "internal/bytealg.IndexString"], named := ["unicode/utf8.first", "unicode/utf8.acceptRanges", "internal/bytealg.MaxLen"], apart := false, laid := [("unicode/utf8.acceptRanges", laid_unicode_utf8_acceptRanges), ("unicode/utf8.first", laid_unicode_utf8_first)] }
def NoticeNewSaid : Prop := noticeNewRow.holds Tryd.pinned (OpenSpec.ofChange noticeNewSpec)

/-- ITS FALSE NEIGHBOUR: 'it returns false'. Refute it at one input. -/
def noticeNewWrong : ChangeSpec := { name := "noticeNew", fn := fun _ => fun
  | [d] => { results := [.lit (.bool false)], args := [d] }
  | _ => none }
def NoticeNewWrongFalsely : Prop := noticeNewRow.holds Tryd.pinned (OpenSpec.ofChange noticeNewWrong)

/-- 'tollwaylaw38.NoticeAdvances': WHATEVER THE INPUT: true; the input reads as it did. -/
def noticeAdvancesSpec : ChangeSpec := { name := "noticeAdvances", fn := fun _ => fun
  | [d1, d2] => { results := [.lit (.bool true)], args := [d1, d2] }
  | _ => none }
def noticeAdvancesRow : OpenClaim := { program := "ytkjohnjhdfblcaadoor", sum := "9cd5f0cd5255e4601a7c11f0c13c086065724de0cf716c63143eaef0e5f6135d", func := "tollway/tollwaylaw38.NoticeAdvances", spec := "noticeAdvances", inPlace := ["internal/bytealg.CountString", "internal/bytealg.IndexByteString", "internal/bytealg.IndexString"], named := ["unicode/utf8.first", "unicode/utf8.acceptRanges", "internal/bytealg.MaxLen"], apart := false, laid := [("unicode/utf8.acceptRanges", laid_unicode_utf8_acceptRanges), ("unicode/utf8.first", laid_unicode_utf8_first)] }
def NoticeAdvancesSaid : Prop := noticeAdvancesRow.holds Tryd.pinned (OpenSpec.ofChange noticeAdvancesSpec)

/-- ITS FALSE NEIGHBOUR: 'it returns false'. Refute it at one input. -/
def noticeAdvancesWrong : ChangeSpec := { name := "noticeAdvances", fn := fun _ => fun
  | [d1, d2] => { results := [.lit (.bool false)], args := [d1, d2] }
  | _ => none }
def NoticeAdvancesWrongFalsely : Prop := noticeAdvancesRow.holds Tryd.pinned (OpenSpec.ofChange noticeAdvancesWrong)

/-- 'tollwaylaw38.NoticePays': WHATEVER THE INPUT: true; the input reads as it did. -/
def noticePaysSpec : ChangeSpec := { name := "noticePays", fn := fun _ => fun
  | [d1, d2] => { results := [.lit (.bool true)], args := [d1, d2] }
  | _ => none }
def noticePaysRow : OpenClaim := { program := "ytkjohnjhdfblcaadoor", sum := "9cd5f0cd5255e4601a7c11f0c13c086065724de0cf716c63143eaef0e5f6135d", func := "tollway/tollwaylaw38.NoticePays", spec := "noticePays", inPlace := ["internal/bytealg.CountString", "internal/bytealg.IndexByteString", "internal/bytealg.IndexString"], named := ["unicode/utf8.first", "unicode/utf8.acceptRanges", "internal/bytealg.MaxLen"], apart := false, laid := [("unicode/utf8.acceptRanges", laid_unicode_utf8_acceptRanges), ("unicode/utf8.first", laid_unicode_utf8_first)] }
def NoticePaysSaid : Prop := noticePaysRow.holds Tryd.pinned (OpenSpec.ofChange noticePaysSpec)

/-- ITS FALSE NEIGHBOUR: 'it returns false'. Refute it at one input. -/
def noticePaysWrong : ChangeSpec := { name := "noticePays", fn := fun _ => fun
  | [d1, d2] => { results := [.lit (.bool false)], args := [d1, d2] }
  | _ => none }
def NoticePaysWrongFalsely : Prop := noticePaysRow.holds Tryd.pinned (OpenSpec.ofChange noticePaysWrong)

/-- 'tollwaylaw38.NoticeTwice': WHATEVER THE INPUT: true; the input reads as it did. -/
def noticeTwiceSpec : ChangeSpec := { name := "noticeTwice", fn := fun _ => fun
  | [d1, d2, d3] => { results := [.lit (.bool true)], args := [d1, d2, d3] }
  | _ => none }
def noticeTwiceRow : OpenClaim := { program := "ytkjohnjhdfblcaadoor", sum := "9cd5f0cd5255e4601a7c11f0c13c086065724de0cf716c63143eaef0e5f6135d", func := "tollway/tollwaylaw38.NoticeTwice", spec := "noticeTwice", inPlace := ["internal/bytealg.CountString", "internal/bytealg.IndexByteString", "internal/bytealg.IndexString"], named := ["unicode/utf8.first", "unicode/utf8.acceptRanges", "internal/bytealg.MaxLen"], apart := false, laid := [("unicode/utf8.acceptRanges", laid_unicode_utf8_acceptRanges), ("unicode/utf8.first", laid_unicode_utf8_first)] }
def NoticeTwiceSaid : Prop := noticeTwiceRow.holds Tryd.pinned (OpenSpec.ofChange noticeTwiceSpec)

/-- ITS FALSE NEIGHBOUR: 'it returns false'. Refute it at one input. -/
def noticeTwiceWrong : ChangeSpec := { name := "noticeTwice", fn := fun _ => fun
  | [d1, d2, d3] => { results := [.lit (.bool false)], args := [d1, d2, d3] }
  | _ => none }
def NoticeTwiceWrongFalsely : Prop := noticeTwiceRow.holds Tryd.pinned (OpenSpec.ofChange noticeTwiceWrong)

/-- 'tollwaylaw38.NoticeStages': WHATEVER THE INPUT: true; the input reads as it did. -/
def noticeStagesSpec : ChangeSpec := { name := "noticeStages", fn := fun _ => fun
  | [d1, d2] => { results := [.lit (.bool true)], args := [d1, d2] }
  | _ => none }
def noticeStagesRow : OpenClaim := { program := "ytkjohnjhdfblcaadoor", sum := "9cd5f0cd5255e4601a7c11f0c13c086065724de0cf716c63143eaef0e5f6135d", func := "tollway/tollwaylaw38.NoticeStages", spec := "noticeStages", inPlace := ["internal/bytealg.CountString", "internal/bytealg.IndexByteString", "internal/bytealg.IndexString"], named := ["unicode/utf8.first", "unicode/utf8.acceptRanges", "internal/bytealg.MaxLen"], apart := false, laid := [("unicode/utf8.acceptRanges", laid_unicode_utf8_acceptRanges), ("unicode/utf8.first", laid_unicode_utf8_first)] }
def NoticeStagesSaid : Prop := noticeStagesRow.holds Tryd.pinned (OpenSpec.ofChange noticeStagesSpec)

/-- ITS FALSE NEIGHBOUR: 'it returns false'. Refute it at one input. -/
def noticeStagesWrong : ChangeSpec := { name := "noticeStages", fn := fun _ => fun
  | [d1, d2] => { results := [.lit (.bool false)], args := [d1, d2] }
  | _ => none }
def NoticeStagesWrongFalsely : Prop := noticeStagesRow.holds Tryd.pinned (OpenSpec.ofChange noticeStagesWrong)

/-- 'tollwaylaw38.NoticeWhole': WHATEVER THE INPUT: true; the input reads as it did. -/
def noticeWholeSpec : ChangeSpec := { name := "noticeWhole", fn := fun _ => fun
  | [d1, d2] => { results := [.lit (.bool true)], args := [d1, d2] }
  | _ => none }
def noticeWholeRow : OpenClaim := { program := "ytkjohnjhdfblcaadoor", sum := "9cd5f0cd5255e4601a7c11f0c13c086065724de0cf716c63143eaef0e5f6135d", func := "tollway/tollwaylaw38.NoticeWhole", spec := "noticeWhole", inPlace := ["internal/bytealg.CountString", "internal/bytealg.IndexByteString", "internal/bytealg.IndexString"], named := ["unicode/utf8.first", "unicode/utf8.acceptRanges", "internal/bytealg.MaxLen"], apart := false, laid := [("unicode/utf8.acceptRanges", laid_unicode_utf8_acceptRanges), ("unicode/utf8.first", laid_unicode_utf8_first)] }
def NoticeWholeSaid : Prop := noticeWholeRow.holds Tryd.pinned (OpenSpec.ofChange noticeWholeSpec)

/-- ITS FALSE NEIGHBOUR: 'it returns false'. Refute it at one input. -/
def noticeWholeWrong : ChangeSpec := { name := "noticeWhole", fn := fun _ => fun
  | [d1, d2] => { results := [.lit (.bool false)], args := [d1, d2] }
  | _ => none }
def NoticeWholeWrongFalsely : Prop := noticeWholeRow.holds Tryd.pinned (OpenSpec.ofChange noticeWholeWrong)

/-- 'tollwaylaw39.AppealFiles': WHATEVER THE INPUT: true; the input reads as it did. -/
def appealFilesSpec : ChangeSpec := { name := "appealFiles", fn := fun _ => fun
  | [d1, d2, d3, d4, d5] => { results := [.lit (.bool true)], args := [d1, d2, d3, d4, d5] }
  | _ => none }
def appealFilesRow : OpenClaim := { program := "ytkjohnjhdfblcaadoor", sum := "9cd5f0cd5255e4601a7c11f0c13c086065724de0cf716c63143eaef0e5f6135d", func := "tollway/tollwaylaw39.AppealFiles", spec := "appealFiles", inPlace := ["internal/bytealg.CountString", "internal/bytealg.IndexByteString", "internal/bytealg.IndexString"], named := ["unicode/utf8.first", "unicode/utf8.acceptRanges", "internal/bytealg.MaxLen"], apart := false, laid := [("unicode/utf8.acceptRanges", laid_unicode_utf8_acceptRanges), ("unicode/utf8.first", laid_unicode_utf8_first)] }
def AppealFilesSaid : Prop := appealFilesRow.holds Tryd.pinned (OpenSpec.ofChange appealFilesSpec)

/-- ITS FALSE NEIGHBOUR: 'it returns false'. Refute it at one input. -/
def appealFilesWrong : ChangeSpec := { name := "appealFiles", fn := fun _ => fun
  | [d1, d2, d3, d4, d5] => { results := [.lit (.bool false)], args := [d1, d2, d3, d4, d5] }
  | _ => none }
def AppealFilesWrongFalsely : Prop := appealFilesRow.holds Tryd.pinned (OpenSpec.ofChange appealFilesWrong)

/-- 'tollwaylaw39.AppealDecides': WHATEVER THE INPUT: true; the input reads as it did. -/
def appealDecidesSpec : ChangeSpec := { name := "appealDecides", fn := fun _ => fun
  | [d1, d2, d3, d4, d5] => { results := [.lit (.bool true)], args := [d1, d2, d3, d4, d5] }
  | _ => none }
def appealDecidesRow : OpenClaim := { program := "ytkjohnjhdfblcaadoor", sum := "9cd5f0cd5255e4601a7c11f0c13c086065724de0cf716c63143eaef0e5f6135d", func := "tollway/tollwaylaw39.AppealDecides", spec := "appealDecides", inPlace := ["internal/bytealg.CountString", "internal/bytealg.IndexByteString", "internal/bytealg.IndexString"], named := ["unicode/utf8.first", "unicode/utf8.acceptRanges", "internal/bytealg.MaxLen"], apart := false, laid := [("unicode/utf8.acceptRanges", laid_unicode_utf8_acceptRanges), ("unicode/utf8.first", laid_unicode_utf8_first)] }
def AppealDecidesSaid : Prop := appealDecidesRow.holds Tryd.pinned (OpenSpec.ofChange appealDecidesSpec)

/-- ITS FALSE NEIGHBOUR: 'it returns false'. Refute it at one input. -/
def appealDecidesWrong : ChangeSpec := { name := "appealDecides", fn := fun _ => fun
  | [d1, d2, d3, d4, d5] => { results := [.lit (.bool false)], args := [d1, d2, d3, d4, d5] }
  | _ => none }
def AppealDecidesWrongFalsely : Prop := appealDecidesRow.holds Tryd.pinned (OpenSpec.ofChange appealDecidesWrong)

/-- 'tollwaylaw39.AppealAsks': WHATEVER THE INPUT: true; the input reads as it did. -/
def appealAsksSpec : ChangeSpec := { name := "appealAsks", fn := fun _ => fun
  | [d1, d2, d3, d4] => { results := [.lit (.bool true)], args := [d1, d2, d3, d4] }
  | _ => none }
def appealAsksRow : OpenClaim := { program := "ytkjohnjhdfblcaadoor", sum := "9cd5f0cd5255e4601a7c11f0c13c086065724de0cf716c63143eaef0e5f6135d", func := "tollway/tollwaylaw39.AppealAsks", spec := "appealAsks", inPlace := ["internal/bytealg.CountString", "internal/bytealg.IndexByteString", "internal/bytealg.IndexString"], named := ["unicode/utf8.first", "unicode/utf8.acceptRanges", "internal/bytealg.MaxLen"], apart := false, laid := [("unicode/utf8.acceptRanges", laid_unicode_utf8_acceptRanges), ("unicode/utf8.first", laid_unicode_utf8_first)] }
def AppealAsksSaid : Prop := appealAsksRow.holds Tryd.pinned (OpenSpec.ofChange appealAsksSpec)

/-- ITS FALSE NEIGHBOUR: 'it returns false'. Refute it at one input. -/
def appealAsksWrong : ChangeSpec := { name := "appealAsks", fn := fun _ => fun
  | [d1, d2, d3, d4] => { results := [.lit (.bool false)], args := [d1, d2, d3, d4] }
  | _ => none }
def AppealAsksWrongFalsely : Prop := appealAsksRow.holds Tryd.pinned (OpenSpec.ofChange appealAsksWrong)

/-- 'tollwaylaw39.AppealStops': WHATEVER THE INPUT: true; the input reads as it did. -/
def appealStopsSpec : ChangeSpec := { name := "appealStops", fn := fun _ => fun
  | [d1, d2, d3, d4, d5, d6] => { results := [.lit (.bool true)], args := [d1, d2, d3, d4, d5, d6] }
  | _ => none }
def appealStopsRow : OpenClaim := { program := "ytkjohnjhdfblcaadoor", sum := "9cd5f0cd5255e4601a7c11f0c13c086065724de0cf716c63143eaef0e5f6135d", func := "tollway/tollwaylaw39.AppealStops", spec := "appealStops", inPlace := ["internal/bytealg.CountString", "internal/bytealg.IndexByteString", "internal/bytealg.IndexString"], named := ["unicode/utf8.first", "unicode/utf8.acceptRanges", "internal/bytealg.MaxLen"], apart := false, laid := [("unicode/utf8.acceptRanges", laid_unicode_utf8_acceptRanges), ("unicode/utf8.first", laid_unicode_utf8_first)] }
def AppealStopsSaid : Prop := appealStopsRow.holds Tryd.pinned (OpenSpec.ofChange appealStopsSpec)

/-- ITS FALSE NEIGHBOUR: 'it returns false'. Refute it at one input. -/
def appealStopsWrong : ChangeSpec := { name := "appealStops", fn := fun _ => fun
  | [d1, d2, d3, d4, d5, d6] => { results := [.lit (.bool false)], args := [d1, d2, d3, d4, d5, d6] }
  | _ => none }
def AppealStopsWrongFalsely : Prop := appealStopsRow.holds Tryd.pinned (OpenSpec.ofChange appealStopsWrong)

/-- 'tollwaylaw39.AppealOnce': WHATEVER THE INPUT: true; the input reads as it did. -/
def appealOnceSpec : ChangeSpec := { name := "appealOnce", fn := fun _ => fun
  | [d1, d2, d3, d4, d5, d6] => { results := [.lit (.bool true)], args := [d1, d2, d3, d4, d5, d6] }
  | _ => none }
def appealOnceRow : OpenClaim := { program := "ytkjohnjhdfblcaadoor", sum := "9cd5f0cd5255e4601a7c11f0c13c086065724de0cf716c63143eaef0e5f6135d", func := "tollway/tollwaylaw39.AppealOnce", spec := "appealOnce", inPlace := ["internal/bytealg.CountString", "internal/bytealg.IndexByteString", "internal/bytealg.IndexString"], named := ["unicode/utf8.first", "unicode/utf8.acceptRanges", "internal/bytealg.MaxLen"], apart := false, laid := [("unicode/utf8.acceptRanges", laid_unicode_utf8_acceptRanges), ("unicode/utf8.first", laid_unicode_utf8_first)] }
def AppealOnceSaid : Prop := appealOnceRow.holds Tryd.pinned (OpenSpec.ofChange appealOnceSpec)

/-- ITS FALSE NEIGHBOUR: 'it returns false'. Refute it at one input. -/
def appealOnceWrong : ChangeSpec := { name := "appealOnce", fn := fun _ => fun
  | [d1, d2, d3, d4, d5, d6] => { results := [.lit (.bool false)], args := [d1, d2, d3, d4, d5, d6] }
  | _ => none }
def AppealOnceWrongFalsely : Prop := appealOnceRow.holds Tryd.pinned (OpenSpec.ofChange appealOnceWrong)

/-- 'tollwaylaw39.AppealDelays': WHATEVER THE INPUT: true; the input reads as it did. -/
def appealDelaysSpec : ChangeSpec := { name := "appealDelays", fn := fun _ => fun
  | [d1, d2, d3, d4] => { results := [.lit (.bool true)], args := [d1, d2, d3, d4] }
  | _ => none }
def appealDelaysRow : OpenClaim := { program := "ytkjohnjhdfblcaadoor", sum := "9cd5f0cd5255e4601a7c11f0c13c086065724de0cf716c63143eaef0e5f6135d", func := "tollway/tollwaylaw39.AppealDelays", spec := "appealDelays", inPlace := ["internal/bytealg.CountString", "internal/bytealg.IndexByteString", "internal/bytealg.IndexString"], named := ["unicode/utf8.first", "unicode/utf8.acceptRanges", "internal/bytealg.MaxLen"], apart := false, laid := [("unicode/utf8.acceptRanges", laid_unicode_utf8_acceptRanges), ("unicode/utf8.first", laid_unicode_utf8_first)] }
def AppealDelaysSaid : Prop := appealDelaysRow.holds Tryd.pinned (OpenSpec.ofChange appealDelaysSpec)

/-- ITS FALSE NEIGHBOUR: 'it returns false'. Refute it at one input. -/
def appealDelaysWrong : ChangeSpec := { name := "appealDelays", fn := fun _ => fun
  | [d1, d2, d3, d4] => { results := [.lit (.bool false)], args := [d1, d2, d3, d4] }
  | _ => none }
def AppealDelaysWrongFalsely : Prop := appealDelaysRow.holds Tryd.pinned (OpenSpec.ofChange appealDelaysWrong)

/-- 'tollwaytop.TopCases': WHATEVER THE INPUT: true; the input reads as it did. -/
def topCasesSpec : ChangeSpec := { name := "topCases", fn := fun _ => fun
  | [d1, d2, d3, d4] => { results := [.lit (.bool true)], args := [d1, d2, d3, d4] }
  | _ => none }
def topCasesRow : OpenClaim := { program := "ytkjohnjhdfblcaadoor", sum := "9cd5f0cd5255e4601a7c11f0c13c086065724de0cf716c63143eaef0e5f6135d", func := "tollway/tollwaytop.TopCases", spec := "topCases", inPlace := ["internal/bytealg.CountString", "internal/bytealg.IndexByteString", "internal/bytealg.IndexString"], named := ["unicode/utf8.first", "unicode/utf8.acceptRanges", "internal/bytealg.MaxLen"], apart := false, laid := [("unicode/utf8.acceptRanges", laid_unicode_utf8_acceptRanges), ("unicode/utf8.first", laid_unicode_utf8_first)] }
def TopCasesSaid : Prop := topCasesRow.holds Tryd.pinned (OpenSpec.ofChange topCasesSpec)

/-- ITS FALSE NEIGHBOUR: 'it returns false'. Refute it at one input. -/
def topCasesWrong : ChangeSpec := { name := "topCases", fn := fun _ => fun
  | [d1, d2, d3, d4] => { results := [.lit (.bool false)], args := [d1, d2, d3, d4] }
  | _ => none }
def TopCasesWrongFalsely : Prop := topCasesRow.holds Tryd.pinned (OpenSpec.ofChange topCasesWrong)

/- THE SECOND FORM. 'bulk': how many values and letters a reading holds, each counted each time it is reached (what is shared counts as often as it is met; a slice's spare places count too). A statement '..UptoSaid' is the law's where the arguments, and the package variables that the reading takes, are together of bulk at most 1048576: NARROWER than '..Said'. Prove '..Said' where nothing that the law and all that it calls make is longer than what came in: it says more and counts as full. Else prove '..UptoSaid'. A law counts once. -/
mutual
def uptoBulk {H : Type} : DataW H → Nat
  | .lit (.string bytes) => bytes.length + 1
  | .lit _ => 1
  | .nil => 1
  | .ptr d => uptoBulk d + 1
  | .slice elems spare => uptoBulkAll elems + uptoBulkAll spare + 1
  | .agg parts => uptoBulkAll parts + 1
  | .iface _ d => uptoBulk d + 1
  | .map entries => uptoBulkEntries entries + 1
  | .held _ => 1
def uptoBulkAll {H : Type} : List (DataW H) → Nat
  | [] => 0
  | d :: r => uptoBulk d + uptoBulkAll r
def uptoBulkEntries {H : Type} : List (Lit × DataW H) → Nat
  | [] => 0
  | x :: r => uptoBulkEntry x + uptoBulkEntries r
def uptoBulkEntry {H : Type} : Lit × DataW H → Nat
  | (.string bytes, d) => bytes.length + uptoBulk d + 1
  | (_, d) => uptoBulk d + 1
 end
def uptoSmall : (H : Type) → List (DataW H) → Bool := fun _ ds => decide (uptoBulkAll ds ≤ 1048576)
def OpenSpec.upto (s : _root_.Go.ChangeSpec) : _root_.Go.OpenSpec := { _root_.Go.OpenSpec.ofChange s with cond := some uptoSmall }

/-- 'tollwaylaw38.NoticeChecks', WHERE WHAT IT READS IS OF BULK AT MOST 1048576: true; the input reads as it did. -/
def noticeChecksUptoRow : OpenClaim := { program := "ytkjohnjhdfblcaadoor", sum := "9cd5f0cd5255e4601a7c11f0c13c086065724de0cf716c63143eaef0e5f6135d", func := "tollway/tollwaylaw38.NoticeChecks", spec := "noticeChecks", inPlace := ["internal/bytealg.CountString", "internal/bytealg.IndexByteString", "internal/bytealg.IndexString"], named := ["unicode/utf8.first", "unicode/utf8.acceptRanges", "internal/bytealg.MaxLen"], apart := false, laid := [("unicode/utf8.acceptRanges", laid_unicode_utf8_acceptRanges), ("unicode/utf8.first", laid_unicode_utf8_first)], narrowed := true }
def NoticeChecksUptoSaid : Prop := noticeChecksUptoRow.holds Tryd.pinned (OpenSpec.upto noticeChecksSpec)

/-- 'tollwaylaw38.NoticeNew', WHERE WHAT IT READS IS OF BULK AT MOST 1048576: true; the input reads as it did. -/
def noticeNewUptoRow : OpenClaim := { program := "ytkjohnjhdfblcaadoor", sum := "9cd5f0cd5255e4601a7c11f0c13c086065724de0cf716c63143eaef0e5f6135d", func := "tollway/tollwaylaw38.NoticeNew", spec := "noticeNew", inPlace := ["internal/bytealg.CountString", "internal/bytealg.IndexByteString", "internal/bytealg.IndexString"], named := ["unicode/utf8.first", "unicode/utf8.acceptRanges", "internal/bytealg.MaxLen"], apart := false, laid := [("unicode/utf8.acceptRanges", laid_unicode_utf8_acceptRanges), ("unicode/utf8.first", laid_unicode_utf8_first)], narrowed := true }
def NoticeNewUptoSaid : Prop := noticeNewUptoRow.holds Tryd.pinned (OpenSpec.upto noticeNewSpec)

/-- 'tollwaylaw38.NoticeAdvances', WHERE WHAT IT READS IS OF BULK AT MOST 1048576: true; the input reads as it did. -/
def noticeAdvancesUptoRow : OpenClaim := { program := "ytkjohnjhdfblcaadoor", sum := "9cd5f0cd5255e4601a7c11f0c13c086065724de0cf716c63143eaef0e5f6135d", func := "tollway/tollwaylaw38.NoticeAdvances", spec := "noticeAdvances", inPlace := ["internal/bytealg.CountString", "internal/bytealg.IndexByteString", "internal/bytealg.IndexString"], named := ["unicode/utf8.first", "unicode/utf8.acceptRanges", "internal/bytealg.MaxLen"], apart := false, laid := [("unicode/utf8.acceptRanges", laid_unicode_utf8_acceptRanges), ("unicode/utf8.first", laid_unicode_utf8_first)], narrowed := true }
def NoticeAdvancesUptoSaid : Prop := noticeAdvancesUptoRow.holds Tryd.pinned (OpenSpec.upto noticeAdvancesSpec)

/-- 'tollwaylaw38.NoticePays', WHERE WHAT IT READS IS OF BULK AT MOST 1048576: true; the input reads as it did. -/
def noticePaysUptoRow : OpenClaim := { program := "ytkjohnjhdfblcaadoor", sum := "9cd5f0cd5255e4601a7c11f0c13c086065724de0cf716c63143eaef0e5f6135d", func := "tollway/tollwaylaw38.NoticePays", spec := "noticePays", inPlace := ["internal/bytealg.CountString", "internal/bytealg.IndexByteString", "internal/bytealg.IndexString"], named := ["unicode/utf8.first", "unicode/utf8.acceptRanges", "internal/bytealg.MaxLen"], apart := false, laid := [("unicode/utf8.acceptRanges", laid_unicode_utf8_acceptRanges), ("unicode/utf8.first", laid_unicode_utf8_first)], narrowed := true }
def NoticePaysUptoSaid : Prop := noticePaysUptoRow.holds Tryd.pinned (OpenSpec.upto noticePaysSpec)

/-- 'tollwaylaw38.NoticeTwice', WHERE WHAT IT READS IS OF BULK AT MOST 1048576: true; the input reads as it did. -/
def noticeTwiceUptoRow : OpenClaim := { program := "ytkjohnjhdfblcaadoor", sum := "9cd5f0cd5255e4601a7c11f0c13c086065724de0cf716c63143eaef0e5f6135d", func := "tollway/tollwaylaw38.NoticeTwice", spec := "noticeTwice", inPlace := ["internal/bytealg.CountString", "internal/bytealg.IndexByteString", "internal/bytealg.IndexString"], named := ["unicode/utf8.first", "unicode/utf8.acceptRanges", "internal/bytealg.MaxLen"], apart := false, laid := [("unicode/utf8.acceptRanges", laid_unicode_utf8_acceptRanges), ("unicode/utf8.first", laid_unicode_utf8_first)], narrowed := true }
def NoticeTwiceUptoSaid : Prop := noticeTwiceUptoRow.holds Tryd.pinned (OpenSpec.upto noticeTwiceSpec)

/-- 'tollwaylaw38.NoticeStages', WHERE WHAT IT READS IS OF BULK AT MOST 1048576: true; the input reads as it did. -/
def noticeStagesUptoRow : OpenClaim := { program := "ytkjohnjhdfblcaadoor", sum := "9cd5f0cd5255e4601a7c11f0c13c086065724de0cf716c63143eaef0e5f6135d", func := "tollway/tollwaylaw38.NoticeStages", spec := "noticeStages", inPlace := ["internal/bytealg.CountString", "internal/bytealg.IndexByteString", "internal/bytealg.IndexString"], named := ["unicode/utf8.first", "unicode/utf8.acceptRanges", "internal/bytealg.MaxLen"], apart := false, laid := [("unicode/utf8.acceptRanges", laid_unicode_utf8_acceptRanges), ("unicode/utf8.first", laid_unicode_utf8_first)], narrowed := true }
def NoticeStagesUptoSaid : Prop := noticeStagesUptoRow.holds Tryd.pinned (OpenSpec.upto noticeStagesSpec)

/-- 'tollwaylaw38.NoticeWhole', WHERE WHAT IT READS IS OF BULK AT MOST 1048576: true; the input reads as it did. -/
def noticeWholeUptoRow : OpenClaim := { program := "ytkjohnjhdfblcaadoor", sum := "9cd5f0cd5255e4601a7c11f0c13c086065724de0cf716c63143eaef0e5f6135d", func := "tollway/tollwaylaw38.NoticeWhole", spec := "noticeWhole", inPlace := ["internal/bytealg.CountString", "internal/bytealg.IndexByteString", "internal/bytealg.IndexString"], named := ["unicode/utf8.first", "unicode/utf8.acceptRanges", "internal/bytealg.MaxLen"], apart := false, laid := [("unicode/utf8.acceptRanges", laid_unicode_utf8_acceptRanges), ("unicode/utf8.first", laid_unicode_utf8_first)], narrowed := true }
def NoticeWholeUptoSaid : Prop := noticeWholeUptoRow.holds Tryd.pinned (OpenSpec.upto noticeWholeSpec)

/-- 'tollwaylaw39.AppealFiles', WHERE WHAT IT READS IS OF BULK AT MOST 1048576: true; the input reads as it did. -/
def appealFilesUptoRow : OpenClaim := { program := "ytkjohnjhdfblcaadoor", sum := "9cd5f0cd5255e4601a7c11f0c13c086065724de0cf716c63143eaef0e5f6135d", func := "tollway/tollwaylaw39.AppealFiles", spec := "appealFiles", inPlace := ["internal/bytealg.CountString", "internal/bytealg.IndexByteString", "internal/bytealg.IndexString"], named := ["unicode/utf8.first", "unicode/utf8.acceptRanges", "internal/bytealg.MaxLen"], apart := false, laid := [("unicode/utf8.acceptRanges", laid_unicode_utf8_acceptRanges), ("unicode/utf8.first", laid_unicode_utf8_first)], narrowed := true }
def AppealFilesUptoSaid : Prop := appealFilesUptoRow.holds Tryd.pinned (OpenSpec.upto appealFilesSpec)

/-- 'tollwaylaw39.AppealDecides', WHERE WHAT IT READS IS OF BULK AT MOST 1048576: true; the input reads as it did. -/
def appealDecidesUptoRow : OpenClaim := { program := "ytkjohnjhdfblcaadoor", sum := "9cd5f0cd5255e4601a7c11f0c13c086065724de0cf716c63143eaef0e5f6135d", func := "tollway/tollwaylaw39.AppealDecides", spec := "appealDecides", inPlace := ["internal/bytealg.CountString", "internal/bytealg.IndexByteString", "internal/bytealg.IndexString"], named := ["unicode/utf8.first", "unicode/utf8.acceptRanges", "internal/bytealg.MaxLen"], apart := false, laid := [("unicode/utf8.acceptRanges", laid_unicode_utf8_acceptRanges), ("unicode/utf8.first", laid_unicode_utf8_first)], narrowed := true }
def AppealDecidesUptoSaid : Prop := appealDecidesUptoRow.holds Tryd.pinned (OpenSpec.upto appealDecidesSpec)

/-- 'tollwaylaw39.AppealAsks', WHERE WHAT IT READS IS OF BULK AT MOST 1048576: true; the input reads as it did. -/
def appealAsksUptoRow : OpenClaim := { program := "ytkjohnjhdfblcaadoor", sum := "9cd5f0cd5255e4601a7c11f0c13c086065724de0cf716c63143eaef0e5f6135d", func := "tollway/tollwaylaw39.AppealAsks", spec := "appealAsks", inPlace := ["internal/bytealg.CountString", "internal/bytealg.IndexByteString", "internal/bytealg.IndexString"], named := ["unicode/utf8.first", "unicode/utf8.acceptRanges", "internal/bytealg.MaxLen"], apart := false, laid := [("unicode/utf8.acceptRanges", laid_unicode_utf8_acceptRanges), ("unicode/utf8.first", laid_unicode_utf8_first)], narrowed := true }
def AppealAsksUptoSaid : Prop := appealAsksUptoRow.holds Tryd.pinned (OpenSpec.upto appealAsksSpec)

/-- 'tollwaylaw39.AppealStops', WHERE WHAT IT READS IS OF BULK AT MOST 1048576: true; the input reads as it did. -/
def appealStopsUptoRow : OpenClaim := { program := "ytkjohnjhdfblcaadoor", sum := "9cd5f0cd5255e4601a7c11f0c13c086065724de0cf716c63143eaef0e5f6135d", func := "tollway/tollwaylaw39.AppealStops", spec := "appealStops", inPlace := ["internal/bytealg.CountString", "internal/bytealg.IndexByteString", "internal/bytealg.IndexString"], named := ["unicode/utf8.first", "unicode/utf8.acceptRanges", "internal/bytealg.MaxLen"], apart := false, laid := [("unicode/utf8.acceptRanges", laid_unicode_utf8_acceptRanges), ("unicode/utf8.first", laid_unicode_utf8_first)], narrowed := true }
def AppealStopsUptoSaid : Prop := appealStopsUptoRow.holds Tryd.pinned (OpenSpec.upto appealStopsSpec)

/-- 'tollwaylaw39.AppealOnce', WHERE WHAT IT READS IS OF BULK AT MOST 1048576: true; the input reads as it did. -/
def appealOnceUptoRow : OpenClaim := { program := "ytkjohnjhdfblcaadoor", sum := "9cd5f0cd5255e4601a7c11f0c13c086065724de0cf716c63143eaef0e5f6135d", func := "tollway/tollwaylaw39.AppealOnce", spec := "appealOnce", inPlace := ["internal/bytealg.CountString", "internal/bytealg.IndexByteString", "internal/bytealg.IndexString"], named := ["unicode/utf8.first", "unicode/utf8.acceptRanges", "internal/bytealg.MaxLen"], apart := false, laid := [("unicode/utf8.acceptRanges", laid_unicode_utf8_acceptRanges), ("unicode/utf8.first", laid_unicode_utf8_first)], narrowed := true }
def AppealOnceUptoSaid : Prop := appealOnceUptoRow.holds Tryd.pinned (OpenSpec.upto appealOnceSpec)

/-- 'tollwaylaw39.AppealDelays', WHERE WHAT IT READS IS OF BULK AT MOST 1048576: true; the input reads as it did. -/
def appealDelaysUptoRow : OpenClaim := { program := "ytkjohnjhdfblcaadoor", sum := "9cd5f0cd5255e4601a7c11f0c13c086065724de0cf716c63143eaef0e5f6135d", func := "tollway/tollwaylaw39.AppealDelays", spec := "appealDelays", inPlace := ["internal/bytealg.CountString", "internal/bytealg.IndexByteString", "internal/bytealg.IndexString"], named := ["unicode/utf8.first", "unicode/utf8.acceptRanges", "internal/bytealg.MaxLen"], apart := false, laid := [("unicode/utf8.acceptRanges", laid_unicode_utf8_acceptRanges), ("unicode/utf8.first", laid_unicode_utf8_first)], narrowed := true }
def AppealDelaysUptoSaid : Prop := appealDelaysUptoRow.holds Tryd.pinned (OpenSpec.upto appealDelaysSpec)

/-- 'tollwaytop.TopCases', WHERE WHAT IT READS IS OF BULK AT MOST 1048576: true; the input reads as it did. -/
def topCasesUptoRow : OpenClaim := { program := "ytkjohnjhdfblcaadoor", sum := "9cd5f0cd5255e4601a7c11f0c13c086065724de0cf716c63143eaef0e5f6135d", func := "tollway/tollwaytop.TopCases", spec := "topCases", inPlace := ["internal/bytealg.CountString", "internal/bytealg.IndexByteString", "internal/bytealg.IndexString"], named := ["unicode/utf8.first", "unicode/utf8.acceptRanges", "internal/bytealg.MaxLen"], apart := false, laid := [("unicode/utf8.acceptRanges", laid_unicode_utf8_acceptRanges), ("unicode/utf8.first", laid_unicode_utf8_first)], narrowed := true }
def TopCasesUptoSaid : Prop := topCasesUptoRow.holds Tryd.pinned (OpenSpec.upto topCasesSpec)

end Rows
end Go.Proofs.YtkjohnjhdfblcaaDoor
