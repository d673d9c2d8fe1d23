/-
  NARROWER THAN 'FOR EVERY INPUT', by the rows' own cells (each row's printed sentence says how): EvidenceDigests: laid · EvidenceBuilds: laid · EvidenceAdds: laid · EvidenceFirst: laid · EvidenceSteps: laid · EvidenceReveals: laid · EvidenceAgree: laid · TopImages: laid.
  DERIVED. THE GIVEN ROWS OF THIS SEAT. 8 by the template 'for every input the law returns true; each argument reads behind the call as it read before'; 0 by the template 'total and deterministic' (their statements: YtafpahkcjdfpiaaDoorTotals.lean).
  GIVEN WITH THE SEED: the statements are not yours to turn. If you find one false, say at which input.
  Laid BY PROGRAM, IN A SANDBOX (cutbox-rows.mjs): the forced cells as the released guide's own fill.sh prints them over the translation 50b7e6a2c4107720… (all of the seat's roots in one cut). By AI agents, Wed Nov 11 2026. No macro, syntax, notation, axiom, sorry.
-/
import Derived.Test.YtafpahkcjdfpiaaDoorChecked
import GoSem.PinnedTables
import GoSem.Claim
import GoSem.ClaimJoined
import GoSem.ClaimMapViews
import Derived.JoinedTies
import Derived.KernelRfl
namespace Go.Proofs.YtafpahkcjdfpiaaDoor
/- THE CELL 'sum', in the pinned program and in every row, IS THE sha256 OF THE DUMP (.gsa) THAT YtafpahkcjdfpiaaDoorProg.lean LOADS. Nothing in Lean hashes anything: it is a label: what it is worth is what the hold of that sum in a sandbox is worth. -/
noncomputable def Tryd.pinned : Pinned := { name := "ytafpahkcjdfpiaadoor", sum := "50b7e6a2c410772058f5cf625c54f234b8221718bb72f996c96f77fefb55820e", checked := Tryd.checked }
namespace Rows
def none {H : Type} : Left H := { results := [], args := [] }

/- WHAT THE LISTED PACKAGE-LEVEL VARIABLES READ AS WHEN THE CALL BEGINS. Each datum BY PROGRAM (the guide's laid-datum.mjs) off the statement by which the dump's own 'gosem.cut.vars' lays the variable. In a bare row this is a premise. The card (YtafpahkcjdfpiaaDoorCards.lean) ties it to the program's text. -/
def laid_unicode_utf8_acceptRanges {H : Type} : DataW H := .agg [.agg [.lit (.int .u8 128), .lit (.int .u8 191)], .agg [.lit (.int .u8 160), .lit (.int .u8 191)], .agg [.lit (.int .u8 128), .lit (.int .u8 159)], .agg [.lit (.int .u8 144), .lit (.int .u8 191)], .agg [.lit (.int .u8 128), .lit (.int .u8 143)], .agg [.lit (.int .u8 0), .lit (.int .u8 0)], .agg [.lit (.int .u8 0), .lit (.int .u8 0)], .agg [.lit (.int .u8 0), .lit (.int .u8 0)], .agg [.lit (.int .u8 0), .lit (.int .u8 0)], .agg [.lit (.int .u8 0), .lit (.int .u8 0)], .agg [.lit (.int .u8 0), .lit (.int .u8 0)], .agg [.lit (.int .u8 0), .lit (.int .u8 0)], .agg [.lit (.int .u8 0), .lit (.int .u8 0)], .agg [.lit (.int .u8 0), .lit (.int .u8 0)], .agg [.lit (.int .u8 0), .lit (.int .u8 0)], .agg [.lit (.int .u8 0), .lit (.int .u8 0)]]
/-- One of Go's own tables, pinned by name: the form's constant. -/
def laid_unicode_utf8_first : DataW Unit := Go.Pinned.utf8First

/-- 'tollwaylaw41.EvidenceDigests': WHATEVER THE INPUT: true; the input reads as it did. -/
def evidenceDigestsSpec : ChangeSpec := { name := "evidenceDigests", fn := fun _ => fun
  | [d] => { results := [.lit (.bool true)], args := [d] }
  | _ => none }
def evidenceDigestsRow : OpenClaim := { program := "ytafpahkcjdfpiaadoor", sum := "50b7e6a2c410772058f5cf625c54f234b8221718bb72f996c96f77fefb55820e", func := "tollway/tollwaylaw41.EvidenceDigests", spec := "evidenceDigests", inPlace := ["internal/bytealg.CountString", "internal/bytealg.IndexByteString", "internal/bytealg.IndexString"], unfollowed := true, recurses := true, named := ["unicode/utf8.first", "unicode/utf8.acceptRanges", "internal/bytealg.MaxLen"], apart := false, laid := [("unicode/utf8.acceptRanges", laid_unicode_utf8_acceptRanges), ("unicode/utf8.first", laid_unicode_utf8_first)] }
def EvidenceDigestsSaid : Prop := evidenceDigestsRow.holds Tryd.pinned (OpenSpec.ofChange evidenceDigestsSpec)

/-- ITS FALSE NEIGHBOUR: 'it returns false'. Refute it at one input. -/
def evidenceDigestsWrong : ChangeSpec := { name := "evidenceDigests", fn := fun _ => fun
  | [d] => { results := [.lit (.bool false)], args := [d] }
  | _ => none }
def EvidenceDigestsWrongFalsely : Prop := evidenceDigestsRow.holds Tryd.pinned (OpenSpec.ofChange evidenceDigestsWrong)

/-- 'tollwaylaw41.EvidenceBuilds': WHATEVER THE INPUT: true; the input reads as it did. -/
def evidenceBuildsSpec : ChangeSpec := { name := "evidenceBuilds", fn := fun _ => fun
  | [d1, d2] => { results := [.lit (.bool true)], args := [d1, d2] }
  | _ => none }
def evidenceBuildsRow : OpenClaim := { program := "ytafpahkcjdfpiaadoor", sum := "50b7e6a2c410772058f5cf625c54f234b8221718bb72f996c96f77fefb55820e", func := "tollway/tollwaylaw41.EvidenceBuilds", spec := "evidenceBuilds", inPlace := ["internal/bytealg.CountString", "internal/bytealg.IndexByteString", "internal/bytealg.IndexString"], unfollowed := true, recurses := true, named := ["unicode/utf8.first", "unicode/utf8.acceptRanges", "internal/bytealg.MaxLen"], apart := false, laid := [("unicode/utf8.acceptRanges", laid_unicode_utf8_acceptRanges), ("unicode/utf8.first", laid_unicode_utf8_first)] }
def EvidenceBuildsSaid : Prop := evidenceBuildsRow.holds Tryd.pinned (OpenSpec.ofChange evidenceBuildsSpec)

/-- ITS FALSE NEIGHBOUR: 'it returns false'. Refute it at one input. -/
def evidenceBuildsWrong : ChangeSpec := { name := "evidenceBuilds", fn := fun _ => fun
  | [d1, d2] => { results := [.lit (.bool false)], args := [d1, d2] }
  | _ => none }
def EvidenceBuildsWrongFalsely : Prop := evidenceBuildsRow.holds Tryd.pinned (OpenSpec.ofChange evidenceBuildsWrong)

/-- 'tollwaylaw41.EvidenceAdds': WHATEVER THE INPUT: true; the input reads as it did. -/
def evidenceAddsSpec : ChangeSpec := { name := "evidenceAdds", fn := fun _ => fun
  | [d1, d2] => { results := [.lit (.bool true)], args := [d1, d2] }
  | _ => none }
def evidenceAddsRow : OpenClaim := { program := "ytafpahkcjdfpiaadoor", sum := "50b7e6a2c410772058f5cf625c54f234b8221718bb72f996c96f77fefb55820e", func := "tollway/tollwaylaw41.EvidenceAdds", spec := "evidenceAdds", inPlace := ["internal/bytealg.CountString", "internal/bytealg.IndexByteString", "internal/bytealg.IndexString"], unfollowed := true, recurses := true, named := ["unicode/utf8.first", "unicode/utf8.acceptRanges", "internal/bytealg.MaxLen"], apart := false, laid := [("unicode/utf8.acceptRanges", laid_unicode_utf8_acceptRanges), ("unicode/utf8.first", laid_unicode_utf8_first)] }
def EvidenceAddsSaid : Prop := evidenceAddsRow.holds Tryd.pinned (OpenSpec.ofChange evidenceAddsSpec)

/-- ITS FALSE NEIGHBOUR: 'it returns false'. Refute it at one input. -/
def evidenceAddsWrong : ChangeSpec := { name := "evidenceAdds", fn := fun _ => fun
  | [d1, d2] => { results := [.lit (.bool false)], args := [d1, d2] }
  | _ => none }
def EvidenceAddsWrongFalsely : Prop := evidenceAddsRow.holds Tryd.pinned (OpenSpec.ofChange evidenceAddsWrong)

/-- 'tollwaylaw41.EvidenceFirst': WHATEVER THE INPUT: true; the input reads as it did. -/
def evidenceFirstSpec : ChangeSpec := { name := "evidenceFirst", fn := fun _ => fun
  | [d1, d2] => { results := [.lit (.bool true)], args := [d1, d2] }
  | _ => none }
def evidenceFirstRow : OpenClaim := { program := "ytafpahkcjdfpiaadoor", sum := "50b7e6a2c410772058f5cf625c54f234b8221718bb72f996c96f77fefb55820e", func := "tollway/tollwaylaw41.EvidenceFirst", spec := "evidenceFirst", inPlace := ["internal/bytealg.CountString", "internal/bytealg.IndexByteString", "internal/bytealg.IndexString"], unfollowed := true, recurses := true, named := ["unicode/utf8.first", "unicode/utf8.acceptRanges", "internal/bytealg.MaxLen"], apart := false, laid := [("unicode/utf8.acceptRanges", laid_unicode_utf8_acceptRanges), ("unicode/utf8.first", laid_unicode_utf8_first)] }
def EvidenceFirstSaid : Prop := evidenceFirstRow.holds Tryd.pinned (OpenSpec.ofChange evidenceFirstSpec)

/-- ITS FALSE NEIGHBOUR: 'it returns false'. Refute it at one input. -/
def evidenceFirstWrong : ChangeSpec := { name := "evidenceFirst", fn := fun _ => fun
  | [d1, d2] => { results := [.lit (.bool false)], args := [d1, d2] }
  | _ => none }
def EvidenceFirstWrongFalsely : Prop := evidenceFirstRow.holds Tryd.pinned (OpenSpec.ofChange evidenceFirstWrong)

/-- 'tollwaylaw41.EvidenceSteps': WHATEVER THE INPUT: true; the input reads as it did. -/
def evidenceStepsSpec : ChangeSpec := { name := "evidenceSteps", fn := fun _ => fun
  | [d1, d2] => { results := [.lit (.bool true)], args := [d1, d2] }
  | _ => none }
def evidenceStepsRow : OpenClaim := { program := "ytafpahkcjdfpiaadoor", sum := "50b7e6a2c410772058f5cf625c54f234b8221718bb72f996c96f77fefb55820e", func := "tollway/tollwaylaw41.EvidenceSteps", spec := "evidenceSteps", inPlace := ["internal/bytealg.CountString", "internal/bytealg.IndexByteString", "internal/bytealg.IndexString"], unfollowed := true, recurses := true, named := ["unicode/utf8.first", "unicode/utf8.acceptRanges", "internal/bytealg.MaxLen"], apart := false, laid := [("unicode/utf8.acceptRanges", laid_unicode_utf8_acceptRanges), ("unicode/utf8.first", laid_unicode_utf8_first)] }
def EvidenceStepsSaid : Prop := evidenceStepsRow.holds Tryd.pinned (OpenSpec.ofChange evidenceStepsSpec)

/-- ITS FALSE NEIGHBOUR: 'it returns false'. Refute it at one input. -/
def evidenceStepsWrong : ChangeSpec := { name := "evidenceSteps", fn := fun _ => fun
  | [d1, d2] => { results := [.lit (.bool false)], args := [d1, d2] }
  | _ => none }
def EvidenceStepsWrongFalsely : Prop := evidenceStepsRow.holds Tryd.pinned (OpenSpec.ofChange evidenceStepsWrong)

/-- 'tollwaylaw41.EvidenceReveals': WHATEVER THE INPUT: true; the input reads as it did. -/
def evidenceRevealsSpec : ChangeSpec := { name := "evidenceReveals", fn := fun _ => fun
  | [d1, d2, d3] => { results := [.lit (.bool true)], args := [d1, d2, d3] }
  | _ => none }
def evidenceRevealsRow : OpenClaim := { program := "ytafpahkcjdfpiaadoor", sum := "50b7e6a2c410772058f5cf625c54f234b8221718bb72f996c96f77fefb55820e", func := "tollway/tollwaylaw41.EvidenceReveals", spec := "evidenceReveals", inPlace := ["internal/bytealg.CountString", "internal/bytealg.IndexByteString", "internal/bytealg.IndexString"], unfollowed := true, recurses := true, named := ["unicode/utf8.first", "unicode/utf8.acceptRanges", "internal/bytealg.MaxLen"], apart := false, laid := [("unicode/utf8.acceptRanges", laid_unicode_utf8_acceptRanges), ("unicode/utf8.first", laid_unicode_utf8_first)] }
def EvidenceRevealsSaid : Prop := evidenceRevealsRow.holds Tryd.pinned (OpenSpec.ofChange evidenceRevealsSpec)

/-- ITS FALSE NEIGHBOUR: 'it returns false'. Refute it at one input. -/
def evidenceRevealsWrong : ChangeSpec := { name := "evidenceReveals", fn := fun _ => fun
  | [d1, d2, d3] => { results := [.lit (.bool false)], args := [d1, d2, d3] }
  | _ => none }
def EvidenceRevealsWrongFalsely : Prop := evidenceRevealsRow.holds Tryd.pinned (OpenSpec.ofChange evidenceRevealsWrong)

/-- 'tollwaylaw41.EvidenceAgree': WHATEVER THE INPUT: true; the input reads as it did. -/
def evidenceAgreeSpec : ChangeSpec := { name := "evidenceAgree", fn := fun _ => fun
  | [d1, d2, d3] => { results := [.lit (.bool true)], args := [d1, d2, d3] }
  | _ => none }
def evidenceAgreeRow : OpenClaim := { program := "ytafpahkcjdfpiaadoor", sum := "50b7e6a2c410772058f5cf625c54f234b8221718bb72f996c96f77fefb55820e", func := "tollway/tollwaylaw41.EvidenceAgree", spec := "evidenceAgree", inPlace := ["internal/bytealg.CountString", "internal/bytealg.IndexByteString", "internal/bytealg.IndexString"], unfollowed := true, recurses := true, named := ["unicode/utf8.first", "unicode/utf8.acceptRanges", "internal/bytealg.MaxLen"], apart := false, laid := [("unicode/utf8.acceptRanges", laid_unicode_utf8_acceptRanges), ("unicode/utf8.first", laid_unicode_utf8_first)] }
def EvidenceAgreeSaid : Prop := evidenceAgreeRow.holds Tryd.pinned (OpenSpec.ofChange evidenceAgreeSpec)

/-- ITS FALSE NEIGHBOUR: 'it returns false'. Refute it at one input. -/
def evidenceAgreeWrong : ChangeSpec := { name := "evidenceAgree", fn := fun _ => fun
  | [d1, d2, d3] => { results := [.lit (.bool false)], args := [d1, d2, d3] }
  | _ => none }
def EvidenceAgreeWrongFalsely : Prop := evidenceAgreeRow.holds Tryd.pinned (OpenSpec.ofChange evidenceAgreeWrong)

/-- 'tollwaytop.TopImages': WHATEVER THE INPUT: true; the input reads as it did. -/
def topImagesSpec : ChangeSpec := { name := "topImages", fn := fun _ => fun
  | [d1, d2, d3, d4] => { results := [.lit (.bool true)], args := [d1, d2, d3, d4] }
  | _ => none }
def topImagesRow : OpenClaim := { program := "ytafpahkcjdfpiaadoor", sum := "50b7e6a2c410772058f5cf625c54f234b8221718bb72f996c96f77fefb55820e", func := "tollway/tollwaytop.TopImages", spec := "topImages", inPlace := ["internal/bytealg.CountString", "internal/bytealg.IndexByteString", "internal/bytealg.IndexString"], unfollowed := true, recurses := true, named := ["unicode/utf8.first", "unicode/utf8.acceptRanges", "internal/bytealg.MaxLen"], apart := false, laid := [("unicode/utf8.acceptRanges", laid_unicode_utf8_acceptRanges), ("unicode/utf8.first", laid_unicode_utf8_first)] }
def TopImagesSaid : Prop := topImagesRow.holds Tryd.pinned (OpenSpec.ofChange topImagesSpec)

/-- ITS FALSE NEIGHBOUR: 'it returns false'. Refute it at one input. -/
def topImagesWrong : ChangeSpec := { name := "topImages", fn := fun _ => fun
  | [d1, d2, d3, d4] => { results := [.lit (.bool false)], args := [d1, d2, d3, d4] }
  | _ => none }
def TopImagesWrongFalsely : Prop := topImagesRow.holds Tryd.pinned (OpenSpec.ofChange topImagesWrong)

/- THE SECOND FORM. 'bulk': how many values and letters a reading holds, each counted each time it is reached (what is shared counts as often as it is met; a slice's spare places count too). A statement '..UptoSaid' is the law's where the arguments, and the package variables that the reading takes, are together of bulk at most 1048576: NARROWER than '..Said'. Prove '..Said' where nothing that the law and all that it calls make is longer than what came in: it says more and counts as full. Else prove '..UptoSaid'. A law counts once. -/
mutual
def uptoBulk {H : Type} : DataW H → Nat
  | .lit (.string bytes) => bytes.length + 1
  | .lit _ => 1
  | .nil => 1
  | .ptr d => uptoBulk d + 1
  | .slice elems spare => uptoBulkAll elems + uptoBulkAll spare + 1
  | .agg parts => uptoBulkAll parts + 1
  | .iface _ d => uptoBulk d + 1
  | .map entries => uptoBulkEntries entries + 1
  | .held _ => 1
def uptoBulkAll {H : Type} : List (DataW H) → Nat
  | [] => 0
  | d :: r => uptoBulk d + uptoBulkAll r
def uptoBulkEntries {H : Type} : List (Lit × DataW H) → Nat
  | [] => 0
  | x :: r => uptoBulkEntry x + uptoBulkEntries r
def uptoBulkEntry {H : Type} : Lit × DataW H → Nat
  | (.string bytes, d) => bytes.length + uptoBulk d + 1
  | (_, d) => uptoBulk d + 1
 end
def uptoSmall : (H : Type) → List (DataW H) → Bool := fun _ ds => decide (uptoBulkAll ds ≤ 1048576)
def OpenSpec.upto (s : _root_.Go.ChangeSpec) : _root_.Go.OpenSpec := { _root_.Go.OpenSpec.ofChange s with cond := some uptoSmall }

/-- 'tollwaylaw41.EvidenceDigests', WHERE WHAT IT READS IS OF BULK AT MOST 1048576: true; the input reads as it did. -/
def evidenceDigestsUptoRow : OpenClaim := { program := "ytafpahkcjdfpiaadoor", sum := "50b7e6a2c410772058f5cf625c54f234b8221718bb72f996c96f77fefb55820e", func := "tollway/tollwaylaw41.EvidenceDigests", spec := "evidenceDigests", inPlace := ["internal/bytealg.CountString", "internal/bytealg.IndexByteString", "internal/bytealg.IndexString"], unfollowed := true, recurses := true, named := ["unicode/utf8.first", "unicode/utf8.acceptRanges", "internal/bytealg.MaxLen"], apart := false, laid := [("unicode/utf8.acceptRanges", laid_unicode_utf8_acceptRanges), ("unicode/utf8.first", laid_unicode_utf8_first)], narrowed := true }
def EvidenceDigestsUptoSaid : Prop := evidenceDigestsUptoRow.holds Tryd.pinned (OpenSpec.upto evidenceDigestsSpec)

/-- 'tollwaylaw41.EvidenceBuilds', WHERE WHAT IT READS IS OF BULK AT MOST 1048576: true; the input reads as it did. -/
def evidenceBuildsUptoRow : OpenClaim := { program := "ytafpahkcjdfpiaadoor", sum := "50b7e6a2c410772058f5cf625c54f234b8221718bb72f996c96f77fefb55820e", func := "tollway/tollwaylaw41.EvidenceBuilds", spec := "evidenceBuilds", inPlace := ["internal/bytealg.CountString", "internal/bytealg.IndexByteString", "internal/bytealg.IndexString"], unfollowed := true, recurses := true, named := ["unicode/utf8.first", "unicode/utf8.acceptRanges", "internal/bytealg.MaxLen"], apart := false, laid := [("unicode/utf8.acceptRanges", laid_unicode_utf8_acceptRanges), ("unicode/utf8.first", laid_unicode_utf8_first)], narrowed := true }
def EvidenceBuildsUptoSaid : Prop := evidenceBuildsUptoRow.holds Tryd.pinned (OpenSpec.upto evidenceBuildsSpec)

/-- 'tollwaylaw41.EvidenceAdds', WHERE WHAT IT READS IS OF BULK AT MOST 1048576: true; the input reads as it did. -/
def evidenceAddsUptoRow : OpenClaim := { program := "ytafpahkcjdfpiaadoor", sum := "50b7e6a2c410772058f5cf625c54f234b8221718bb72f996c96f77fefb55820e", func := "tollway/tollwaylaw41.EvidenceAdds", spec := "evidenceAdds", inPlace := ["internal/bytealg.CountString", "internal/bytealg.IndexByteString", "internal/bytealg.IndexString"], unfollowed := true, recurses := true, named := ["unicode/utf8.first", "unicode/utf8.acceptRanges", "internal/bytealg.MaxLen"], apart := false, laid := [("unicode/utf8.acceptRanges", laid_unicode_utf8_acceptRanges), ("unicode/utf8.first", laid_unicode_utf8_first)], narrowed := true }
def EvidenceAddsUptoSaid : Prop := evidenceAddsUptoRow.holds Tryd.pinned (OpenSpec.upto evidenceAddsSpec)

/-- 'tollwaylaw41.EvidenceFirst', WHERE WHAT IT READS IS OF BULK AT MOST 1048576: true; the input reads as it did. -/
def evidenceFirstUptoRow : OpenClaim := { program := "ytafpahkcjdfpiaadoor", sum := "50b7e6a2c410772058f5cf625c54f234b8221718bb72f996c96f77fefb55820e", func := "tollway/tollwaylaw41.EvidenceFirst", spec := "evidenceFirst", inPlace := ["internal/bytealg.CountString", "internal/bytealg.IndexByteString", "internal/bytealg.IndexString"], unfollowed := true, recurses := true, named := ["unicode/utf8.first", "unicode/utf8.acceptRanges", "internal/bytealg.MaxLen"], apart := false, laid := [("unicode/utf8.acceptRanges", laid_unicode_utf8_acceptRanges), ("unicode/utf8.first", laid_unicode_utf8_first)], narrowed := true }
def EvidenceFirstUptoSaid : Prop := evidenceFirstUptoRow.holds Tryd.pinned (OpenSpec.upto evidenceFirstSpec)

/-- 'tollwaylaw41.EvidenceSteps', WHERE WHAT IT READS IS OF BULK AT MOST 1048576: true; the input reads as it did. -/
def evidenceStepsUptoRow : OpenClaim := { program := "ytafpahkcjdfpiaadoor", sum := "50b7e6a2c410772058f5cf625c54f234b8221718bb72f996c96f77fefb55820e", func := "tollway/tollwaylaw41.EvidenceSteps", spec := "evidenceSteps", inPlace := ["internal/bytealg.CountString", "internal/bytealg.IndexByteString", "internal/bytealg.IndexString"], unfollowed := true, recurses := true, named := ["unicode/utf8.first", "unicode/utf8.acceptRanges", "internal/bytealg.MaxLen"], apart := false, laid := [("unicode/utf8.acceptRanges", laid_unicode_utf8_acceptRanges), ("unicode/utf8.first", laid_unicode_utf8_first)], narrowed := true }
def EvidenceStepsUptoSaid : Prop := evidenceStepsUptoRow.holds Tryd.pinned (OpenSpec.upto evidenceStepsSpec)

/-- 'tollwaylaw41.EvidenceReveals', WHERE WHAT IT READS IS OF BULK AT MOST 1048576: true; the input reads as it did. -/
def evidenceRevealsUptoRow : OpenClaim := { program := "ytafpahkcjdfpiaadoor", sum := "50b7e6a2c410772058f5cf625c54f234b8221718bb72f996c96f77fefb55820e", func := "tollway/tollwaylaw41.EvidenceReveals", spec := "evidenceReveals", inPlace := ["internal/bytealg.CountString", "internal/bytealg.IndexByteString", "internal/bytealg.IndexString"], unfollowed := true, recurses := true, named := ["unicode/utf8.first", "unicode/utf8.acceptRanges", "internal/bytealg.MaxLen"], apart := false, laid := [("unicode/utf8.acceptRanges", laid_unicode_utf8_acceptRanges), ("unicode/utf8.first", laid_unicode_utf8_first)], narrowed := true }
def EvidenceRevealsUptoSaid : Prop := evidenceRevealsUptoRow.holds Tryd.pinned (OpenSpec.upto evidenceRevealsSpec)

/-- 'tollwaylaw41.EvidenceAgree', WHERE WHAT IT READS IS OF BULK AT MOST 1048576: true; the input reads as it did. -/
def evidenceAgreeUptoRow : OpenClaim := { program := "ytafpahkcjdfpiaadoor", sum := "50b7e6a2c410772058f5cf625c54f234b8221718bb72f996c96f77fefb55820e", func := "tollway/tollwaylaw41.EvidenceAgree", spec := "evidenceAgree", inPlace := ["internal/bytealg.CountString", "internal/bytealg.IndexByteString", "internal/bytealg.IndexString"], unfollowed := true, recurses := true, named := ["unicode/utf8.first", "unicode/utf8.acceptRanges", "internal/bytealg.MaxLen"], apart := false, laid := [("unicode/utf8.acceptRanges", laid_unicode_utf8_acceptRanges), ("unicode/utf8.first", laid_unicode_utf8_first)], narrowed := true }
def EvidenceAgreeUptoSaid : Prop := evidenceAgreeUptoRow.holds Tryd.pinned (OpenSpec.upto evidenceAgreeSpec)

/-- 'tollwaytop.TopImages', WHERE WHAT IT READS IS OF BULK AT MOST 1048576: true; the input reads as it did. -/
def topImagesUptoRow : OpenClaim := { program := "ytafpahkcjdfpiaadoor", sum := "50b7e6a2c410772058f5cf625c54f234b8221718bb72f996c96f77fefb55820e", func := "tollway/tollwaytop.TopImages", spec := "topImages", inPlace := ["internal/bytealg.CountString", "internal/bytealg.IndexByteString", "internal/bytealg.IndexString"], unfollowed := true, recurses := true, named := ["unicode/utf8.first", "unicode/utf8.acceptRanges", "internal/bytealg.MaxLen"], apart := false, laid := [("unicode/utf8.acceptRanges", laid_unicode_utf8_acceptRanges), ("unicode/utf8.first", laid_unicode_utf8_first)], narrowed := true }
def TopImagesUptoSaid : Prop := topImagesUptoRow.holds Tryd.pinned (OpenSpec.upto topImagesSpec)

end Rows
end Go.Proofs.YtafpahkcjdfpiaaDoor
