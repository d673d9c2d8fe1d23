/-
  NARROWER THAN 'FOR EVERY INPUT', by the rows' own cells (each row's printed sentence says how): DisputeChecks: laid · DisputeDeeds: laid · DisputePlays: laid · DisputeOnce: laid · DisputeValid: laid.
  DERIVED. THE GIVEN ROWS OF THIS SEAT. 5 by the template 'for every input the law returns true; each argument reads behind the call as it read before'; 0 by the template 'total and deterministic' (their statements: YtkfghnflbehecaaDoorTotals.lean).
  GIVEN WITH THE SEED: the statements are not yours to turn. If you find one false, say at which input.
  Laid BY PROGRAM, IN A SANDBOX (cutbox-rows.mjs): the forced cells as the released guide's own fill.sh prints them over the translation dd6b12323e256f86… (all of the seat's roots in one cut). By AI agents, Wed Nov 11 2026. No macro, syntax, notation, axiom, sorry.
-/
import Derived.Test.YtkfghnflbehecaaDoorChecked
import GoSem.PinnedTables
import GoSem.Claim
import GoSem.ClaimJoined
import GoSem.ClaimMapViews
import Derived.JoinedTies
import Derived.KernelRfl
namespace Go.Proofs.YtkfghnflbehecaaDoor
/- THE CELL 'sum', in the pinned program and in every row, IS THE sha256 OF THE DUMP (.gsa) THAT YtkfghnflbehecaaDoorProg.lean LOADS. Nothing in Lean hashes anything: it is a label: what it is worth is what the hold of that sum in a sandbox is worth. -/
noncomputable def Tryd.pinned : Pinned := { name := "ytkfghnflbehecaadoor", sum := "dd6b12323e256f86e9b4141e8e765f458c7961d54ed381af47220cedc00d7eba", checked := Tryd.checked }
namespace Rows
def none {H : Type} : Left H := { results := [], args := [] }

/- WHAT THE LISTED PACKAGE-LEVEL VARIABLES READ AS WHEN THE CALL BEGINS. Each datum BY PROGRAM (the guide's laid-datum.mjs) off the statement by which the dump's own 'gosem.cut.vars' lays the variable. In a bare row this is a premise. The card (YtkfghnflbehecaaDoorCards.lean) ties it to the program's text. -/
def laid_unicode_utf8_acceptRanges {H : Type} : DataW H := .agg [.agg [.lit (.int .u8 128), .lit (.int .u8 191)], .agg [.lit (.int .u8 160), .lit (.int .u8 191)], .agg [.lit (.int .u8 128), .lit (.int .u8 159)], .agg [.lit (.int .u8 144), .lit (.int .u8 191)], .agg [.lit (.int .u8 128), .lit (.int .u8 143)], .agg [.lit (.int .u8 0), .lit (.int .u8 0)], .agg [.lit (.int .u8 0), .lit (.int .u8 0)], .agg [.lit (.int .u8 0), .lit (.int .u8 0)], .agg [.lit (.int .u8 0), .lit (.int .u8 0)], .agg [.lit (.int .u8 0), .lit (.int .u8 0)], .agg [.lit (.int .u8 0), .lit (.int .u8 0)], .agg [.lit (.int .u8 0), .lit (.int .u8 0)], .agg [.lit (.int .u8 0), .lit (.int .u8 0)], .agg [.lit (.int .u8 0), .lit (.int .u8 0)], .agg [.lit (.int .u8 0), .lit (.int .u8 0)], .agg [.lit (.int .u8 0), .lit (.int .u8 0)]]
/-- One of Go's own tables, pinned by name: the form's constant. -/
def laid_unicode_utf8_first : DataW Unit := Go.Pinned.utf8First

/-- 'tollwaylaw36.DisputeChecks': WHATEVER THE INPUT: true; the input reads as it did. -/
def disputeChecksSpec : ChangeSpec := { name := "disputeChecks", fn := fun _ => fun
  | [d] => { results := [.lit (.bool true)], args := [d] }
  | _ => none }
def disputeChecksRow : OpenClaim := { program := "ytkfghnflbehecaadoor", sum := "dd6b12323e256f86e9b4141e8e765f458c7961d54ed381af47220cedc00d7eba", func := "tollway/tollwaylaw36.DisputeChecks", spec := "disputeChecks", inPlace := ["internal/bytealg.CountString", "internal/bytealg.IndexByteString", "internal/bytealg.IndexString"], unfollowed := true, recurses := true, named := ["unicode/utf8.first", "unicode/utf8.acceptRanges", "internal/bytealg.MaxLen"], apart := false, laid := [("unicode/utf8.acceptRanges", laid_unicode_utf8_acceptRanges), ("unicode/utf8.first", laid_unicode_utf8_first)] }
def DisputeChecksSaid : Prop := disputeChecksRow.holds Tryd.pinned (OpenSpec.ofChange disputeChecksSpec)

/-- ITS FALSE NEIGHBOUR: 'it returns false'. Refute it at one input. -/
def disputeChecksWrong : ChangeSpec := { name := "disputeChecks", fn := fun _ => fun
  | [d] => { results := [.lit (.bool false)], args := [d] }
  | _ => none }
def DisputeChecksWrongFalsely : Prop := disputeChecksRow.holds Tryd.pinned (OpenSpec.ofChange disputeChecksWrong)

/-- 'tollwaylaw36.DisputeDeeds': WHATEVER THE INPUT: true; the input reads as it did. -/
def disputeDeedsSpec : ChangeSpec := { name := "disputeDeeds", fn := fun _ => fun
  | [d1, d2] => { results := [.lit (.bool true)], args := [d1, d2] }
  | _ => none }
def disputeDeedsRow : OpenClaim := { program := "ytkfghnflbehecaadoor", sum := "dd6b12323e256f86e9b4141e8e765f458c7961d54ed381af47220cedc00d7eba", func := "tollway/tollwaylaw36.DisputeDeeds", spec := "disputeDeeds", inPlace := ["internal/bytealg.CountString", "internal/bytealg.IndexByteString", "internal/bytealg.IndexString"], unfollowed := true, recurses := true, named := ["unicode/utf8.first", "unicode/utf8.acceptRanges", "internal/bytealg.MaxLen"], apart := false, laid := [("unicode/utf8.acceptRanges", laid_unicode_utf8_acceptRanges), ("unicode/utf8.first", laid_unicode_utf8_first)] }
def DisputeDeedsSaid : Prop := disputeDeedsRow.holds Tryd.pinned (OpenSpec.ofChange disputeDeedsSpec)

/-- ITS FALSE NEIGHBOUR: 'it returns false'. Refute it at one input. -/
def disputeDeedsWrong : ChangeSpec := { name := "disputeDeeds", fn := fun _ => fun
  | [d1, d2] => { results := [.lit (.bool false)], args := [d1, d2] }
  | _ => none }
def DisputeDeedsWrongFalsely : Prop := disputeDeedsRow.holds Tryd.pinned (OpenSpec.ofChange disputeDeedsWrong)

/-- 'tollwaylaw36.DisputePlays': WHATEVER THE INPUT: true; the input reads as it did. -/
def disputePlaysSpec : ChangeSpec := { name := "disputePlays", fn := fun _ => fun
  | [d] => { results := [.lit (.bool true)], args := [d] }
  | _ => none }
def disputePlaysRow : OpenClaim := { program := "ytkfghnflbehecaadoor", sum := "dd6b12323e256f86e9b4141e8e765f458c7961d54ed381af47220cedc00d7eba", func := "tollway/tollwaylaw36.DisputePlays", spec := "disputePlays", inPlace := ["internal/bytealg.CountString", "internal/bytealg.IndexByteString", "internal/bytealg.IndexString"], unfollowed := true, recurses := true, named := ["unicode/utf8.first", "unicode/utf8.acceptRanges", "internal/bytealg.MaxLen"], apart := false, laid := [("unicode/utf8.acceptRanges", laid_unicode_utf8_acceptRanges), ("unicode/utf8.first", laid_unicode_utf8_first)] }
def DisputePlaysSaid : Prop := disputePlaysRow.holds Tryd.pinned (OpenSpec.ofChange disputePlaysSpec)

/-- ITS FALSE NEIGHBOUR: 'it returns false'. Refute it at one input. -/
def disputePlaysWrong : ChangeSpec := { name := "disputePlays", fn := fun _ => fun
  | [d] => { results := [.lit (.bool false)], args := [d] }
  | _ => none }
def DisputePlaysWrongFalsely : Prop := disputePlaysRow.holds Tryd.pinned (OpenSpec.ofChange disputePlaysWrong)

/-- 'tollwaylaw36.DisputeOnce': WHATEVER THE INPUT: true; the input reads as it did. -/
def disputeOnceSpec : ChangeSpec := { name := "disputeOnce", fn := fun _ => fun
  | [d] => { results := [.lit (.bool true)], args := [d] }
  | _ => none }
def disputeOnceRow : OpenClaim := { program := "ytkfghnflbehecaadoor", sum := "dd6b12323e256f86e9b4141e8e765f458c7961d54ed381af47220cedc00d7eba", func := "tollway/tollwaylaw36.DisputeOnce", spec := "disputeOnce", inPlace := ["internal/bytealg.CountString", "internal/bytealg.IndexByteString", "internal/bytealg.IndexString"], unfollowed := true, recurses := true, named := ["unicode/utf8.first", "unicode/utf8.acceptRanges", "internal/bytealg.MaxLen"], apart := false, laid := [("unicode/utf8.acceptRanges", laid_unicode_utf8_acceptRanges), ("unicode/utf8.first", laid_unicode_utf8_first)] }
def DisputeOnceSaid : Prop := disputeOnceRow.holds Tryd.pinned (OpenSpec.ofChange disputeOnceSpec)

/-- ITS FALSE NEIGHBOUR: 'it returns false'. Refute it at one input. -/
def disputeOnceWrong : ChangeSpec := { name := "disputeOnce", fn := fun _ => fun
  | [d] => { results := [.lit (.bool false)], args := [d] }
  | _ => none }
def DisputeOnceWrongFalsely : Prop := disputeOnceRow.holds Tryd.pinned (OpenSpec.ofChange disputeOnceWrong)

/-- 'tollwaylaw36.DisputeValid': WHATEVER THE INPUT: true; the input reads as it did. -/
def disputeValidSpec : ChangeSpec := { name := "disputeValid", fn := fun _ => fun
  | [d1, d2] => { results := [.lit (.bool true)], args := [d1, d2] }
  | _ => none }
def disputeValidRow : OpenClaim := { program := "ytkfghnflbehecaadoor", sum := "dd6b12323e256f86e9b4141e8e765f458c7961d54ed381af47220cedc00d7eba", func := "tollway/tollwaylaw36.DisputeValid", spec := "disputeValid", inPlace := ["internal/bytealg.CountString", "internal/bytealg.IndexByteString", "internal/bytealg.IndexString"], unfollowed := true, recurses := true, named := ["unicode/utf8.first", "unicode/utf8.acceptRanges", "internal/bytealg.MaxLen"], apart := false, laid := [("unicode/utf8.acceptRanges", laid_unicode_utf8_acceptRanges), ("unicode/utf8.first", laid_unicode_utf8_first)] }
def DisputeValidSaid : Prop := disputeValidRow.holds Tryd.pinned (OpenSpec.ofChange disputeValidSpec)

/-- ITS FALSE NEIGHBOUR: 'it returns false'. Refute it at one input. -/
def disputeValidWrong : ChangeSpec := { name := "disputeValid", fn := fun _ => fun
  | [d1, d2] => { results := [.lit (.bool false)], args := [d1, d2] }
  | _ => none }
def DisputeValidWrongFalsely : Prop := disputeValidRow.holds Tryd.pinned (OpenSpec.ofChange disputeValidWrong)

/- THE SECOND FORM. 'bulk': how many values and letters a reading holds, each counted each time it is reached (what is shared counts as often as it is met; a slice's spare places count too). A statement '..UptoSaid' is the law's where the arguments, and the package variables that the reading takes, are together of bulk at most 1048576: NARROWER than '..Said'. Prove '..Said' where nothing that the law and all that it calls make is longer than what came in: it says more and counts as full. Else prove '..UptoSaid'. A law counts once. -/
mutual
def uptoBulk {H : Type} : DataW H → Nat
  | .lit (.string bytes) => bytes.length + 1
  | .lit _ => 1
  | .nil => 1
  | .ptr d => uptoBulk d + 1
  | .slice elems spare => uptoBulkAll elems + uptoBulkAll spare + 1
  | .agg parts => uptoBulkAll parts + 1
  | .iface _ d => uptoBulk d + 1
  | .map entries => uptoBulkEntries entries + 1
  | .held _ => 1
def uptoBulkAll {H : Type} : List (DataW H) → Nat
  | [] => 0
  | d :: r => uptoBulk d + uptoBulkAll r
def uptoBulkEntries {H : Type} : List (Lit × DataW H) → Nat
  | [] => 0
  | x :: r => uptoBulkEntry x + uptoBulkEntries r
def uptoBulkEntry {H : Type} : Lit × DataW H → Nat
  | (.string bytes, d) => bytes.length + uptoBulk d + 1
  | (_, d) => uptoBulk d + 1
 end
def uptoSmall : (H : Type) → List (DataW H) → Bool := fun _ ds => decide (uptoBulkAll ds ≤ 1048576)
def OpenSpec.upto (s : _root_.Go.ChangeSpec) : _root_.Go.OpenSpec := { _root_.Go.OpenSpec.ofChange s with cond := some uptoSmall }

/-- 'tollwaylaw36.DisputeChecks', WHERE WHAT IT READS IS OF BULK AT MOST 1048576: true; the input reads as it did. -/
def disputeChecksUptoRow : OpenClaim := { program := "ytkfghnflbehecaadoor", sum := "dd6b12323e256f86e9b4141e8e765f458c7961d54ed381af47220cedc00d7eba", func := "tollway/tollwaylaw36.DisputeChecks", spec := "disputeChecks", inPlace := ["internal/bytealg.CountString", "internal/bytealg.IndexByteString", "internal/bytealg.IndexString"], unfollowed := true, recurses := true, named := ["unicode/utf8.first", "unicode/utf8.acceptRanges", "internal/bytealg.MaxLen"], apart := false, laid := [("unicode/utf8.acceptRanges", laid_unicode_utf8_acceptRanges), ("unicode/utf8.first", laid_unicode_utf8_first)], narrowed := true }
def DisputeChecksUptoSaid : Prop := disputeChecksUptoRow.holds Tryd.pinned (OpenSpec.upto disputeChecksSpec)

/-- 'tollwaylaw36.DisputeDeeds', WHERE WHAT IT READS IS OF BULK AT MOST 1048576: true; the input reads as it did. -/
def disputeDeedsUptoRow : OpenClaim := { program := "ytkfghnflbehecaadoor", sum := "dd6b12323e256f86e9b4141e8e765f458c7961d54ed381af47220cedc00d7eba", func := "tollway/tollwaylaw36.DisputeDeeds", spec := "disputeDeeds", inPlace := ["internal/bytealg.CountString", "internal/bytealg.IndexByteString", "internal/bytealg.IndexString"], unfollowed := true, recurses := true, named := ["unicode/utf8.first", "unicode/utf8.acceptRanges", "internal/bytealg.MaxLen"], apart := false, laid := [("unicode/utf8.acceptRanges", laid_unicode_utf8_acceptRanges), ("unicode/utf8.first", laid_unicode_utf8_first)], narrowed := true }
def DisputeDeedsUptoSaid : Prop := disputeDeedsUptoRow.holds Tryd.pinned (OpenSpec.upto disputeDeedsSpec)

/-- 'tollwaylaw36.DisputePlays', WHERE WHAT IT READS IS OF BULK AT MOST 1048576: true; the input reads as it did. -/
def disputePlaysUptoRow : OpenClaim := { program := "ytkfghnflbehecaadoor", sum := "dd6b12323e256f86e9b4141e8e765f458c7961d54ed381af47220cedc00d7eba", func := "tollway/tollwaylaw36.DisputePlays", spec := "disputePlays", inPlace := ["internal/bytealg.CountString", "internal/bytealg.IndexByteString", "internal/bytealg.IndexString"], unfollowed := true, recurses := true, named := ["unicode/utf8.first", "unicode/utf8.acceptRanges", "internal/bytealg.MaxLen"], apart := false, laid := [("unicode/utf8.acceptRanges", laid_unicode_utf8_acceptRanges), ("unicode/utf8.first", laid_unicode_utf8_first)], narrowed := true }
def DisputePlaysUptoSaid : Prop := disputePlaysUptoRow.holds Tryd.pinned (OpenSpec.upto disputePlaysSpec)

/-- 'tollwaylaw36.DisputeOnce', WHERE WHAT IT READS IS OF BULK AT MOST 1048576: true; the input reads as it did. -/
def disputeOnceUptoRow : OpenClaim := { program := "ytkfghnflbehecaadoor", sum := "dd6b12323e256f86e9b4141e8e765f458c7961d54ed381af47220cedc00d7eba", func := "tollway/tollwaylaw36.DisputeOnce", spec := "disputeOnce", inPlace := ["internal/bytealg.CountString", "internal/bytealg.IndexByteString", "internal/bytealg.IndexString"], unfollowed := true, recurses := true, named := ["unicode/utf8.first", "unicode/utf8.acceptRanges", "internal/bytealg.MaxLen"], apart := false, laid := [("unicode/utf8.acceptRanges", laid_unicode_utf8_acceptRanges), ("unicode/utf8.first", laid_unicode_utf8_first)], narrowed := true }
def DisputeOnceUptoSaid : Prop := disputeOnceUptoRow.holds Tryd.pinned (OpenSpec.upto disputeOnceSpec)

/-- 'tollwaylaw36.DisputeValid', WHERE WHAT IT READS IS OF BULK AT MOST 1048576: true; the input reads as it did. -/
def disputeValidUptoRow : OpenClaim := { program := "ytkfghnflbehecaadoor", sum := "dd6b12323e256f86e9b4141e8e765f458c7961d54ed381af47220cedc00d7eba", func := "tollway/tollwaylaw36.DisputeValid", spec := "disputeValid", inPlace := ["internal/bytealg.CountString", "internal/bytealg.IndexByteString", "internal/bytealg.IndexString"], unfollowed := true, recurses := true, named := ["unicode/utf8.first", "unicode/utf8.acceptRanges", "internal/bytealg.MaxLen"], apart := false, laid := [("unicode/utf8.acceptRanges", laid_unicode_utf8_acceptRanges), ("unicode/utf8.first", laid_unicode_utf8_first)], narrowed := true }
def DisputeValidUptoSaid : Prop := disputeValidUptoRow.holds Tryd.pinned (OpenSpec.upto disputeValidSpec)

end Rows
end Go.Proofs.YtkfghnflbehecaaDoor
