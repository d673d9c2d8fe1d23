/-
  No cell of these rows narrows 'for every input' (looked for: loops, veiled, ifaces, maps, wideKeys, modest, calm, conditions, laid).
  DERIVED. THE GIVEN ROWS OF THIS SEAT. 7 by the template 'for every input the law returns true; each argument reads behind the call as it read before'; 0 by the template 'total and deterministic' (their statements: YtoabcfpmjhjmfaaTotals.lean).
  GIVEN WITH THE SEED: the statements are not yours to turn. If you find one false, say at which input.
  Laid BY PROGRAM, IN A SANDBOX (cutbox-rows.mjs): the forced cells as the released guide's own fill.sh prints them over the translation cad742f049bf84e5… (all of the seat's roots in one cut). By AI agents, Wed Nov 11 2026. No macro, syntax, notation, axiom, sorry.
-/
import Derived.Test.YtoabcfpmjhjmfaaChecked
import GoSem.Claim
import GoSem.ClaimJoined
import GoSem.ClaimMapViews
import Derived.JoinedTies
import Derived.KernelRfl
namespace Go.Proofs.Ytoabcfpmjhjmfaa
/- THE CELL 'sum', in the pinned program and in every row, IS THE sha256 OF THE DUMP (.gsa) THAT YtoabcfpmjhjmfaaProg.lean LOADS. Nothing in Lean hashes anything: it is a label: what it is worth is what the hold of that sum in a sandbox is worth. -/
noncomputable def Try.pinned : Pinned := { name := "ytoabcfpmjhjmfaa", sum := "cad742f049bf84e5befa8e38bc5f89a302f428de5db557497f0776791d4230ab", checked := Try.checked }
namespace Rows
def none {H : Type} : Left H := { results := [], args := [] }

/-- 'tollwaylaw23.OccupancyChecks': WHATEVER THE INPUT: true; the input reads as it did. -/
def occupancyChecksSpec : ChangeSpec := { name := "occupancyChecks", fn := fun _ => fun
  | [d1, d2] => { results := [.lit (.bool true)], args := [d1, d2] }
  | _ => none }
def occupancyChecksRow : OpenClaim := { program := "ytoabcfpmjhjmfaa", sum := "cad742f049bf84e5befa8e38bc5f89a302f428de5db557497f0776791d4230ab", func := "tollway/tollwaylaw23.OccupancyChecks", spec := "occupancyChecks", apart := false }
def OccupancyChecksSaid : Prop := occupancyChecksRow.holds Try.pinned (OpenSpec.ofChange occupancyChecksSpec)

/-- ITS FALSE NEIGHBOUR: 'it returns false'. Refute it at one input. -/
def occupancyChecksWrong : ChangeSpec := { name := "occupancyChecks", fn := fun _ => fun
  | [d1, d2] => { results := [.lit (.bool false)], args := [d1, d2] }
  | _ => none }
def OccupancyChecksWrongFalsely : Prop := occupancyChecksRow.holds Try.pinned (OpenSpec.ofChange occupancyChecksWrong)

/-- 'tollwaylaw23.OccupancyLevels': WHATEVER THE INPUT: true; the input reads as it did. -/
def occupancyLevelsSpec : ChangeSpec := { name := "occupancyLevels", fn := fun _ => fun
  | [d1, d2, d3, d4] => { results := [.lit (.bool true)], args := [d1, d2, d3, d4] }
  | _ => none }
def occupancyLevelsRow : OpenClaim := { program := "ytoabcfpmjhjmfaa", sum := "cad742f049bf84e5befa8e38bc5f89a302f428de5db557497f0776791d4230ab", func := "tollway/tollwaylaw23.OccupancyLevels", spec := "occupancyLevels", apart := false }
def OccupancyLevelsSaid : Prop := occupancyLevelsRow.holds Try.pinned (OpenSpec.ofChange occupancyLevelsSpec)

/-- ITS FALSE NEIGHBOUR: 'it returns false'. Refute it at one input. -/
def occupancyLevelsWrong : ChangeSpec := { name := "occupancyLevels", fn := fun _ => fun
  | [d1, d2, d3, d4] => { results := [.lit (.bool false)], args := [d1, d2, d3, d4] }
  | _ => none }
def OccupancyLevelsWrongFalsely : Prop := occupancyLevelsRow.holds Try.pinned (OpenSpec.ofChange occupancyLevelsWrong)

/-- 'tollwaylaw23.OccupancyCounts': WHATEVER THE INPUT: true; the input reads as it did. -/
def occupancyCountsSpec : ChangeSpec := { name := "occupancyCounts", fn := fun _ => fun
  | [d1, d2, d3] => { results := [.lit (.bool true)], args := [d1, d2, d3] }
  | _ => none }
def occupancyCountsRow : OpenClaim := { program := "ytoabcfpmjhjmfaa", sum := "cad742f049bf84e5befa8e38bc5f89a302f428de5db557497f0776791d4230ab", func := "tollway/tollwaylaw23.OccupancyCounts", spec := "occupancyCounts", apart := false }
def OccupancyCountsSaid : Prop := occupancyCountsRow.holds Try.pinned (OpenSpec.ofChange occupancyCountsSpec)

/-- ITS FALSE NEIGHBOUR: 'it returns false'. Refute it at one input. -/
def occupancyCountsWrong : ChangeSpec := { name := "occupancyCounts", fn := fun _ => fun
  | [d1, d2, d3] => { results := [.lit (.bool false)], args := [d1, d2, d3] }
  | _ => none }
def OccupancyCountsWrongFalsely : Prop := occupancyCountsRow.holds Try.pinned (OpenSpec.ofChange occupancyCountsWrong)

/-- 'tollwaylaw23.OccupancyAts': WHATEVER THE INPUT: true; the input reads as it did. -/
def occupancyAtsSpec : ChangeSpec := { name := "occupancyAts", fn := fun _ => fun
  | [d1, d2, d3] => { results := [.lit (.bool true)], args := [d1, d2, d3] }
  | _ => none }
def occupancyAtsRow : OpenClaim := { program := "ytoabcfpmjhjmfaa", sum := "cad742f049bf84e5befa8e38bc5f89a302f428de5db557497f0776791d4230ab", func := "tollway/tollwaylaw23.OccupancyAts", spec := "occupancyAts", apart := false }
def OccupancyAtsSaid : Prop := occupancyAtsRow.holds Try.pinned (OpenSpec.ofChange occupancyAtsSpec)

/-- ITS FALSE NEIGHBOUR: 'it returns false'. Refute it at one input. -/
def occupancyAtsWrong : ChangeSpec := { name := "occupancyAts", fn := fun _ => fun
  | [d1, d2, d3] => { results := [.lit (.bool false)], args := [d1, d2, d3] }
  | _ => none }
def OccupancyAtsWrongFalsely : Prop := occupancyAtsRow.holds Try.pinned (OpenSpec.ofChange occupancyAtsWrong)

/-- 'tollwaylaw23.OccupancyOrder': WHATEVER THE INPUT: true; the input reads as it did. -/
def occupancyOrderSpec : ChangeSpec := { name := "occupancyOrder", fn := fun _ => fun
  | [d1, d2] => { results := [.lit (.bool true)], args := [d1, d2] }
  | _ => none }
def occupancyOrderRow : OpenClaim := { program := "ytoabcfpmjhjmfaa", sum := "cad742f049bf84e5befa8e38bc5f89a302f428de5db557497f0776791d4230ab", func := "tollway/tollwaylaw23.OccupancyOrder", spec := "occupancyOrder", apart := false }
def OccupancyOrderSaid : Prop := occupancyOrderRow.holds Try.pinned (OpenSpec.ofChange occupancyOrderSpec)

/-- ITS FALSE NEIGHBOUR: 'it returns false'. Refute it at one input. -/
def occupancyOrderWrong : ChangeSpec := { name := "occupancyOrder", fn := fun _ => fun
  | [d1, d2] => { results := [.lit (.bool false)], args := [d1, d2] }
  | _ => none }
def OccupancyOrderWrongFalsely : Prop := occupancyOrderRow.holds Try.pinned (OpenSpec.ofChange occupancyOrderWrong)

/-- 'tollwaylaw23.OccupancyHysteresis': WHATEVER THE INPUT: true; the input reads as it did. -/
def occupancyHysteresisSpec : ChangeSpec := { name := "occupancyHysteresis", fn := fun _ => fun
  | [d1, d2, d3] => { results := [.lit (.bool true)], args := [d1, d2, d3] }
  | _ => none }
def occupancyHysteresisRow : OpenClaim := { program := "ytoabcfpmjhjmfaa", sum := "cad742f049bf84e5befa8e38bc5f89a302f428de5db557497f0776791d4230ab", func := "tollway/tollwaylaw23.OccupancyHysteresis", spec := "occupancyHysteresis", apart := false }
def OccupancyHysteresisSaid : Prop := occupancyHysteresisRow.holds Try.pinned (OpenSpec.ofChange occupancyHysteresisSpec)

/-- ITS FALSE NEIGHBOUR: 'it returns false'. Refute it at one input. -/
def occupancyHysteresisWrong : ChangeSpec := { name := "occupancyHysteresis", fn := fun _ => fun
  | [d1, d2, d3] => { results := [.lit (.bool false)], args := [d1, d2, d3] }
  | _ => none }
def OccupancyHysteresisWrongFalsely : Prop := occupancyHysteresisRow.holds Try.pinned (OpenSpec.ofChange occupancyHysteresisWrong)

/-- 'tollwaylaw23.OccupancyOrderless': WHATEVER THE INPUT: true; the input reads as it did. -/
def occupancyOrderlessSpec : ChangeSpec := { name := "occupancyOrderless", fn := fun _ => fun
  | [d1, d2, d3, d4] => { results := [.lit (.bool true)], args := [d1, d2, d3, d4] }
  | _ => none }
def occupancyOrderlessRow : OpenClaim := { program := "ytoabcfpmjhjmfaa", sum := "cad742f049bf84e5befa8e38bc5f89a302f428de5db557497f0776791d4230ab", func := "tollway/tollwaylaw23.OccupancyOrderless", spec := "occupancyOrderless", apart := false }
def OccupancyOrderlessSaid : Prop := occupancyOrderlessRow.holds Try.pinned (OpenSpec.ofChange occupancyOrderlessSpec)

/-- ITS FALSE NEIGHBOUR: 'it returns false'. Refute it at one input. -/
def occupancyOrderlessWrong : ChangeSpec := { name := "occupancyOrderless", fn := fun _ => fun
  | [d1, d2, d3, d4] => { results := [.lit (.bool false)], args := [d1, d2, d3, d4] }
  | _ => none }
def OccupancyOrderlessWrongFalsely : Prop := occupancyOrderlessRow.holds Try.pinned (OpenSpec.ofChange occupancyOrderlessWrong)

/- THE SECOND FORM. 'bulk': how many values and letters a reading holds, each counted each time it is reached (what is shared counts as often as it is met; a slice's spare places count too). A statement '..UptoSaid' is the law's where the arguments, and the package variables that the reading takes, are together of bulk at most 1048576: NARROWER than '..Said'. Prove '..Said' where nothing that the law and all that it calls make is longer than what came in: it says more and counts as full. Else prove '..UptoSaid'. A law counts once. -/
mutual
def uptoBulk {H : Type} : DataW H → Nat
  | .lit (.string bytes) => bytes.length + 1
  | .lit _ => 1
  | .nil => 1
  | .ptr d => uptoBulk d + 1
  | .slice elems spare => uptoBulkAll elems + uptoBulkAll spare + 1
  | .agg parts => uptoBulkAll parts + 1
  | .iface _ d => uptoBulk d + 1
  | .map entries => uptoBulkEntries entries + 1
  | .held _ => 1
def uptoBulkAll {H : Type} : List (DataW H) → Nat
  | [] => 0
  | d :: r => uptoBulk d + uptoBulkAll r
def uptoBulkEntries {H : Type} : List (Lit × DataW H) → Nat
  | [] => 0
  | x :: r => uptoBulkEntry x + uptoBulkEntries r
def uptoBulkEntry {H : Type} : Lit × DataW H → Nat
  | (.string bytes, d) => bytes.length + uptoBulk d + 1
  | (_, d) => uptoBulk d + 1
 end
def uptoSmall : (H : Type) → List (DataW H) → Bool := fun _ ds => decide (uptoBulkAll ds ≤ 1048576)
def OpenSpec.upto (s : _root_.Go.ChangeSpec) : _root_.Go.OpenSpec := { _root_.Go.OpenSpec.ofChange s with cond := some uptoSmall }

/-- 'tollwaylaw23.OccupancyChecks', WHERE WHAT IT READS IS OF BULK AT MOST 1048576: true; the input reads as it did. -/
def occupancyChecksUptoRow : OpenClaim := { program := "ytoabcfpmjhjmfaa", sum := "cad742f049bf84e5befa8e38bc5f89a302f428de5db557497f0776791d4230ab", func := "tollway/tollwaylaw23.OccupancyChecks", spec := "occupancyChecks", apart := false, narrowed := true }
def OccupancyChecksUptoSaid : Prop := occupancyChecksUptoRow.holds Try.pinned (OpenSpec.upto occupancyChecksSpec)

/-- 'tollwaylaw23.OccupancyLevels', WHERE WHAT IT READS IS OF BULK AT MOST 1048576: true; the input reads as it did. -/
def occupancyLevelsUptoRow : OpenClaim := { program := "ytoabcfpmjhjmfaa", sum := "cad742f049bf84e5befa8e38bc5f89a302f428de5db557497f0776791d4230ab", func := "tollway/tollwaylaw23.OccupancyLevels", spec := "occupancyLevels", apart := false, narrowed := true }
def OccupancyLevelsUptoSaid : Prop := occupancyLevelsUptoRow.holds Try.pinned (OpenSpec.upto occupancyLevelsSpec)

/-- 'tollwaylaw23.OccupancyCounts', WHERE WHAT IT READS IS OF BULK AT MOST 1048576: true; the input reads as it did. -/
def occupancyCountsUptoRow : OpenClaim := { program := "ytoabcfpmjhjmfaa", sum := "cad742f049bf84e5befa8e38bc5f89a302f428de5db557497f0776791d4230ab", func := "tollway/tollwaylaw23.OccupancyCounts", spec := "occupancyCounts", apart := false, narrowed := true }
def OccupancyCountsUptoSaid : Prop := occupancyCountsUptoRow.holds Try.pinned (OpenSpec.upto occupancyCountsSpec)

/-- 'tollwaylaw23.OccupancyAts', WHERE WHAT IT READS IS OF BULK AT MOST 1048576: true; the input reads as it did. -/
def occupancyAtsUptoRow : OpenClaim := { program := "ytoabcfpmjhjmfaa", sum := "cad742f049bf84e5befa8e38bc5f89a302f428de5db557497f0776791d4230ab", func := "tollway/tollwaylaw23.OccupancyAts", spec := "occupancyAts", apart := false, narrowed := true }
def OccupancyAtsUptoSaid : Prop := occupancyAtsUptoRow.holds Try.pinned (OpenSpec.upto occupancyAtsSpec)

/-- 'tollwaylaw23.OccupancyOrder', WHERE WHAT IT READS IS OF BULK AT MOST 1048576: true; the input reads as it did. -/
def occupancyOrderUptoRow : OpenClaim := { program := "ytoabcfpmjhjmfaa", sum := "cad742f049bf84e5befa8e38bc5f89a302f428de5db557497f0776791d4230ab", func := "tollway/tollwaylaw23.OccupancyOrder", spec := "occupancyOrder", apart := false, narrowed := true }
def OccupancyOrderUptoSaid : Prop := occupancyOrderUptoRow.holds Try.pinned (OpenSpec.upto occupancyOrderSpec)

/-- 'tollwaylaw23.OccupancyHysteresis', WHERE WHAT IT READS IS OF BULK AT MOST 1048576: true; the input reads as it did. -/
def occupancyHysteresisUptoRow : OpenClaim := { program := "ytoabcfpmjhjmfaa", sum := "cad742f049bf84e5befa8e38bc5f89a302f428de5db557497f0776791d4230ab", func := "tollway/tollwaylaw23.OccupancyHysteresis", spec := "occupancyHysteresis", apart := false, narrowed := true }
def OccupancyHysteresisUptoSaid : Prop := occupancyHysteresisUptoRow.holds Try.pinned (OpenSpec.upto occupancyHysteresisSpec)

/-- 'tollwaylaw23.OccupancyOrderless', WHERE WHAT IT READS IS OF BULK AT MOST 1048576: true; the input reads as it did. -/
def occupancyOrderlessUptoRow : OpenClaim := { program := "ytoabcfpmjhjmfaa", sum := "cad742f049bf84e5befa8e38bc5f89a302f428de5db557497f0776791d4230ab", func := "tollway/tollwaylaw23.OccupancyOrderless", spec := "occupancyOrderless", apart := false, narrowed := true }
def OccupancyOrderlessUptoSaid : Prop := occupancyOrderlessUptoRow.holds Try.pinned (OpenSpec.upto occupancyOrderlessSpec)

end Rows
end Go.Proofs.Ytoabcfpmjhjmfaa
