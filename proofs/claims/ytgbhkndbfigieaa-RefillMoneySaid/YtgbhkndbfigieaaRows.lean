/-
  No cell of these rows narrows 'for every input' (looked for: loops, veiled, ifaces, maps, wideKeys, modest, calm, conditions, laid).
  DERIVED. THE GIVEN ROWS OF THIS SEAT. 8 by the template 'for every input the law returns true; each argument reads behind the call as it read before'; 0 by the template 'total and deterministic' (their statements: YtgbhkndbfigieaaTotals.lean).
  GIVEN WITH THE SEED: the statements are not yours to turn. If you find one false, say at which input.
  Laid BY PROGRAM, IN A SANDBOX (cutbox-rows.mjs): the forced cells as the released guide's own fill.sh prints them over the translation 00ef15c659e69fb3… (all of the seat's roots in one cut). By AI agents, Wed Nov 11 2026. No macro, syntax, notation, axiom, sorry.
-/
import Derived.Test.YtgbhkndbfigieaaChecked
import GoSem.Claim
import GoSem.ClaimJoined
import GoSem.ClaimMapViews
import Derived.JoinedTies
import Derived.KernelRfl
namespace Go.Proofs.Ytgbhkndbfigieaa
/- THE CELL 'sum', in the pinned program and in every row, IS THE sha256 OF THE DUMP (.gsa) THAT YtgbhkndbfigieaaProg.lean LOADS. Nothing in Lean hashes anything: it is a label: what it is worth is what the hold of that sum in a sandbox is worth. -/
noncomputable def Try.pinned : Pinned := { name := "ytgbhkndbfigieaa", sum := "00ef15c659e69fb3770611d3b1265bfd0d3eee857ed30f6fd5e70be1d79ed18f", checked := Try.checked }
namespace Rows
def none {H : Type} : Left H := { results := [], args := [] }

/-- 'tollwaylaw35.RefillChecks': WHATEVER THE INPUT: true; the input reads as it did. -/
def refillChecksSpec : ChangeSpec := { name := "refillChecks", fn := fun _ => fun
  | [d] => { results := [.lit (.bool true)], args := [d] }
  | _ => none }
def refillChecksRow : OpenClaim := { program := "ytgbhkndbfigieaa", sum := "00ef15c659e69fb3770611d3b1265bfd0d3eee857ed30f6fd5e70be1d79ed18f", func := "tollway/tollwaylaw35.RefillChecks", spec := "refillChecks", apart := false }
def RefillChecksSaid : Prop := refillChecksRow.holds Try.pinned (OpenSpec.ofChange refillChecksSpec)

/-- ITS FALSE NEIGHBOUR: 'it returns false'. Refute it at one input. -/
def refillChecksWrong : ChangeSpec := { name := "refillChecks", fn := fun _ => fun
  | [d] => { results := [.lit (.bool false)], args := [d] }
  | _ => none }
def RefillChecksWrongFalsely : Prop := refillChecksRow.holds Try.pinned (OpenSpec.ofChange refillChecksWrong)

/-- 'tollwaylaw35.RefillFails': WHATEVER THE INPUT: true; the input reads as it did. -/
def refillFailsSpec : ChangeSpec := { name := "refillFails", fn := fun _ => fun
  | [d1, d2, d3] => { results := [.lit (.bool true)], args := [d1, d2, d3] }
  | _ => none }
def refillFailsRow : OpenClaim := { program := "ytgbhkndbfigieaa", sum := "00ef15c659e69fb3770611d3b1265bfd0d3eee857ed30f6fd5e70be1d79ed18f", func := "tollway/tollwaylaw35.RefillFails", spec := "refillFails", apart := false }
def RefillFailsSaid : Prop := refillFailsRow.holds Try.pinned (OpenSpec.ofChange refillFailsSpec)

/-- ITS FALSE NEIGHBOUR: 'it returns false'. Refute it at one input. -/
def refillFailsWrong : ChangeSpec := { name := "refillFails", fn := fun _ => fun
  | [d1, d2, d3] => { results := [.lit (.bool false)], args := [d1, d2, d3] }
  | _ => none }
def RefillFailsWrongFalsely : Prop := refillFailsRow.holds Try.pinned (OpenSpec.ofChange refillFailsWrong)

/-- 'tollwaylaw35.RefillRuns': WHATEVER THE INPUT: true; the input reads as it did. -/
def refillRunsSpec : ChangeSpec := { name := "refillRuns", fn := fun _ => fun
  | [d1, d2, d3, d4] => { results := [.lit (.bool true)], args := [d1, d2, d3, d4] }
  | _ => none }
def refillRunsRow : OpenClaim := { program := "ytgbhkndbfigieaa", sum := "00ef15c659e69fb3770611d3b1265bfd0d3eee857ed30f6fd5e70be1d79ed18f", func := "tollway/tollwaylaw35.RefillRuns", spec := "refillRuns", apart := false }
def RefillRunsSaid : Prop := refillRunsRow.holds Try.pinned (OpenSpec.ofChange refillRunsSpec)

/-- ITS FALSE NEIGHBOUR: 'it returns false'. Refute it at one input. -/
def refillRunsWrong : ChangeSpec := { name := "refillRuns", fn := fun _ => fun
  | [d1, d2, d3, d4] => { results := [.lit (.bool false)], args := [d1, d2, d3, d4] }
  | _ => none }
def RefillRunsWrongFalsely : Prop := refillRunsRow.holds Try.pinned (OpenSpec.ofChange refillRunsWrong)

/-- 'tollwaylaw35.RefillMany': WHATEVER THE INPUT: true; the input reads as it did. -/
def refillManySpec : ChangeSpec := { name := "refillMany", fn := fun _ => fun
  | [d1, d2] => { results := [.lit (.bool true)], args := [d1, d2] }
  | _ => none }
def refillManyRow : OpenClaim := { program := "ytgbhkndbfigieaa", sum := "00ef15c659e69fb3770611d3b1265bfd0d3eee857ed30f6fd5e70be1d79ed18f", func := "tollway/tollwaylaw35.RefillMany", spec := "refillMany", apart := false }
def RefillManySaid : Prop := refillManyRow.holds Try.pinned (OpenSpec.ofChange refillManySpec)

/-- ITS FALSE NEIGHBOUR: 'it returns false'. Refute it at one input. -/
def refillManyWrong : ChangeSpec := { name := "refillMany", fn := fun _ => fun
  | [d1, d2] => { results := [.lit (.bool false)], args := [d1, d2] }
  | _ => none }
def RefillManyWrongFalsely : Prop := refillManyRow.holds Try.pinned (OpenSpec.ofChange refillManyWrong)

/-- 'tollwaylaw35.RefillMoney': WHATEVER THE INPUT: true; the input reads as it did. -/
def refillMoneySpec : ChangeSpec := { name := "refillMoney", fn := fun _ => fun
  | [d1, d2, d3, d4] => { results := [.lit (.bool true)], args := [d1, d2, d3, d4] }
  | _ => none }
def refillMoneyRow : OpenClaim := { program := "ytgbhkndbfigieaa", sum := "00ef15c659e69fb3770611d3b1265bfd0d3eee857ed30f6fd5e70be1d79ed18f", func := "tollway/tollwaylaw35.RefillMoney", spec := "refillMoney", apart := false }
def RefillMoneySaid : Prop := refillMoneyRow.holds Try.pinned (OpenSpec.ofChange refillMoneySpec)

/-- ITS FALSE NEIGHBOUR: 'it returns false'. Refute it at one input. -/
def refillMoneyWrong : ChangeSpec := { name := "refillMoney", fn := fun _ => fun
  | [d1, d2, d3, d4] => { results := [.lit (.bool false)], args := [d1, d2, d3, d4] }
  | _ => none }
def RefillMoneyWrongFalsely : Prop := refillMoneyRow.holds Try.pinned (OpenSpec.ofChange refillMoneyWrong)

/-- 'tollwaylaw35.RefillFloor': WHATEVER THE INPUT: true; the input reads as it did. -/
def refillFloorSpec : ChangeSpec := { name := "refillFloor", fn := fun _ => fun
  | [d1, d2, d3] => { results := [.lit (.bool true)], args := [d1, d2, d3] }
  | _ => none }
def refillFloorRow : OpenClaim := { program := "ytgbhkndbfigieaa", sum := "00ef15c659e69fb3770611d3b1265bfd0d3eee857ed30f6fd5e70be1d79ed18f", func := "tollway/tollwaylaw35.RefillFloor", spec := "refillFloor", apart := false }
def RefillFloorSaid : Prop := refillFloorRow.holds Try.pinned (OpenSpec.ofChange refillFloorSpec)

/-- ITS FALSE NEIGHBOUR: 'it returns false'. Refute it at one input. -/
def refillFloorWrong : ChangeSpec := { name := "refillFloor", fn := fun _ => fun
  | [d1, d2, d3] => { results := [.lit (.bool false)], args := [d1, d2, d3] }
  | _ => none }
def RefillFloorWrongFalsely : Prop := refillFloorRow.holds Try.pinned (OpenSpec.ofChange refillFloorWrong)

/-- 'tollwaylaw35.RefillSteps': WHATEVER THE INPUT: true; the input reads as it did. -/
def refillStepsSpec : ChangeSpec := { name := "refillSteps", fn := fun _ => fun
  | [d1, d2, d3, d4] => { results := [.lit (.bool true)], args := [d1, d2, d3, d4] }
  | _ => none }
def refillStepsRow : OpenClaim := { program := "ytgbhkndbfigieaa", sum := "00ef15c659e69fb3770611d3b1265bfd0d3eee857ed30f6fd5e70be1d79ed18f", func := "tollway/tollwaylaw35.RefillSteps", spec := "refillSteps", apart := false }
def RefillStepsSaid : Prop := refillStepsRow.holds Try.pinned (OpenSpec.ofChange refillStepsSpec)

/-- ITS FALSE NEIGHBOUR: 'it returns false'. Refute it at one input. -/
def refillStepsWrong : ChangeSpec := { name := "refillSteps", fn := fun _ => fun
  | [d1, d2, d3, d4] => { results := [.lit (.bool false)], args := [d1, d2, d3, d4] }
  | _ => none }
def RefillStepsWrongFalsely : Prop := refillStepsRow.holds Try.pinned (OpenSpec.ofChange refillStepsWrong)

/-- 'tollwaylaw35.RefillPatience': WHATEVER THE INPUT: true; the input reads as it did. -/
def refillPatienceSpec : ChangeSpec := { name := "refillPatience", fn := fun _ => fun
  | [d1, d2] => { results := [.lit (.bool true)], args := [d1, d2] }
  | _ => none }
def refillPatienceRow : OpenClaim := { program := "ytgbhkndbfigieaa", sum := "00ef15c659e69fb3770611d3b1265bfd0d3eee857ed30f6fd5e70be1d79ed18f", func := "tollway/tollwaylaw35.RefillPatience", spec := "refillPatience", apart := false }
def RefillPatienceSaid : Prop := refillPatienceRow.holds Try.pinned (OpenSpec.ofChange refillPatienceSpec)

/-- ITS FALSE NEIGHBOUR: 'it returns false'. Refute it at one input. -/
def refillPatienceWrong : ChangeSpec := { name := "refillPatience", fn := fun _ => fun
  | [d1, d2] => { results := [.lit (.bool false)], args := [d1, d2] }
  | _ => none }
def RefillPatienceWrongFalsely : Prop := refillPatienceRow.holds Try.pinned (OpenSpec.ofChange refillPatienceWrong)

/- THE SECOND FORM. 'bulk': how many values and letters a reading holds, each counted each time it is reached (what is shared counts as often as it is met; a slice's spare places count too). A statement '..UptoSaid' is the law's where the arguments, and the package variables that the reading takes, are together of bulk at most 1048576: NARROWER than '..Said'. Prove '..Said' where nothing that the law and all that it calls make is longer than what came in: it says more and counts as full. Else prove '..UptoSaid'. A law counts once. -/
mutual
def uptoBulk {H : Type} : DataW H → Nat
  | .lit (.string bytes) => bytes.length + 1
  | .lit _ => 1
  | .nil => 1
  | .ptr d => uptoBulk d + 1
  | .slice elems spare => uptoBulkAll elems + uptoBulkAll spare + 1
  | .agg parts => uptoBulkAll parts + 1
  | .iface _ d => uptoBulk d + 1
  | .map entries => uptoBulkEntries entries + 1
  | .held _ => 1
def uptoBulkAll {H : Type} : List (DataW H) → Nat
  | [] => 0
  | d :: r => uptoBulk d + uptoBulkAll r
def uptoBulkEntries {H : Type} : List (Lit × DataW H) → Nat
  | [] => 0
  | x :: r => uptoBulkEntry x + uptoBulkEntries r
def uptoBulkEntry {H : Type} : Lit × DataW H → Nat
  | (.string bytes, d) => bytes.length + uptoBulk d + 1
  | (_, d) => uptoBulk d + 1
 end
def uptoSmall : (H : Type) → List (DataW H) → Bool := fun _ ds => decide (uptoBulkAll ds ≤ 1048576)
def OpenSpec.upto (s : _root_.Go.ChangeSpec) : _root_.Go.OpenSpec := { _root_.Go.OpenSpec.ofChange s with cond := some uptoSmall }

/-- 'tollwaylaw35.RefillChecks', WHERE WHAT IT READS IS OF BULK AT MOST 1048576: true; the input reads as it did. -/
def refillChecksUptoRow : OpenClaim := { program := "ytgbhkndbfigieaa", sum := "00ef15c659e69fb3770611d3b1265bfd0d3eee857ed30f6fd5e70be1d79ed18f", func := "tollway/tollwaylaw35.RefillChecks", spec := "refillChecks", apart := false, narrowed := true }
def RefillChecksUptoSaid : Prop := refillChecksUptoRow.holds Try.pinned (OpenSpec.upto refillChecksSpec)

/-- 'tollwaylaw35.RefillFails', WHERE WHAT IT READS IS OF BULK AT MOST 1048576: true; the input reads as it did. -/
def refillFailsUptoRow : OpenClaim := { program := "ytgbhkndbfigieaa", sum := "00ef15c659e69fb3770611d3b1265bfd0d3eee857ed30f6fd5e70be1d79ed18f", func := "tollway/tollwaylaw35.RefillFails", spec := "refillFails", apart := false, narrowed := true }
def RefillFailsUptoSaid : Prop := refillFailsUptoRow.holds Try.pinned (OpenSpec.upto refillFailsSpec)

/-- 'tollwaylaw35.RefillRuns', WHERE WHAT IT READS IS OF BULK AT MOST 1048576: true; the input reads as it did. -/
def refillRunsUptoRow : OpenClaim := { program := "ytgbhkndbfigieaa", sum := "00ef15c659e69fb3770611d3b1265bfd0d3eee857ed30f6fd5e70be1d79ed18f", func := "tollway/tollwaylaw35.RefillRuns", spec := "refillRuns", apart := false, narrowed := true }
def RefillRunsUptoSaid : Prop := refillRunsUptoRow.holds Try.pinned (OpenSpec.upto refillRunsSpec)

/-- 'tollwaylaw35.RefillMany', WHERE WHAT IT READS IS OF BULK AT MOST 1048576: true; the input reads as it did. -/
def refillManyUptoRow : OpenClaim := { program := "ytgbhkndbfigieaa", sum := "00ef15c659e69fb3770611d3b1265bfd0d3eee857ed30f6fd5e70be1d79ed18f", func := "tollway/tollwaylaw35.RefillMany", spec := "refillMany", apart := false, narrowed := true }
def RefillManyUptoSaid : Prop := refillManyUptoRow.holds Try.pinned (OpenSpec.upto refillManySpec)

/-- 'tollwaylaw35.RefillMoney', WHERE WHAT IT READS IS OF BULK AT MOST 1048576: true; the input reads as it did. -/
def refillMoneyUptoRow : OpenClaim := { program := "ytgbhkndbfigieaa", sum := "00ef15c659e69fb3770611d3b1265bfd0d3eee857ed30f6fd5e70be1d79ed18f", func := "tollway/tollwaylaw35.RefillMoney", spec := "refillMoney", apart := false, narrowed := true }
def RefillMoneyUptoSaid : Prop := refillMoneyUptoRow.holds Try.pinned (OpenSpec.upto refillMoneySpec)

/-- 'tollwaylaw35.RefillFloor', WHERE WHAT IT READS IS OF BULK AT MOST 1048576: true; the input reads as it did. -/
def refillFloorUptoRow : OpenClaim := { program := "ytgbhkndbfigieaa", sum := "00ef15c659e69fb3770611d3b1265bfd0d3eee857ed30f6fd5e70be1d79ed18f", func := "tollway/tollwaylaw35.RefillFloor", spec := "refillFloor", apart := false, narrowed := true }
def RefillFloorUptoSaid : Prop := refillFloorUptoRow.holds Try.pinned (OpenSpec.upto refillFloorSpec)

/-- 'tollwaylaw35.RefillSteps', WHERE WHAT IT READS IS OF BULK AT MOST 1048576: true; the input reads as it did. -/
def refillStepsUptoRow : OpenClaim := { program := "ytgbhkndbfigieaa", sum := "00ef15c659e69fb3770611d3b1265bfd0d3eee857ed30f6fd5e70be1d79ed18f", func := "tollway/tollwaylaw35.RefillSteps", spec := "refillSteps", apart := false, narrowed := true }
def RefillStepsUptoSaid : Prop := refillStepsUptoRow.holds Try.pinned (OpenSpec.upto refillStepsSpec)

/-- 'tollwaylaw35.RefillPatience', WHERE WHAT IT READS IS OF BULK AT MOST 1048576: true; the input reads as it did. -/
def refillPatienceUptoRow : OpenClaim := { program := "ytgbhkndbfigieaa", sum := "00ef15c659e69fb3770611d3b1265bfd0d3eee857ed30f6fd5e70be1d79ed18f", func := "tollway/tollwaylaw35.RefillPatience", spec := "refillPatience", apart := false, narrowed := true }
def RefillPatienceUptoSaid : Prop := refillPatienceUptoRow.holds Try.pinned (OpenSpec.upto refillPatienceSpec)

end Rows
end Go.Proofs.Ytgbhkndbfigieaa
