/-
  DERIVED. GIVEN WITH THE SEED: THE CARDS: each row of YtkfghnflbehecaaDoorRows.lean that lists a variable, with what it lists TIED to the program's text (the seventh form; the later family's looks); each row that meets fmt, with fmt's text TOLD by the authors' own Lean function (tested against real Go, not proved from fmt's source: count such statements apart). THE CARD IS WHAT COUNTS. Prove the row's statement (the work); the ties are given (YtkfghnflbehecaaDoorTie.lean); close each card by the builder's one call (the guide's Derived/Test/ToyasCard.lean, 'card_holds'). Laid BY PROGRAM, IN A SANDBOX (cutbox-door.mjs). By AI agents, Wed Nov 11 2026. No macro, syntax, notation, axiom, sorry.
-/
import Derived.Test.YtkfghnflbehecaaDoorRows
import GoSem.ClaimSeven
namespace Go.Proofs.YtkfghnflbehecaaDoor
namespace Rows

/-- THE TIED CARD OF 'tollwaylaw36.DisputeChecks'. -/
def disputeChecksCard : Claim7 := { stood := { row := disputeChecksRow, standIns := [], harness := (true, "8bdcadc1d473634f384419dcb5670678cb9badc0729f0ce1424d3e48a831b54b"), looks := false }, kinds := [], alts := [], laidByText := true, laidKinds := [.data, .pinned], laidTests := true, laidLooks := .later }
def DisputeChecksCardSaid : Prop := Claim7.holds Tryd.pinned (.plain (OpenSpec.ofChange disputeChecksSpec)) disputeChecksCard

/-- THE TIED CARD OF 'tollwaylaw36.DisputeDeeds'. -/
def disputeDeedsCard : Claim7 := { stood := { row := disputeDeedsRow, standIns := [], harness := (true, "8bdcadc1d473634f384419dcb5670678cb9badc0729f0ce1424d3e48a831b54b"), looks := false }, kinds := [], alts := [], laidByText := true, laidKinds := [.data, .pinned], laidTests := true, laidLooks := .later }
def DisputeDeedsCardSaid : Prop := Claim7.holds Tryd.pinned (.plain (OpenSpec.ofChange disputeDeedsSpec)) disputeDeedsCard

/-- THE TIED CARD OF 'tollwaylaw36.DisputePlays'. -/
def disputePlaysCard : Claim7 := { stood := { row := disputePlaysRow, standIns := [], harness := (true, "8bdcadc1d473634f384419dcb5670678cb9badc0729f0ce1424d3e48a831b54b"), looks := false }, kinds := [], alts := [], laidByText := true, laidKinds := [.data, .pinned], laidTests := true, laidLooks := .later }
def DisputePlaysCardSaid : Prop := Claim7.holds Tryd.pinned (.plain (OpenSpec.ofChange disputePlaysSpec)) disputePlaysCard

/-- THE TIED CARD OF 'tollwaylaw36.DisputeOnce'. -/
def disputeOnceCard : Claim7 := { stood := { row := disputeOnceRow, standIns := [], harness := (true, "8bdcadc1d473634f384419dcb5670678cb9badc0729f0ce1424d3e48a831b54b"), looks := false }, kinds := [], alts := [], laidByText := true, laidKinds := [.data, .pinned], laidTests := true, laidLooks := .later }
def DisputeOnceCardSaid : Prop := Claim7.holds Tryd.pinned (.plain (OpenSpec.ofChange disputeOnceSpec)) disputeOnceCard

/-- THE TIED CARD OF 'tollwaylaw36.DisputeValid'. -/
def disputeValidCard : Claim7 := { stood := { row := disputeValidRow, standIns := [], harness := (true, "8bdcadc1d473634f384419dcb5670678cb9badc0729f0ce1424d3e48a831b54b"), looks := false }, kinds := [], alts := [], laidByText := true, laidKinds := [.data, .pinned], laidTests := true, laidLooks := .later }
def DisputeValidCardSaid : Prop := Claim7.holds Tryd.pinned (.plain (OpenSpec.ofChange disputeValidSpec)) disputeValidCard

/-- THE SECOND FORM's CARD OF 'tollwaylaw36.DisputeChecks'. -/
def disputeChecksUptoCard : Claim7 := { stood := { row := disputeChecksUptoRow, standIns := [], harness := (true, "8bdcadc1d473634f384419dcb5670678cb9badc0729f0ce1424d3e48a831b54b"), looks := false }, kinds := [], alts := [], laidByText := true, laidKinds := [.data, .pinned], laidTests := true, laidLooks := .later }
def DisputeChecksUptoCardSaid : Prop := Claim7.holds Tryd.pinned (.plain (OpenSpec.upto disputeChecksSpec)) disputeChecksUptoCard

/-- THE SECOND FORM's CARD OF 'tollwaylaw36.DisputeDeeds'. -/
def disputeDeedsUptoCard : Claim7 := { stood := { row := disputeDeedsUptoRow, standIns := [], harness := (true, "8bdcadc1d473634f384419dcb5670678cb9badc0729f0ce1424d3e48a831b54b"), looks := false }, kinds := [], alts := [], laidByText := true, laidKinds := [.data, .pinned], laidTests := true, laidLooks := .later }
def DisputeDeedsUptoCardSaid : Prop := Claim7.holds Tryd.pinned (.plain (OpenSpec.upto disputeDeedsSpec)) disputeDeedsUptoCard

/-- THE SECOND FORM's CARD OF 'tollwaylaw36.DisputePlays'. -/
def disputePlaysUptoCard : Claim7 := { stood := { row := disputePlaysUptoRow, standIns := [], harness := (true, "8bdcadc1d473634f384419dcb5670678cb9badc0729f0ce1424d3e48a831b54b"), looks := false }, kinds := [], alts := [], laidByText := true, laidKinds := [.data, .pinned], laidTests := true, laidLooks := .later }
def DisputePlaysUptoCardSaid : Prop := Claim7.holds Tryd.pinned (.plain (OpenSpec.upto disputePlaysSpec)) disputePlaysUptoCard

/-- THE SECOND FORM's CARD OF 'tollwaylaw36.DisputeOnce'. -/
def disputeOnceUptoCard : Claim7 := { stood := { row := disputeOnceUptoRow, standIns := [], harness := (true, "8bdcadc1d473634f384419dcb5670678cb9badc0729f0ce1424d3e48a831b54b"), looks := false }, kinds := [], alts := [], laidByText := true, laidKinds := [.data, .pinned], laidTests := true, laidLooks := .later }
def DisputeOnceUptoCardSaid : Prop := Claim7.holds Tryd.pinned (.plain (OpenSpec.upto disputeOnceSpec)) disputeOnceUptoCard

/-- THE SECOND FORM's CARD OF 'tollwaylaw36.DisputeValid'. -/
def disputeValidUptoCard : Claim7 := { stood := { row := disputeValidUptoRow, standIns := [], harness := (true, "8bdcadc1d473634f384419dcb5670678cb9badc0729f0ce1424d3e48a831b54b"), looks := false }, kinds := [], alts := [], laidByText := true, laidKinds := [.data, .pinned], laidTests := true, laidLooks := .later }
def DisputeValidUptoCardSaid : Prop := Claim7.holds Tryd.pinned (.plain (OpenSpec.upto disputeValidSpec)) disputeValidUptoCard
end Rows
end Go.Proofs.YtkfghnflbehecaaDoor
