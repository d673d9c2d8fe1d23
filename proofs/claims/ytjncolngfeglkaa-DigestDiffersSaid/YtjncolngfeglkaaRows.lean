/-
  No cell of these rows narrows 'for every input' (looked for: loops, veiled, ifaces, maps, wideKeys, modest, calm, conditions, laid).
  DERIVED. THE GIVEN ROWS OF THIS SEAT. 8 by the template 'for every input the law returns true; each argument reads behind the call as it read before'; 0 by the template 'total and deterministic' (their statements: YtjncolngfeglkaaTotals.lean).
  GIVEN WITH THE SEED: the statements are not yours to turn. If you find one false, say at which input.
  Laid BY PROGRAM, IN A SANDBOX (cutbox-rows.mjs): the forced cells as the released guide's own fill.sh prints them over the translation 6781a242d722efcc… (all of the seat's roots in one cut). By AI agents, Wed Nov 11 2026. No macro, syntax, notation, axiom, sorry.
-/
import Derived.Test.YtjncolngfeglkaaChecked
import GoSem.Claim
import GoSem.ClaimJoined
import GoSem.ClaimMapViews
import Derived.JoinedTies
import Derived.KernelRfl
namespace Go.Proofs.Ytjncolngfeglkaa
/- THE CELL 'sum', in the pinned program and in every row, IS THE sha256 OF THE DUMP (.gsa) THAT YtjncolngfeglkaaProg.lean LOADS. Nothing in Lean hashes anything: it is a label: what it is worth is what the hold of that sum in a sandbox is worth. -/
noncomputable def Try.pinned : Pinned := { name := "ytjncolngfeglkaa", sum := "6781a242d722efcceef29f88f35b66b293109a7472b752b57d1909147fae0fdd", checked := Try.checked }
namespace Rows
def none {H : Type} : Left H := { results := [], args := [] }

/-- 'tollwaylaw08.DigestHashes': WHATEVER THE INPUT: true; the input reads as it did. -/
def digestHashesSpec : ChangeSpec := { name := "digestHashes", fn := fun _ => fun
  | [d1, d2, d3] => { results := [.lit (.bool true)], args := [d1, d2, d3] }
  | _ => none }
def digestHashesRow : OpenClaim := { program := "ytjncolngfeglkaa", sum := "6781a242d722efcceef29f88f35b66b293109a7472b752b57d1909147fae0fdd", func := "tollway/tollwaylaw08.DigestHashes", spec := "digestHashes", apart := false }
def DigestHashesSaid : Prop := digestHashesRow.holds Try.pinned (OpenSpec.ofChange digestHashesSpec)

/-- ITS FALSE NEIGHBOUR: 'it returns false'. Refute it at one input. -/
def digestHashesWrong : ChangeSpec := { name := "digestHashes", fn := fun _ => fun
  | [d1, d2, d3] => { results := [.lit (.bool false)], args := [d1, d2, d3] }
  | _ => none }
def DigestHashesWrongFalsely : Prop := digestHashesRow.holds Try.pinned (OpenSpec.ofChange digestHashesWrong)

/-- 'tollwaylaw08.DigestRoots': WHATEVER THE INPUT: true; the input reads as it did. -/
def digestRootsSpec : ChangeSpec := { name := "digestRoots", fn := fun _ => fun
  | [d1, d2] => { results := [.lit (.bool true)], args := [d1, d2] }
  | _ => none }
def digestRootsRow : OpenClaim := { program := "ytjncolngfeglkaa", sum := "6781a242d722efcceef29f88f35b66b293109a7472b752b57d1909147fae0fdd", func := "tollway/tollwaylaw08.DigestRoots", spec := "digestRoots", apart := false }
def DigestRootsSaid : Prop := digestRootsRow.holds Try.pinned (OpenSpec.ofChange digestRootsSpec)

/-- ITS FALSE NEIGHBOUR: 'it returns false'. Refute it at one input. -/
def digestRootsWrong : ChangeSpec := { name := "digestRoots", fn := fun _ => fun
  | [d1, d2] => { results := [.lit (.bool false)], args := [d1, d2] }
  | _ => none }
def DigestRootsWrongFalsely : Prop := digestRootsRow.holds Try.pinned (OpenSpec.ofChange digestRootsWrong)

/-- 'tollwaylaw08.DigestVerifies': WHATEVER THE INPUT: true; the input reads as it did. -/
def digestVerifiesSpec : ChangeSpec := { name := "digestVerifies", fn := fun _ => fun
  | [d] => { results := [.lit (.bool true)], args := [d] }
  | _ => none }
def digestVerifiesRow : OpenClaim := { program := "ytjncolngfeglkaa", sum := "6781a242d722efcceef29f88f35b66b293109a7472b752b57d1909147fae0fdd", func := "tollway/tollwaylaw08.DigestVerifies", spec := "digestVerifies", apart := false }
def DigestVerifiesSaid : Prop := digestVerifiesRow.holds Try.pinned (OpenSpec.ofChange digestVerifiesSpec)

/-- ITS FALSE NEIGHBOUR: 'it returns false'. Refute it at one input. -/
def digestVerifiesWrong : ChangeSpec := { name := "digestVerifies", fn := fun _ => fun
  | [d] => { results := [.lit (.bool false)], args := [d] }
  | _ => none }
def DigestVerifiesWrongFalsely : Prop := digestVerifiesRow.holds Try.pinned (OpenSpec.ofChange digestVerifiesWrong)

/-- 'tollwaylaw08.DigestDiffers': WHATEVER THE INPUT: true; the input reads as it did. -/
def digestDiffersSpec : ChangeSpec := { name := "digestDiffers", fn := fun _ => fun
  | [d1, d2] => { results := [.lit (.bool true)], args := [d1, d2] }
  | _ => none }
def digestDiffersRow : OpenClaim := { program := "ytjncolngfeglkaa", sum := "6781a242d722efcceef29f88f35b66b293109a7472b752b57d1909147fae0fdd", func := "tollway/tollwaylaw08.DigestDiffers", spec := "digestDiffers", recurses := true, apart := false }
def DigestDiffersSaid : Prop := digestDiffersRow.holds Try.pinned (OpenSpec.ofChange digestDiffersSpec)

/-- ITS FALSE NEIGHBOUR: 'it returns false'. Refute it at one input. -/
def digestDiffersWrong : ChangeSpec := { name := "digestDiffers", fn := fun _ => fun
  | [d1, d2] => { results := [.lit (.bool false)], args := [d1, d2] }
  | _ => none }
def DigestDiffersWrongFalsely : Prop := digestDiffersRow.holds Try.pinned (OpenSpec.ofChange digestDiffersWrong)

/-- 'tollwaylaw08.DigestProves': WHATEVER THE INPUT: true; the input reads as it did. -/
def digestProvesSpec : ChangeSpec := { name := "digestProves", fn := fun _ => fun
  | [d1, d2] => { results := [.lit (.bool true)], args := [d1, d2] }
  | _ => none }
def digestProvesRow : OpenClaim := { program := "ytjncolngfeglkaa", sum := "6781a242d722efcceef29f88f35b66b293109a7472b752b57d1909147fae0fdd", func := "tollway/tollwaylaw08.DigestProves", spec := "digestProves", apart := false }
def DigestProvesSaid : Prop := digestProvesRow.holds Try.pinned (OpenSpec.ofChange digestProvesSpec)

/-- ITS FALSE NEIGHBOUR: 'it returns false'. Refute it at one input. -/
def digestProvesWrong : ChangeSpec := { name := "digestProves", fn := fun _ => fun
  | [d1, d2] => { results := [.lit (.bool false)], args := [d1, d2] }
  | _ => none }
def DigestProvesWrongFalsely : Prop := digestProvesRow.holds Try.pinned (OpenSpec.ofChange digestProvesWrong)

/-- 'tollwaylaw08.DigestSearch': WHATEVER THE INPUT: true; the input reads as it did. -/
def digestSearchSpec : ChangeSpec := { name := "digestSearch", fn := fun _ => fun
  | [d1, d2, d3] => { results := [.lit (.bool true)], args := [d1, d2, d3] }
  | _ => none }
def digestSearchRow : OpenClaim := { program := "ytjncolngfeglkaa", sum := "6781a242d722efcceef29f88f35b66b293109a7472b752b57d1909147fae0fdd", func := "tollway/tollwaylaw08.DigestSearch", spec := "digestSearch", apart := false }
def DigestSearchSaid : Prop := digestSearchRow.holds Try.pinned (OpenSpec.ofChange digestSearchSpec)

/-- ITS FALSE NEIGHBOUR: 'it returns false'. Refute it at one input. -/
def digestSearchWrong : ChangeSpec := { name := "digestSearch", fn := fun _ => fun
  | [d1, d2, d3] => { results := [.lit (.bool false)], args := [d1, d2, d3] }
  | _ => none }
def DigestSearchWrongFalsely : Prop := digestSearchRow.holds Try.pinned (OpenSpec.ofChange digestSearchWrong)

/-- 'tollwaylaw08.DigestChains': WHATEVER THE INPUT: true; the input reads as it did. -/
def digestChainsSpec : ChangeSpec := { name := "digestChains", fn := fun _ => fun
  | [d1, d2] => { results := [.lit (.bool true)], args := [d1, d2] }
  | _ => none }
def digestChainsRow : OpenClaim := { program := "ytjncolngfeglkaa", sum := "6781a242d722efcceef29f88f35b66b293109a7472b752b57d1909147fae0fdd", func := "tollway/tollwaylaw08.DigestChains", spec := "digestChains", apart := false }
def DigestChainsSaid : Prop := digestChainsRow.holds Try.pinned (OpenSpec.ofChange digestChainsSpec)

/-- ITS FALSE NEIGHBOUR: 'it returns false'. Refute it at one input. -/
def digestChainsWrong : ChangeSpec := { name := "digestChains", fn := fun _ => fun
  | [d1, d2] => { results := [.lit (.bool false)], args := [d1, d2] }
  | _ => none }
def DigestChainsWrongFalsely : Prop := digestChainsRow.holds Try.pinned (OpenSpec.ofChange digestChainsWrong)

/-- 'tollwaylaw08.DigestParts': WHATEVER THE INPUT: true; the input reads as it did. -/
def digestPartsSpec : ChangeSpec := { name := "digestParts", fn := fun _ => fun
  | [d1, d2, d3] => { results := [.lit (.bool true)], args := [d1, d2, d3] }
  | _ => none }
def digestPartsRow : OpenClaim := { program := "ytjncolngfeglkaa", sum := "6781a242d722efcceef29f88f35b66b293109a7472b752b57d1909147fae0fdd", func := "tollway/tollwaylaw08.DigestParts", spec := "digestParts", apart := false }
def DigestPartsSaid : Prop := digestPartsRow.holds Try.pinned (OpenSpec.ofChange digestPartsSpec)

/-- ITS FALSE NEIGHBOUR: 'it returns false'. Refute it at one input. -/
def digestPartsWrong : ChangeSpec := { name := "digestParts", fn := fun _ => fun
  | [d1, d2, d3] => { results := [.lit (.bool false)], args := [d1, d2, d3] }
  | _ => none }
def DigestPartsWrongFalsely : Prop := digestPartsRow.holds Try.pinned (OpenSpec.ofChange digestPartsWrong)

/- THE SECOND FORM. 'bulk': how many values and letters a reading holds, each counted each time it is reached (what is shared counts as often as it is met; a slice's spare places count too). A statement '..UptoSaid' is the law's where the arguments, and the package variables that the reading takes, are together of bulk at most 1048576: NARROWER than '..Said'. Prove '..Said' where nothing that the law and all that it calls make is longer than what came in: it says more and counts as full. Else prove '..UptoSaid'. A law counts once. -/
mutual
def uptoBulk {H : Type} : DataW H → Nat
  | .lit (.string bytes) => bytes.length + 1
  | .lit _ => 1
  | .nil => 1
  | .ptr d => uptoBulk d + 1
  | .slice elems spare => uptoBulkAll elems + uptoBulkAll spare + 1
  | .agg parts => uptoBulkAll parts + 1
  | .iface _ d => uptoBulk d + 1
  | .map entries => uptoBulkEntries entries + 1
  | .held _ => 1
def uptoBulkAll {H : Type} : List (DataW H) → Nat
  | [] => 0
  | d :: r => uptoBulk d + uptoBulkAll r
def uptoBulkEntries {H : Type} : List (Lit × DataW H) → Nat
  | [] => 0
  | x :: r => uptoBulkEntry x + uptoBulkEntries r
def uptoBulkEntry {H : Type} : Lit × DataW H → Nat
  | (.string bytes, d) => bytes.length + uptoBulk d + 1
  | (_, d) => uptoBulk d + 1
 end
def uptoSmall : (H : Type) → List (DataW H) → Bool := fun _ ds => decide (uptoBulkAll ds ≤ 1048576)
def OpenSpec.upto (s : _root_.Go.ChangeSpec) : _root_.Go.OpenSpec := { _root_.Go.OpenSpec.ofChange s with cond := some uptoSmall }

/-- 'tollwaylaw08.DigestHashes', WHERE WHAT IT READS IS OF BULK AT MOST 1048576: true; the input reads as it did. -/
def digestHashesUptoRow : OpenClaim := { program := "ytjncolngfeglkaa", sum := "6781a242d722efcceef29f88f35b66b293109a7472b752b57d1909147fae0fdd", func := "tollway/tollwaylaw08.DigestHashes", spec := "digestHashes", apart := false, narrowed := true }
def DigestHashesUptoSaid : Prop := digestHashesUptoRow.holds Try.pinned (OpenSpec.upto digestHashesSpec)

/-- 'tollwaylaw08.DigestRoots', WHERE WHAT IT READS IS OF BULK AT MOST 1048576: true; the input reads as it did. -/
def digestRootsUptoRow : OpenClaim := { program := "ytjncolngfeglkaa", sum := "6781a242d722efcceef29f88f35b66b293109a7472b752b57d1909147fae0fdd", func := "tollway/tollwaylaw08.DigestRoots", spec := "digestRoots", apart := false, narrowed := true }
def DigestRootsUptoSaid : Prop := digestRootsUptoRow.holds Try.pinned (OpenSpec.upto digestRootsSpec)

/-- 'tollwaylaw08.DigestVerifies', WHERE WHAT IT READS IS OF BULK AT MOST 1048576: true; the input reads as it did. -/
def digestVerifiesUptoRow : OpenClaim := { program := "ytjncolngfeglkaa", sum := "6781a242d722efcceef29f88f35b66b293109a7472b752b57d1909147fae0fdd", func := "tollway/tollwaylaw08.DigestVerifies", spec := "digestVerifies", apart := false, narrowed := true }
def DigestVerifiesUptoSaid : Prop := digestVerifiesUptoRow.holds Try.pinned (OpenSpec.upto digestVerifiesSpec)

/-- 'tollwaylaw08.DigestDiffers', WHERE WHAT IT READS IS OF BULK AT MOST 1048576: true; the input reads as it did. -/
def digestDiffersUptoRow : OpenClaim := { program := "ytjncolngfeglkaa", sum := "6781a242d722efcceef29f88f35b66b293109a7472b752b57d1909147fae0fdd", func := "tollway/tollwaylaw08.DigestDiffers", spec := "digestDiffers", recurses := true, apart := false, narrowed := true }
def DigestDiffersUptoSaid : Prop := digestDiffersUptoRow.holds Try.pinned (OpenSpec.upto digestDiffersSpec)

/-- 'tollwaylaw08.DigestProves', WHERE WHAT IT READS IS OF BULK AT MOST 1048576: true; the input reads as it did. -/
def digestProvesUptoRow : OpenClaim := { program := "ytjncolngfeglkaa", sum := "6781a242d722efcceef29f88f35b66b293109a7472b752b57d1909147fae0fdd", func := "tollway/tollwaylaw08.DigestProves", spec := "digestProves", apart := false, narrowed := true }
def DigestProvesUptoSaid : Prop := digestProvesUptoRow.holds Try.pinned (OpenSpec.upto digestProvesSpec)

/-- 'tollwaylaw08.DigestSearch', WHERE WHAT IT READS IS OF BULK AT MOST 1048576: true; the input reads as it did. -/
def digestSearchUptoRow : OpenClaim := { program := "ytjncolngfeglkaa", sum := "6781a242d722efcceef29f88f35b66b293109a7472b752b57d1909147fae0fdd", func := "tollway/tollwaylaw08.DigestSearch", spec := "digestSearch", apart := false, narrowed := true }
def DigestSearchUptoSaid : Prop := digestSearchUptoRow.holds Try.pinned (OpenSpec.upto digestSearchSpec)

/-- 'tollwaylaw08.DigestChains', WHERE WHAT IT READS IS OF BULK AT MOST 1048576: true; the input reads as it did. -/
def digestChainsUptoRow : OpenClaim := { program := "ytjncolngfeglkaa", sum := "6781a242d722efcceef29f88f35b66b293109a7472b752b57d1909147fae0fdd", func := "tollway/tollwaylaw08.DigestChains", spec := "digestChains", apart := false, narrowed := true }
def DigestChainsUptoSaid : Prop := digestChainsUptoRow.holds Try.pinned (OpenSpec.upto digestChainsSpec)

/-- 'tollwaylaw08.DigestParts', WHERE WHAT IT READS IS OF BULK AT MOST 1048576: true; the input reads as it did. -/
def digestPartsUptoRow : OpenClaim := { program := "ytjncolngfeglkaa", sum := "6781a242d722efcceef29f88f35b66b293109a7472b752b57d1909147fae0fdd", func := "tollway/tollwaylaw08.DigestParts", spec := "digestParts", apart := false, narrowed := true }
def DigestPartsUptoSaid : Prop := digestPartsUptoRow.holds Try.pinned (OpenSpec.upto digestPartsSpec)

end Rows
end Go.Proofs.Ytjncolngfeglkaa
