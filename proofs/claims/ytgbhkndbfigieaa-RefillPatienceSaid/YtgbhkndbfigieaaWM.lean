/- Part of the proof of the laws of this seat: contracts of its functions, for every input. -/
import Derived.Test.YtgbhkndbfigieaaWL
set_option linter.all false
namespace Go.Proofs.Ytgbhkndbfigieaa
open Go Go.RX Go.Proofs
def tbA : Tab := fun f => match f with
  | 11 => some con11
  | 12 => some con12
  | 14 => some con14
  | 15 => some con15
  | 16 => some con16
  | 17 => some con17
  | 18 => some con18
  | 19 => some con19
  | 20 => some con20
  | 21 => some con21
  | 22 => some con22
  | 23 => some con23
  | 24 => some con24
  | _ => none
theorem tbA_ok : TabOK Try.prog tbA := fun f con h => by
  unfold tbA at h
  split at h
  · cases h; exact c11
  · cases h; exact c12
  · cases h; exact c14
  · cases h; exact c15
  · cases h; exact c16
  · cases h; exact c17
  · cases h; exact c18
  · cases h; exact c19
  · cases h; exact c20
  · cases h; exact c21
  · cases h; exact c22
  · cases h; exact c23
  · cases h; exact c24
  · cases h
def con13 : Con := lawCon []
def tb13 := tbA
end Go.Proofs.Ytgbhkndbfigieaa
