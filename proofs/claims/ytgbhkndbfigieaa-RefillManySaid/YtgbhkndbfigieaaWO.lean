/- Part of the proof of the laws of this seat: contracts of its functions, for every input. -/
import Derived.Test.YtgbhkndbfigieaaWN
set_option linter.all false
namespace Go.Proofs.Ytgbhkndbfigieaa
open Go Go.RX Go.Proofs
set_option maxRecDepth 100000
theorem c13 : ConOK Try.prog 13 con13 := by
  refine conOK_of_exec (lp := noLp) (tb := tb13) (c := bodyOf Try.f13) ⟨tt_ok, tbA_ok⟩ mixed Try.func13 (by kernel_rfl) (by kernel_rfl) ?_
  intro dat hpre hwt
  match dat, hpre, hwt with
  | [], _, hw =>
    refine Eq.mpr vc13 ?_
    simp
def tbL : Tab := fun f => match f with
  | 13 => some con13
  | f => tbA f
theorem tbL_ok : TabOK Try.prog tbL := fun f con h => by
  unfold tbL at h
  split at h
  · cases h; exact c13
  · exact tbA_ok _ _ h
def con3 : Con := lawCon [ruleT]
def tb3 := tbL
def con4 : Con := lawCon [ruleT, fillT, i64]
def tb4 := tbL
def con5 : Con := lawCon [ruleT, i64, .slice i64, .slice .bool]
def tb5 := tbL
def con6 : Con := lawCon [.int .u8, .bool]
def tb6 := tbL
def con9 : Con := lawCon [ruleT, fillT, i64, i64]
def tb9 := tbL
def con7 : Con := lawCon [ruleT, i64, .slice i64, .slice .bool]
def tb7 := tbL
def con8 : Con := lawCon [ruleT, i64, .slice (.int .u16)]
def tb8 := tbL
def con10 : Con := lawCon [ruleT, .int .u8]
def tb10 := tbL
end Go.Proofs.Ytgbhkndbfigieaa
