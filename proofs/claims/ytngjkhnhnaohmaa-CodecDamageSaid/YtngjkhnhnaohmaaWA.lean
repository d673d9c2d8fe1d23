/- Part of the proof of the laws of this seat: contracts of its functions, for every input. -/
import Derived.Test.YtngjkhnhnaohmaaRxS
import Derived.Test.YtngjkhnhnaohmaaRows
import Derived.KernelRfl
set_option linter.all false
namespace Go.Proofs.Ytngjkhnhnaohmaa
open Go Go.RX Go.Proofs
def tt : TT := [
  (2, (TI.mk (TK.int IntKind.i64) (Ty.int IntKind.i64) 8)),
  (3, (TI.mk (TK.int IntKind.i64) (Ty.int IntKind.i64) 8)),
  (4, (TI.mk TK.bool Ty.bool 1)),
  (5, (TI.mk (TK.int IntKind.u8) (Ty.int IntKind.u8) 1)),
  (6, (TI.mk (TK.int IntKind.u8) (Ty.int IntKind.u8) 1)),
  (7, (TI.mk (TK.struct ((2, 0) :: ((3, 1) :: ((4, 2) :: ((6, 3) :: []))))) (Ty.pair (Ty.int IntKind.i64) (Ty.pair (Ty.int IntKind.i64) (Ty.pair Ty.bool (Ty.pair (Ty.int IntKind.u8) Ty.unit)))) 24)),
  (8, (TI.mk (TK.struct ((2, 0) :: ((3, 1) :: ((4, 2) :: ((6, 3) :: []))))) (Ty.pair (Ty.int IntKind.i64) (Ty.pair (Ty.int IntKind.i64) (Ty.pair Ty.bool (Ty.pair (Ty.int IntKind.u8) Ty.unit)))) 24)),
  (9, (TI.mk TK.str Ty.str 16)),
  (10, (TI.mk TK.str Ty.str 16)),
  (11, (TI.mk TK.str Ty.str 16)),
  (12, (TI.mk (TK.int IntKind.u64) (Ty.int IntKind.u64) 8)),
  (21, (TI.mk (TK.int IntKind.i32) (Ty.int IntKind.i32) 4)),
  (22, (TI.mk (TK.slice 5) (Ty.slice (Ty.int IntKind.u8)) 24)),
  (29, (TI.mk (TK.int IntKind.i64) (Ty.int IntKind.i64) 8)),
  (51, (TI.mk (TK.int IntKind.u16) (Ty.int IntKind.u16) 2)),
  (52, (TI.mk (TK.int IntKind.u32) (Ty.int IntKind.u32) 4)),
  (55, (TI.mk (TK.int IntKind.u64) (Ty.int IntKind.u64) 8)),
  (60, (TI.mk (TK.struct ((22, 0) :: ((3, 1) :: []))) (Ty.pair (Ty.slice (Ty.int IntKind.u8)) (Ty.pair (Ty.int IntKind.i64) Ty.unit)) 32)),
  (61, (TI.mk (TK.struct ((22, 0) :: ((3, 1) :: []))) (Ty.pair (Ty.slice (Ty.int IntKind.u8)) (Ty.pair (Ty.int IntKind.i64) Ty.unit)) 32)),
  (64, (TI.mk (TK.int IntKind.u64) (Ty.int IntKind.u64) 8)),
  (72, (TI.mk (TK.int IntKind.u8) (Ty.int IntKind.u8) 1)),
  (73, (TI.mk (TK.int IntKind.u8) (Ty.int IntKind.u8) 1)),
  (76, (TI.mk (TK.int IntKind.i32) (Ty.int IntKind.i32) 4)),
  (77, (TI.mk (TK.int IntKind.i32) (Ty.int IntKind.i32) 4))]
set_option maxRecDepth 100000
theorem tt_check : tt.check Try.prog = true := by kernel_rfl
theorem tt_ok : TTok Try.prog tt := TTok.of_check tt_check
theorem mixed : Try.prog.follows .mixedOrders = true := by kernel_rfl
def tbN : Tab := fun _ => none
theorem tbN_ok : TabOK Try.prog tbN := fun f con h => by cases h
end Go.Proofs.Ytngjkhnhnaohmaa
