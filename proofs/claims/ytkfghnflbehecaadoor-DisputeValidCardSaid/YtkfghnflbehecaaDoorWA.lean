/- Part of the proof of the laws of this seat: contracts of its functions, for every input. -/
import Derived.Test.YtkfghnflbehecaaDoorRxS
import Derived.Test.YtkfghnflbehecaaDoorRows
import Derived.KernelRfl
set_option linter.all false
namespace Go.Proofs.YtkfghnflbehecaaDoor
open Go Go.RX Go.Proofs
def tt : TT := [
  (2, (TI.mk (TK.int IntKind.i64) (Ty.int IntKind.i64) 8)),
  (3, (TI.mk (TK.int IntKind.i64) (Ty.int IntKind.i64) 8)),
  (4, (TI.mk TK.bool Ty.bool 1)),
  (5, (TI.mk (TK.int IntKind.u8) (Ty.int IntKind.u8) 1)),
  (6, (TI.mk (TK.int IntKind.u8) (Ty.int IntKind.u8) 1)),
  (7, (TI.mk (TK.struct ((2, 0) :: ((3, 1) :: ((4, 2) :: ((6, 3) :: []))))) (Ty.pair (Ty.int IntKind.i64) (Ty.pair (Ty.int IntKind.i64) (Ty.pair Ty.bool (Ty.pair (Ty.int IntKind.u8) Ty.unit)))) 24)),
  (8, (TI.mk (TK.struct ((2, 0) :: ((3, 1) :: ((4, 2) :: ((6, 3) :: []))))) (Ty.pair (Ty.int IntKind.i64) (Ty.pair (Ty.int IntKind.i64) (Ty.pair Ty.bool (Ty.pair (Ty.int IntKind.u8) Ty.unit)))) 24)),
  (9, (TI.mk TK.str Ty.str 16)),
  (10, (TI.mk TK.str Ty.str 16)),
  (11, (TI.mk TK.str Ty.str 16)),
  (12, (TI.mk (TK.int IntKind.u64) (Ty.int IntKind.u64) 8)),
  (21, (TI.mk (TK.int IntKind.i32) (Ty.int IntKind.i32) 4)),
  (22, (TI.mk (TK.slice 40) (Ty.slice (Ty.pair Ty.str (Ty.pair (Ty.int IntKind.i64) (Ty.pair (Ty.int IntKind.i64) (Ty.pair (Ty.int IntKind.i64) (Ty.pair (Ty.slice Ty.str) Ty.unit)))))) 24)),
  (25, (TI.mk (TK.int IntKind.i64) (Ty.int IntKind.i64) 8)),
  (28, (TI.mk (TK.struct ((3, 0) :: ((9, 1) :: ((9, 2) :: ((3, 3) :: ((3, 4) :: ((4, 5) :: []))))))) (Ty.pair (Ty.int IntKind.i64) (Ty.pair Ty.str (Ty.pair Ty.str (Ty.pair (Ty.int IntKind.i64) (Ty.pair (Ty.int IntKind.i64) (Ty.pair Ty.bool Ty.unit)))))) 64)),
  (29, (TI.mk (TK.struct ((3, 0) :: ((9, 1) :: ((9, 2) :: ((3, 3) :: ((3, 4) :: ((4, 5) :: []))))))) (Ty.pair (Ty.int IntKind.i64) (Ty.pair Ty.str (Ty.pair Ty.str (Ty.pair (Ty.int IntKind.i64) (Ty.pair (Ty.int IntKind.i64) (Ty.pair Ty.bool Ty.unit)))))) 64)),
  (36, (TI.mk (TK.slice 29) (Ty.slice (Ty.pair (Ty.int IntKind.i64) (Ty.pair Ty.str (Ty.pair Ty.str (Ty.pair (Ty.int IntKind.i64) (Ty.pair (Ty.int IntKind.i64) (Ty.pair Ty.bool Ty.unit))))))) 24)),
  (38, (TI.mk (TK.slice 9) (Ty.slice Ty.str) 24)),
  (39, (TI.mk (TK.struct ((9, 0) :: ((3, 1) :: ((3, 2) :: ((3, 3) :: ((38, 4) :: [])))))) (Ty.pair Ty.str (Ty.pair (Ty.int IntKind.i64) (Ty.pair (Ty.int IntKind.i64) (Ty.pair (Ty.int IntKind.i64) (Ty.pair (Ty.slice Ty.str) Ty.unit))))) 64)),
  (40, (TI.mk (TK.struct ((9, 0) :: ((3, 1) :: ((3, 2) :: ((3, 3) :: ((38, 4) :: [])))))) (Ty.pair Ty.str (Ty.pair (Ty.int IntKind.i64) (Ty.pair (Ty.int IntKind.i64) (Ty.pair (Ty.int IntKind.i64) (Ty.pair (Ty.slice Ty.str) Ty.unit))))) 64)),
  (79, (TI.mk (TK.int IntKind.u64) (Ty.int IntKind.u64) 8)),
  (81, (TI.mk (TK.struct ((5, 0) :: ((5, 1) :: []))) (Ty.pair (Ty.int IntKind.u8) (Ty.pair (Ty.int IntKind.u8) Ty.unit)) 2)),
  (82, (TI.mk (TK.struct ((5, 0) :: ((5, 1) :: []))) (Ty.pair (Ty.int IntKind.u8) (Ty.pair (Ty.int IntKind.u8) Ty.unit)) 2)),
  (84, (TI.mk (TK.int IntKind.u32) (Ty.int IntKind.u32) 4)),
  (94, (TI.mk (TK.int IntKind.u8) (Ty.int IntKind.u8) 1)),
  (95, (TI.mk (TK.int IntKind.u8) (Ty.int IntKind.u8) 1)),
  (98, (TI.mk (TK.int IntKind.i32) (Ty.int IntKind.i32) 4)),
  (99, (TI.mk (TK.int IntKind.i32) (Ty.int IntKind.i32) 4))]
set_option maxRecDepth 100000
theorem tt_check : tt.check Tryd.prog = true := by kernel_rfl
theorem tt_ok : TTok Tryd.prog tt := TTok.of_check tt_check
theorem mixed : Tryd.prog.follows .mixedOrders = true := by kernel_rfl
def tbN : Tab := fun _ => none
theorem tbN_ok : TabOK Tryd.prog tbN := fun f con h => by cases h
end Go.Proofs.YtkfghnflbehecaaDoor
