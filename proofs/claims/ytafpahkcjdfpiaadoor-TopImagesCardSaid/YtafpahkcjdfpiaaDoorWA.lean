/- Part of the proof of the laws of this seat: contracts of its functions, for every input. -/
import Derived.Test.YtafpahkcjdfpiaaDoorRxS
import Derived.Test.YtafpahkcjdfpiaaDoorRows
import Derived.KernelRfl
set_option linter.all false
namespace Go.Proofs.YtafpahkcjdfpiaaDoor
open Go Go.RX Go.Proofs
def tt : TT := [
  (2, (TI.mk (TK.int IntKind.i64) (Ty.int IntKind.i64) 8)),
  (3, (TI.mk (TK.int IntKind.i64) (Ty.int IntKind.i64) 8)),
  (4, (TI.mk TK.bool Ty.bool 1)),
  (5, (TI.mk (TK.int IntKind.u8) (Ty.int IntKind.u8) 1)),
  (6, (TI.mk (TK.int IntKind.u8) (Ty.int IntKind.u8) 1)),
  (7, (TI.mk (TK.struct ((2, 0) :: ((3, 1) :: ((4, 2) :: ((6, 3) :: []))))) (Ty.pair (Ty.int IntKind.i64) (Ty.pair (Ty.int IntKind.i64) (Ty.pair Ty.bool (Ty.pair (Ty.int IntKind.u8) Ty.unit)))) 24)),
  (8, (TI.mk (TK.struct ((2, 0) :: ((3, 1) :: ((4, 2) :: ((6, 3) :: []))))) (Ty.pair (Ty.int IntKind.i64) (Ty.pair (Ty.int IntKind.i64) (Ty.pair Ty.bool (Ty.pair (Ty.int IntKind.u8) Ty.unit)))) 24)),
  (9, (TI.mk TK.str Ty.str 16)),
  (10, (TI.mk TK.str Ty.str 16)),
  (11, (TI.mk TK.str Ty.str 16)),
  (12, (TI.mk (TK.int IntKind.u64) (Ty.int IntKind.u64) 8)),
  (21, (TI.mk (TK.int IntKind.i32) (Ty.int IntKind.i32) 4)),
  (22, (TI.mk (TK.slice 9) (Ty.slice Ty.str) 24)),
  (23, (TI.mk (TK.int IntKind.u64) (Ty.int IntKind.u64) 8)),
  (24, (TI.mk (TK.struct ((9, 0) :: ((3, 1) :: ((3, 2) :: ((22, 3) :: ((23, 4) :: [])))))) (Ty.pair Ty.str (Ty.pair (Ty.int IntKind.i64) (Ty.pair (Ty.int IntKind.i64) (Ty.pair (Ty.slice Ty.str) (Ty.pair (Ty.int IntKind.u64) Ty.unit))))) 64)),
  (25, (TI.mk (TK.struct ((9, 0) :: ((3, 1) :: ((3, 2) :: ((22, 3) :: ((23, 4) :: [])))))) (Ty.pair Ty.str (Ty.pair (Ty.int IntKind.i64) (Ty.pair (Ty.int IntKind.i64) (Ty.pair (Ty.slice Ty.str) (Ty.pair (Ty.int IntKind.u64) Ty.unit))))) 64)),
  (29, (TI.mk (TK.slice 25) (Ty.slice (Ty.pair Ty.str (Ty.pair (Ty.int IntKind.i64) (Ty.pair (Ty.int IntKind.i64) (Ty.pair (Ty.slice Ty.str) (Ty.pair (Ty.int IntKind.u64) Ty.unit)))))) 24)),
  (31, (TI.mk (TK.slice 23) (Ty.slice (Ty.int IntKind.u64)) 24)),
  (32, (TI.mk (TK.struct ((9, 0) :: ((29, 1) :: ((31, 2) :: [])))) (Ty.pair Ty.str (Ty.pair (Ty.slice (Ty.pair Ty.str (Ty.pair (Ty.int IntKind.i64) (Ty.pair (Ty.int IntKind.i64) (Ty.pair (Ty.slice Ty.str) (Ty.pair (Ty.int IntKind.u64) Ty.unit)))))) (Ty.pair (Ty.slice (Ty.int IntKind.u64)) Ty.unit))) 64)),
  (33, (TI.mk (TK.struct ((9, 0) :: ((29, 1) :: ((31, 2) :: [])))) (Ty.pair Ty.str (Ty.pair (Ty.slice (Ty.pair Ty.str (Ty.pair (Ty.int IntKind.i64) (Ty.pair (Ty.int IntKind.i64) (Ty.pair (Ty.slice Ty.str) (Ty.pair (Ty.int IntKind.u64) Ty.unit)))))) (Ty.pair (Ty.slice (Ty.int IntKind.u64)) Ty.unit))) 64)),
  (34, (TI.mk (TK.int IntKind.i64) (Ty.int IntKind.i64) 8)),
  (48, (TI.mk (TK.slice 5) (Ty.slice (Ty.int IntKind.u8)) 24)),
  (53, (TI.mk (TK.slice 71) (Ty.slice (Ty.pair (Ty.int IntKind.i64) (Ty.pair (Ty.int IntKind.i64) (Ty.pair (Ty.int IntKind.i64) Ty.unit)))) 24)),
  (54, (TI.mk (TK.slice 3) (Ty.slice (Ty.int IntKind.i64)) 24)),
  (70, (TI.mk (TK.struct ((3, 0) :: ((3, 1) :: ((3, 2) :: [])))) (Ty.pair (Ty.int IntKind.i64) (Ty.pair (Ty.int IntKind.i64) (Ty.pair (Ty.int IntKind.i64) Ty.unit))) 24)),
  (71, (TI.mk (TK.struct ((3, 0) :: ((3, 1) :: ((3, 2) :: [])))) (Ty.pair (Ty.int IntKind.i64) (Ty.pair (Ty.int IntKind.i64) (Ty.pair (Ty.int IntKind.i64) Ty.unit))) 24)),
  (74, (TI.mk (TK.map 3 71) Ty.unit 0)),
  (85, (TI.mk (TK.int IntKind.u64) (Ty.int IntKind.u64) 8)),
  (89, (TI.mk (TK.slice 48) (Ty.slice (Ty.slice (Ty.int IntKind.u8))) 24)),
  (93, (TI.mk (TK.map 3 4) Ty.unit 0)),
  (108, (TI.mk (TK.struct ((5, 0) :: ((5, 1) :: []))) (Ty.pair (Ty.int IntKind.u8) (Ty.pair (Ty.int IntKind.u8) Ty.unit)) 2)),
  (109, (TI.mk (TK.struct ((5, 0) :: ((5, 1) :: []))) (Ty.pair (Ty.int IntKind.u8) (Ty.pair (Ty.int IntKind.u8) Ty.unit)) 2)),
  (111, (TI.mk (TK.int IntKind.u32) (Ty.int IntKind.u32) 4)),
  (121, (TI.mk (TK.int IntKind.u8) (Ty.int IntKind.u8) 1)),
  (122, (TI.mk (TK.int IntKind.u8) (Ty.int IntKind.u8) 1)),
  (125, (TI.mk (TK.int IntKind.i32) (Ty.int IntKind.i32) 4)),
  (126, (TI.mk (TK.int IntKind.i32) (Ty.int IntKind.i32) 4))]
set_option maxRecDepth 100000
theorem tt_check : tt.check Tryd.prog = true := by kernel_rfl
theorem tt_ok : TTok Tryd.prog tt := TTok.of_check tt_check
theorem mixed : Tryd.prog.follows .mixedOrders = true := by kernel_rfl
def tbN : Tab := fun _ => none
theorem tbN_ok : TabOK Tryd.prog tbN := fun f con h => by cases h
end Go.Proofs.YtafpahkcjdfpiaaDoor
