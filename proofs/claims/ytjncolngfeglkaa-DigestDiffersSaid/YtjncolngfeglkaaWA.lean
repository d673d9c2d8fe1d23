/- Part of the proof of the laws of this seat: contracts of its functions, for every input. -/
import Derived.Test.YtjncolngfeglkaaRxS
import Derived.Test.YtjncolngfeglkaaRows
import Derived.KernelRfl
set_option linter.all false
namespace Go.Proofs.Ytjncolngfeglkaa
open Go Go.RX Go.Proofs
def tt : TT := [
  (2, (TI.mk (TK.int IntKind.i64) (Ty.int IntKind.i64) 8)),
  (3, (TI.mk (TK.int IntKind.i64) (Ty.int IntKind.i64) 8)),
  (4, (TI.mk TK.bool Ty.bool 1)),
  (5, (TI.mk (TK.int IntKind.u8) (Ty.int IntKind.u8) 1)),
  (6, (TI.mk (TK.int IntKind.u8) (Ty.int IntKind.u8) 1)),
  (7, (TI.mk (TK.struct ((2, 0) :: ((3, 1) :: ((4, 2) :: ((6, 3) :: []))))) (Ty.pair (Ty.int IntKind.i64) (Ty.pair (Ty.int IntKind.i64) (Ty.pair Ty.bool (Ty.pair (Ty.int IntKind.u8) Ty.unit)))) 24)),
  (8, (TI.mk (TK.struct ((2, 0) :: ((3, 1) :: ((4, 2) :: ((6, 3) :: []))))) (Ty.pair (Ty.int IntKind.i64) (Ty.pair (Ty.int IntKind.i64) (Ty.pair Ty.bool (Ty.pair (Ty.int IntKind.u8) Ty.unit)))) 24)),
  (9, (TI.mk TK.str Ty.str 16)),
  (10, (TI.mk TK.str Ty.str 16)),
  (11, (TI.mk TK.str Ty.str 16)),
  (12, (TI.mk (TK.int IntKind.u64) (Ty.int IntKind.u64) 8)),
  (21, (TI.mk (TK.int IntKind.i32) (Ty.int IntKind.i32) 4)),
  (22, (TI.mk (TK.slice 5) (Ty.slice (Ty.int IntKind.u8)) 24)),
  (23, (TI.mk (TK.int IntKind.u64) (Ty.int IntKind.u64) 8)),
  (28, (TI.mk (TK.slice 23) (Ty.slice (Ty.int IntKind.u64)) 24)),
  (29, (TI.mk (TK.int IntKind.i64) (Ty.int IntKind.i64) 8)),
  (37, (TI.mk (TK.struct ((23, 0) :: ((23, 1) :: ((3, 2) :: ((3, 3) :: ((28, 4) :: [])))))) (Ty.pair (Ty.int IntKind.u64) (Ty.pair (Ty.int IntKind.u64) (Ty.pair (Ty.int IntKind.i64) (Ty.pair (Ty.int IntKind.i64) (Ty.pair (Ty.slice (Ty.int IntKind.u64)) Ty.unit))))) 56)),
  (38, (TI.mk (TK.struct ((23, 0) :: ((23, 1) :: ((3, 2) :: ((3, 3) :: ((28, 4) :: [])))))) (Ty.pair (Ty.int IntKind.u64) (Ty.pair (Ty.int IntKind.u64) (Ty.pair (Ty.int IntKind.i64) (Ty.pair (Ty.int IntKind.i64) (Ty.pair (Ty.slice (Ty.int IntKind.u64)) Ty.unit))))) 56)),
  (41, (TI.mk (TK.slice 3) (Ty.slice (Ty.int IntKind.i64)) 24)),
  (47, (TI.mk (TK.slice 22) (Ty.slice (Ty.slice (Ty.int IntKind.u8))) 24)),
  (53, (TI.mk (TK.slice 28) (Ty.slice (Ty.slice (Ty.int IntKind.u64))) 24)),
  (58, (TI.mk (TK.struct ((41, 0) :: ((3, 1) :: []))) (Ty.pair (Ty.slice (Ty.int IntKind.i64)) (Ty.pair (Ty.int IntKind.i64) Ty.unit)) 32)),
  (59, (TI.mk (TK.struct ((41, 0) :: ((3, 1) :: []))) (Ty.pair (Ty.slice (Ty.int IntKind.i64)) (Ty.pair (Ty.int IntKind.i64) Ty.unit)) 32)),
  (68, (TI.mk (TK.int IntKind.u32) (Ty.int IntKind.u32) 4)),
  (69, (TI.mk (TK.int IntKind.u8) (Ty.int IntKind.u8) 1)),
  (70, (TI.mk (TK.int IntKind.u8) (Ty.int IntKind.u8) 1)),
  (73, (TI.mk (TK.int IntKind.i32) (Ty.int IntKind.i32) 4)),
  (74, (TI.mk (TK.int IntKind.i32) (Ty.int IntKind.i32) 4))]
set_option maxRecDepth 100000
theorem tt_check : tt.check Try.prog = true := by kernel_rfl
theorem tt_ok : TTok Try.prog tt := TTok.of_check tt_check
theorem mixed : Try.prog.follows .mixedOrders = true := by kernel_rfl
def tbN : Tab := fun _ => none
theorem tbN_ok : TabOK Try.prog tbN := fun f con h => by cases h
end Go.Proofs.Ytjncolngfeglkaa
