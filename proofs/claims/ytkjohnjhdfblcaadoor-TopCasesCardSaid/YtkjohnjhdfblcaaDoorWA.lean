/- Part of the proof of the laws of this seat: contracts of its functions, for every input. -/
import Derived.Test.YtkjohnjhdfblcaaDoorRxS
import Derived.Test.YtkjohnjhdfblcaaDoorRows
import Derived.KernelRfl
set_option linter.all false
namespace Go.Proofs.YtkjohnjhdfblcaaDoor
open Go Go.RX Go.Proofs
def tt : TT := [
  (2, (TI.mk (TK.int IntKind.i64) (Ty.int IntKind.i64) 8)),
  (3, (TI.mk (TK.int IntKind.i64) (Ty.int IntKind.i64) 8)),
  (4, (TI.mk TK.bool Ty.bool 1)),
  (5, (TI.mk (TK.int IntKind.u8) (Ty.int IntKind.u8) 1)),
  (6, (TI.mk (TK.int IntKind.u8) (Ty.int IntKind.u8) 1)),
  (7, (TI.mk (TK.struct ((2, 0) :: ((3, 1) :: ((4, 2) :: ((6, 3) :: []))))) (Ty.pair (Ty.int IntKind.i64) (Ty.pair (Ty.int IntKind.i64) (Ty.pair Ty.bool (Ty.pair (Ty.int IntKind.u8) Ty.unit)))) 24)),
  (8, (TI.mk (TK.struct ((2, 0) :: ((3, 1) :: ((4, 2) :: ((6, 3) :: []))))) (Ty.pair (Ty.int IntKind.i64) (Ty.pair (Ty.int IntKind.i64) (Ty.pair Ty.bool (Ty.pair (Ty.int IntKind.u8) Ty.unit)))) 24)),
  (9, (TI.mk TK.str Ty.str 16)),
  (10, (TI.mk TK.str Ty.str 16)),
  (11, (TI.mk TK.str Ty.str 16)),
  (12, (TI.mk (TK.int IntKind.u64) (Ty.int IntKind.u64) 8)),
  (21, (TI.mk (TK.int IntKind.i32) (Ty.int IntKind.i32) 4)),
  (22, (TI.mk (TK.slice 3) (Ty.slice (Ty.int IntKind.i64)) 24)),
  (23, (TI.mk (TK.struct ((22, 0) :: ((22, 1) :: ((3, 2) :: [])))) (Ty.pair (Ty.slice (Ty.int IntKind.i64)) (Ty.pair (Ty.slice (Ty.int IntKind.i64)) (Ty.pair (Ty.int IntKind.i64) Ty.unit))) 56)),
  (24, (TI.mk (TK.struct ((22, 0) :: ((22, 1) :: ((3, 2) :: [])))) (Ty.pair (Ty.slice (Ty.int IntKind.i64)) (Ty.pair (Ty.slice (Ty.int IntKind.i64)) (Ty.pair (Ty.int IntKind.i64) Ty.unit))) 56)),
  (26, (TI.mk (TK.struct ((3, 0) :: ((3, 1) :: ((3, 2) :: [])))) (Ty.pair (Ty.int IntKind.i64) (Ty.pair (Ty.int IntKind.i64) (Ty.pair (Ty.int IntKind.i64) Ty.unit))) 24)),
  (27, (TI.mk (TK.struct ((3, 0) :: ((3, 1) :: ((3, 2) :: [])))) (Ty.pair (Ty.int IntKind.i64) (Ty.pair (Ty.int IntKind.i64) (Ty.pair (Ty.int IntKind.i64) Ty.unit))) 24)),
  (28, (TI.mk (TK.struct ((9, 0) :: ((9, 1) :: ((9, 2) :: ((3, 3) :: ((3, 4) :: ((3, 5) :: ((3, 6) :: ((3, 7) :: ((3, 8) :: ((27, 9) :: []))))))))))) (Ty.pair Ty.str (Ty.pair Ty.str (Ty.pair Ty.str (Ty.pair (Ty.int IntKind.i64) (Ty.pair (Ty.int IntKind.i64) (Ty.pair (Ty.int IntKind.i64) (Ty.pair (Ty.int IntKind.i64) (Ty.pair (Ty.int IntKind.i64) (Ty.pair (Ty.int IntKind.i64) (Ty.pair (Ty.pair (Ty.int IntKind.i64) (Ty.pair (Ty.int IntKind.i64) (Ty.pair (Ty.int IntKind.i64) Ty.unit))) Ty.unit)))))))))) 120)),
  (29, (TI.mk (TK.struct ((9, 0) :: ((9, 1) :: ((9, 2) :: ((3, 3) :: ((3, 4) :: ((3, 5) :: ((3, 6) :: ((3, 7) :: ((3, 8) :: ((27, 9) :: []))))))))))) (Ty.pair Ty.str (Ty.pair Ty.str (Ty.pair Ty.str (Ty.pair (Ty.int IntKind.i64) (Ty.pair (Ty.int IntKind.i64) (Ty.pair (Ty.int IntKind.i64) (Ty.pair (Ty.int IntKind.i64) (Ty.pair (Ty.int IntKind.i64) (Ty.pair (Ty.int IntKind.i64) (Ty.pair (Ty.pair (Ty.int IntKind.i64) (Ty.pair (Ty.int IntKind.i64) (Ty.pair (Ty.int IntKind.i64) Ty.unit))) Ty.unit)))))))))) 120)),
  (31, (TI.mk (TK.int IntKind.i64) (Ty.int IntKind.i64) 8)),
  (35, (TI.mk (TK.struct ((9, 0) :: ((9, 1) :: ((9, 2) :: ((3, 3) :: ((3, 4) :: [])))))) (Ty.pair Ty.str (Ty.pair Ty.str (Ty.pair Ty.str (Ty.pair (Ty.int IntKind.i64) (Ty.pair (Ty.int IntKind.i64) Ty.unit))))) 64)),
  (36, (TI.mk (TK.struct ((9, 0) :: ((9, 1) :: ((9, 2) :: ((3, 3) :: ((3, 4) :: [])))))) (Ty.pair Ty.str (Ty.pair Ty.str (Ty.pair Ty.str (Ty.pair (Ty.int IntKind.i64) (Ty.pair (Ty.int IntKind.i64) Ty.unit))))) 64)),
  (43, (TI.mk (TK.struct ((24, 0) :: ((22, 3) :: ((29, 4) :: [])))) (Ty.pair (Ty.pair (Ty.slice (Ty.int IntKind.i64)) (Ty.pair (Ty.slice (Ty.int IntKind.i64)) (Ty.pair (Ty.int IntKind.i64) Ty.unit))) (Ty.pair (Ty.slice (Ty.int IntKind.i64)) (Ty.pair (Ty.pair Ty.str (Ty.pair Ty.str (Ty.pair Ty.str (Ty.pair (Ty.int IntKind.i64) (Ty.pair (Ty.int IntKind.i64) (Ty.pair (Ty.int IntKind.i64) (Ty.pair (Ty.int IntKind.i64) (Ty.pair (Ty.int IntKind.i64) (Ty.pair (Ty.int IntKind.i64) (Ty.pair (Ty.pair (Ty.int IntKind.i64) (Ty.pair (Ty.int IntKind.i64) (Ty.pair (Ty.int IntKind.i64) Ty.unit))) Ty.unit)))))))))) Ty.unit))) 200)),
  (44, (TI.mk (TK.struct ((24, 0) :: ((22, 3) :: ((29, 4) :: [])))) (Ty.pair (Ty.pair (Ty.slice (Ty.int IntKind.i64)) (Ty.pair (Ty.slice (Ty.int IntKind.i64)) (Ty.pair (Ty.int IntKind.i64) Ty.unit))) (Ty.pair (Ty.slice (Ty.int IntKind.i64)) (Ty.pair (Ty.pair Ty.str (Ty.pair Ty.str (Ty.pair Ty.str (Ty.pair (Ty.int IntKind.i64) (Ty.pair (Ty.int IntKind.i64) (Ty.pair (Ty.int IntKind.i64) (Ty.pair (Ty.int IntKind.i64) (Ty.pair (Ty.int IntKind.i64) (Ty.pair (Ty.int IntKind.i64) (Ty.pair (Ty.pair (Ty.int IntKind.i64) (Ty.pair (Ty.int IntKind.i64) (Ty.pair (Ty.int IntKind.i64) Ty.unit))) Ty.unit)))))))))) Ty.unit))) 200)),
  (68, (TI.mk (TK.int IntKind.u16) (Ty.int IntKind.u16) 2)),
  (71, (TI.mk (TK.slice 73) (Ty.slice (Ty.pair (Ty.int IntKind.i64) (Ty.pair (Ty.int IntKind.i64) (Ty.pair (Ty.int IntKind.i64) Ty.unit)))) 24)),
  (72, (TI.mk (TK.struct ((3, 0) :: ((3, 1) :: ((3, 2) :: [])))) (Ty.pair (Ty.int IntKind.i64) (Ty.pair (Ty.int IntKind.i64) (Ty.pair (Ty.int IntKind.i64) Ty.unit))) 24)),
  (73, (TI.mk (TK.struct ((3, 0) :: ((3, 1) :: ((3, 2) :: [])))) (Ty.pair (Ty.int IntKind.i64) (Ty.pair (Ty.int IntKind.i64) (Ty.pair (Ty.int IntKind.i64) Ty.unit))) 24)),
  (94, (TI.mk (TK.slice 9) (Ty.slice Ty.str) 24)),
  (97, (TI.mk (TK.slice 5) (Ty.slice (Ty.int IntKind.u8)) 24)),
  (111, (TI.mk (TK.int IntKind.u64) (Ty.int IntKind.u64) 8)),
  (113, (TI.mk (TK.struct ((5, 0) :: ((5, 1) :: []))) (Ty.pair (Ty.int IntKind.u8) (Ty.pair (Ty.int IntKind.u8) Ty.unit)) 2)),
  (114, (TI.mk (TK.struct ((5, 0) :: ((5, 1) :: []))) (Ty.pair (Ty.int IntKind.u8) (Ty.pair (Ty.int IntKind.u8) Ty.unit)) 2)),
  (116, (TI.mk (TK.int IntKind.u32) (Ty.int IntKind.u32) 4)),
  (126, (TI.mk (TK.int IntKind.u8) (Ty.int IntKind.u8) 1)),
  (127, (TI.mk (TK.int IntKind.u8) (Ty.int IntKind.u8) 1)),
  (130, (TI.mk (TK.int IntKind.i32) (Ty.int IntKind.i32) 4)),
  (131, (TI.mk (TK.int IntKind.i32) (Ty.int IntKind.i32) 4))]
set_option maxRecDepth 100000
theorem tt_check : tt.check Tryd.prog = true := by kernel_rfl
theorem tt_ok : TTok Tryd.prog tt := TTok.of_check tt_check
theorem mixed : Tryd.prog.follows .mixedOrders = true := by kernel_rfl
def tbN : Tab := fun _ => none
theorem tbN_ok : TabOK Tryd.prog tbN := fun f con h => by cases h
end Go.Proofs.YtkjohnjhdfblcaaDoor
