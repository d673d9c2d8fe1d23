/- Part of the proof of the laws of this seat: contracts of its functions, for every input. -/
import Derived.Test.YtjncolngfeglkaaWK
import Derived.Test.YtjncolngfeglkaaRxY
set_option linter.all false
namespace Go.Proofs.Ytjncolngfeglkaa
open Go Go.RX Go.Proofs
set_option maxRecDepth 100000
set_option linter.all false
def con34 : Con := con30
def tb34 := tbK
def lp34 : Loops := fun r s => match r with
  | 4 => some ⟨[], Nat, fun k => k ≤ hgt (slOf s 0), fun k => hgt (slOf s 0) - k, fun k => frame s [0] [] [(4, sSl u64 (levN (slOf s 0) k)), (3, sRow 72)] [(72, .row 0 28 lu (mkL (k + 1) fun k => .list (levN (slOf s 0) k)))]⟩
  | _ => none
def con24 : Con := ⟨[lu, lu], fun | [a, b] => ⟨a.l.length ≤ 1000 ∧ b.l.length ≤ 1000, [vSl i64 (difZ a.l b.l).l, vI (difZ a.l b.l).c]⟩ | _ => bad⟩
def tb24 : Tab := fun f => match f with
  | 34 => some con34
  | _ => none
def lp24 : Loops := fun r s => match r with
  | 4 => some ⟨[(6, 7000, 3, i64)], Nat, fun i => i ≤ max (slOf s 0).length (slOf s 1).length, fun i => max (slOf s 0).length (slOf s 1).length - i, fun i => frame s [0, 1] [] [(6, sRow 7000), (7, sI (i : Int))] [(7000, .row 0 3 i64 (mkL i fun j => .int (j : Int)))]⟩
  | _ => none
end Go.Proofs.Ytjncolngfeglkaa
namespace Go.RX
open Go.Proofs.Ytjncolngfeglkaa
def cutl24 : Nat := 10
def kc24 : List D → St → Prop := fun dat s => match dat with
  | [a, b] => cutK 41 [(0, .one (.sl u64 a.l)), (1, .one (.sl u64 b.l))] (a.l.length = b.l.length ∧ 1 ≤ a.l.length) s
  | _ => False
end Go.RX
