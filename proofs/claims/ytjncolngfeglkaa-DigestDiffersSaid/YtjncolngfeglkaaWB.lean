/- Part of the proof of the laws of this seat: contracts of its functions, for every input. -/
import Derived.Test.YtjncolngfeglkaaWA
import Derived.Test.YtjncolngfeglkaaRxV
set_option linter.all false
namespace Go.Proofs.Ytjncolngfeglkaa
open Go Go.RX Go.Proofs
set_option maxRecDepth 100000
set_option linter.all false
def u64 : Ty := .int .u64
def u8 : Ty := .int .u8
def lu : Ty := .slice u64
def lb : Ty := .slice u8
def li : Ty := .slice i64
def hashTo (l : List D) : Nat → Int
  | 0 => 14695981039346656037
  | i + 1 => imul .u64 (bits .xor .u64 (hashTo l i) (iconv .u64 (ei l i))) 1099511628211
def hashZ (l : List D) : Int := hashTo l l.length
def byteOf (x : Int) (k : Nat) : Int := x / 2 ^ (56 - 8 * k) % 256
def jf (a b : Int) (j : Nat) : D := .int (byteOf (if j < 8 then a else b) (j % 8))
def joinZ (a b : Int) : Int := hashZ (mkL 16 (jf a b))
def upF (l : List D) (i : Nat) : Int := if 2 * i + 1 < l.length then joinZ (ei l (2 * i)) (ei l (2 * i + 1)) else ei l (2 * i)
def upZ (l : List D) : List D := mkL ((l.length + 1) / 2) fun i => .int (upF l i)
def sibI (i : Int) : Int := if irem i 2 = 1 then isub .i64 i 1 else iadd .i64 i 1
def sibB (i n : Int) : Bool := if irem i 2 = 1 then true else ilt (iadd .i64 i 1) n
def levN (l : List D) : Nat → List D
  | 0 => l
  | k + 1 => upZ (levN l k)
def hgtF : Nat → Nat → Nat
  | 0, _ => 0
  | f + 1, n => if n ≤ 1 then 0 else hgtF f ((n + 1) / 2) + 1
def hgt (l : List D) : Nat := hgtF l.length l.length
def levs (l : List D) : List D := mkL (hgt l + 1) fun k => .list (levN l k)
def rootZ (l : List D) : Int := if l.length = 0 then 0 else ei (levN l (hgt l)) 0
def sibL (lev : List D) (a : Nat) : List D := if a % 2 = 1 then [.int (ei lev (a - 1))] else if a + 1 < lev.length then [.int (ei lev (a + 1))] else []
def prfTo (l : List D) (i : Nat) : Nat → List D
  | 0 => []
  | k + 1 => xcat (prfTo l i k) (sibL (levN l k) (i / 2 ^ k))
structure PR2 where
  l : List D
  e : Int
def proofZ (l : List D) (i : Int) : PR2 := if i < 0 ∨ lenI l ≤ i then ⟨[], 2⟩ else ⟨prfTo l i.toNat (hgt l), 0⟩
def verF (root : Int) (pr : List D) : Nat → Int → Nat → Nat → Nat → Bool
  | 0, x, _, _, used => (x == root) && (used == pr.length)
  | f + 1, x, a, n, used =>
    if n ≤ 1 then (x == root) && (used == pr.length)
    else if a % 2 = 1 ∨ a + 1 < n then
      if used = pr.length then false
      else verF root pr f (if a % 2 = 1 then joinZ (ei pr used) x else joinZ x (ei pr used)) (a / 2) (n / 2 + n % 2) (used + 1)
    else verF root pr f x (a / 2) (n / 2 + n % 2) used
def verZ (root leaf i n : Int) (pr : List D) : Bool := if i < 0 ∨ n ≤ i then false else verF root pr n.toNat leaf i.toNat n.toNat 0
def chTo (start : Int) (l : List D) : Nat → Int
  | 0 => start
  | i + 1 => joinZ (chTo start l i) (hashZ (elt l (i : Int)).l)
def chainZ (start : Int) (l : List D) : List D := mkL l.length fun i => .int (chTo start l (i + 1))

def con11 : Con := ⟨[lb], fun | [l] => ⟨True, [vU (hashZ l.l)]⟩ | _ => bad⟩
def con12 : Con := con11
def con13 : Con := ⟨[u64, u64], fun | [a, b] => ⟨True, [vU (joinZ a.i b.i)]⟩ | _ => bad⟩
def con14 : Con := con13
def con20 : Con := ⟨[lu, lu], fun | [a, b] => ⟨True, [vB (sameZ a.l b.l)]⟩ | _ => bad⟩
def con25 : Con := ⟨[li, li], fun | [a, b] => ⟨True, [vB (sameZ a.l b.l)]⟩ | _ => bad⟩
def con35 : Con := ⟨[lu], fun | [l] => ⟨l.l.length ≤ 1000000, [vSl u64 (upZ l.l)]⟩ | _ => bad⟩
def con32 : Con := con35
def con30 : Con := ⟨[lu], fun | [l] => ⟨l.l.length ≤ 1000000, [vSl lu (levs l.l)]⟩ | _ => bad⟩
def con18 : Con := ⟨[lu], fun | [l] => ⟨l.l.length ≤ 1000000, [vU (rootZ l.l)]⟩ | _ => bad⟩
def con19 : Con := con18
def con31 : Con := ⟨[i64, i64], fun
  | [i, n] => ⟨True, [vI (sibI i.i), vB (sibB i.i n.i)]⟩
  | _ => bad⟩
def con16 : Con := ⟨[lu, i64], fun | [l, i] => ⟨l.l.length ≤ 1000000, [vSl u64 (proofZ l.l i.i).l, vI (proofZ l.l i.i).e]⟩ | _ => bad⟩
def con17 : Con := con16
def con21 : Con := ⟨[u64, u64, i64, i64, lu], fun | [r, x, i, n, p] => ⟨True, [vB (verZ r.i x.i i.i n.i p.l)]⟩ | _ => bad⟩
def con22 : Con := con21
def con27 : Con := ⟨[u64, .slice lb], fun | [s, l] => ⟨l.l.length ≤ 1000000, [.fresh 23 u64 (chainZ s.i l.l)]⟩ | _ => bad⟩
def con28 : Con := con27

def tbH : Tab := fun f => match f with
  | 11 => some con11
  | 12 => some con12
  | _ => none
def tb13 := tbH
def tb14 := tbH
def tbJ : Tab := fun f => match f with
  | 11 => some con11
  | 12 => some con12
  | 13 => some con13
  | 14 => some con14
  | 31 => some con31
  | _ => none
def tb35 := tbJ
def tb32 := tbJ
def tb21 := tbJ
def tb22 := tbJ
def tb27 := tbJ
def tb28 := tbJ
def tbK : Tab := fun f => match f with
  | 32 => some con32
  | 35 => some con35
  | _ => none
def tb30 := tbK
def tb19 := tbK
def tb17 := tbK
def tbM : Tab := fun f => match f with
  | 30 => some con30
  | 31 => some con31
  | _ => none
def tb18 := tbM
def tb16 := tbM

def lp11 : Loops := fun r s => match r with
  | 3 => some ⟨[], Nat, fun i => i ≤ (slOf s 6).length, fun i => (slOf s 6).length - i, fun i => frame s [6, 7] [] [(3, sU (hashTo (slOf s 6) i)), (8, sI (i : Int))] []⟩
  | _ => none
def lp12 : Loops := fun r s => match r with
  | 3 => some ⟨[], Nat, fun i => i ≤ (slOf s 0).length, fun i => (slOf s 0).length - i, fun i => frame s [0] [] [(3, sU (hashTo (slOf s 0) i)), (4, sI (i : Int))] []⟩
  | _ => none
def lp13 : Loops := fun r s => match r with
  | 3 => some ⟨[(5, 7000, 5, u8)], Nat, fun i => i ≤ 2, fun i => 2 - i, fun i => frame s [11, 12] [88] [(5, sRow 7000), (13, sI (i : Int))] [(7000, .row 0 5 u8 (mkL (8 * i) (jf (intOf s 0) (intOf s 1))))]⟩
  | 6 => some ⟨[], Nat, fun k => k ≤ 8, fun k => 8 - k, fun k => frame s [7, 11, 12, 13] [88] [(5, sRow 7000), (17, sI (k : Int))] [(7000, .row 0 5 u8 (mkL (8 * (intOf s 13).toNat + k) (jf (ei (rowL s 88) 0) (ei (rowL s 88) 1))))]⟩
  | _ => none
def byK (k : Nat) : Int := 72057594037927936 / 256 ^ k
def lp29 : Loops := fun r s => match r with
  | 3 => some ⟨if isNil s 0 = true then [(0, 7100, 5, u8)] else [], Nat, fun k => k ≤ 8, fun k => 8 - k,
      fun k => frameU s [1] [1] [] [(0, sRow 7100), (5, sU (byK k)), (6, sI (k : Int))] [(7100, .row 0 5 u8 (xcat (rowL s 7100) (mkL k fun j => .int (byteOf (intOf s 1) j))))]⟩
  | _ => none
noncomputable def inl14 : InlT := fun f => match f with
  | 29 => some ⟨Try.f29, bodyOf Try.f29, lp29⟩
  | _ => none
def lp20 : Loops := fun r s => match r with
  | 4 => some ⟨[], Nat, fun i => i ≤ (slOf s 0).length ∧ sameTo (slOf s 0) (slOf s 1) i, fun i => (slOf s 0).length - i, fun i => frame s [0, 1] [] [(5, sI (i : Int))] []⟩
  | _ => none
def lp25 := lp20
def lp35 : Loops := fun r s => match r with
  | 3 => some ⟨[(3, 7000, 23, u64)], Nat, fun i => i ≤ ((slOf s 0).length + 1) / 2, fun i => ((slOf s 0).length + 1) / 2 - i,
      fun i => frame s [0, 8] [] [(3, sRow 7000), (9, sI (i : Int))] [(7000, .row 0 23 u64 (mkL i fun i => .int (upF (slOf s 0) i)))]⟩
  | _ => none
def lp32 : Loops := fun r s => match r with
  | 3 => some ⟨[(3, 7000, 23, u64)], Nat, fun i => i ≤ ((slOf s 0).length + 1) / 2, fun i => ((slOf s 0).length + 1) / 2 - i,
      fun i => frame s [0] [] [(3, sRow 7000), (4, sI (2 * (i : Int)))] [(7000, .row 0 23 u64 (mkL i fun i => .int (upF (slOf s 0) i)))]⟩
  | _ => none
def lp30 : Loops := fun r s => match r with
  | 2 => some ⟨[], Nat, fun k => k ≤ hgt (slOf s 0), fun k => hgt (slOf s 0) - k, fun k => frame s [] [] [(0, sSl u64 (levN (slOf s 0) k)), (3, sRow 40)] [(40, .row 0 28 lu (mkL (k + 1) fun k => .list (levN (slOf s 0) k)))]⟩
  | _ => none
def lp19 : Loops := fun r s => match r with
  | 4 => some ⟨[], Nat, fun k => k ≤ hgt (slOf s 3), fun k => hgt (slOf s 3) - k, fun k => frame s [] [] [(3, sSl u64 (levN (slOf s 3) k))] []⟩
  | _ => none
def lp16 : Loops := fun r s => match r with
  | 5 => some ⟨[(6, 7000, 23, u64)], Nat, fun k => k ≤ hgt (slOf s 0) + 1, fun k => hgt (slOf s 0) + 1 - k,
      fun k => frame s [20, 21] [] [(1, sI ((intOf s 1).toNat / 2 ^ k : Nat)), (6, sRow 7000), (22, sI (k : Int))] [(7000, .row 0 23 u64 (prfTo (slOf s 0) (intOf s 1).toNat k))]⟩
  | _ => none
def lp17 : Loops := fun r s => match r with
  | 5 => some ⟨[(6, 7000, 23, u64)], Nat, fun k => k ≤ hgt (slOf s 7), fun k => hgt (slOf s 7) - k,
      fun k => frame s [] [] [(6, sRow 7000), (7, sSl u64 (levN (slOf s 7) k)), (8, sI ((intOf s 8).toNat / 2 ^ k : Nat))] [(7000, .row 0 23 u64 (prfTo (slOf s 7) (intOf s 8).toNat k))]⟩
  | _ => none
structure VS where
  f : Nat
  x : Int
  a : Nat
  n : Nat
  u : Nat
def lp21 : Loops := fun r s => match r with
  | 4 => some ⟨[], VS, fun g => 1 ≤ g.n ∧ g.n ≤ g.f ∧ g.a < g.n ∧ (g.n : Int) ≤ 9223372036854775807 ∧ g.u ≤ (slOf s 4).length ∧ verF (intOf s 0) (slOf s 4) g.f g.x g.a g.n g.u = verF (intOf s 0) (slOf s 4) (intOf s 3).toNat (intOf s 11) (intOf s 2).toNat (intOf s 3).toNat 0,
      fun g => g.n, fun g => frame s [0, 4] [] [(2, sI (g.a : Int)), (3, sI (g.n : Int)), (11, sU g.x), (12, sI (g.u : Int))] []⟩
  | _ => none
def lp22 : Loops := fun r s => match r with
  | 4 => some ⟨[], VS, fun g => 1 ≤ g.n ∧ g.n ≤ g.f ∧ g.a < g.n ∧ (g.n : Int) ≤ 9223372036854775807 ∧ g.u ≤ (slOf s 4).length ∧ verF (intOf s 0) (slOf s 4) g.f g.x g.a g.n g.u = verF (intOf s 0) (slOf s 4) (intOf s 13).toNat (intOf s 11) (intOf s 12).toNat (intOf s 13).toNat 0,
      fun g => g.n, fun g => frame s [0, 4] [] [(11, sU g.x), (12, sI (g.a : Int)), (13, sI (g.n : Int)), (14, sI (g.u : Int))] []⟩
  | _ => none
def lp27 : Loops := fun r s => match r with
  | 4 => some ⟨[(5, 7000, 23, u64)], Nat, fun i => i ≤ (slOf s 10).length, fun i => (slOf s 10).length - i,
      fun i => frame s [10, 11] [] [(5, sRow 7000), (6, sU (chTo (intOf s 6) (slOf s 10) i)), (12, sI (i : Int))] [(7000, .row 0 23 u64 (mkL i fun i => .int (chTo (intOf s 6) (slOf s 10) (i + 1))))]⟩
  | _ => none
def lp28 : Loops := fun r s => match r with
  | 4 => some ⟨[(5, 7000, 23, u64)], Nat, fun i => i ≤ (slOf s 1).length, fun i => (slOf s 1).length - i,
      fun i => frame s [1] [] [(5, sRow 7000), (6, sU (chTo (intOf s 6) (slOf s 1) i)), (7, sI (i : Int))] [(7000, .row 0 23 u64 (mkL i fun i => .int (chTo (intOf s 6) (slOf s 1) (i + 1))))]⟩
  | _ => none
end Go.Proofs.Ytjncolngfeglkaa
