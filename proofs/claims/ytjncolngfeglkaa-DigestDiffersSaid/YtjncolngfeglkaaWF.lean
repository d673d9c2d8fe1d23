/- Part of the proof of the laws of this seat: contracts of its functions, for every input. -/
import Derived.Test.YtjncolngfeglkaaWE
set_option linter.all false
namespace Go.Proofs.Ytjncolngfeglkaa
open Go Go.RX Go.Proofs
set_option maxRecDepth 100000
set_option linter.all false
def mapI (q : List Nat) : List D := q.map fun (n : Nat) => .int (n : Int)
def takeN (j : Nat) (q : List Nat) : List Nat := q.take j
def natL (l : List D) : List Nat := l.map fun d => d.i.toNat
/-- What of node i's children differs, up to e of them. -/
def kidE (xa ya : List D) (i : Nat) : Nat → List Nat
  | 0 => []
  | e + 1 => kidE xa ya i e ++ (if ei xa (2 * i + e) ≠ ei ya (2 * i + e) then [2 * i + e] else [])
def kidsN (xa ya : List D) (i : Nat) : List Nat := if 2 * i + 1 = xa.length then [2 * i] else kidE xa ya i 2
def kcnt (xa : List D) (i : Nat) : Nat := if 2 * i + 1 = xa.length then 0 else 2
def lvN (xa ya : List D) (q : List Nat) : List Nat := q.flatMap (kidsN xa ya)
def lvC (xa : List D) (q : List Nat) : Nat := (q.map (kcnt xa)).sum
def levT (X : List D) (h : Nat) : List D := (elt X (h : Int)).l
def bfsN (X Y : List D) (T : Nat) : Nat → List Nat
  | 0 => [0]
  | t + 1 => lvN (levT X (T - 1 - t)) (levT Y (T - 1 - t)) (bfsN X Y T t)
def bfsC (X Y : List D) (T : Nat) : Nat → Nat
  | 0 => 1
  | t + 1 => bfsC X Y T t + lvC (levT X (T - 1 - t)) (bfsN X Y T t)
structure DR where
  l : List D
  c : Int
def difZ (a b : List D) : DR :=
  if a.length ≠ b.length then ⟨mkL (max a.length b.length) fun i => .int (i : Int), 0⟩
  else if a.length = 0 then ⟨[], 0⟩
  else if ei (levN a (hgt a)) 0 = ei (levN b (hgt b)) 0 then ⟨[], 1⟩
  else ⟨mapI (bfsN (levs a) (levs b) (hgt a) (hgt a)), bfsC (levs a) (levs b) (hgt a) (hgt a)⟩
def con23 : Con := ⟨[lu, lu], fun | [a, b] => ⟨a.l.length ≤ 100000 ∧ b.l.length ≤ 100000, [vSl i64 (difZ a.l b.l).l, vI (difZ a.l b.l).c]⟩ | _ => bad⟩
def tb23 := tbM
def lp23 : Loops := fun r s => match r with
  | 4 => some ⟨[(6, 7000, 3, i64)], Nat, fun i => (i : Int) ≤ intOf s 27, fun i => (intOf s 27).toNat - i, fun i => frame s [27] [] [(6, sRow 7000), (28, sI (i : Int))] [(7000, .row 0 3 i64 (mkL i fun j => .int (j : Int)))]⟩
  | 17 => some ⟨[(11, 0, 0, .unit)], Nat, fun t => (t : Int) ≤ intOf s 10, fun t => (intOf s 10).toNat - t,
      fun t => frame s [8, 9] [] [(11, sSl i64 (mapI (bfsN (slOf s 8) (slOf s 9) (intOf s 10).toNat t))), (12, sI (bfsC (slOf s 8) (slOf s 9) (intOf s 10).toNat t : Nat)), (13, sI (intOf s 10 - 1 - (t : Int)))] []⟩
  | 21 => some ⟨[(14, 7100, 3, i64)], Nat, fun j => j ≤ (slOf s 67).length, fun j => (slOf s 67).length - j,
      fun j => frame s [8, 9, 13, 67, 68] [] [(12, sI (intOf s 12 + (lvC (levT (slOf s 8) (intOf s 13).toNat) (takeN j (natL (slOf s 67))) : Nat))), (14, sRow 7100), (69, sI (j : Int))]
        [(7100, .row 0 3 i64 (mapI (lvN (levT (slOf s 8) (intOf s 13).toNat) (levT (slOf s 9) (intOf s 13).toNat) (takeN j (natL (slOf s 67))))))]⟩
  | 26 => some ⟨[], Nat, fun e => e ≤ 2, fun e => 2 - e,
      fun e => frame s [8, 9, 13, 16, 67, 68, 69] [] [(12, sI (intOf s 12 + (e : Int))), (14, sRow 7100), (17, sI (2 * intOf s 16 + (e : Int)))]
        [(7100, .row 0 3 i64 (xcat (rowL s 7100) (mapI (kidE (levT (slOf s 8) (intOf s 13).toNat) (levT (slOf s 9) (intOf s 13).toNat) (intOf s 16).toNat e))))]⟩
  | _ => none
end Go.Proofs.Ytjncolngfeglkaa
