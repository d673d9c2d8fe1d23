/- Part of the proof of the laws of this seat: contracts of its functions, for every input. -/
import Derived.Test.YtgbhkndbfigieaaWD
set_option linter.all false
namespace Go.Proofs.Ytgbhkndbfigieaa
open Go Go.RX Go.Proofs

def sumTo (xs : List D) : Nat → Int
  | 0 => 0
  | n + 1 => iadd .i64 (sumTo xs n) (elt xs (n : Int)).i

def con29 : Con := ⟨[.slice i64], fun | [l] => ⟨True, [vI (sumTo l.l l.l.length)]⟩ | _ => bad⟩
def tb29 := tbN
def lp29 : Loops := fun r s => match r with
  | 3 => some ⟨[], Nat, fun i => i ≤ (slOf s 6).length, fun i => (slOf s 6).length - i, fun i => over s ([(3, sI (sumTo (slOf s 6) i)), (8, sI (i : Int))] ++ junks [5, 9, 10, 11, 12, 13, 14, 15])⟩
  | _ => none

def sameTo (xs ys : List D) (n : Nat) : Prop := ∀ i, i < n → (elt xs (i : Int)).i = (elt ys (i : Int)).i
def sameZ (xs ys : List D) : Bool := decide (xs.length = ys.length) && (List.range xs.length).all fun i => (elt xs (i : Int)).i == (elt ys (i : Int)).i
def con18 : Con := ⟨[.slice i64, .slice i64], fun | [a, b] => ⟨True, [vB (sameZ a.l b.l)]⟩ | _ => bad⟩
def tb18 := tbN
def lp18 : Loops := fun r s => match r with
  | 4 => some ⟨[], Nat, fun i => i ≤ (slOf s 0).length ∧ sameTo (slOf s 0) (slOf s 1) i, fun i => (slOf s 0).length - i, fun i => over s ([(5, sI (i : Int))] ++ junks [11, 12, 13, 14, 15, 16, 17, 18, 19, 20, 21, 22, 23, 24, 25])⟩
  | _ => none
end Go.Proofs.Ytgbhkndbfigieaa
