/- Part of the proof of the laws of this seat: contracts of its functions, for every input. -/
import Derived.Test.YtkjohnjhdfblcaaDoorWO
import Derived.Test.YtkjohnjhdfblcaaDoorWP
set_option linter.all false
namespace Go.Proofs.YtkjohnjhdfblcaaDoor
open Go Go.RX Go.Proofs Go.RowKit
set_option maxRecDepth 100000
set_option linter.all false
def groundZ (g : Int) : List UInt8 :=
  if g = 1 then [100, 114, 105, 118, 101, 114]
  else if g = 2 then [115, 111, 108, 100]
  else if g = 3 then [115, 116, 111, 108, 101, 110]
  else if g = 4 then [112, 97, 105, 100]
  else if g = 5 then [109, 105, 115, 114, 101, 97, 100]
  else []
def con44 : Con := ⟨[i64], fun | [n] => ⟨True, [.sv (.one (.str (groundZ n.i)))]⟩ | _ => bad⟩
def con45 : Con := con44
set_option maxRecDepth 1000000 in
theorem walk44 (g : Int) (w : World) (hg : -9223372036854775808 ≤ g ∧ g ≤ 9223372036854775807) :
    Calls Tryd.prog 44 #[.int .i64 g] w fun e w' => e = .returned (.string ⟨⟨groundZ g⟩⟩) ∧ Below w.heap.size w w' := by
  by_cases h0 : g < 0
  · have e : groundZ g = [] := by unfold groundZ; rw [if_neg (by omega), if_neg (by omega), if_neg (by omega), if_neg (by omega), if_neg (by omega)]
    rw [e]
    go_enter Tryd.func44, Tryd.ntmps44
    go_wp2
    all_goals first
      | (exfalso; omega)
      | (go_ret; exact ⟨rfl, (Below.refl _ _).alloc (Nat.le_refl _) _⟩)
  by_cases h6 : 6 ≤ g
  · have e : groundZ g = [] := by unfold groundZ; rw [if_neg (by omega), if_neg (by omega), if_neg (by omega), if_neg (by omega), if_neg (by omega)]
    rw [e]
    go_enter Tryd.func44, Tryd.ntmps44
    go_wp2
    all_goals first
      | (exfalso; omega)
      | (go_ret; exact ⟨rfl, (Below.refl _ _).alloc (Nat.le_refl _) _⟩)
  obtain rfl | rfl | rfl | rfl | rfl | rfl : g = 0 ∨ g = 1 ∨ g = 2 ∨ g = 3 ∨ g = 4 ∨ g = 5 := by omega
  all_goals
    go_enter Tryd.func44, Tryd.ntmps44
    go_wp2
    go_ret
    exact ⟨rfl, (Below.refl _ _).alloc (Nat.le_refl _) _⟩
theorem groundZ_len (g : Int) : (groundZ g).length ≤ maxLen := by
  by_cases h : 1 ≤ g ∧ g ≤ 5
  · obtain rfl | rfl | rfl | rfl | rfl : g = 1 ∨ g = 2 ∨ g = 3 ∨ g = 4 ∨ g = 5 := by omega
    all_goals exact of_decide_eq_true (by kernel_rfl)
  · have e : groundZ g = [] := by unfold groundZ; rw [if_neg (by omega), if_neg (by omega), if_neg (by omega), if_neg (by omega), if_neg (by omega)]
    rw [e]; exact Nat.zero_le _
theorem argsR1 {G : Addr → Prop} {w : World} {t1 : Ty} : ∀ {ds : List D} {args : List Value}, ArgsR G w [t1] ds args → ∃ d1 v1, ds = [d1] ∧ args = [v1] ∧ (∃ cs, v1 = t1.val cs ∧ Rd G w t1 cs d1)
  | [d1], [v1], h => ⟨d1, v1, rfl, rfl, h.1⟩
  | [], _, h => by cases ‹List Value› <;> exact h.elim
  | [_], [], h => h.elim
  | [_], _ :: _ :: _, h => h.2.elim
  | _ :: _ :: _, [], h => h.elim
  | _ :: _ :: _, [_], h => h.2.elim
  | _ :: _ :: _, _ :: _ :: _, h => h.2.elim
theorem c44 : ConOK Tryd.prog 44 con44 := by
  refine ⟨⟨Tryd.f44, bodyOf Tryd.f44, Tryd.func44, by kernel_rfl, by kernel_rfl⟩, fun G w ds args hG hz ha hpre => ?_⟩
  obtain ⟨n, v1, rfl, rfl, h1⟩ := argsR1 ha
  obtain ⟨rfl, hn⟩ := args_i64 h1
  refine (walk44 n.i w hn).mono fun e w' he => ?_
  obtain ⟨rfl, hb⟩ := he
  have hr : RVR G w w' (RV.sv (.one (.str (groundZ n.i)))) (Value.string ⟨⟨groundZ n.i⟩⟩) := ⟨rfl, groundZ_len _⟩
  exact ⟨_, rfl, ret_plain (rets := [_]) (vs := [_]) hb ⟨hr, trivial⟩⟩
/-! The specifications of the appeal. -/
def lastZ (w : Lw) (cal : List D) (c : Cs) : DO :=
  if openZ c = false ∨ c.st < 2 ∨ 4 < c.st ∨ c.a0 ≠ 0 ∨ (dueZ w cal c).ok = false then ⟨0, false⟩
  else if (laterZ cal c.si 10).e = 0 then ⟨min ((dueZ w cal c).d - 1) (laterZ cal c.si 10).d, true⟩ else ⟨(dueZ w cal c).d - 1, true⟩
def putA (c : Cs) (a b d : Int) : Cs := ⟨c.id, c.pl, c.key, c.bg, c.si, c.st, c.ow, c.pa, c.ps, a, b, d⟩
def filE (w : Lw) (cal : List D) (c : Cs) (g day : Int) : Int :=
  if (advZ w cal c day).e ≠ 0 then (advZ w cal c day).e
  else if groundZ g = [] then 1
  else if openZ (advZ w cal c day).c = false then 28
  else if (advZ w cal c day).c.a0 ≠ 0 ∨ (advZ w cal c day).c.st = 1 then 11
  else if (lastZ w cal (advZ w cal c day).c).ok = false ∨ (lastZ w cal (advZ w cal c day).c).d < day then 29 else 0
def filZ (w : Lw) (cal : List D) (c : Cs) (g day : Int) : CE :=
  if filE w cal c g day ≠ 0 then ⟨cs0, filE w cal c g day⟩ else ⟨putA (advZ w cal c day).c 1 g day, 0⟩
def decE (w : Lw) (c : Cs) (day : Int) : Int :=
  if lawZ w ≠ 0 then lawZ w
  else if openZ c = false then 28
  else if pendZ c = false then 11
  else if dayOk day = false ∨ dayOk c.a2 = false ∨ dayOk c.bg = false ∨ dayOk c.si = false ∨ c.ps < 0 ∨ 795364 < c.ps then 12
  else if c.a2 < c.si ∨ day < c.a2 then 15 else 0
def upA (c : Cs) (day : Int) : Cs := ⟨c.id, c.pl, c.key, c.bg, c.si, 7, c.ow, c.pa, c.ps, 2, c.a1, day⟩
def dnA (c : Cs) (day : Int) : Cs := ⟨c.id, c.pl, c.key, c.bg, c.si + (day - c.a2), c.st, c.ow, c.pa, min (c.ps + (day - c.a2)) 795364, 3, c.a1, day⟩
def decZ (w : Lw) (cal : List D) (c : Cs) (up : Bool) (day : Int) : CE :=
  if decE w c day ≠ 0 then ⟨cs0, decE w c day⟩
  else if up = true then ⟨upA c day, 0⟩
  else advZ w cal (dnA c day) day
def con40 : Con := ⟨[lawT, li, caseT], fun | [w, l, c] => ⟨l.l.length ≤ 1000000, [vI (lastZ (lwOf w) l.l (csOf c)).d, vB (lastZ (lwOf w) l.l (csOf c)).ok]⟩ | _ => bad⟩
def con41 : Con := con40
def con35 : Con := ⟨[lawT, li, caseT, i64, i64], fun | [w, l, c, g, d] => ⟨l.l.length ≤ 1000000, [vCs (filZ (lwOf w) l.l (csOf c) g.i d.i).c, vI (filZ (lwOf w) l.l (csOf c) g.i d.i).e]⟩ | _ => bad⟩
def con36 : Con := ⟨[lawT, li, caseT, i64, i64], fun | [w, l, c, g, d] => ⟨l.l.length ≤ 1000000, [vCs (filZ (lwOf w) l.l (csOf c) g.i d.i).c, vI (filZ (lwOf w) l.l (csOf c) g.i d.i).e]⟩ | _ => bad⟩
def con61 : Con := ⟨[lawT, caseT, i64], fun | [w, c, d] => ⟨True, [vI (decE (lwOf w) (csOf c) d.i)]⟩ | _ => bad⟩
def con38 : Con := ⟨[lawT, li, caseT, .bool, i64], fun | [w, l, c, u, d] => ⟨l.l.length ≤ 1000000, [vCs (decZ (lwOf w) l.l (csOf c) u.b d.i).c, vI (decZ (lwOf w) l.l (csOf c) u.b d.i).e]⟩ | _ => bad⟩
def con39 : Con := ⟨[lawT, li, caseT, .bool, i64], fun | [w, l, c, u, d] => ⟨l.l.length ≤ 1000000, [vCs (decZ (lwOf w) l.l (csOf c) u.b d.i).c, vI (decZ (lwOf w) l.l (csOf c) u.b d.i).e]⟩ | _ => bad⟩
def con60 : Con := ⟨[], fun | [] => ⟨True, [.sv (.agg [.sl i64 [.int 5, .int 10, .int 10, .int 20], .sl i64 [.int 100, .int 200, .int 300, .int 1000], .int .i64 1000])]⟩ | _ => bad⟩
def tb40 : Tab := fun f => match f with
  | 26 => some con26
  | 28 => some con28
  | 58 => some con58
  | _ => none
def tb41 : Tab := fun f => match f with
  | 27 => some con27
  | 29 => some con29
  | 59 => some con59
  | _ => none
def tb35 : Tab := fun f => match f with
  | 24 => some con24
  | 28 => some con28
  | 40 => some con40
  | 44 => some con44
  | _ => none
def tb36 : Tab := fun f => match f with
  | 25 => some con25
  | 29 => some con29
  | 41 => some con41
  | 45 => some con45
  | _ => none
def tb61 : Tab := fun f => match f with
  | 19 => some con19
  | 28 => some con28
  | 42 => some con42
  | 69 => some con69
  | _ => none
def tb38 : Tab := fun f => match f with
  | 24 => some con24
  | 61 => some con61
  | _ => none
def tb39 : Tab := fun f => match f with
  | 20 => some con20
  | 25 => some con25
  | 29 => some con29
  | 43 => some con43
  | 54 => some con54
  | _ => none
end Go.Proofs.YtkjohnjhdfblcaaDoor
