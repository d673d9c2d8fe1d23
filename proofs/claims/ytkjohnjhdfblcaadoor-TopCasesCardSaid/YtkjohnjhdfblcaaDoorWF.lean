/- Part of the proof of the laws of this seat: contracts of its functions, for every input. -/
import Derived.Test.YtkjohnjhdfblcaaDoorWE
set_option linter.all false
namespace Go.RX
open Go.Proofs.YtkjohnjhdfblcaaDoor (Cs Lw)
def bOf (s : St) (t : Nat) : Bool := match s.slots[t]? with
  | some (.v (.one (.bool b))) => b
  | some (.v (.one .tt)) => true
  | _ => false
def boxCs (s : St) (h : Nat) : Cs := ⟨boxS s h 0, boxS s h 1, boxS s h 2, boxI s h 3, boxI s h 4, boxI s h 5, boxI s h 6, boxI s h 7, boxI s h 8, boxI s h 9, boxI s h 10, boxI s h 11⟩
def boxLw (s : St) (h : Nat) : Lw := ⟨boxL s h 0, boxL s h 1, boxI s h 2⟩
def csC (c : Cs) : List S1 := [.str c.id, .str c.pl, .str c.key, .int .i64 c.bg, .int .i64 c.si, .int .i64 c.st, .int .i64 c.ow, .int .i64 c.pa, .int .i64 c.ps, .int .i64 c.a0, .int .i64 c.a1, .int .i64 c.a2]
end Go.RX
namespace Go.Proofs.YtkjohnjhdfblcaaDoor
open Go Go.RX Go.Proofs
set_option maxRecDepth 100000
set_option linter.all false
structure CB where
  c : Cs
  ok : Bool
def busZ (cal : List D) (d : Int) : Bool := dayOk d && (decide (d % 7 < 5) && !inCal cal cal.length d)
def stepR (cal : List D) (d m : Int) : LR := if dayOk d = false then ⟨0, 12⟩ else ltF cal (795365 - d).toNat d (if d % 7 < 5 ∧ inCal cal cal.length d = false then m - 1 else m)
def dueZ (w : Lw) (cal : List D) (c : Cs) : DO :=
  if lawZ w ≠ 0 ∨ c.st < 1 ∨ 4 < c.st ∨ c.a0 = 1 then ⟨0, false⟩
  else ⟨(laterZ cal c.si (ei w.ds (c.st - 1).toNat)).d, decide ((laterZ cal c.si (ei w.ds (c.st - 1).toNat)).e = 0)⟩
def limZ (w : Lw) (c : Cs) : Int := c.bg + w.lim + c.ps
def barC (w : Lw) (c : Cs) : Cs := ⟨c.id, c.pl, c.key, c.bg, max (limZ w c) c.si, 8, c.ow, c.pa, c.ps, c.a0, c.a1, c.a2⟩
def nxtC (w : Lw) (c : Cs) (due : Int) : Cs := ⟨c.id, c.pl, c.key, c.bg, due, c.st + 1, min (c.ow + ei w.fs (c.st - 1).toNat) 1125899906842624, c.pa, c.ps, c.a0, c.a1, c.a2⟩
def barP (lim day due : Int) (ok : Bool) : Prop := lim ≤ day ∧ (ok = false ∨ lim ≤ due)
instance (lim day due : Int) (ok : Bool) : Decidable (barP lim day due ok) := by unfold barP; exact inferInstance
def passZ (w : Lw) (cal : List D) (c : Cs) (day : Int) : CB :=
  if barP (limZ w c) day (dueZ w cal c).d (dueZ w cal c).ok then ⟨barC w c, false⟩
  else if (dueZ w cal c).ok = false ∨ day < (dueZ w cal c).d then ⟨c, false⟩
  else ⟨nxtC w c (dueZ w cal c).d, true⟩
def stepZ (w : Lw) (cal : List D) (c : Cs) (day : Int) : CB :=
  if (1 ≤ c.st ∧ c.st ≤ 4) ∧ barP (limZ w c) day (dueZ w cal c).d (dueZ w cal c).ok then ⟨barC w c, true⟩
  else if (dueZ w cal c).ok = false ∨ day < (dueZ w cal c).d then ⟨c, false⟩
  else ⟨nxtC w c (dueZ w cal c).d, true⟩
def runF (w : Lw) (cal : List D) (day : Int) : Nat → Cs → Cs
  | 0, c => c
  | f + 1, c => if (passZ w cal c day).ok = true then runF w cal day f (passZ w cal c day).c else (passZ w cal c day).c
def finR (w : Lw) (cal : List D) (day : Int) (c : Cs) : Cs := if 1 ≤ c.st ∧ c.st ≤ 4 then runF w cal day (5 - c.st).toNat c else c
def advE (w : Lw) (c : Cs) (day : Int) : Int :=
  if lawZ w ≠ 0 then lawZ w
  else if dayOk day = false ∨ dayOk c.bg = false ∨ dayOk c.si = false ∨ c.ps < 0 ∨ 795364 < c.ps then 12
  else if amtOk c.ow = false then 13
  else if day < c.si then 15 else 0
def advZ (w : Lw) (cal : List D) (c : Cs) (day : Int) : CE :=
  if advE w c day ≠ 0 then ⟨cs0, advE w c day⟩
  else if openZ c = false ∨ c.a0 = 1 then ⟨c, 0⟩
  else ⟨finR w cal day c, 0⟩
/-- The case on its way: at stage k, with the same end. -/
def advOK (w : Lw) (cal : List D) (day : Int) (c0 : Cs) (k : Int) (c : Cs) : Prop :=
  c.st = k ∧ finR w cal day c = finR w cal day c0 ∧ c.bg = c0.bg ∧ c.ps = c0.ps ∧ 0 ≤ c.ow ∧ c.ow ≤ 1125899906842624
def stpOK (w : Lw) (cal : List D) (day : Int) (c0 : Cs) (k : Nat) (c : Cs) : Prop :=
  k ≤ 5 ∧ finR w cal day c = finR w cal day c0 ∧ c.bg = c0.bg ∧ c.ps = c0.ps ∧ 0 ≤ c.ow ∧ c.ow ≤ 1125899906842624 ∧ (1 ≤ c.st → c.st ≤ 4 → (k : Int) + 1 ≤ c.st)
def payZ (c : Cs) (n : Int) : CLE :=
  if openZ c = false then ⟨c, 0, 28⟩
  else if n < 1 ∨ 1125899906842624 < n ∨ amtOk c.ow = false ∨ amtOk c.pa = false then ⟨c, 0, 13⟩
  else if n < c.ow - c.pa then ⟨⟨c.id, c.pl, c.key, c.bg, c.si, c.st, c.ow, c.pa + n, c.ps, c.a0, c.a1, c.a2⟩, 0, 0⟩
  else ⟨⟨c.id, c.pl, c.key, c.bg, c.si, 6, c.ow, c.pa + max (c.ow - c.pa) 0, c.ps, c.a0, c.a1, c.a2⟩, n - max (c.ow - c.pa) 0, 0⟩
def waiZ (c : Cs) : CE := if openZ c = false then ⟨c, 28⟩ else ⟨⟨c.id, c.pl, c.key, c.bg, c.si, 7, c.ow, c.pa, c.ps, c.a0, c.a1, c.a2⟩, 0⟩
def fewZ (w : Lw) (cal : List D) (c : Cs) : Bool := decide (w.ds.length ≤ 8) && (decide (w.fs.length ≤ 8) && (decide (cal.length ≤ 20) && (decide (c.id.length ≤ 80) && (decide (c.pl.length ≤ 40) && decide (c.key.length ≤ 80)))))
def smallZ (w : Lw) (cal : List D) : Bool := decide (w.ds.length ≤ 10) && (decide (w.fs.length ≤ 10) && decide (cal.length ≤ 60))
def con26 : Con := ⟨[lawT, li, caseT], fun | [w, l, c] => ⟨l.l.length ≤ 1000000, [vI (dueZ (lwOf w) l.l (csOf c)).d, vB (dueZ (lwOf w) l.l (csOf c)).ok]⟩ | _ => bad⟩
def con27 : Con := con26
def con68 : Con := ⟨[li, i64], fun | [l, d] => ⟨True, [vB (busZ l.l d.i)]⟩ | _ => bad⟩
def con59 : Con := con58
def con57 : Con := ⟨[lawT, li, caseT, i64], fun | [w, l, c, d] => ⟨l.l.length ≤ 1000000 ∧ lawZ (lwOf w) = 0 ∧ dayOk (csOf c).bg = true ∧ 0 ≤ (csOf c).ps ∧ (csOf c).ps ≤ 795364 ∧ 0 ≤ (csOf c).ow ∧ (csOf c).ow ≤ 1125899906842624, [vCs (stepZ (lwOf w) l.l (csOf c) d.i).c, vB (stepZ (lwOf w) l.l (csOf c) d.i).ok]⟩ | _ => bad⟩
def con24 : Con := ⟨[lawT, li, caseT, i64], fun | [w, l, c, d] => ⟨l.l.length ≤ 1000000, [vCs (advZ (lwOf w) l.l (csOf c) d.i).c, vI (advZ (lwOf w) l.l (csOf c) d.i).e]⟩ | _ => bad⟩
def con25 : Con := con24
def con30 : Con := ⟨[caseT, i64], fun | [c, n] => ⟨True, [vCs (payZ (csOf c) n.i).c, vI (payZ (csOf c) n.i).l, vI (payZ (csOf c) n.i).e]⟩ | _ => bad⟩
def con31 : Con := con30
def con32 : Con := ⟨[caseT], fun | [c] => ⟨True, [vCs (waiZ (csOf c)).c, vI (waiZ (csOf c)).e]⟩ | _ => bad⟩
def con33 : Con := con32
def con17 : Con := ⟨[lawT, li, caseT], fun | [w, l, c] => ⟨True, [vB (fewZ (lwOf w) l.l (csOf c))]⟩ | _ => bad⟩
def con34 : Con := ⟨[lawT, li], fun | [w, l] => ⟨True, [vB (smallZ (lwOf w) l.l)]⟩ | _ => bad⟩
def tb26 : Tab := fun f => match f with
  | 19 => some con19
  | 28 => some con28
  | 58 => some con58
  | _ => none
def tb27 : Tab := fun f => match f with
  | 20 => some con20
  | 59 => some con59
  | _ => none
def tb68 : Tab := fun f => match f with
  | 54 => some con54
  | _ => none
def tb59 : Tab := fun f => match f with
  | 54 => some con54
  | 68 => some con68
  | _ => none
def tb57 : Tab := fun f => match f with
  | 27 => some con27
  | _ => none
def tb24 : Tab := fun f => match f with
  | 19 => some con19
  | 26 => some con26
  | 28 => some con28
  | 50 => some con50
  | 55 => some con55
  | _ => none
def tb25 : Tab := fun f => match f with
  | 20 => some con20
  | 54 => some con54
  | 57 => some con57
  | _ => none
def tb30 : Tab := fun f => match f with
  | 28 => some con28
  | 55 => some con55
  | _ => none
def tb31 : Tab := fun f => match f with
  | 29 => some con29
  | _ => none
def tb32 := tb30
def tb33 := tb31
def lp68 : Loops := fun r s => match r with
  | 4 => some ⟨[], Nat, fun i => i ≤ (slOf s 0).length ∧ inCal (slOf s 0) i (intOf s 1) = false, fun i => (slOf s 0).length - i, fun i => frame s [0, 1] [] [(5, sI (i : Int))] []⟩
  | _ => none
def lp59 : Loops := fun r s => match r with
  | 7 => some ⟨[], Nat × Int, fun g => (g.1 : Int) ≤ intOf s 2 ∧ dayOk g.2 = true ∧ ltF (slOf s 0) (795365 - g.2).toNat g.2 (intOf s 2 - g.1) = ltF (slOf s 0) (795365 - intOf s 8).toNat (intOf s 8) (intOf s 2), fun g => (intOf s 2).toNat - g.1, fun g => frame s [0, 2] [] [(8, sI g.2), (9, sI (g.1 : Int))] []⟩
  | 10 => some ⟨[], Int, fun d => intOf s 8 ≤ d ∧ d ≤ 795364 ∧ stepR (slOf s 0) d (intOf s 2 - intOf s 9) = stepR (slOf s 0) (intOf s 8) (intOf s 2 - intOf s 9), fun d => (795364 - d).toNat, fun d => frame s [0, 2, 9] [] [(8, sI d)] []⟩
  | _ => none
def lp57 : Loops := fun r s => match r with
  | 1000008 => some ⟨[], Unit, fun _ => ¬ ((1 ≤ boxI s 48 5 ∧ boxI s 48 5 ≤ 4) ∧ barP (intOf s 12) (intOf s 3) (intOf s 10) (bOf s 11)), fun _ => 0, fun _ => frame s [3, 4, 6, 8, 10, 11] [32, 48, 64] [] []⟩
  | _ => none
def lp56 : Loops := fun r s => match r with
  | 1000006 => some ⟨[], Unit, fun _ => ¬ barP (intOf s 11) (intOf s 3) (intOf s 9) (bOf s 10), fun _ => 0, fun _ => frameU s [2, 3, 4, 9, 10] (allU s) (allH s) [] []⟩
  | _ => none
def lp24 : Loops := fun r s => match r with
  | 1000017 => some ⟨[], Cs, fun c => advOK (boxLw s 32) (slOf s 1) (intOf s 3) (boxCs s 48) 1 c, fun _ => 0, fun c => frame s [1, 3, 4, 6, 8] [32, 64] [] [(48, .box (csC c))]⟩
  | 1000018 => some ⟨[], Cs, fun c => advOK (boxLw s 32) (slOf s 1) (intOf s 3) (boxCs s 48) 2 c, fun _ => 0, fun c => frame s [1, 3, 4, 6, 8] [32, 64] [] [(48, .box (csC c))]⟩
  | 1000019 => some ⟨[], Cs, fun c => advOK (boxLw s 32) (slOf s 1) (intOf s 3) (boxCs s 48) 3 c, fun _ => 0, fun c => frame s [1, 3, 4, 6, 8] [32, 64] [] [(48, .box (csC c))]⟩
  | 1000020 => some ⟨[], Cs, fun c => advOK (boxLw s 32) (slOf s 1) (intOf s 3) (boxCs s 48) 4 c, fun _ => 0, fun c => frame s [1, 3, 4, 6, 8] [32, 64] [] [(48, .box (csC c))]⟩
  | 1000021 => some ⟨[], Cs, fun c => c = finR (boxLw s 32) (slOf s 1) (intOf s 3) (boxCs s 48), fun _ => 0, fun c => frame s [6, 8] [64] [] [(48, .box (csC c))]⟩
  | _ => none
def lp25 : Loops := fun r s => match r with
  | 13 => some ⟨[], Nat × Cs, fun g => stpOK (boxLw s 32) (slOf s 1) (intOf s 3) (boxCs s 48) g.1 g.2, fun g => 5 - g.1, fun g => frame s [1, 3, 4, 6, 8] [32, 64] [(11, sI (g.1 : Int))] [(48, .box (csC g.2))]⟩
  | _ => none
noncomputable def inl24 : InlT := fun f => match f with
  | 56 => some ⟨Tryd.f56, bodyOf Tryd.f56, lp56⟩
  | _ => none
end Go.Proofs.YtkjohnjhdfblcaaDoor
