/- Part P: code, loops, calls that are walked into. -/
import Derived.Test.YtafpahkcjdfpiaaDoorRxOr
import Derived.Deep.LoopGhost
set_option linter.all false
namespace Go.RX
open Go Go.RowKit

/-- A loop: the states at its head, one for each g; a nil slice in a slot may become an empty row first (d: its name), or a row in a slot data (d = 0). -/
structure LoopSpec where
  ghost : List (Nat × Nat × Nat × Ty)
  γ : Type
  ok : γ → Prop
  μ : γ → Nat
  st : γ → St

/-- A version that no reference to a name has. -/
def verUp : Option SB → Option Nat
  | none => some 0
  | some (.row v _ _ _) => some (v + 1)
  | some (.frozen v _ _) => some (v + 1)
  | some (.box _) => none

def ghosts : List (Nat × Nat × Nat × Ty) → St → Option St
  | [], s => some s
  | (t, d, et, e) :: r, s =>
    if d = 0 then
      match s.slots[t]? with
      | some (.v (.one x)) => (match pers1 s.look1 x with
        | some (x', fz) => ghosts r ⟨s.slots.set t (.v (.one x')), s.susp, putAll s.heap fz⟩
        | none => none)
      | _ => none
    else
      match s.slots[t]?, s.heap.get d with
      | some (.v (.one .nilsl)), none => ghosts r ⟨s.slots.set t (.v (.one (.row d 0))), s.susp, s.heap.put d (.row 0 et e [])⟩
      | some (.v (.one (.row h k))), x =>
        if h = d then ghosts r s else
        match s.heap.get h, verUp x with
        | some (.row ver et0 e0 xs), some v' => if k = ver then ghosts r ⟨s.slots.set t (.v (.one (.row d v'))), s.susp, (s.heap.put d (.row v' et0 e0 xs)).put h (.row (ver + 1) et0 e0 [])⟩ else none
        | _, _ => none
      | _, _ => none

def firstReg : Code → Nat
  | .region id _ _ => id
  | .seq a _ => firstReg a
  | .block _ b => firstReg b
  | .loop b => firstReg b
  | _ => 0

abbrev Loops := Nat → St → Option LoopSpec

/-- Where ways meet: the key of a specification of the states ahead of the code that begins with region r. -/
def joinKey (r : Nat) : Nat := 1000000 + r
def joinAt (gs : List (Nat × Nat × Nat × Ty)) (s : St) (K : St → Prop) : Prop :=
  match ghosts gs s with
  | some s1 => K s1
  | none => False

/-- A function that is walked into where it is called. -/
structure Inl where
  fn : Func
  body : Code
  lp : Loops
abbrev CallX := Nat → Nat → List V0 → St → (SV → St → Prop) → (S1 → St → Prop) → Option Prop

/-- A guard's bool is decided. -/
def contG (ig : Bool) (v : SV) (k : SV → Prop) : Prop :=
  match ig, v with
  | true, .v (.one (.bool e)) => (e = true → k (.v (.one .tt))) ∧ (e = false → k (.v (.one .ff)))
  | _, v => k v

def panicOf : Op → Option Operand
  | .panic x => some x
  | _ => none

/-- A call that is walked into: which function, its arguments. -/
def inlOf (isInl : Nat → Bool) (s : St) (o : Op) : Option (Nat × List V0) :=
  match o with
  | .call ⟨.value fo, args, _⟩ =>
    match evo s.slots fo, evs s.slots args.toList with
    | some (.v (.one (.fn f caps))), some vals => if isInl f = true then (plainV vals).map fun l => (f, l ++ caps.map fun h => V0.one (.ptr h 0)) else none
    | _, _ => none
  | _ => none

def runOpsG (tt : TT) (tb : Nat → Option Con) (isInl : Nat → Bool) (cx : CallX) (base : Nat) (ops : List Oper) : List Oper → Nat → St → (St → Prop) → (S1 → St → Prop) → Prop
  | [], _, s, K, _ => K s
  | o :: rest, i, s, K, KP =>
    match guardE ops s.slots o with
    | .run =>
      match panicOf o.op with
      | some x => (match evo s.slots x with
        | some (.v (.one (.ifc t k n))) => KP (.ifc t k n) s
        | _ => Stuck i o)
      | none =>
        match inlOf isInl s o.op with
        | some (f, args) =>
          (match cx f (hid base (o.dst.getD 0)) args s (fun v s' => contG (isGuard ops i) v fun v => runOpsG tt tb isInl cx base ops rest (i + 1) (s'.with o.dst v s'.heap) K KP) KP with
          | some p => p
          | none => Stuck i o)
        | none =>
          match stepE tt tb base o s with
          | some f => conj f.cs (contG (isGuard ops i) f.v fun v => runOpsG tt tb isInl cx base ops rest (i + 1) (s.with o.dst v (putAll s.heap f.e)) K KP)
          | none => Stuck i o
    | .skip => runOpsG tt tb isInl cx base ops rest (i + 1) (s.with o.dst (.v (.one .undf)) s.heap) K KP
    | .lost => Stuck i o

/-- Which operations may come now. -/
def readyL (ops : List Oper) (done : List Nat) : List Nat :=
  (List.range ops.length).filter fun i => !(done.contains i) && (match ops[i]? with
    | some o => (afters o).all fun j => done.contains j
    | none => false)
def allR : List Nat → (Nat → Prop) → Prop
  | [], _ => True
  | x :: r, f => f x ∧ allR r f
/-- A region that draws its order and walks into calls: every order. -/
def runAnyG (tt : TT) (tb : Nat → Option Con) (isInl : Nat → Bool) (cx : CallX) (base : Nat) (ops : List Oper) (K : St → Prop) (KP : S1 → St → Prop) : Nat → List Nat → St → Prop
  | 0, done, s => if (readyL ops done).isEmpty = true then K s else False
  | n + 1, done, s => if (readyL ops done).isEmpty = true then K s else allR (readyL ops done) fun i => match ops[i]? with
    | some o => runOpsG tt tb isInl cx base ops [o] i s (runAnyG tt tb isInl cx base ops K KP n (i :: done)) KP
    | none => False
def hasInl (isInl : Nat → Bool) (ops : List Oper) : Bool := ops.any fun o => match o.op with
  | .call ⟨.value (.func f), _, _⟩ => isInl f
  | _ => false

def execG (tt : TT) (tb : Nat → Option Con) (isInl : Nat → Bool) (cx : CallX) (base : Nat) (lp : Loops) : Code → St → (Ex → St → Prop) → Prop
  | .skip, s, K => K .normal s
  | .seq x y, s, K =>
    match lp (joinKey (firstReg y)) s with
    | some L => (execG tt tb isInl cx base lp x s fun e s' => match e with
        | .normal => joinAt L.ghost s' fun s1 => ∃ g, L.ok g ∧ Match s1 (L.st g)
        | .exit id => K (.exit id) s'
        | .ret => K .ret s'
        | .panic p => K (.panic p) s') ∧ ∀ g, L.ok g → execG tt tb isInl cx base lp y (L.st g) K
    | none => execG tt tb isInl cx base lp x s fun e s' => match e with
        | .normal => execG tt tb isInl cx base lp y s' K
        | .exit id => K (.exit id) s'
        | .ret => K .ret s'
        | .panic p => K (.panic p) s'
  | .cond c x y, s, K =>
    match evo s.slots c with
    | some (.v (.one .tt)) => execG tt tb isInl cx base lp x s K
    | some (.v (.one .ff)) => execG tt tb isInl cx base lp y s K
    | some (.v (.one (.bool b))) => (b = true → execG tt tb isInl cx base lp x s K) ∧ (b = false → execG tt tb isInl cx base lp y s K)
    | _ => False
  | .block id x, s, K => execG tt tb isInl cx base lp x s fun e s' => match e with
    | .normal => K .normal s'
    | .exit i => if i = id then K .normal s' else K (.exit i) s'
    | .ret => K .ret s'
    | .panic p => K (.panic p) s'
  | .exit id, s, K => K (.exit id) s
  | .ret, s, K => K .ret s
  | .region _ ops draw, s, K =>
    match draw with
    | true => (match hasInl isInl ops.toList with
      | true => runAnyG tt tb isInl cx base ops.toList (fun s' => K .normal s') (fun p s' => K (.panic p) s') ops.toList.length [] s
      | false => runOps tt tb base ops.toList ops.toList 0 s [] fun s' recs => if okDraw ops.toList s.slots.length recs = true then K .normal s' else False)
    | false => runOpsG tt tb isInl cx base ops.toList ops.toList 0 s (fun s' => K .normal s') (fun p s' => K (.panic p) s')
  | .loop c, s, K =>
    match lp (firstReg c) s with
    | some L =>
      match ghosts L.ghost s with
      | some s1 => (∃ g, L.ok g ∧ Match s1 (L.st g)) ∧ ∀ g, L.ok g → execG tt tb isInl cx base lp c (L.st g) fun e s' => match e with
        | .normal => joinAt L.ghost s' fun s1 => ∃ g', L.ok g' ∧ L.μ g' < L.μ g ∧ Match s1 (L.st g')
        | .exit id => K (.exit id) s'
        | .ret => K .ret s'
        | .panic p => K (.panic p) s'
      | none => False
    | none => False
  | _, _, _ => False

/-- The end of a function that was walked into: its results; the caller's slots anew. -/
def retX (tt : TT) (results : List ResultVar) (n : Nat) (K : SV → St → Prop) (KP : S1 → St → Prop) : Ex → St → Prop
  | .normal, s => match resE tt s results with
    | some l => K (packV l) ⟨s.susp.take n, s.susp.drop n, s.heap⟩
    | none => False
  | .ret, s => match resE tt s results with
    | some l => K (packV l) ⟨s.susp.take n, s.susp.drop n, s.heap⟩
    | none => False
  | .panic p, s => KP p ⟨s.susp.take n, s.susp.drop n, s.heap⟩
  | .exit _, _ => False

def enterSt (ntmps : Nat) (args : List V0) (s : St) : St :=
  ⟨args.map SV.v ++ List.replicate (ntmps - args.length) (.v (.one .undf)), s.slots ++ s.susp, s.heap⟩

abbrev InlT := Nat → Option Inl
def isIn (inl : InlT) (f : Nat) : Bool := (inl f).isSome
/-- Calls that are walked into, n deep. -/
def callL (tt : TT) (tb : Nat → Option Con) (inl : InlT) : Nat → CallX
  | 0 => fun _ _ _ _ _ _ => none
  | n + 1 => fun f base args s K KP =>
    match inl f with
    | none => none
    | some I => some (execG tt tb (isIn inl) (callL tt tb inl n) ((base + 1) * 10000) I.lp I.body (enterSt I.fn.ntmps args s) (retX tt I.fn.results.toList s.slots.length K KP))

/-- Code, with calls by contracts and calls that are walked into. -/
def exec (tt : TT) (tb : Nat → Option Con) (inl : InlT) (lp : Loops) : Code → St → (Ex → St → Prop) → Prop :=
  execG tt tb (isIn inl) (callL tt tb inl 6) 0 lp

section
variable {P : Program} {tt : TT} {tb : Nat → Option Con} {lp : Loops} {N : Nat} {G0 : Addr → Prop} {w0 : World} {vs : List Value} {ds : List Deferred}

/-- What an ending of the executor says of the machine's. -/
def OutOK (E : Env) (H : Heap) (w : World) : Ex → Exit → Prop
  | .normal, x => x = .normal
  | .exit id, x => x = .exit id
  | .ret, x => x = .ret
  | .panic p, x => ∃ v, x = .panic [{ v, recovered := false }] ∧ VR E H w p v

theorem set_same {α : Type} {l : List α} {t : Nat} {v : α} (h : l[t]? = some v) : l.set t v = l := by
  apply List.ext_getElem?
  intro i
  rw [List.getElem?_set]
  split
  · rename_i e; subst e
    split
    · exact h.symm
    · rename_i hlt; rw [List.getElem?_eq_none (by omega)] at h; cases h
  · rfl

/-- A row gets another name. -/
theorem rename_rel {E : Env} {s : St} {a : Act} {w : World} (r : Rel P N G0 w0 vs ds E s a w) {t h k d ver et0 v' : Nat} {e0 : Ty} {xs : List D} (hs : s.slots[t]? = some (.v (.one (.row h k)))) (hh : s.heap.get h = some (.row ver et0 e0 xs))
    (hk : k = ver) (hd : verUp (s.heap.get d) = some v') (hne : h ≠ d) :
    ∃ E', Rel P N G0 w0 vs ds E' ⟨s.slots.set t (.v (.one (.row d v'))), s.susp, (s.heap.put d (.row v' et0 e0 xs)).put h (.row (ver + 1) et0 e0 [])⟩ a w := by
  have hr := r.hr
  have gd : ((s.heap.put d (.row v' et0 e0 xs)).put h (.row (ver + 1) et0 e0 [])).get d = some (.row v' et0 e0 xs) := by
    rw [Heap.get_put, if_neg (Ne.symm hne), Heap.get_put, if_pos rfl]
  have gh : ((s.heap.put d (.row v' et0 e0 xs)).put h (.row (ver + 1) et0 e0 [])).get h = some (.row (ver + 1) et0 e0 []) := by
    rw [Heap.get_put, if_pos rfl]
  have go : ∀ j, j ≠ h → j ≠ d → ((s.heap.put d (.row v' et0 e0 xs)).put h (.row (ver + 1) et0 e0 [])).get j = s.heap.get j := fun j h1 h2 => by
    rw [Heap.get_put, if_neg h1, Heap.get_put, if_neg h2]
  generalize hH : (s.heap.put d (.row v' et0 e0 xs)).put h (.row (ver + 1) et0 e0 []) = H' at *
  let E' : Env := { bm := upd (upd E.bm d (E.bm h)) h 0, hd := upd (upd E.hd d (E.hd h)) h (.slice none 0 0), G := E.G, G0 := E.G0 }
  have bd : E'.bm d = E.bm h := by show upd (upd E.bm d (E.bm h)) h 0 d = _; rw [upd_ne _ _ (Ne.symm hne), upd_same]
  have hdd : E'.hd d = E.hd h := by show upd (upd E.hd d (E.hd h)) h _ d = _; rw [upd_ne _ _ (Ne.symm hne), upd_same]
  have hdh : E'.hd h = .slice none 0 0 := upd_same _ _ _
  have bo : ∀ j, j ≠ h → j ≠ d → E'.bm j = E.bm j := fun j h1 h2 => by show upd (upd E.bm d (E.bm h)) h 0 j = _; rw [upd_ne _ _ h1, upd_ne _ _ h2]
  have hdo : ∀ j, j ≠ h → j ≠ d → E'.hd j = E.hd j := fun j h1 h2 => by show upd (upd E.hd d (E.hd h)) h _ j = _; rw [upd_ne _ _ h1, upd_ne _ _ h2]
  have nb : ∀ j cs, s.heap.get j = some (.box cs) → j ≠ h ∧ j ≠ d := fun j cs hj => by
    refine ⟨fun e => ?_, fun e => ?_⟩
    · subst e; rw [hh] at hj; cases hj
    · subst e; rw [hj] at hd; simp [verUp] at hd
  have vr : ∀ (x : S1) (v : Value), VR E s.heap w x v → VR E' H' w x v := by
    intro x v hv
    cases x with
    | ptr j off =>
      obtain ⟨⟨cs, hcs⟩, rfl⟩ := hv
      obtain ⟨n1, n2⟩ := nb j cs hcs
      exact ⟨⟨cs, by rw [go j n1 n2]; exact hcs⟩, by rw [bo j n1 n2]⟩
    | row j k1 =>
      obtain ⟨h1, h2⟩ := hv
      refine ⟨h1, ?_⟩
      by_cases e1 : j = h
      · subst e1
        rw [hh] at h2
        rw [gh]
        exact ⟨by have := h2.1; omega, fun e => by have := h2.1; omega⟩
      · by_cases e2 : j = d
        · subst e2
          rw [gd]
          have : k1 < v' := by
            cases hg : s.heap.get j with
            | none => rw [hg] at h2; exact h2.elim
            | some b =>
              rw [hg] at h2 hd
              cases b with
              | box _ => exact h2.elim
              | row v2 _ _ _ => simp only [verUp, Option.some.injEq] at hd; have := h2.1; omega
              | frozen v2 _ _ => simp only [verUp, Option.some.injEq] at hd; have := h2.1; omega
          exact ⟨by omega, fun e => by omega⟩
        · rw [go j e1 e2]
          cases hg : s.heap.get j with
          | none => rw [hg] at h2; exact h2.elim
          | some b =>
            rw [hg] at h2
            cases b with
            | box _ => exact h2.elim
            | row v2 _ _ _ => exact ⟨h2.1, fun e => by rw [hdo j e1 e2]; exact h2.2 e⟩
            | frozen v2 _ _ => exact h2
    | rptr j k1 e i fld =>
      obtain ⟨h1, h2⟩ := hv
      refine ⟨h1, ?_⟩
      by_cases e1 : j = h
      · subst e1
        rw [hh] at h2
        rw [gh]
        exact ⟨by have := h2.1; omega, fun e => by have := h2.1; omega⟩
      · by_cases e2 : j = d
        · subst e2
          rw [gd]
          have : k1 < v' := by
            cases hg : s.heap.get j with
            | none => rw [hg] at h2; exact h2.elim
            | some b =>
              rw [hg] at h2 hd
              cases b with
              | box _ => exact h2.elim
              | row v2 _ _ _ => simp only [verUp, Option.some.injEq] at hd; have := h2.1; omega
              | frozen v2 _ _ => simp only [verUp, Option.some.injEq] at hd; have : k1 ≤ v2 := h2; omega
          exact ⟨by omega, fun e => by omega⟩
        · rw [go j e1 e2]
          cases hg : s.heap.get j with
          | none => rw [hg] at h2; exact h2.elim
          | some b =>
            rw [hg] at h2
            cases b with
            | box _ => exact h2.elim
            | row v2 _ _ _ => exact ⟨h2.1, fun e => by rw [bo j e1 e2]; exact h2.2 e⟩
            | frozen v2 _ _ => exact h2
    | mp j =>
      obtain ⟨⟨cs, hcs⟩, rfl⟩ := hv
      obtain ⟨n1, n2⟩ := nb j cs hcs
      exact ⟨⟨cs, by rw [go j n1 n2]; exact hcs⟩, by rw [bo j n1 n2]⟩
    | fn f caps =>
      obtain ⟨h1, rfl⟩ := hv
      refine ⟨fun j hj => ?_, ?_⟩
      · obtain ⟨cs, hcs⟩ := h1 j hj
        obtain ⟨n1, n2⟩ := nb j cs hcs
        exact ⟨cs, by rw [go j n1 n2]; exact hcs⟩
      · congr 2
        refine List.map_congr_left fun j hj => ?_
        obtain ⟨cs, hcs⟩ := h1 j hj
        obtain ⟨n1, n2⟩ := nb j cs hcs
        rw [bo j n1 n2]
    | _ => exact hv
  have vr0 : ∀ (x : V0) (v : Value), VR0 E s.heap w x v → VR0 E' H' w x v := by
    intro x v hv
    cases x with
    | one x => exact vr x v hv
    | agg cs => obtain ⟨vs, rfl, h1⟩ := hv; exact ⟨vs, rfl, h1.mono vr⟩
  have vrs : ∀ (x : SV) (v : Value), VRS E s.heap w x v → VRS E' H' w x v := by
    intro x v hv
    cases x with
    | v x => exact vr0 x v hv
    | tup l => obtain ⟨vs, rfl, h1⟩ := hv; exact ⟨vs, rfl, h1.mono vr0⟩
  have sol : ∀ j, Solid E' H' j → (j = d ∧ Solid E s.heap h) ∨ (j ≠ h ∧ j ≠ d ∧ Solid E s.heap j) := by
    intro j hj
    by_cases e1 : j = h
    · subst e1
      rcases hj with ⟨cs, hc⟩ | ⟨_, _, _, _, hc, hn⟩
      · rw [gh] at hc; cases hc
      · rw [hdh] at hn; exact absurd rfl hn
    · by_cases e2 : j = d
      · subst e2
        rcases hj with ⟨cs, hc⟩ | ⟨_, _, _, _, hc, hn⟩
        · rw [gd] at hc; cases hc
        · rw [hdd] at hn; exact .inl ⟨rfl, .inr ⟨ver, et0, e0, xs, hh, hn⟩⟩
      · refine .inr ⟨e1, e2, ?_⟩
        rcases hj with ⟨cs, hc⟩ | ⟨_, _, _, _, hc, hn⟩
        · rw [go j e1 e2] at hc; exact .inl ⟨cs, hc⟩
        · rw [go j e1 e2] at hc; rw [hdo j e1 e2] at hn; exact .inr ⟨_, _, _, _, hc, hn⟩
  have hrE : HR P N E' H' w := by
    refine ⟨fun j cells hj => ?_, fun j ver1 et1 e1 xs1 hj => ?_, fun j j' a b hb => ?_, fun a ha j hj => ?_, hr.gin, hr.gz, hr.vz⟩
    · by_cases n1 : j = h
      · subst n1; rw [gh] at hj; cases hj
      by_cases n2 : j = d
      · subst n2; rw [gd] at hj; cases hj
      rw [go j n1 n2] at hj
      obtain ⟨b1, b2⟩ := hr.box j cells hj
      rw [bo j n1 n2]
      exact ⟨b1, b2.mono vr⟩
    · by_cases n1 : j = h
      · subst n1
        rw [gh] at hj; cases hj
        exact ⟨[], by rw [hdh]; exact World.ownsRow_nil w _ _ _, rfl, fun g hg => by rw [hdh] at hg; cases hg⟩
      by_cases n2 : j = d
      · subst n2
        rw [gd] at hj; cases hj
        obtain ⟨cells, c1, c2, c3⟩ := hr.row h ver et0 e0 xs hh
        exact ⟨cells, by rw [hdd]; exact c1, c2, fun g hg => by rw [hdd] at hg; rw [bd]; exact c3 g hg⟩
      rw [go j n1 n2] at hj
      obtain ⟨cells, c1, c2, c3⟩ := hr.row j ver1 et1 e1 xs1 hj
      exact ⟨cells, by rw [hdo j n1 n2]; exact c1, c2, fun g hg => by rw [hdo j n1 n2] at hg; rw [bo j n1 n2]; exact c3 g hg⟩
    · rcases sol j a with ⟨rfl, s1⟩ | ⟨n1, n2, s1⟩ <;> rcases sol j' b with ⟨rfl, s2⟩ | ⟨n3, n4, s2⟩
      · rfl
      · rw [bd, bo j' n3 n4] at hb
        exact absurd (hr.inj h j' s1 s2 hb).symm n3
      · rw [bd, bo j n1 n2] at hb
        exact absurd (hr.inj j h s1 s2 hb) n1
      · rw [bo j n1 n2, bo j' n3 n4] at hb
        exact hr.inj j j' s1 s2 hb
    · rcases sol j hj with ⟨rfl, s1⟩ | ⟨n1, n2, s1⟩
      · rw [bd]; exact hr.gout a ha h s1
      · rw [bo j n1 n2]; exact hr.gout a ha j s1
  refine ⟨E', ?_, r.susp.mono vrs, r.defers, r.below, r.base, hrE, r.g0⟩
  obtain ⟨v, hv, hx⟩ := r.slots.get hs
  have hx' : VR E s.heap w (.row h k) v := hx
  obtain ⟨h1, h2⟩ := hx'
  rw [hh] at h2
  have hv2 : v = E.hd h := h2.2 hk
  have hnew : VRS E' H' w (.v (.one (.row d v'))) v := by
    refine ⟨h1, ?_⟩
    rw [gd]
    exact ⟨Nat.le_refl _, fun _ => by rw [hdd]; exact hv2⟩
  have h3 := (r.slots.mono vrs).set (i := t) hnew
  rwa [set_same hv] at h3

theorem ghosts_rel : ∀ {gs : List (Nat × Nat × Nat × Ty)} {E : Env} {s s1 : St} {a : Act} {w : World}, ghosts gs s = some s1 → Rel P N G0 w0 vs ds E s a w → ∃ E', Rel P N G0 w0 vs ds E' s1 a w
  | [], E, s, s1, a, w, h, r => by simp only [ghosts] at h; cases h; exact ⟨E, r⟩
  | (t, d, et, e) :: g, E, s, s1, a, w, h, r => by
    simp only [ghosts] at h
    split at h
    · split at h
      · rename_i x hs
        split at h
        · rename_i x' fz hx
          obtain ⟨v, hv, hxv⟩ := r.slots.get hs
          obtain ⟨E1, hf, hpr⟩ := pers1_ok r.hr hx (LkF.of_eq fun k _ => look1_get s k) hxv
          refine ghosts_rel h ⟨?_, r.susp.mono fun _ _ => hf.st.vrs, r.defers, r.below, r.base, hf.hr, hf.st.g0.trans r.g0⟩
          have h1 : All2 (VRS E1 (putAll s.heap fz) w) s.slots a.tmps.toList := r.slots.mono fun _ _ => hf.st.vrs
          have h3 := h1.set (i := t) (a := .v (.one x')) (b := v) (VR.of_pr hpr)
          rwa [set_same hv] at h3
        · cases h
      · cases h
    split at h
    · rename_i hs hd
      have hn := r.hr.new (w' := w) (b := 0) (v := .slice none 0 0) (G' := E.G) (x := .row 0 et e []) r.base hd (Below.refl _ w) (fun _ h => h) (fun _ h => .inl h)
        ⟨[], World.ownsRow_nil w _ _ _, rfl, fun g hg => (by cases hg), fun hne => absurd rfl hne⟩
      obtain ⟨v, hv, hx⟩ := r.slots.get hs
      have hv0 : v = .slice none 0 0 := hx
      refine ghosts_rel h ⟨?_, r.susp.mono fun _ _ => hn.1.vrs, r.defers, r.below, r.base, hn.2, r.g0⟩
      have h1 : All2 (VRS (E.new d 0 (.slice none 0 0) E.G) (s.heap.put d (.row 0 et e [])) w) s.slots a.tmps.toList := r.slots.mono fun _ _ => hn.1.vrs
      have h2 : VRS (E.new d 0 (.slice none 0 0) E.G) (s.heap.put d (.row 0 et e [])) w (.v (.one (.row d 0))) v := by
        refine ⟨⟨_, _, _, hv0⟩, ?_⟩
        simp only [Heap.get_put, if_true]
        exact ⟨Nat.le_refl _, fun _ => by rw [hv0]; exact (upd_same _ _ _).symm⟩
      have h3 := h1.set (i := t) h2
      rwa [set_same hv] at h3
    · rename_i hs
      split at h
      · exact ghosts_rel h r
      · rename_i hne
        split at h
        · rename_i hh hd
          split at h
          · rename_i hk
            obtain ⟨E', r'⟩ := rename_rel r hs hh hk hd hne
            exact ghosts_rel h r'
          · cases h
        · cases h
    · cases h

/-- Walked-into calls are sound. -/
def CallOK (P : Program) (N : Nat) (G0 : Addr → Prop) (w0 : World) (cx : CallX) : Prop :=
  ∀ (f base : Nat) (args : List V0) (s : St) (K : SV → St → Prop) (KP : S1 → St → Prop) (p : Prop), cx f base args s K KP = some p → p →
    ∀ (vs : List Value) (ds : List Deferred) (E : Env) (a : Act) (w : World) (argv : List Value), Rel P N G0 w0 vs ds E s a w → All2 (VR0 E s.heap w) args argv →
    (∃ fn c, P.funcs[f]? = some fn ∧ fn.body = some c ∧ (fn.name == "runtime.NumGoroutine") = false) ∧
    Calls P f argv.toArray w fun e w' => match e with
      | .returned v => ∃ E' sv s', Rel P N G0 w0 vs ds E' s' a w' ∧ VRS E' s'.heap w' sv v ∧ K sv s'
      | .panicked ch => ∃ E' p s' v, ch = [{ v, recovered := false }] ∧ Rel P N G0 w0 vs ds E' s' a w' ∧ VR E' s'.heap w' p v ∧ KP p s'
      | .outgrown => False

theorem upon_mono2 {Q Q' : Exit → Act → World → Prop} {o : Oper} {a : Act} {K K' : Act → World → Prop} (h : ∀ a w, K a w → K' a w) (hp : ∀ ch a w, Q (.panic ch) a w → Q' (.panic ch) a w) (ho : LetsOut Q → LetsOut Q') {r : Result Next} (hh : o.upon P a K Q r) : o.upon P a K' Q' r := by
  cases r with
  | ok n w' =>
    cases n <;> simp only [Oper.upon] at hh ⊢ <;>
      first
        | exact h _ _ hh
        | exact hh
        | (refine hh.mono fun e w'' he => ?_
           cases e <;> first | exact h _ _ he | exact hp _ _ _ he | exact ho he)
        | (refine Rows.mono hh fun v w'' he => ?_
           exact h _ _ he)
        | (obtain ⟨v, w'', h1, h2⟩ := hh; exact ⟨v, w'', h _ _ h1, h2⟩)
        | (intro fr cs; obtain ⟨v, w'', h1, h2⟩ := hh fr cs; exact ⟨v, w'', h _ _ h1, h2⟩)
  | halt x w' => cases x <;> first | exact hh | exact hp _ _ _ hh

theorem contG_rel {P : Program} {E : Env} {s : St} {a : Act} {w : World} {dst : Option Nat} {v : SV} {H : Heap} {ig : Bool} {k : SV → Prop} (h : contG ig v k) (r : Rel P N G0 w0 vs ds E (s.with dst v H) a w) :
    ∃ v', k v' ∧ Rel P N G0 w0 vs ds E (s.with dst v' H) a w := by
  unfold contG at h
  split at h
  · rename_i e
    cases e with
    | true => exact ⟨_, h.1 rfl, r.lit (.inl ⟨rfl, rfl⟩)⟩
    | false => exact ⟨_, h.2 rfl, r.lit (.inr ⟨rfl, rfl⟩)⟩
  · exact ⟨_, h, r⟩

theorem caps_ptr {E : Env} {H : Heap} {w : World} : ∀ {caps : List Nat}, (∀ h ∈ caps, ∃ cs, H.get h = some (.box cs)) →
    All2 (VR0 E H w) (caps.map fun h => V0.one (.ptr h 0)) (caps.map fun h => Value.pointer (some ⟨E.bm h, 0, none⟩))
  | [], _ => trivial
  | h :: r, hc => ⟨⟨hc h (by simp), rfl⟩, caps_ptr fun k hk => hc k (by simp [hk])⟩

theorem runOpsG_seq (cx : Ctx P tt tb) {isInl : Nat → Bool} {cc : CallX} (hcc : CallOK P N G0 w0 cc) {ops : Array Oper} {base : Nat} {K : St → Prop} {KP : S1 → St → Prop} {Q : Exit → Act → World → Prop}
    (hK : ∀ E s a w, Rel P N G0 w0 vs ds E s a w → K s → Q .normal a w) (hP : ∀ E p s a w v, Rel P N G0 w0 vs ds E s a w → VR E s.heap w p v → KP p s → Q (.panic [{ v, recovered := false }]) a w) :
    ∀ (l : List Oper) (i : Nat) (E : Env) (s : St) (a : Act) (w : World), Rel P N G0 w0 vs ds E s a w → runOpsG tt tb isInl cc base ops.toList l i s K KP → wpList P ops Q l a w
  | [], i, E, s, a, w, r, h => hK E s a w r h
  | o :: l, i, E, s, a, w, r, h => by
    unfold runOpsG at h
    obtain ⟨g1, g2⟩ := guard_ok (P := P) (ops := ops) (o := o) r
    unfold wpList
    split at h
    · rename_i hg
      rw [if_pos (g1 hg)]
      refine .inl ?_
      split at h
      · rename_i x hx
        obtain ⟨dst, op, type, pos, after, guard⟩ := o
        have hop : op = .panic x := by
          simp only [panicOf] at hx
          split at hx
          · cases hx; rfl
          · cases hx
        subst hop
        split at h
        · rename_i t k n hp
          have hv : VR E s.heap w (.ifc t k n) (a.eval x) := evo_vr r.slots hp
          have hv2 : a.eval x = .iface t (.int k n) := hv.1
          unfold Oper.wp
          have hrun : (execOp a.eval ⟨dst, .panic x, type, pos, after, guard⟩).run P w = .halt (.panic (a.eval x)) w := by
            simp only [execOp, hv2]
            rfl
          rw [hrun]
          exact hP E _ s a w _ r hv h
        · exact h.elim
      · split at h
        · rename_i f args hin
          split at h
          · rename_i p hp
            obtain ⟨dst, op, type, pos, after, guard⟩ := o
            simp only [inlOf] at hin
            split at hin
            · rename_i fo cargs ats _
              split at hin
              · rename_i f' caps vals hfo hvals
                split at hin
                · obtain ⟨l', hl', he⟩ := Option.map_eq_some_iff.1 hin
                  injection he with e1 e2
                  subst e1
                  have hfv : VR E s.heap w (.fn f' caps) (a.eval fo) := evo_vr r.slots hfo
                  have hav := plainV_vr hl' (evs_vr r.slots hvals)
                  have hargs : All2 (VR0 E s.heap w) args (cargs.toList.map a.eval ++ caps.map fun h => Value.pointer (some ⟨E.bm h, 0, none⟩)) := by
                    rw [← e2]; exact hav.append (caps_ptr hfv.1)
                  obtain ⟨⟨fn, c, hfn, hbody, hname⟩, hcall⟩ := hcc _ _ _ _ _ _ _ hp h _ _ _ _ _ _ r hargs
                  unfold Oper.wp
                  have hrun : (execOp a.eval ⟨dst, .call ⟨.value fo, cargs, ats⟩, type, pos, after, guard⟩).run P w =
                      .ok (.enter f' (cargs.toList.map a.eval ++ caps.map fun h => Value.pointer (some ⟨E.bm h, 0, none⟩)).toArray) w := by
                    have h1 : fn.name ≠ "runtime.NumGoroutine" := by simpa using hname
                    simp [execOp, resolve, hfv.2, Deferred.ofValue, invoke, callFunc, hfn, h1, hbody]
                  rw [hrun]
                  refine hcall.mono fun e w' he => ?_
                  cases e with
                  | returned v =>
                    obtain ⟨E', sv, s', r', hsv, hk⟩ := he
                    have r1 : Rel P N G0 w0 vs ds E' (s'.with dst sv s'.heap) (a.put dst v) w' := r'.step (Step.refl E' s'.heap w') r'.hr (Below.refl N w') dst hsv
                    obtain ⟨v', hk', r2⟩ := contG_rel (P := P) hk r1
                    exact runOpsG_seq cx hcc hK hP l (i + 1) E' _ _ w' r2 hk'
                  | panicked ch =>
                    obtain ⟨E', p, s', v, rfl, r', hpv, hk⟩ := he
                    exact hP E' p s' a w' v r' hpv hk
                  | outgrown => exact he.elim
                · cases hin
              · cases hin
            · cases hin
          · exact h.elim
        · split at h
          · rename_i f hf
            obtain ⟨hcs, h⟩ := conj_iff.1 h
            refine stepE_wp cx hf hcs r (fun E' u w' r' => ?_)
            obtain ⟨v', hk', r2⟩ := contG_rel (P := P) h r'
            exact runOpsG_seq cx hcc hK hP l (i + 1) E' _ _ w' r2 hk'
          · exact h.elim
    · rename_i hg
      rw [if_neg (by rw [g2 hg]; simp)]
      exact runOpsG_seq cx hcc hK hP l (i + 1) E _ _ w (r.skip o.dst) h
    · exact h.elim

theorem runOpsG_one (cx : Ctx P tt tb) {isInl : Nat → Bool} {cc : CallX} (hcc : CallOK P N G0 w0 cc) {ops : Array Oper} {base : Nat} {K : St → Prop} {KP : S1 → St → Prop} {Q : Exit → Act → World → Prop} {KA : Act → World → Prop}
    (hK : ∀ E s a w, Rel P N G0 w0 vs ds E s a w → K s → KA a w) (hP : ∀ E p s a w v, Rel P N G0 w0 vs ds E s a w → VR E s.heap w p v → KP p s → Q (.panic [{ v, recovered := false }]) a w)
    {o : Oper} {i : Nat} (hi : ops[i]? = some o) {E : Env} {s : St} {a : Act} {w : World} (r : Rel P N G0 w0 vs ds E s a w) (h : runOpsG tt tb isInl cc base ops.toList [o] i s K KP) : wpOp P ops Q i KA a w := by
  let Q' : Exit → Act → World → Prop := fun e a w => match e with
    | .normal => KA a w
    | e => Q e a w
  have h1 : wpList P ops Q' [o] a w := runOpsG_seq cx hcc (Q := Q') (fun E s a w r hk => hK E s a w r hk) (fun E p s a w v r hv hk => hP E p s a w v r hv hk) [o] i E s a w r h
  unfold wpOp
  simp only [hi]
  unfold wpList at h1
  split
  · rename_i hw
    rw [if_pos hw] at h1
    rcases h1 with h1 | ⟨h1, a', w', h2⟩
    · exact .inl (upon_mono2 (Q := Q') (fun a w hk => hk) (fun ch a w hk => hk) (fun ⟨a, w, hk⟩ => ⟨a, w, hk⟩) h1)
    · exact .inr ⟨h1, a', w', h2⟩
  · rename_i hw
    rw [if_neg hw] at h1
    exact h1

theorem runAnyG_ok (cx : Ctx P tt tb) {isInl : Nat → Bool} {cc : CallX} (hcc : CallOK P N G0 w0 cc) {ops : Array Oper} {base : Nat} {K : St → Prop} {KP : S1 → St → Prop} {Q : Exit → Act → World → Prop}
    (hK : ∀ E s a w, Rel P N G0 w0 vs ds E s a w → K s → Q .normal a w) (hP : ∀ E p s a w v, Rel P N G0 w0 vs ds E s a w → VR E s.heap w p v → KP p s → Q (.panic [{ v, recovered := false }]) a w) :
    ∀ (n : Nat) (done : List Nat) (listed : Array Bool) (E : Env) (s : St) (a : Act) (w : World), listed.size = ops.size → (∀ i, done.contains i = true ↔ listed.getD i false = true) →
      runAnyG tt tb isInl cc base ops.toList K KP n done s → Rel P N G0 w0 vs ds E s a w → wpAny P .any ops Q n listed a w := by
  have hmem : ∀ (done : List Nat) (listed : Array Bool), listed.size = ops.size → (∀ i, done.contains i = true ↔ listed.getD i false = true) → ∀ i, i ∈ Region.ready .any ops listed ↔ i ∈ readyL ops.toList done := by
    intro done listed hsz hd i
    rw [mem_ready]
    unfold readyL
    rw [List.mem_filter]
    cases ho : ops[i]? with
    | none => simp [ho]
    | some o =>
      have hlt : i < listed.size := by rw [hsz]; exact (Array.getElem?_eq_some_iff.1 ho).1
      have hg : ∀ b, listed.getD i b = listed[i] := fun b => by simp [Array.getD, hlt]
      rw [Array.getElem?_toList, ho, hg]
      have hdi := hd i
      rw [hg] at hdi
      simp only [Bool.and_eq_true, Bool.not_eq_true', List.all_eq_true, Option.some.injEq]
      constructor
      · rintro ⟨h1, o', rfl, h3⟩
        refine ⟨by rw [List.mem_range, Array.length_toList, ← hsz]; exact hlt, ?_, fun j hj => ?_⟩
        · cases hc : done.contains i with
          | false => rfl
          | true => rw [hdi.1 hc] at h1; cases h1
        · obtain ⟨e, he, rfl⟩ := List.mem_map.1 hj
          obtain ⟨he1, he2⟩ := List.mem_filter.1 he
          exact (hd e.on).2 (h3 e (by simpa using he1) he2)
      · rintro ⟨_, h1, h2⟩
        refine ⟨?_, o, rfl, fun e he hb => (hd e.on).1 (h2 e.on (List.mem_map.2 ⟨e, List.mem_filter.2 ⟨by simpa using he, hb⟩, rfl⟩))⟩
        cases hc : listed[i] with
        | false => rfl
        | true => rw [hdi.2 hc] at h1; cases h1
  have hem : ∀ (done : List Nat) (listed : Array Bool), listed.size = ops.size → (∀ i, done.contains i = true ↔ listed.getD i false = true) → ((readyL ops.toList done).isEmpty = true ↔ Region.ready .any ops listed = []) := by
    intro done listed hsz hd
    rw [List.isEmpty_iff, List.eq_nil_iff_forall_not_mem, List.eq_nil_iff_forall_not_mem]
    exact ⟨fun h i hi => h i ((hmem done listed hsz hd i).1 hi), fun h i hi => h i ((hmem done listed hsz hd i).2 hi)⟩
  intro n
  induction n with
  | zero =>
    intro done listed E s a w hsz hd h r
    unfold runAnyG at h
    split at h
    · rename_i he
      exact ⟨(hem done listed hsz hd).1 he, hK E s a w r h⟩
    · exact h.elim
  | succ n ih =>
    intro done listed E s a w hsz hd h r
    unfold runAnyG at h
    split at h
    · rename_i he
      have h0 := (hem done listed hsz hd).1 he
      exact ⟨fun _ => hK E s a w r h, fun i hi => by rw [h0] at hi; cases hi⟩
    · rename_i he
      refine ⟨fun h0 => absurd ((hem done listed hsz hd).2 h0) he, fun i hi => ?_⟩
      have hall : ∀ {l : List Nat} {f : Nat → Prop}, allR l f → ∀ i ∈ l, f i := by
        intro l
        induction l with
        | nil => intro f _ i hi; cases hi
        | cons x l ih =>
          intro f h i hi
          rcases List.mem_cons.1 hi with rfl | hi
          · exact h.1
          · exact ih h.2 i hi
      have hi2 := (hmem done listed hsz hd i).1 hi
      have h1 := hall h i hi2
      split at h1
      · rename_i o ho
        have ho : ops[i]? = some o := by rwa [Array.getElem?_toList] at ho
        have hlt : i < listed.size := by rw [hsz]; exact (Array.getElem?_eq_some_iff.1 ho).1
        refine runOpsG_one cx hcc (fun E s a w r hk => ih (i :: done) (listed.setIfInBounds i true) E s a w (by simp [hsz]) (fun j => ?_) hk r) hP ho r h1
        by_cases hj : j = i
        · subst hj; simp [hlt]
        · have h2 := hd j
          simp only [List.contains_cons, Bool.or_eq_true, beq_iff_eq, hj, false_or]
          rw [h2]
          simp [Array.getElem?_setIfInBounds_ne (Ne.symm hj)]
      · exact h1.elim

theorem execG_ok (cx : Ctx P tt tb) (hm : P.follows .mixedOrders = true) {isInl : Nat → Bool} {cc : CallX} (hcc : CallOK P N G0 w0 cc) {base : Nat} : ∀ (c : Code) {s : St} {K : Ex → St → Prop} {Q : Exit → Act → World → Prop} {E : Env} {a : Act} {w : World},
    execG tt tb isInl cc base lp c s K → Rel P N G0 w0 vs ds E s a w → (∀ e x E s a w, OutOK E s.heap w e x → Rel P N G0 w0 vs ds E s a w → K e s → Q x a w) → c.wp P Q a w := by
  intro c
  induction c with
  | skip => exact fun h r hK => Go.wp_skip (hK .normal _ _ _ _ _ rfl r h)
  | seq x y hx hy =>
    intro s K Q E a w h r hK
    unfold execG at h
    split at h
    · rename_i L hL
      obtain ⟨h1, h2⟩ := h
      refine wp_seq (hx h1 r (fun e x' E s a w he r' hk => ?_))
      cases e with
      | normal =>
        cases he
        simp only [joinAt] at hk
        split at hk
        · rename_i s1 hg
          obtain ⟨g, hok, hmt⟩ := hk
          obtain ⟨E1, r1⟩ := ghosts_rel hg r'
          exact hy (h2 g hok) (hmt.rel r1) hK
        · exact hk.elim
      | exit id => cases he; exact hK (.exit id) _ _ _ _ _ rfl r' hk
      | ret => cases he; exact hK .ret _ _ _ _ _ rfl r' hk
      | panic p => obtain ⟨v, rfl, hv⟩ := he; exact hK (.panic p) _ _ _ _ _ ⟨v, rfl, hv⟩ r' hk
    · refine wp_seq (hx h r (fun e x' E s a w he r' hk => ?_))
      cases e with
      | normal => cases he; exact hy hk r' hK
      | exit id => cases he; exact hK (.exit id) _ _ _ _ _ rfl r' hk
      | ret => cases he; exact hK .ret _ _ _ _ _ rfl r' hk
      | panic p => obtain ⟨v, rfl, hv⟩ := he; exact hK (.panic p) _ _ _ _ _ ⟨v, rfl, hv⟩ r' hk
  | cond c x y hx hy =>
    intro s K Q E a w h r hK
    unfold execG at h
    split at h
    · rename_i hv
      have hb : a.eval c = .bool true := evo_vr r.slots hv
      exact wp_cond_true hb (hx h r hK)
    · rename_i hv
      have hb : a.eval c = .bool false := evo_vr r.slots hv
      exact wp_cond_false hb (hy h r hK)
    · rename_i b hv
      have hb : a.eval c = .bool b := evo_vr r.slots hv
      exact wp_cond_split hb (fun e => hx (h.1 e) r hK) (fun e => hy (h.2 e) r hK)
    · exact h.elim
  | block id x hx =>
    intro s K Q E a w h r hK
    refine wp_block (hx h r (fun e x' E s a w he r' hk => ?_))
    cases e with
    | normal => cases he; exact hK .normal _ _ _ _ _ rfl r' hk
    | exit i =>
      cases he
      simp only at hk
      unfold Exit.inBlock
      split at hk
      · rename_i hi; simp only [hi, if_true]; exact hK .normal _ _ _ _ _ rfl r' hk
      · rename_i hi; simp only [hi, if_false]; exact hK (.exit i) _ _ _ _ _ rfl r' hk
    | ret => cases he; exact hK .ret _ _ _ _ _ rfl r' hk
    | panic p => obtain ⟨v, rfl, hv⟩ := he; exact hK (.panic p) _ _ _ _ _ ⟨v, rfl, hv⟩ r' hk
  | exit id => exact fun h r hK => wp_exit (hK (.exit id) _ _ _ _ _ rfl r h)
  | ret => exact fun h r hK => wp_ret (hK .ret _ _ _ _ _ rfl r h)
  | region id ops draw =>
    intro s K Q E a w h r hK
    cases draw with
    | true =>
      unfold execG at h
      simp only at h
      split at h
      · refine wp_region_any hm (runAnyG_ok cx hcc (fun E s' a w r' hk => hK .normal _ _ _ _ _ rfl r' hk) (fun E p s' a w v r' hv hk => hK (.panic p) _ _ _ _ _ ⟨v, rfl, hv⟩ r' hk) ops.size [] (Array.replicate ops.size false) E s a _ (by simp) (fun i => by by_cases hi : i < ops.size <;> simp [hi]) h ?_)
        have hb : Below w.heap.size w { w with drawn := w.drawn + 1 } := (Below.refl w.heap.size w).drew
        obtain ⟨st, hr2⟩ := r.hr.below hb
        exact ⟨r.slots.mono fun _ _ => st.vrs, r.susp.mono fun _ _ => st.vrs, r.defers, r.below.trans (hb.mono r.base), r.base, hr2, st.g0.trans r.g0⟩
      refine runOps_draw (N := N) (G0 := G0) (w0 := w0) (vs := vs) (ds := ds) cx hm (fun E s' recs a w r' hk => ?_) (fun s' recs hk => ?_) r h
      · split at hk
        · exact hK .normal _ _ _ _ _ rfl r' hk
        · exact hk.elim
      · split at hk
        · assumption
        · exact hk.elim
    | false => exact wp_region_list (runOpsG_seq cx hcc (fun E s' a w r' hk => hK .normal _ _ _ _ _ rfl r' hk) (fun E p s' a w v r' hv hk => hK (.panic p) _ _ _ _ _ ⟨v, rfl, hv⟩ r' hk) ops.toList 0 E s a w r h)
  | loop c hc =>
    intro s K Q E a w h r hK
    unfold execG at h
    split at h
    · rename_i L hL
      split at h
      · rename_i s1 hg
        obtain ⟨⟨g0, hg0, hm0⟩, hround⟩ := h
        obtain ⟨E1, r1⟩ := ghosts_rel hg r
        have r2 := hm0.rel r1
        refine wp_loop_ghost (fun n a w => ∃ g E, L.ok g ∧ L.μ g = n ∧ Rel P N G0 w0 vs ds E (L.st g) a w) (L.μ g0) ⟨g0, E1, hg0, rfl, r2⟩ ?_
        rintro n a w ⟨g, E2, hok, rfl, rg⟩
        refine hc (hround g hok) rg (fun e x' E s a w he r' hk => ?_)
        cases e with
        | normal =>
          cases he
          simp only [joinAt] at hk
          split at hk
          · rename_i s2 hg2
            obtain ⟨g', hok', hlt, hmt⟩ := hk
            obtain ⟨E3, r3⟩ := ghosts_rel hg2 r'
            exact ⟨L.μ g', hlt, g', E3, hok', rfl, hmt.rel r3⟩
          · exact hk.elim
        | exit id => cases he; exact hK (.exit id) _ _ _ _ _ rfl r' hk
        | ret => cases he; exact hK .ret _ _ _ _ _ rfl r' hk
        | panic p => obtain ⟨v, rfl, hv⟩ := he; exact hK (.panic p) _ _ _ _ _ ⟨v, rfl, hv⟩ r' hk
      · exact h.elim
    · exact h.elim
  | rangeFunc f ps x y => exact fun h => h.elim
  | scope x => exact fun h => h.elim
  | label l => exact fun h => h.elim
  | goto l => exact fun h => h.elim
  | refuse y => exact fun h => h.elim

/-- The functions that are walked into are the program's. -/
def InlOK (P : Program) (inl : InlT) : Prop := ∀ f I, inl f = some I → P.funcs[f]? = some I.fn ∧ I.fn.body = some I.body ∧ (I.fn.name == "runtime.NumGoroutine") = false

theorem All2.take_app {α β : Type} {R : α → β → Prop} {as : List α} {b1 b2 : List β} (h : All2 R as (b1 ++ b2)) : All2 R (as.take b1.length) b1 ∧ All2 R (as.drop b1.length) b2 := by
  have h1 := h.take b1.length
  have h2 := h.drop b1.length
  simp only [List.take_left', List.drop_left'] at h1 h2
  exact ⟨h1, h2⟩

theorem enter_rel {E : Env} {s : St} {a : Act} {w : World} {args : List V0} {argv : List Value} {n : Nat} (r : Rel P N G0 w0 vs ds E s a w) (ha : All2 (VR0 E s.heap w) args argv) :
    Rel P N G0 w0 (a.tmps.toList ++ vs) [] E (enterSt n args s) { tmps := argv.toArray ++ Array.replicate (n - argv.toArray.size) undef, defers := [] } w := by
  refine ⟨?_, r.slots.append r.susp, rfl, r.below, r.base, r.hr, r.g0⟩
  have hl := ha.len
  simp only [enterSt, Array.toList_append, Array.toList_replicate, List.size_toArray, hl]
  refine All2.append ?_ (All2.replicate ?_ _)
  · have key : ∀ {vs : List V0} {us : List Value}, All2 (VR0 E s.heap w) vs us → All2 (VRS E s.heap w) (vs.map SV.v) us := by
      intro vs
      induction vs with
      | nil => intro us h; cases us with
        | nil => trivial
        | cons u us => exact h.elim
      | cons v vs ih => intro us h; cases us with
        | nil => exact h.elim
        | cons u us => exact ⟨h.1, ih h.2⟩
    exact key ha
  · exact rfl

/-- The caller's state, when the callee's ends. -/
theorem leave_rel {E E' : Env} {s s2 : St} {a a2 : Act} {w w2 : World} (r : Rel P N G0 w0 vs ds E s a w) (r2 : Rel P N G0 w0 (a.tmps.toList ++ vs) [] E' s2 a2 w2) :
    Rel P N G0 w0 vs ds E' ⟨s2.susp.take s.slots.length, s2.susp.drop s.slots.length, s2.heap⟩ a w2 := by
  have hl := r.slots.len
  have h := r2.susp.take_app
  rw [← hl] at h
  exact ⟨h.1, h.2, r.defers, r2.below, r2.base, r2.hr, r2.g0⟩

theorem callL_ok (cx : Ctx P tt tb) (hm : P.follows .mixedOrders = true) {inl : InlT} (hi : InlOK P inl) : ∀ (n : Nat), CallOK P N G0 w0 (callL tt tb inl n)
  | 0 => fun f base args s K KP p h => by cases h
  | n + 1 => fun f base args s K KP p h hp vs ds E a w argv r ha => by
    simp only [callL] at h
    split at h
    · cases h
    · rename_i I hI
      obtain ⟨hf, hb, hname⟩ := hi f I hI
      injection h with h
      subst h
      refine ⟨⟨I.fn, I.body, hf, hb, hname⟩, calls_of_wp hf hb ?_⟩
      have re := enter_rel (n := I.fn.ntmps) r ha
      refine execG_ok cx hm (callL_ok cx hm hi n) I.body hp re (fun e x E' s2 a2 w2 he r2 hk => ?_)
      have fin : ∀ {l : List V0}, resE tt s2 I.fn.results.toList = some l → K (packV l) ⟨s2.susp.take s.slots.length, s2.susp.drop s.slots.length, s2.heap⟩ →
          a2.defers = [] ∧ ∃ v, (results I.fn a2.tmps).run P w2 = .ok v w2 ∧ ∃ E' sv s', Rel P N G0 w0 vs ds E' s' a w2 ∧ VRS E' s'.heap w2 sv v ∧ K sv s' := fun {l} hl hk => by
        refine ⟨r2.defers, ?_⟩
        obtain ⟨us, hus, hall⟩ := resE_ok cx.tt r2 hl
        refine ⟨packVal us, ?_, E', packV l, _, leave_rel r r2, pack_vr hall, hk⟩
        rw [results_eq]
        have hmm : (I.fn.results.mapM (resF a2.tmps)).run P w2 = .ok us.toArray w2 := by
          rw [Array.mapM_eq_mapM_toList]
          simp [hus]
        simp only [Sem.run_bind, hmm, Result.andThen_ok, Sem.run_pure, pack_if]
      cases e with
      | normal =>
        cases he
        simp only [retX] at hk
        split at hk
        · rename_i l hl; exact fin hl hk
        · exact hk.elim
      | ret =>
        cases he
        simp only [retX] at hk
        split at hk
        · rename_i l hl; exact fin hl hk
        · exact hk.elim
      | exit id => exact hk.elim
      | panic p =>
        obtain ⟨v, rfl, hv⟩ := he
        exact ⟨r2.defers, E', p, _, v, rfl, leave_rel r r2, hv, hk⟩

theorem exec_ok (cx : Ctx P tt tb) (hm : P.follows .mixedOrders = true) {inl : InlT} (hi : InlOK P inl) (c : Code) {s : St} {K : Ex → St → Prop} {Q : Exit → Act → World → Prop} {E : Env} {a : Act} {w : World}
    (h : exec tt tb inl lp c s K) (r : Rel P N G0 w0 vs ds E s a w) (hK : ∀ e x E s a w, OutOK E s.heap w e x → Rel P N G0 w0 vs ds E s a w → K e s → Q x a w) : c.wp P Q a w :=
  execG_ok cx hm (callL_ok cx hm hi 6) c h r hK

end
end Go.RX
