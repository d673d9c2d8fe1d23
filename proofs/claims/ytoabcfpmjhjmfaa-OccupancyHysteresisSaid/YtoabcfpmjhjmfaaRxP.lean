/- Part P: code, loops, functions. -/
import Derived.Test.YtoabcfpmjhjmfaaRxO
import Derived.Deep.LoopGhost
set_option linter.all false
namespace Go.RX
open Go Go.RowKit

/-- A loop: the states at its head, one for each g; a nil slice in a slot may become an empty row first. -/
structure LoopSpec where
  ghost : List (Nat × Nat × Nat × Ty)
  γ : Type
  ok : γ → Prop
  μ : γ → Nat
  st : γ → St

def ghosts : List (Nat × Nat × Nat × Ty) → St → Option St
  | [], s => some s
  | (t, d, et, e) :: r, s =>
    match s.slots[t]?, s.heap.get d with
    | some (.v (.one .nilsl)), none => ghosts r ⟨s.slots.set t (.v (.one (.row d 0))), s.susp, s.heap.put d (.row 0 et e [])⟩
    | _, _ => none

def firstReg : Code → Nat
  | .region id _ _ => id
  | .seq a _ => firstReg a
  | .block _ b => firstReg b
  | .loop b => firstReg b
  | _ => 0

abbrev Loops := Nat → St → Option LoopSpec

/-- Where ways meet: the key of a specification of the states ahead of the code that begins with region r. -/
def joinKey (r : Nat) : Nat := 1000000 + r
def joinAt (gs : List (Nat × Nat × Nat × Ty)) (s : St) (K : St → Prop) : Prop :=
  match s.susp, ghosts gs s with
  | [], some s1 => K s1
  | _, _ => False

def exec (tt : TT) (tb : Nat → Option Con) (lp : Loops) : Code → St → (Ex → St → Prop) → Prop
  | .skip, s, K => K .normal s
  | .seq x y, s, K =>
    match lp (joinKey (firstReg y)) s with
    | some L => (exec tt tb lp x s fun e s' => match e with
        | .normal => joinAt L.ghost s' fun s1 => ∃ g, L.ok g ∧ Match s1 (L.st g)
        | .exit id => K (.exit id) s'
        | .ret => K .ret s'
        | .panic p => K (.panic p) s') ∧ ∀ g, L.ok g → exec tt tb lp y (L.st g) K
    | none => exec tt tb lp x s fun e s' => match e with
        | .normal => exec tt tb lp y s' K
        | .exit id => K (.exit id) s'
        | .ret => K .ret s'
        | .panic p => K (.panic p) s'
  | .cond c x y, s, K =>
    match evo s.slots c with
    | some (.v (.one .tt)) => exec tt tb lp x s K
    | some (.v (.one .ff)) => exec tt tb lp y s K
    | some (.v (.one (.bool b))) => (b = true → exec tt tb lp x s K) ∧ (b = false → exec tt tb lp y s K)
    | _ => False
  | .block id x, s, K => exec tt tb lp x s fun e s' => match e with
    | .normal => K .normal s'
    | .exit i => if i = id then K .normal s' else K (.exit i) s'
    | .ret => K .ret s'
    | .panic p => K (.panic p) s'
  | .exit id, s, K => K (.exit id) s
  | .ret, s, K => K .ret s
  | .region _ ops draw, s, K =>
    match draw with
    | true => runOps tt tb 0 ops.toList ops.toList 0 s [] fun s' recs => if okDraw ops.toList s.slots.length recs = true then K .normal s' else False
    | false => runOps tt tb 0 ops.toList ops.toList 0 s [] fun s' _ => K .normal s'
  | .loop c, s, K =>
    match s.susp, lp (firstReg c) s with
    | [], some L =>
      match ghosts L.ghost s with
      | some s1 => (∃ g, L.ok g ∧ Match s1 (L.st g)) ∧ ∀ g, L.ok g → exec tt tb lp c (L.st g) fun e s' => match e with
        | .normal => s'.susp = [] ∧ ∃ g', L.ok g' ∧ L.μ g' < L.μ g ∧ Match s' (L.st g')
        | .exit id => K (.exit id) s'
        | .ret => K .ret s'
        | .panic p => K (.panic p) s'
      | none => False
    | _, _ => False
  | _, _, _ => False

def Ex.out : Ex → Option Exit
  | .normal => some .normal
  | .exit id => some (.exit id)
  | .ret => some .ret
  | .panic _ => none

section
variable {P : Program} {tt : TT} {tb : Nat → Option Con} {lp : Loops} {N : Nat} {G0 : Addr → Prop} {w0 : World} {vs : List Value} {ds : List Deferred}

theorem ghosts_susp : ∀ {gs : List (Nat × Nat × Nat × Ty)} {s s1 : St}, ghosts gs s = some s1 → s1.susp = s.susp
  | [], s, s1, h => by simp only [ghosts] at h; cases h; rfl
  | (t, d, et, e) :: r, s, s1, h => by
    simp only [ghosts] at h
    split at h
    · exact (ghosts_susp h).trans rfl
    · cases h

theorem set_same {α : Type} {l : List α} {t : Nat} {v : α} (h : l[t]? = some v) : l.set t v = l := by
  apply List.ext_getElem?
  intro i
  rw [List.getElem?_set]
  split
  · rename_i e; subst e
    split
    · exact h.symm
    · rename_i hlt; rw [List.getElem?_eq_none (by omega)] at h; cases h
  · rfl

theorem ghosts_rel : ∀ {gs : List (Nat × Nat × Nat × Ty)} {E : Env} {s s1 : St} {a : Act} {w : World}, ghosts gs s = some s1 → Rel N G0 w0 vs ds E s a w → ∃ E', Rel N G0 w0 vs ds E' s1 a w
  | [], E, s, s1, a, w, h, r => by simp only [ghosts] at h; cases h; exact ⟨E, r⟩
  | (t, d, et, e) :: g, E, s, s1, a, w, h, r => by
    simp only [ghosts] at h
    split at h
    · rename_i hs hd
      have hn := r.hr.new (w' := w) (b := 0) (v := .slice none 0 0) (G' := E.G) (x := .row 0 et e []) r.base hd (Below.refl _ w) (fun _ h => h) (fun _ h => .inl h)
        ⟨[], World.ownsRow_nil w _ _ _, rfl, fun g hg => (by cases hg), fun hne => absurd rfl hne⟩
      obtain ⟨v, hv, hx⟩ := r.slots.get hs
      have hv0 : v = .slice none 0 0 := hx
      refine ghosts_rel h ⟨?_, r.susp.mono fun _ _ => hn.1.vrs, r.defers, r.below, r.base, hn.2, r.g0⟩
      have h1 : All2 (VRS (E.new d 0 (.slice none 0 0) E.G) (s.heap.put d (.row 0 et e [])) w) s.slots a.tmps.toList := r.slots.mono fun _ _ => hn.1.vrs
      have h2 : VRS (E.new d 0 (.slice none 0 0) E.G) (s.heap.put d (.row 0 et e [])) w (.v (.one (.row d 0))) v := by
        refine ⟨⟨_, _, _, hv0⟩, ?_⟩
        simp only [Heap.get_put, if_true]
        exact ⟨Nat.le_refl _, fun _ => by rw [hv0]; exact (upd_same _ _ _).symm⟩
      have h3 := h1.set (i := t) h2
      rwa [set_same hv] at h3
    · cases h

theorem exec_ok (cx : Ctx P tt tb) (hm : P.follows .mixedOrders = true) : ∀ (c : Code) {s : St} {K : Ex → St → Prop} {Q : Exit → Act → World → Prop} {E : Env} {a : Act} {w : World},
    exec tt tb lp c s K → Rel N G0 w0 vs ds E s a w → (∀ e x E s a w, e.out = some x → Rel N G0 w0 vs ds E s a w → K e s → Q x a w) → (∀ p s, ¬ K (.panic p) s) → c.wp P Q a w := by
  intro c
  induction c with
  | skip => exact fun h r hK _ => Go.wp_skip (hK .normal _ _ _ _ _ rfl r h)
  | seq x y hx hy =>
    intro s K Q E a w h r hK hp
    unfold exec at h
    split at h
    · rename_i L hL
      obtain ⟨h1, h2⟩ := h
      refine wp_seq (hx h1 r (fun e x' E s a w he r' hk => ?_) (fun p s => hp p s))
      cases e with
      | normal =>
        cases he
        simp only [joinAt] at hk
        split at hk
        · rename_i s1 hu hg
          obtain ⟨g, hok, hmt⟩ := hk
          obtain ⟨E1, r1⟩ := ghosts_rel hg r'
          exact hy (h2 g hok) (hmt.rel (by rw [ghosts_susp hg]; exact hu) r1) hK hp
        · exact hk.elim
      | exit id => cases he; exact hK (.exit id) _ _ _ _ _ rfl r' hk
      | ret => cases he; exact hK .ret _ _ _ _ _ rfl r' hk
      | panic p => cases he
    refine wp_seq (hx h r (fun e x' E s a w he r' hk => ?_) (fun p s => hp p s))
    cases e with
    | normal => cases he; exact hy hk r' hK hp
    | exit id => cases he; exact hK (.exit id) _ _ _ _ _ rfl r' hk
    | ret => cases he; exact hK .ret _ _ _ _ _ rfl r' hk
    | panic p => cases he
  | cond c x y hx hy =>
    intro s K Q E a w h r hK hp
    unfold exec at h
    split at h
    · rename_i hv
      have hb : a.eval c = .bool true := evo_vr r.slots hv
      exact wp_cond_true hb (hx h r hK hp)
    · rename_i hv
      have hb : a.eval c = .bool false := evo_vr r.slots hv
      exact wp_cond_false hb (hy h r hK hp)
    · rename_i b hv
      have hb : a.eval c = .bool b := evo_vr r.slots hv
      exact wp_cond_split hb (fun e => hx (h.1 e) r hK hp) (fun e => hy (h.2 e) r hK hp)
    · exact h.elim
  | block id x hx =>
    intro s K Q E a w h r hK hp
    refine wp_block (hx h r (fun e x' E s a w he r' hk => ?_) (fun p s => hp p s))
    cases e with
    | normal => cases he; exact hK .normal _ _ _ _ _ rfl r' hk
    | exit i =>
      cases he
      simp only at hk
      unfold Exit.inBlock
      split at hk
      · rename_i hi; simp only [hi, if_true]; exact hK .normal _ _ _ _ _ rfl r' hk
      · rename_i hi; simp only [hi, if_false]; exact hK (.exit i) _ _ _ _ _ rfl r' hk
    | ret => cases he; exact hK .ret _ _ _ _ _ rfl r' hk
    | panic p => cases he
  | exit id => exact fun h r hK _ => wp_exit (hK (.exit id) _ _ _ _ _ rfl r h)
  | ret => exact fun h r hK _ => wp_ret (hK .ret _ _ _ _ _ rfl r h)
  | region id ops draw =>
    intro s K Q E a w h r hK _
    cases draw with
    | true =>
      refine runOps_draw (N := N) (G0 := G0) (w0 := w0) (vs := vs) (ds := ds) cx hm (fun E s' recs a w r' hk => ?_) (fun s' recs hk => ?_) r h
      · split at hk
        · exact hK .normal _ _ _ _ _ rfl r' hk
        · exact hk.elim
      · split at hk
        · assumption
        · exact hk.elim
    | false => exact wp_region_list (runOps_seq cx (fun E s' recs a w r' hk => hK .normal _ _ _ _ _ rfl r' hk) ops.toList 0 E s [] a w r h)
  | loop c hc =>
    intro s K Q E a w h r hK hp
    unfold exec at h
    split at h
    · rename_i L hu hL
      split at h
      · rename_i s1 hg
        obtain ⟨⟨g0, hg0, hm0⟩, hround⟩ := h
        obtain ⟨E1, r1⟩ := ghosts_rel hg r
        have r2 := hm0.rel (by rw [ghosts_susp hg]; exact hu) r1
        refine wp_loop_ghost (fun n a w => ∃ g E, L.ok g ∧ L.μ g = n ∧ Rel N G0 w0 vs ds E (L.st g) a w) (L.μ g0) ⟨g0, E1, hg0, rfl, r2⟩ ?_
        rintro n a w ⟨g, E2, hok, rfl, rg⟩
        refine hc (hround g hok) rg (fun e x' E s a w he r' hk => ?_) (fun p s => hp p s)
        cases e with
        | normal =>
          cases he
          obtain ⟨hus, g', hok', hlt, hmt⟩ := hk
          exact ⟨L.μ g', hlt, g', E, hok', rfl, hmt.rel hus r'⟩
        | exit id => cases he; exact hK (.exit id) _ _ _ _ _ rfl r' hk
        | ret => cases he; exact hK .ret _ _ _ _ _ rfl r' hk
        | panic p => cases he
      · exact h.elim
    · exact h.elim
  | rangeFunc f ps x y => exact fun h => h.elim
  | scope x => exact fun h => h.elim
  | label l => exact fun h => h.elim
  | goto l => exact fun h => h.elim
  | refuse y => exact fun h => h.elim
end

end Go.RX
