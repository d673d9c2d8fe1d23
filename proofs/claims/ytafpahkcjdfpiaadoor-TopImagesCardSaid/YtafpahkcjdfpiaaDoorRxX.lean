/- Part X: a function whose end is walked by hand: the executor runs the code up to a region. -/
import Derived.Test.YtafpahkcjdfpiaaDoorRxQ
set_option linter.all false
namespace Go.RX
open Go Go.RowKit

def noLpC : Loops := fun _ _ => none
def tC (KN : St → Prop) (K : Ex → St → Prop) : Ex → St → Prop := fun e s' => match e with
  | .normal => KN s'
  | .exit id => K (.exit id) s'
  | .ret => K .ret s'
  | .panic p => K (.panic p) s'

/-- The code up to the region n. -/
def execC (tt : TT) (tb : Nat → Option Con) (inl : InlT) (n : Nat) : Code → (Ex → St → Prop) → (St → Prop) → St → Prop
  | .seq x y, K, KC, s => exec tt tb inl noLpC x s (tC (if firstReg y = n then KC else execC tt tb inl n y K KC) K)
  | _, _, _, _ => False
/-- The code from the region n on. -/
def sufC (n : Nat) : Code → Code
  | .seq _ y => if firstReg y = n then y else sufC n y
  | _ => .skip

def cut1 : V0 → V0 → Prop
  | .one (.sl e xs), .one (.sl e' ys) => if e = e' then xs = ys else False
  | .one (.str s), .one (.str t) => s = t
  | .one (.int k n), .one (.int k' m) => if k = k' then n = m else False
  | _, _ => False
def cutV (s : St) (t : Nat) (y : V0) : Prop := match s.slots[t]? with
  | some (.v x) => cut1 x y
  | _ => False
def cutL (s : St) : List (Nat × V0) → Prop
  | [] => True
  | [(t, y)] => cutV s t y
  | (t, y) :: r => cutV s t y ∧ cutL s r
def cutK (n : Nat) (l : List (Nat × V0)) (p : Prop) (s : St) : Prop := if s.slots.length = n then cutL s l ∧ p else False

theorem cut1_pr {E : Env} {H : Heap} {w : World} {x y : V0} {v : Value} (h : cut1 x y) (hv : VR0 E H w x v) : PR0 E.G w y v := by
  unfold cut1 at h
  split at h
  · split at h
    · rename_i e; subst e; subst h; exact hv
    · exact h.elim
  · subst h; exact hv
  · split at h
    · rename_i e; subst e; subst h; exact hv
    · exact h.elim
  · exact h.elim

section
variable {P : Program} {tt : TT} {tb : Nat → Option Con} {N : Nat} {G0 : Addr → Prop} {w0 : World} {vs : List Value} {ds : List Deferred} {E : Env} {s : St} {a : Act} {w : World}

theorem cutL_ok (r : Rel P N G0 w0 vs ds E s a w) : ∀ {l : List (Nat × V0)}, cutL s l → ∀ t y, (t, y) ∈ l → ∃ v, a.tmps.toList[t]? = some v ∧ PR0 E.G w y v := by
  have one : ∀ t y, cutV s t y → ∃ v, a.tmps.toList[t]? = some v ∧ PR0 E.G w y v := fun t y h => by
    unfold cutV at h
    split at h
    · rename_i x hx
      obtain ⟨v, hv, hr⟩ := r.slots.get hx
      exact ⟨v, hv, cut1_pr h hr⟩
    · exact h.elim
  intro l
  induction l with
  | nil => intro _ t y h; cases h
  | cons p l ih =>
    intro h t y hm
    cases l with
    | nil =>
      rw [List.mem_singleton] at hm
      subst hm
      exact one t y h
    | cons q l =>
      rcases List.mem_cons.1 hm with rfl | hm
      · exact one t y h.1
      · exact ih h.2 t y hm

theorem execC_ok (cx : Ctx P tt tb) (hm : P.follows .mixedOrders = true) {inl : InlT} (hi : InlOK P inl) {n : Nat} : ∀ {c : Code} {K : Ex → St → Prop} {KC : St → Prop} {Q : Exit → Act → World → Prop} {E : Env} {s : St} {a : Act} {w : World},
    execC tt tb inl n c K KC s → Rel P N G0 w0 vs ds E s a w → (∀ e x E s a w, OutOK E s.heap w e x → Rel P N G0 w0 vs ds E s a w → K e s → Q x a w) →
    (∀ E s a w, Rel P N G0 w0 vs ds E s a w → KC s → (sufC n c).wp P Q a w) → c.wp P Q a w := by
  intro c
  induction c with
  | seq x y ihx ihy =>
    intro K KC Q E s a w h r hK hC
    unfold execC at h
    refine wp_seq (exec_ok cx hm hi x h r fun e x' E s a w ho r hk => ?_)
    cases e with
    | normal =>
      cases ho
      show y.wp P Q a w
      unfold tC at hk
      simp only at hk
      by_cases hy : firstReg y = n
      · rw [if_pos hy] at hk
        have := hC E s a w r hk
        unfold sufC at this
        rw [if_pos hy] at this
        exact this
      · rw [if_neg hy] at hk
        refine ihy hk r hK fun E s a w r hk => ?_
        have := hC E s a w r hk
        unfold sufC at this
        rw [if_neg hy] at this
        exact this
    | exit id => cases ho; exact hK (.exit id) _ E s a w rfl r hk
    | ret => cases ho; exact hK .ret _ E s a w rfl r hk
    | panic p =>
      have ho' := ho
      obtain ⟨v, rfl, hv⟩ := ho
      exact hK (.panic p) _ E s a w ho' r hk
  | _ => intro K KC Q E s a w h; exact h.elim

/-- A function meets its contract; its end by hand. -/
theorem conOK_of_execC {inl : InlT} (hi : InlOK P inl) (cx : Ctx P tt tb) (hm : P.follows .mixedOrders = true) {f : FuncId} {fn : Func} {c : Code} {con : Con} (hf : P.funcs[f]? = some fn) (hb : fn.body = some c)
    (hn : (fn.name == "runtime.NumGoroutine") = false) (n : Nat) (KC : List D → St → Prop)
    (h : ∀ dat, (con.run dat).pre → WTs con.tys dat → execC tt tb inl n c (doneE tt fn.results.toList (con.run dat).rets) (KC dat) (initSt fn.ntmps (svs con.tys dat)))
    (hC : ∀ dat (G : Addr → Prop) (w : World), (con.run dat).pre → (∀ b, G b → b.block < w.heap.size) → ∀ E s a w', Rel P w.heap.size G w [] [] E s a w' → KC dat s →
      (sufC n c).wp P (bodyPost P fn fun e w'' => ∃ v, e = .returned v ∧ RetOK G w (con.run dat).rets v w'') a w') : ConOK P f con := by
  refine ⟨⟨fn, c, hf, hb, hn⟩, fun G w dat args hG hz ha0 hpre => ?_⟩
  obtain ⟨ha, hwt⟩ := argsR_pr ha0
  refine calls_of_wp hf hb ?_
  refine execC_ok cx hm hi (h dat hpre hwt) (init_rel hG hz ha) (fun e x E s a w' he r hk => ?_) (fun E s a w' r hk => hC dat G w hpre hG E s a w' r hk)
  have key : retOK tt s fn.results.toList (con.run dat).rets → a.defers = [] ∧ ∃ v, (results fn a.tmps).run P w' = .ok v w' ∧ ∃ v', Ending.returned v = .returned v' ∧ RetOK G w (con.run dat).rets v' w' := by
    intro hret
    obtain ⟨v, h1, h2⟩ := ret_done cx r hret
    exact ⟨r.defers, v, h1, v, rfl, h2⟩
  cases e with
  | normal => cases he; exact key hk
  | ret => cases he; exact key hk
  | exit id => exact hk.elim
  | panic p => exact hk.elim
end
end Go.RX
