/- Part Y: as part X; the code up to the region may hold loops. -/
import Derived.Test.YtjncolngfeglkaaRxX
set_option linter.all false
namespace Go.RX
open Go Go.RowKit

/-- The code up to the region n. -/
def execL (tt : TT) (tb : Nat → Option Con) (inl : InlT) (lp : Loops) (n : Nat) : Code → (Ex → St → Prop) → (St → Prop) → St → Prop
  | .seq x y, K, KC, s => exec tt tb inl lp x s (tC (if firstReg y = n then KC else execL tt tb inl lp n y K KC) K)
  | _, _, _, _ => False

section
variable {P : Program} {tt : TT} {tb : Nat → Option Con} {N : Nat} {G0 : Addr → Prop} {w0 : World} {vs : List Value} {ds : List Deferred}
theorem execL_ok (cx : Ctx P tt tb) (hm : P.follows .mixedOrders = true) {inl : InlT} (hi : InlOK P inl) {lp : Loops} {n : Nat} : ∀ {c : Code} {K : Ex → St → Prop} {KC : St → Prop} {Q : Exit → Act → World → Prop} {E : Env} {s : St} {a : Act} {w : World},
    execL tt tb inl lp n c K KC s → Rel P N G0 w0 vs ds E s a w → (∀ e x E s a w, OutOK E s.heap w e x → Rel P N G0 w0 vs ds E s a w → K e s → Q x a w) →
    (∀ E s a w, Rel P N G0 w0 vs ds E s a w → KC s → (sufC n c).wp P Q a w) → c.wp P Q a w := by
  intro c
  induction c with
  | seq x y ihx ihy =>
    intro K KC Q E s a w h r hK hC
    unfold execL at h
    refine wp_seq (exec_ok cx hm hi x h r fun e x' E s a w ho r hk => ?_)
    cases e with
    | normal =>
      cases ho
      show y.wp P Q a w
      unfold tC at hk
      simp only at hk
      by_cases hy : firstReg y = n
      · rw [if_pos hy] at hk
        have := hC E s a w r hk
        unfold sufC at this
        rw [if_pos hy] at this
        exact this
      · rw [if_neg hy] at hk
        refine ihy hk r hK fun E s a w r hk => ?_
        have := hC E s a w r hk
        unfold sufC at this
        rw [if_neg hy] at this
        exact this
    | exit id => cases ho; exact hK (.exit id) _ E s a w rfl r hk
    | ret => cases ho; exact hK .ret _ E s a w rfl r hk
    | panic p =>
      have ho' := ho
      obtain ⟨v, rfl, hv⟩ := ho
      exact hK (.panic p) _ E s a w ho' r hk
  | _ => intro K KC Q E s a w h; exact h.elim

/-- A function meets its contract; its end by hand. -/
theorem conOK_of_execL {inl : InlT} (hi : InlOK P inl) (cx : Ctx P tt tb) (hm : P.follows .mixedOrders = true) {lp : Loops} {f : FuncId} {fn : Func} {c : Code} {con : Con} (hf : P.funcs[f]? = some fn) (hb : fn.body = some c)
    (hn : (fn.name == "runtime.NumGoroutine") = false) (n : Nat) (KC : List D → St → Prop)
    (h : ∀ dat, (con.run dat).pre → WTs con.tys dat → execL tt tb inl lp n c (doneE tt fn.results.toList (con.run dat).rets) (KC dat) (initSt fn.ntmps (svs con.tys dat)))
    (hC : ∀ dat (G : Addr → Prop) (w : World), (con.run dat).pre → (∀ b, G b → b.block < w.heap.size) → VarsOK P w.heap.size w → ∀ E s a w', Rel P w.heap.size G w [] [] E s a w' → KC dat s →
      (sufC n c).wp P (bodyPost P fn fun e w'' => ∃ v, e = .returned v ∧ RetOK G w (con.run dat).rets v w'') a w') : ConOK P f con := by
  refine ⟨⟨fn, c, hf, hb, hn⟩, fun G w dat args hG hz ha0 hpre => ?_⟩
  obtain ⟨ha, hwt⟩ := argsR_pr ha0
  refine calls_of_wp hf hb ?_
  refine execL_ok cx hm hi (h dat hpre hwt) (init_rel hG hz ha) (fun e x E s a w' he r hk => ?_) (fun E s a w' r hk => hC dat G w hpre hG hz E s a w' r hk)
  have key : retOK tt s fn.results.toList (con.run dat).rets → a.defers = [] ∧ ∃ v, (results fn a.tmps).run P w' = .ok v w' ∧ ∃ v', Ending.returned v = .returned v' ∧ RetOK G w (con.run dat).rets v' w' := by
    intro hret
    obtain ⟨v, h1, h2⟩ := ret_done cx r hret
    exact ⟨r.defers, v, h1, v, rfl, h2⟩
  cases e with
  | normal => cases he; exact key hk
  | ret => cases he; exact key hk
  | exit id => exact hk.elim
  | panic p => exact hk.elim
end
end Go.RX
