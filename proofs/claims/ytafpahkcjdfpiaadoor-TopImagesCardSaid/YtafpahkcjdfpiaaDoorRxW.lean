/- Part W: functions with one deferred closure that recovers. -/
import Derived.Test.YtafpahkcjdfpiaaDoorRxQ
import Derived.Recover
set_option linter.all false
namespace Go.RX
open Go Go.RowKit

def deferOf (o : Oper) : Option Nat :=
  match o.dst, o.op, o.guard with
  | none, .defer ⟨.value (.tmp t), args, _⟩, none => if args.size = 0 then some t else none
  | _, _, _ => none
def recOf (o : Oper) : Option Nat :=
  match o.dst, o.op, o.guard with
  | some t, .call ⟨.builtin .recover, args, _⟩, none => if args.size = 0 then some t else none
  | _, _, _ => none

def recSt (n : Nat) (caps : List Nat) (p : S1) (t : Nat) (s : St) : St :=
  (enterSt n (caps.map fun h => V0.one (.ptr h 0)) s).with (some t) (.v (.one p)) s.heap
def cloBase : Nat := 900000000
def noP : S1 → St → Prop := fun _ _ => False
def cloRest (tt : TT) (tb : Nat → Option Con) (inl : InlT) (I : Inl) (rest : Code) (n : Nat) (K : St → Prop) : St → Prop :=
  fun s2 => execG tt tb (isIn inl) (callL tt tb inl 6) cloBase I.lp rest s2 (retX tt I.fn.results.toList n (fun _ s => K s) noP)

/-- The deferred closure is called; p is the panic under way, or nil. -/
def closeE (tt : TT) (tb : Nat → Option Con) (inl : InlT) (f : Nat) (caps : List Nat) (p : S1) (s : St) (K : St → Prop) : Prop :=
  match inl f with
  | none => False
  | some I => match I.body with
    | .seq (.region _ ops false) rest => (match ops.toList with
      | rc :: l => (match recOf rc with
        | some t => runOpsG tt tb (isIn inl) (callL tt tb inl 6) cloBase ops.toList l 1 (recSt I.fn.ntmps caps p t s) (cloRest tt tb inl I rest s.slots.length K) noP
        | none => False)
      | [] => False)
    | _ => False

def defEnd (tt : TT) (tb : Nat → Option Con) (inl : InlT) (K : St → Prop) : Ex → St → Prop := fun e s3 =>
  match s3.susp with
  | [.v (.one (.fn f caps))] => (match e with
    | .normal => closeE tt tb inl f caps .nilifc ⟨s3.slots, [], s3.heap⟩ K
    | .ret => closeE tt tb inl f caps .nilifc ⟨s3.slots, [], s3.heap⟩ K
    | .panic p => closeE tt tb inl f caps p ⟨s3.slots, [], s3.heap⟩ K
    | .exit _ => False)
  | _ => False
def defAfter (tt : TT) (tb : Nat → Option Con) (inl : InlT) (lp : Loops) (t : Nat) (B : Code) (K : St → Prop) : St → Prop := fun s2 =>
  match s2.slots[t]? with
  | some (.v (.one (.fn f caps))) => exec tt tb inl lp B ⟨s2.slots, [.v (.one (.fn f caps))], s2.heap⟩ (defEnd tt tb inl K)
  | _ => False
def defStart (tt : TT) (tb : Nat → Option Con) (inl : InlT) (lp : Loops) (ops : List Oper) (mk : Oper) (t : Nat) (B : Code) (K : St → Prop) : Ex → St → Prop := fun e s1 =>
  match e with
  | .normal => runOpsG tt tb (isIn inl) (callL tt tb inl 6) 0 ops [mk] 0 s1 (defAfter tt tb inl lp t B K) noP
  | _ => False
/-- A function that defers a closure at its beginning. -/
def execD (tt : TT) (tb : Nat → Option Con) (inl : InlT) (lp : Loops) (c : Code) (s : St) (K : St → Prop) : Prop :=
  match c with
  | .seq A (.seq (.region _ ops false) B) => (match ops.toList with
    | [mk, df] => (match deferOf df with
      | some t => exec tt tb inl lp A s (defStart tt tb inl lp ops.toList mk t B K)
      | none => False)
    | _ => False)
  | _ => False

section
variable {P : Program}
theorem upon_mono {Q : Exit → Act → World → Prop} {o : Oper} {a : Act} {K K' : Act → World → Prop} (h : ∀ a w, K a w → K' a w) {r : Result Next} (hh : o.upon P a K Q r) : o.upon P a K' Q r := by
  cases r with
  | ok n w' =>
    cases n <;> simp only [Oper.upon] at hh ⊢ <;>
      first
        | exact h _ _ hh
        | exact hh
        | (refine hh.mono fun e w'' he => ?_
           cases e <;> first | exact h _ _ he | exact he)
        | (refine Rows.mono hh fun v w'' he => ?_
           exact h _ _ he)
        | (obtain ⟨v, w'', h1, h2⟩ := hh; exact ⟨v, w'', h _ _ h1, h2⟩)
        | (intro fr cs; obtain ⟨v, w'', h1, h2⟩ := hh fr cs; exact ⟨v, w'', h _ _ h1, h2⟩)
  | halt x w' => cases x <;> exact hh

theorem wpOpsS_of_wpOps {ops : Array Oper} {Q : Exit → Act → List Frame → World → Prop} {cs : List Frame} (hno : ∀ a w, ¬ Q .outgrown a cs w) : ∀ (l : List Nat) (a : Act) (w : World),
    wpOps P ops (fun e a w => Q e a cs w) l a w → wpOpsS P ops Q l a cs w
  | [], a, w, h => h
  | i :: rest, a, w, h => by
    have ih := wpOpsS_of_wpOps (ops := ops) hno rest
    simp only [wpOps] at h
    simp only [wpOpsS]
    split at h
    · rename_i ho; rw [ho]; exact ih _ _ h
    · rename_i o ho
      split at h
      · rename_i hw
        simp only [ho]
        rw [if_pos hw]
        rcases h with h | ⟨_, a', w', h⟩
        · unfold Oper.wp at h
          generalize (execOp a.eval o).run P w = r at *
          split
          · exact h.elim
          · exact upon_mono (fun a w => ih a w) h
        · exact (hno _ _ h).elim
      · rename_i hw
        simp only [ho]
        rw [if_neg hw]
        exact ih _ _ h
end

section
variable {P : Program} {tt : TT} {tb : Nat → Option Con} {lp : Loops} {inl : InlT} {N : Nat} {G0 : Addr → Prop} {w0 : World} {vs : List Value} {ds : List Deferred}

def caller (u : FrameMode) : FrameMode :=
  match u with
  | .panicking [{ v, recovered := false, goexit := false }] => .panicking [{ v, recovered := true }]
  | _ => u

theorem closeE_ok (cx : Ctx P tt tb) (hm : P.follows .mixedOrders = true) (hi : InlOK P inl) {f : Nat} {caps : List Nat} {p : S1} {s : St} {K : St → Prop} {E : Env} {a : Act} {w : World} {fv : Value} (h : closeE tt tb inl f caps p s K)
    (r : Rel P N G0 w0 vs ds E s a w) (hf : VR E s.heap w (.fn f caps) fv) {u : FrameMode} (hu : (u = .returning ∧ p = .nilifc) ∨ ∃ v, u = .panicking [{ v, recovered := false }] ∧ VR E s.heap w p v) :
    ∃ fn c, P.funcs[f]? = some fn ∧ fn.body = some c ∧ (fn.name == "runtime.NumGoroutine") = false ∧
      CallsD P f (caps.map fun h => Value.pointer (some ⟨E.bm h, 0, none⟩)).toArray u w fun e u' w' => (∃ v, e = .returned v) ∧ settle u' = .returning ∧ ∃ E' s', Rel P N G0 w0 vs ds E' s' a w' ∧ K s' := by
  unfold closeE at h
  split at h
  · exact h.elim
  · rename_i I hI
    obtain ⟨hfn, hb, hname⟩ := hi f I hI
    split at h
    · rename_i id ops rest hbody
      split at h
      · rename_i rc l hops
        split at h
        · rename_i t hrc
          refine ⟨I.fn, I.body, hfn, hb, hname, callsD_of_wpS hfn hb fun c₀ cs hc => ?_⟩
          rw [hbody]
          have re := enter_rel (n := I.fn.ntmps) r (caps_ptr hf.1)
          -- the first operation
          obtain ⟨dst, op, type, pos, after, guard⟩ := rc
          unfold recOf at hrc
          split at hrc
          · rename_i t' args ats e1 e2 e3
            simp only at e1 e2 e3
            subst e1 e2 e3
            split at hrc
            · rename_i hz
              cases hrc
              have hargs : args = #[] := Array.eq_empty_of_size_eq_zero hz
              subst hargs
              have h0 : ops[0]? = some ⟨some t, .call ⟨.builtin .recover, #[], ats⟩, type, pos, after, none⟩ := by
                rw [← Array.getElem?_toList, hops]; rfl
              have hsz : ops.size = l.length + 1 := by rw [← Array.length_toList, hops]; rfl
              refine wpS_seq (wpS_region ?_)
              have hrange : List.range ops.size = 0 :: List.range' 1 l.length := by
                rw [List.range_eq_range', hsz, List.range'_succ]
              rw [hrange]
              simp only [wpOpsS, h0]
              have hrun : ∀ ev : Operand → Value, (execOp ev ⟨some t, .call ⟨.builtin .recover, #[], ats⟩, type, pos, after, none⟩).run P w = .ok .recover w := fun ev => by
                simp only [execOp, resolve]
                rfl
              rw [hrun]
              have hwant : Region.wanted ⟨some t, .call ⟨.builtin .recover, #[], ats⟩, type, pos, after, none⟩ (yielded ops ((caps.map fun h => Value.pointer (some ⟨E.bm h, 0, none⟩)).toArray ++ Array.replicate (I.fn.ntmps - (caps.map fun h => Value.pointer (some ⟨E.bm h, 0, none⟩)).toArray.size) undef)) = true := rfl
              rw [if_pos hwant]
              -- what follows
              have go : ∀ (pv : Value) (u' : FrameMode), VR E s.heap w p pv → settle u' = .returning →
                  wpOpsS P ops (Exit.thenS (rest.wpS P (bodyPostS P I.fn c₀ cs fun e u' w' => (∃ v, e = .returned v) ∧ settle u' = .returning ∧ ∃ E' s', Rel P N G0 w0 vs ds E' s' a w' ∧ K s')) (bodyPostS P I.fn c₀ cs fun e u' w' => (∃ v, e = .returned v) ∧ settle u' = .returning ∧ ∃ E' s', Rel P N G0 w0 vs ds E' s' a w' ∧ K s'))
                    (List.range' 1 l.length) (({ tmps := (caps.map fun h => Value.pointer (some ⟨E.bm h, 0, none⟩)).toArray ++ Array.replicate (I.fn.ntmps - (caps.map fun h => Value.pointer (some ⟨E.bm h, 0, none⟩)).toArray.size) undef, defers := [] } : Act).put (some t) pv) ({ c₀ with mode := u' } :: cs) w := by
                intro pv u' hpv hset
                have r1 := re.step (Step.refl E _ w) re.hr (Below.refl N w) (some t) (x := .v (.one p)) hpv
                refine wpOpsS_of_wpOps (fun a w hh => ?_) _ _ _ ?_
                · obtain ⟨_, ⟨_, hh⟩, _⟩ := hh; cases hh
                rw [wpOps_eq_wpList l 1 (fun j => by rw [← Array.getElem?_toList, hops, Nat.add_comm, List.getElem?_cons_succ])]
                refine runOpsG_seq cx (callL_ok cx hm hi 6) (fun E2 s2 a2 w2 r2 hk => ?_) (fun _ _ _ _ _ _ _ _ hk => hk.elim) l 1 E _ _ w r1 h
                refine wpS_of_wp ?_
                refine execG_ok cx hm (callL_ok cx hm hi 6) rest hk r2 (fun e x E3 s3 a3 w3 he r3 hk3 => ?_)
                have fin : ∀ {rl : List V0}, resE tt s3 I.fn.results.toList = some rl → K ⟨s3.susp.take s.slots.length, s3.susp.drop s.slots.length, s3.heap⟩ →
                    a3.defers = [] ∧ ∃ u'', ({ c₀ with mode := u' } :: cs : List Frame) = { c₀ with mode := u'' } :: cs ∧ ∃ v, (results I.fn a3.tmps).run P w3 = .ok v w3 ∧ ((∃ v', Ending.returned v = .returned v') ∧ settle u'' = .returning ∧ ∃ E' s', Rel P N G0 w0 vs ds E' s' a w3 ∧ K s') := fun {rl} hl hk => by
                  refine ⟨r3.defers, u', rfl, ?_⟩
                  obtain ⟨us, hus, hall⟩ := resE_ok cx.tt r3 hl
                  refine ⟨packVal us, ?_, ⟨_, rfl⟩, hset, E3, _, leave_rel r r3, hk⟩
                  rw [results_eq]
                  have hmm : (I.fn.results.mapM (resF a3.tmps)).run P w3 = .ok us.toArray w3 := by
                    rw [Array.mapM_eq_mapM_toList]
                    simp [hus]
                  simp only [Sem.run_bind, hmm, Result.andThen_ok, Sem.run_pure, pack_if]
                cases e with
                | normal =>
                  cases he
                  simp only [retX] at hk3
                  split at hk3
                  · rename_i rl hl; exact fin hl hk3
                  · exact hk3.elim
                | ret =>
                  cases he
                  simp only [retX] at hk3
                  split at hk3
                  · rename_i rl hl; exact fin hl hk3
                  · exact hk3.elim
                | exit id => exact hk3.elim
                | panic q => exact hk3.elim
              rcases hu with ⟨rfl, rfl⟩ | ⟨v, rfl, hv⟩
              · have hrd : recoverD (c₀ :: cs) = none := by simp [recoverD, hc]
                simp only [hrd]
                have := go .nilIface .returning rfl rfl
                rwa [show ({ c₀ with mode := FrameMode.returning } : Frame) = c₀ by rw [← hc]] at this
              · have hrd : recoverD (c₀ :: cs) = some (v, { c₀ with mode := .panicking [{ v, recovered := true }] } :: cs) := by simp [recoverD, hc]
                simp only [hrd]
                exact go v (.panicking [{ v, recovered := true }]) hv rfl
            · cases hrc
          · cases hrc
        · exact h.elim
      · exact h.elim
    · exact h.elim

def thenQ (K : Act → World → Prop) (Q : Exit → Act → World → Prop) : Exit → Act → World → Prop
  | .normal, a, w => K a w
  | e, a, w => Q e a w

theorem wpList_two {ops : Array Oper} {Q : Exit → Act → World → Prop} {x y : Oper} {a : Act} {w : World} (h : wpList P ops (thenQ (wpList P ops Q [y]) Q) [x] a w) : wpList P ops Q [x, y] a w := by
  unfold wpList at h ⊢
  split
  · rename_i hw
    rw [if_pos hw] at h
    rcases h with h | ⟨h1, a', w', h2⟩
    · exact .inl (upon_mono2 (fun a w hk => hk) (fun ch a w hk => hk) (fun ⟨a, w, hk⟩ => ⟨a, w, hk⟩) h)
    · exact .inr ⟨h1, a', w', h2⟩
  · rename_i hw
    rw [if_neg hw] at h
    exact h

/-- **A function that defers a closure meets its contract.** -/
theorem conOK_of_execD (hi : InlOK P inl) (cx : Ctx P tt tb) (hm : P.follows .mixedOrders = true) {f : FuncId} {fn : Func} {c : Code} {con : Con} (hf : P.funcs[f]? = some fn) (hb : fn.body = some c)
    (hn : (fn.name == "runtime.NumGoroutine") = false)
    (h : ∀ dat, (con.run dat).pre → WTs con.tys dat → execD tt tb inl lp c (initSt fn.ntmps (svs con.tys dat)) (fun s => retOK tt s fn.results.toList (con.run dat).rets)) : ConOK P f con := by
  refine ⟨⟨fn, c, hf, hb, hn⟩, fun G w dat args hG hz ha0 hpre => ?_⟩
  obtain ⟨ha, hwt⟩ := argsR_pr ha0
  refine calls_of_wp_defers hf hb ?_
  have h := h dat hpre hwt
  unfold execD at h
  split at h
  · rename_i A id ops B hcc
    split at h
    · rename_i mk df hops
      split at h
      · rename_i t hdf
        refine wp_seq (exec_ok cx hm hi A h (init_rel hG hz ha) (fun e x E s a w' he r hk => ?_))
        cases e with
        | normal =>
          cases he
          simp only [defStart] at hk
          refine wp_seq (wp_region_list ?_)
          rw [hops]
          refine wpList_two (runOpsG_seq cx (callL_ok cx hm hi 6) (fun E2 s2 a2 w2 r2 hk2 => ?_) (fun _ _ _ _ _ _ _ _ hk => hk.elim) [mk] 0 E s a w' r hk)
          simp only [thenQ]
          unfold defAfter at hk2
          split at hk2
          · rename_i g caps hsl
            obtain ⟨fv, hfv, hvr⟩ := r2.slots.get hsl
            have hvr : VR E2 s2.heap w2 (.fn g caps) fv := hvr
            obtain ⟨dst, op, type, pos, after, guard⟩ := df
            unfold deferOf at hdf
            split at hdf
            · rename_i t' args' ats e1 e2 e3
              simp only at e1 e2 e3
              subst e1 e2 e3
              split at hdf
              · rename_i hz
                cases hdf
                have hargs : args' = #[] := Array.eq_empty_of_size_eq_zero hz
                subst hargs
                have hev : a2.eval (.tmp t) = fv := by
                  simp only [Act.eval, Array.getD_eq_getD_getElem?]
                  rw [← Array.getElem?_toList, hfv]; rfl
                unfold wpList
                rw [if_pos (show Region.wanted ⟨none, .defer ⟨.value (.tmp t), #[], ats⟩, type, pos, after, none⟩ (yielded ops a2.tmps) = true from rfl)]
                refine .inl ?_
                unfold Oper.wp
                have hrun : (execOp a2.eval ⟨none, .defer ⟨.value (.tmp t), #[], ats⟩, type, pos, after, none⟩).run P w2 =
                    .ok (.defer ⟨.fn (.func g) (caps.map fun h => Value.pointer (some ⟨E2.bm h, 0, none⟩)).toArray, #[]⟩) w2 := by
                  simp [execOp, resolve, hev, hvr.2, Deferred.ofValue]
                rw [hrun, Oper.upon_defer]
                have r3 : Rel P w.heap.size G w [fv] [⟨.fn (.func g) (caps.map fun h => Value.pointer (some ⟨E2.bm h, 0, none⟩)).toArray, #[]⟩] E2 ⟨s2.slots, [.v (.one (.fn g caps))], s2.heap⟩
                    { a2 with defers := ⟨.fn (.func g) (caps.map fun h => Value.pointer (some ⟨E2.bm h, 0, none⟩)).toArray, #[]⟩ :: a2.defers } w2 :=
                  ⟨r2.slots, ⟨hvr, trivial⟩, by simp [r2.defers], r2.below, r2.base, r2.hr, r2.g0⟩
                refine exec_ok cx hm hi B hk2 r3 (fun e x E3 s3 a3 w3 he r3 hk3 => ?_)
                unfold defEnd at hk3
                split at hk3
                · rename_i g' caps' hsu
                  have hs3 := r3.susp
                  rw [hsu] at hs3
                  have hvr3 : VR E3 s3.heap w3 (.fn g' caps') fv := hs3.1
                  have r4 : Rel P w.heap.size G w [] [⟨.fn (.func g) (caps.map fun h => Value.pointer (some ⟨E2.bm h, 0, none⟩)).toArray, #[]⟩] E3 ⟨s3.slots, [], s3.heap⟩ a3 w3 :=
                    ⟨r3.slots, trivial, r3.defers, r3.below, r3.base, r3.hr, r3.g0⟩
                  have heq := hvr.2.symm.trans hvr3.2
                  injection heq with q1 q2 q3
                  injection q1 with q1
                  have fin : ∀ (p : S1) (u : FrameMode), ((u = .returning ∧ p = .nilifc) ∨ ∃ v, u = .panicking [{ v, recovered := false }] ∧ VR E3 s3.heap w3 p v) → closeE tt tb inl g' caps' p ⟨s3.slots, [], s3.heap⟩ (fun s => retOK tt s fn.results.toList (con.run dat).rets) →
                      Leaves P fn a3.tmps (fun e w' => ∃ v, e = .returned v ∧ RetOK G w (con.run dat).rets v w') a3.defers u w3 := fun p u hu hk => by
                    obtain ⟨gf, gc, hgf, hgb, hgn, hcall⟩ := closeE_ok cx hm hi hk r4 hvr3 hu
                    rw [r3.defers]
                    refine leaves_cons (f := g') (args := (caps'.map fun h => Value.pointer (some ⟨E3.bm h, 0, none⟩)).toArray) (by rcases hu with ⟨rfl, _⟩ | ⟨v, rfl, _⟩ <;> simp) ?_ (hcall.mono fun e u' w4 he => ?_)
                    · have h1 : gf.name ≠ "runtime.NumGoroutine" := by simpa using hgn
                      subst q1
                      simp [invoke, callFunc, hgf, h1, hgb, q3]
                    · obtain ⟨⟨v, rfl⟩, hset, E5, s5, r5, hk5⟩ := he
                      simp only [hset]
                      obtain ⟨v', h1, h2⟩ := ret_done cx r5 hk5
                      exact ⟨v', h1, v', rfl, h2⟩
                  cases e with
                  | normal => cases he; exact fin _ _ (.inl ⟨rfl, rfl⟩) hk3
                  | ret => cases he; exact fin _ _ (.inl ⟨rfl, rfl⟩) hk3
                  | exit id => exact hk3.elim
                  | panic p => obtain ⟨v, rfl, hv⟩ := he; exact fin _ _ (.inr ⟨v, rfl, hv⟩) hk3
                · exact hk3.elim
              · cases hdf
            · cases hdf
          · exact hk2.elim
        | exit id => exact hk.elim
        | ret => exact hk.elim
        | panic p => exact hk.elim
      · exact h.elim
    · exact h.elim
  · exact h.elim
end
end Go.RX
