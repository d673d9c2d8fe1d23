/- Part Q: functions. -/
import Derived.Test.YtafpahkcjdfpiaaDoorRxP
set_option linter.all false
namespace Go.RX
open Go Go.RowKit

def initSt (n : Nat) (vals : List V0) : St := ⟨vals.map SV.v ++ List.replicate (n - vals.length) (.v (.one .undf)), [], []⟩

/-- The arguments' values, from their data. -/
def svs : List Ty → List D → List V0
  | t :: ts, d :: ds => svOf t d :: svs ts ds
  | _, _ => []

def WTs : List Ty → List D → Prop
  | [], [] => True
  | t :: ts, d :: ds => WT t d ∧ WTs ts ds
  | _, _ => False

theorem svOf_pr {W : World} {G : Addr → Prop} {t : Ty} {x : D} {ys : List Value} (h : Rd G W t ys x) : PR0 G W (svOf t x) (t.val ys) := by
  have h1 := Rd.sv h
  unfold svOf Ty.val
  cases ha : t.isAgg with
  | true => exact ⟨ys.toArray, rfl, by simpa using h1⟩
  | false =>
    have hl := svAt_len t x none
    rw [n_of_not_agg ha] at hl
    match hs : svAt t x none, hl with
    | [s], _ =>
      rw [hs] at h1
      match ys, h1 with
      | [v], h1 => exact h1.1

theorem argsR_pr {G : Addr → Prop} {w : World} : ∀ {tys : List Ty} {ds : List D} {vs : List Value}, ArgsR G w tys ds vs → All2 (PR0 G w) (svs tys ds) vs ∧ WTs tys ds
  | [], [], [], _ => ⟨trivial, trivial⟩
  | t :: ts, d :: ds, v :: vs, h => by
    obtain ⟨⟨cs, rfl, hr⟩, h2⟩ := h
    obtain ⟨h3, h4⟩ := argsR_pr h2
    exact ⟨⟨svOf_pr hr, h3⟩, hr.wt, h4⟩
  | [], _ :: _, _, h => h.elim
  | _ :: _, [], _, h => h.elim
  | [], [], _ :: _, h => h.elim
  | _ :: _, _ :: _, [], h => h.elim

/-! ### Results -/
/-- The results against the contract's: a condition; the rows that become data; the rows handed over. -/
def retV (lk : Look) : List RV → List V0 → Option (List Prop × List (Nat × SB) × List Nat)
  | [], [] => some ([], [], [])
  | .sv y :: rs, x :: xs =>
    match persV lk x, retV lk rs xs with
    | some (x', fz), some (p, fz', fr) => some (m0 [] [] x' y :: p, fz ++ fz', fr)
    | _, _ => none
  | .fresh et e d :: rs, .one .nilsl :: xs =>
    match retV lk rs xs with
    | some (p, fz, fr) => some ((d = []) :: p, fz, fr)
    | none => none
  | .fresh et e d :: rs, .one (.row h k) :: xs =>
    match lk.get h, retV lk rs xs with
    | some (.row ver et' e' xs'), some (p, fz, fr) => if k = ver ∧ et = et' ∧ e = e' then some ((xs' = d) :: p, fz, h :: fr) else none
    | _, _ => none
  | _, _ => none

def allP : List Prop → Prop
  | [] => True
  | [p] => p
  | p :: r => p ∧ allP r

def retOK (tt : TT) (s : St) (results : List ResultVar) (rets : List RV) : Prop :=
  match resE tt s results with
  | some l =>
    match retV (s.look1) rets l with
    | some (p, fz, fr) => if (fz.all fun y => !(fr.contains y.1)) = true then allP p else False
    | none => False
  | none => False

def doneE (tt : TT) (results : List ResultVar) (rets : List RV) : Ex → St → Prop
  | .normal, s => retOK tt s results rets
  | .ret, s => retOK tt s results rets
  | _, _ => False

theorem allP_iff : ∀ {l : List Prop}, allP l → ∀ c ∈ l, c
  | [], _, c, hc => by cases hc
  | [p], h, c, hc => by rw [List.mem_singleton.1 hc]; exact h
  | p :: q :: r, h, c, hc => by
    rcases List.mem_cons.1 hc with rfl | hc
    · exact h.1
    · exact allP_iff h.2 c hc

section
variable {P : Program} {tt : TT} {tb : Nat → Option Con} {N : Nat} {G0 : Addr → Prop} {w0 : World} {vs : List Value} {ds : List Deferred} {E : Env} {s : St} {a : Act} {w : World}

def RQ (E0 : Env) (H0 : Heap) (w : World) (fr : List Nat) (G : Addr → Prop) : RV → Value → Prop
  | .sv y, u => PR0 G w y u
  | .fresh et e d, u => (u = .slice none 0 0 ∧ d = []) ∨ ∃ h ver, h ∈ fr ∧ H0.get h = some (.row ver et e d) ∧ u = E0.hd h

theorem RQ.mono {E0 : Env} {H0 : Heap} {fr fr' : List Nat} {G G' : Addr → Prop} (hf : ∀ h ∈ fr, h ∈ fr') (hg : ∀ a, G a → G' a) {x : RV} {u : Value} (h : RQ E0 H0 w fr G x u) : RQ E0 H0 w fr' G' x u := by
  cases x with
  | sv y => exact PR0.mono hg (fun _ _ => rfl) h
  | fresh et e d =>
    rcases h with h | ⟨k, ver, h1, h2⟩
    · exact .inl h
    · exact .inr ⟨k, ver, hf k h1, h2⟩

/-- Persistent values match as they are. -/
theorem m1_pr {G : Addr → Prop} {x y : S1} (h : m1 [] [] x y) {v : Value} (hv : PR G w x v) : PR G w y v := by
  have h1 : VR ⟨fun _ => 0, fun _ => undef, G, G⟩ [] w x v := VR.of_pr hv
  have h2 := m1_vr (H := []) (H' := []) (fun _ _ h => by simp [Heap.get] at h) h h1
  cases y with
  | ptr h o =>
    obtain ⟨⟨cs, hcs⟩, _⟩ := h2
    simp [Heap.get] at hcs
  | row h k =>
    obtain ⟨_, h3⟩ := h2
    simp [Heap.get] at h3
  | rptr h k e i f =>
    obtain ⟨_, h3⟩ := h2
    simp [Heap.get] at h3
  | fn f caps => cases x <;> first | exact hv.elim | exact h.elim | (simp [m1] at h)
  | mp k =>
    obtain ⟨⟨cs, hcs⟩, _⟩ := h2
    simp [Heap.get] at hcs
  | mapc e xs => exact h2
  | _ => exact h2
theorem mL_pr {G : Addr → Prop} : ∀ {x y : List S1} {vs : List Value}, mL [] [] x y → All2 (PR G w) x vs → All2 (PR G w) y vs
  | [], [], [], _, _ => trivial
  | [], [], _ :: _, _, ha => ha.elim
  | [a], [b], [v], h, ha => ⟨m1_pr h ha.1, trivial⟩
  | a :: a2 :: r, b :: b2 :: r', v :: vs, h, ha => ⟨m1_pr h.1 ha.1, mL_pr h.2 ha.2⟩
  | [], _ :: _, _, h, _ => h.elim
  | [_], [], _, h, _ => h.elim
  | [_], _ :: _ :: _, v :: vs, h, ha => by
    simp only [mL] at h
    exact h.2.elim
  | _ :: _ :: _, [], _, h, _ => h.elim
  | _ :: _ :: _, [_], v :: vs, h, ha => by
    simp only [mL] at h
    exact h.2.elim
  | _ :: _, _, [], _, ha => ha.elim
  | [_], [_], _ :: _ :: _, _, ha => ha.2.elim
theorem m0_pr {G : Addr → Prop} {x y : V0} (h : m0 [] [] x y) {v : Value} (hv : PR0 G w x v) : PR0 G w y v := by
  unfold m0 at h
  split at h
  · exact m1_pr h hv
  · obtain ⟨vs, h1, h2⟩ := hv
    exact ⟨vs, h1, mL_pr h h2⟩
  · exact h.elim

theorem retV_ok {E0 : Env} {H0 : Heap} {lk : Look} (hlk0 : ∀ k, lk.get k = H0.get k) : ∀ {rs : List RV} {xs : List V0} {us : List Value} {p : List Prop} {fz : List (Nat × SB)} {fr : List Nat} {E : Env} {H : Heap},
    HR P N E H w → Step E0 E H0 H w w → E.hd = E0.hd → (∀ hs, LkF lk H hs) → retV lk rs xs = some (p, fz, fr) → All2 (VR0 E0 H0 w) xs us → (∀ c ∈ p, c) →
    ∃ E', Froze P N E H w fz E' ∧ All2 (RQ E0 H0 w fr E'.G) rs us
  | [], [], [], p, fz, fr, E, H, hr, _, _, _, h, _, _ => by
    simp only [retV] at h; cases h
    exact ⟨E, Froze.nil hr, trivial⟩
  | .sv y :: rs, x :: xs, u :: us, p, fz, fr, E, H, hr, hst, hhd, hlk, h, ha, hp => by
    simp only [retV] at h
    split at h
    · rename_i x' fz1 p' fz2 fr' h1 h2
      cases h
      obtain ⟨E1, hf1, hp1⟩ := persV_ok hr h1 (hlk _) (hst.vr0 ha.1)
      obtain ⟨E2, hf2, hall⟩ := retV_ok hlk0 hf1.hr (hst.trans hf1.st) (hf1.hd.trans hhd) (fun hs => (hlk hs).next hf1.only) h2 ha.2 (fun c hc => hp c (List.mem_cons_of_mem _ hc))
      refine ⟨E2, hf1.append hf2, m0_pr (hp _ List.mem_cons_self) (PR0.mono hf2.st.g (fun _ _ => rfl) hp1), hall⟩
    · cases h
  | .fresh et e d :: rs, .one .nilsl :: xs, u :: us, p, fz, fr, E, H, hr, hst, hhd, hlk, h, ha, hp => by
    simp only [retV] at h
    split at h
    · rename_i p' fz2 fr' h2
      cases h
      obtain ⟨E2, hf2, hall⟩ := retV_ok hlk0 hr hst hhd hlk h2 ha.2 (fun c hc => hp c (List.mem_cons_of_mem _ hc))
      exact ⟨E2, hf2, .inl ⟨ha.1, hp _ List.mem_cons_self⟩, hall⟩
    · cases h
  | .fresh et e d :: rs, .one (.row k ver0) :: xs, u :: us, p, fz, fr, E, H, hr, hst, hhd, hlk, h, ha, hp => by
    simp only [retV] at h
    split at h
    · rename_i ver et' e' xs' p' fz2 fr' h1 h2
      split at h
      · rename_i hc
        obtain ⟨rfl, rfl, rfl⟩ := hc
        cases h
        obtain ⟨E2, hf2, hall⟩ := retV_ok hlk0 hr hst hhd hlk h2 ha.2 (fun c hc => hp c (List.mem_cons_of_mem _ hc))
        have hd : xs' = d := hp _ List.mem_cons_self
        subst hd
        have hu := ha.1.2
        rw [hlk0] at h1
        rw [h1] at hu
        exact ⟨E2, hf2, .inr ⟨k, ver0, List.mem_cons_self, h1, hu.2 rfl⟩, hall.mono fun _ _ h => h.mono (fun _ h => List.mem_cons_of_mem _ h) (fun _ h => h)⟩
      · cases h
    · cases h
  | .fresh _ _ _ :: _, .one (.int _ _) :: _, _, _, _, _, _, _, _, _, _, _, h, _, _ => by simp [retV] at h
  | .fresh _ _ _ :: _, .one (.bool _) :: _, _, _, _, _, _, _, _, _, _, _, h, _, _ => by simp [retV] at h
  | .fresh _ _ _ :: _, .one .tt :: _, _, _, _, _, _, _, _, _, _, _, h, _, _ => by simp [retV] at h
  | .fresh _ _ _ :: _, .one .ff :: _, _, _, _, _, _, _, _, _, _, _, h, _, _ => by simp [retV] at h
  | .fresh _ _ _ :: _, .one (.str _) :: _, _, _, _, _, _, _, _, _, _, _, h, _, _ => by simp [retV] at h
  | .fresh _ _ _ :: _, .one (.sl _ _) :: _, _, _, _, _, _, _, _, _, _, _, h, _, _ => by simp [retV] at h
  | .fresh _ _ _ :: _, .one (.ptr _ _) :: _, _, _, _, _, _, _, _, _, _, _, h, _, _ => by simp [retV] at h
  | .fresh _ _ _ :: _, .one (.rptr _ _ _ _ _) :: _, _, _, _, _, _, _, _, _, _, _, h, _, _ => by simp [retV] at h
  | .fresh _ _ _ :: _, .one (.pptr _ _) :: _, _, _, _, _, _, _, _, _, _, _, h, _, _ => by simp [retV] at h
  | .fresh _ _ _ :: _, .one (.fn _ _) :: _, _, _, _, _, _, _, _, _, _, _, h, _, _ => by simp [retV] at h
  | .fresh _ _ _ :: _, .one (.ifc _ _ _) :: _, _, _, _, _, _, _, _, _, _, _, h, _, _ => by simp [retV] at h
  | .fresh _ _ _ :: _, .one .nilifc :: _, _, _, _, _, _, _, _, _, _, _, h, _, _ => by simp [retV] at h
  | .fresh _ _ _ :: _, .one .undf :: _, _, _, _, _, _, _, _, _, _, _, h, _, _ => by simp [retV] at h
  | .fresh _ _ _ :: _, .one (.mp _) :: _, _, _, _, _, _, _, _, _, _, _, h, _, _ => by simp [retV] at h
  | .fresh _ _ _ :: _, .one (.mapc _ _) :: _, _, _, _, _, _, _, _, _, _, _, h, _, _ => by simp [retV] at h
  | .fresh _ _ _ :: _, .one .junk :: _, _, _, _, _, _, _, _, _, _, _, h, _, _ => by simp [retV] at h
  | .fresh _ _ _ :: _, .agg _ :: _, _, _, _, _, _, _, _, _, _, _, h, _, _ => by simp [retV] at h
  | .fresh _ _ _ :: _, [], _, _, _, _, _, _, _, _, _, _, h, _, _ => by simp [retV] at h
  | .sv _ :: _, [], _, _, _, _, _, _, _, _, _, _, h, _, _ => by simp [retV] at h
  | [], _ :: _, _, _, _, _, _, _, _, _, _, _, h, _, _ => by simp [retV] at h
  | [], [], _ :: _, _, _, _, _, _, _, _, _, _, _, h, _ => h.elim
  | _ :: _, _ :: _, [], _, _, _, _, _, _, _, _, _, _, h, _ => h.elim

def noInl : InlT := fun _ => none
theorem noInl_ok {P : Program} : InlOK P noInl := fun _ _ h => by cases h

theorem init_rel {w : World} {G : Addr → Prop} {tys : List Ty} {dat : List D} {args : List Value} {n : Nat} (hG : ∀ b, G b → b.block < w.heap.size) (hz : VarsOK P w.heap.size w) (ha : All2 (PR0 G w) (svs tys dat) args) :
    Rel P w.heap.size G w [] [] ⟨fun _ => 0, fun _ => undef, G, G⟩ (initSt n (svs tys dat)) { tmps := args.toArray ++ Array.replicate (n - args.toArray.size) undef, defers := [] } w := by
  have hargs := ha.len
  let E0 : Env := ⟨fun _ => 0, fun _ => undef, G, G⟩
  refine ⟨?_, trivial, rfl, Below.refl _ w, Nat.le_refl _, ⟨fun h cells hx => by simp [initSt, Heap.get] at hx, fun h ver et e xs hx => by simp [initSt, Heap.get] at hx, fun h h' a _ => ?_, fun a _ h hs => ?_, hG, ⟨fun _ h => h, fun _ h => .inl h⟩, hz⟩, rfl⟩
  · simp only [initSt, Array.toList_append, Array.toList_replicate, List.size_toArray, hargs]
    refine All2.append ?_ (All2.replicate ?_ _)
    · have key : ∀ {vs : List V0} {us : List Value}, All2 (PR0 G w) vs us → All2 (VRS E0 [] w) (vs.map SV.v) us := by
        intro vs
        induction vs with
        | nil => intro us h; cases us with
          | nil => trivial
          | cons u us => exact h.elim
        | cons v vs ih => intro us h; cases us with
          | nil => exact h.elim
          | cons u us => exact ⟨VR0.of_pr (E := E0) h.1, ih h.2⟩
      exact key ha
    · exact rfl
  · rcases a with ⟨cs, h1⟩ | ⟨_, _, _, _, h1, _⟩ <;> simp [initSt, Heap.get] at h1
  · rcases hs with ⟨cs, h1⟩ | ⟨_, _, _, _, h1, _⟩ <;> simp [initSt, Heap.get] at h1

theorem ret_done (cx : Ctx P tt tb) {fn : Func} {rets : List RV} {G : Addr → Prop} {w w' : World} {vs : List Value} {ds : List Deferred} {E : Env} {s : St} {a : Act} (r : Rel P w.heap.size G w vs ds E s a w') (hret : retOK tt s fn.results.toList rets) :
    ∃ v, (results fn a.tmps).run P w' = .ok v w' ∧ RetOK G w rets v w' := by
  unfold retOK at hret
  split at hret
  · rename_i l hl
    split at hret
    · rename_i p fz fr hv
      split at hret
      · rename_i hdis
        obtain ⟨us, hus, hall⟩ := resE_ok cx.tt r hl
        obtain ⟨E', hfr, hq⟩ := retV_ok (look1_get s) r.hr (Step.refl E s.heap w') rfl (fun hs => LkF.of_eq fun k _ => look1_get s k) hv hall (allP_iff hret)
        refine ⟨packVal us, ?_, r.below, E'.G, ?_, ?_, us, rfl, ?_⟩
        · rw [results_eq]
          have hmm : (fn.results.mapM (resF a.tmps)).run P w' = .ok us.toArray w' := by
            rw [Array.mapM_eq_mapM_toList]
            simp [hus]
          simp only [Sem.run_bind, hmm, Result.andThen_ok, Sem.run_pure, pack_if]
        · exact fun b hb => hfr.hr.gz.1 b (by rw [hfr.st.g0, r.g0]; exact hb)
        · exact fun b hb => (hfr.hr.gz.2 b hb).imp (fun h => by rw [hfr.st.g0, r.g0] at h; exact h) (fun h => ⟨h, hfr.hr.gin b hb⟩)
        · refine hq.mono fun rv u hru => ?_
          cases rv with
          | sv y => exact hru
          | fresh et e d =>
            rcases hru with ⟨rfl, rfl⟩ | ⟨k, ver, hk1, hk2, hk3⟩
            · exact ⟨[], World.ownsRow_nil w' _ _ _, rfl, fun g hg => by cases hg⟩
            · have hot : (putAll s.heap fz).get k = s.heap.get k := frozen_other hfr (by
                rw [List.all_eq_true]
                intro y hy
                have h1 := (List.all_eq_true.1 hdis) y hy
                simp only [Bool.not_eq_true', bne_iff_ne, ne_eq] at h1 ⊢
                intro e
                rw [e] at h1
                simp [hk1] at h1)
              have hb := hot.trans hk2
              obtain ⟨cells, c1, c2, c3⟩ := hfr.hr.row k ver et e d hb
              rw [hk3, ← hfr.hd]
              refine ⟨cells, c1, c2, fun g hg b hbG => ?_⟩
              rw [c3 g hg]
              exact hfr.hr.gout b hbG k (.inr ⟨ver, et, e, d, hb, by rw [hg]; simp⟩)
      · exact hret.elim
    · exact hret.elim
  · exact hret.elim

/-- **A function meets its contract.** -/
theorem conOK_of_exec {lp : Loops} {inl : InlT} (hi : InlOK P inl) (cx : Ctx P tt tb) (hm : P.follows .mixedOrders = true) {f : FuncId} {fn : Func} {c : Code} {con : Con} (hf : P.funcs[f]? = some fn) (hb : fn.body = some c)
    (hn : (fn.name == "runtime.NumGoroutine") = false)
    (h : ∀ dat, (con.run dat).pre → WTs con.tys dat → exec tt tb inl lp c (initSt fn.ntmps (svs con.tys dat)) (doneE tt fn.results.toList (con.run dat).rets)) : ConOK P f con := by
  refine ⟨⟨fn, c, hf, hb, hn⟩, fun G w dat args hG hz ha0 hpre => ?_⟩
  obtain ⟨ha, hwt⟩ := argsR_pr ha0
  refine calls_of_wp hf hb ?_
  refine exec_ok cx hm hi c (h dat hpre hwt) (init_rel hG hz ha) (fun e x E s a w' he r hk => ?_)
  have key : retOK tt s fn.results.toList (con.run dat).rets → a.defers = [] ∧ ∃ v, (results fn a.tmps).run P w' = .ok v w' ∧ ∃ v', Ending.returned v = .returned v' ∧ RetOK G w (con.run dat).rets v' w' := by
    intro hret
    obtain ⟨v, h1, h2⟩ := ret_done cx r hret
    exact ⟨r.defers, v, h1, v, rfl, h2⟩
  cases e with
  | normal => cases he; exact key hk
  | ret => cases he; exact key hk
  | exit id => exact hk.elim
  | panic p => exact hk.elim

end
end Go.RX
