/- Part K: calls; one operation. -/
import Derived.Test.YtafpahkcjdfpiaaDoorRxZ
set_option linter.all false
namespace Go.RX
open Go Go.RowKit

def RVR (G' : Addr → Prop) (w w' : World) : RV → Value → Prop
  | .sv x, v => PR0 G' w' x v
  | .fresh et e xs, v => ∃ cells, w'.ownsRow w.heap.size et e.n v xs.length cells ∧ RdL G' w' e cells xs ∧ (∀ g, v.ownBlock = some g → ∀ a, G' a → a.block ≠ g)

def packVal : List Value → Value
  | [x] => x
  | l => .tuple l.toArray

/-- What a call leaves: new blocks only; the results as the contract says. -/
def RetOK (G : Addr → Prop) (w : World) (rets : List RV) (v : Value) (w' : World) : Prop :=
  Below w.heap.size w w' ∧ ∃ G' : Addr → Prop, (∀ a, G a → G' a) ∧ (∀ a, G' a → G a ∨ (w.heap.size ≤ a.block ∧ a.block < w'.heap.size)) ∧
    ∃ vs, v = packVal vs ∧ All2 (RVR G' w w') rets vs

/-- The arguments read as the data. -/
def ArgsR (G : Addr → Prop) (w : World) : List Ty → List D → List Value → Prop
  | [], [], [] => True
  | t :: ts, d :: ds, v :: vs => (∃ cs, v = t.val cs ∧ Rd G w t cs d) ∧ ArgsR G w ts ds vs
  | _, _, _ => False

def ConOK (P : Program) (f : FuncId) (con : Con) : Prop :=
  (∃ fn c, P.funcs[f]? = some fn ∧ fn.body = some c ∧ (fn.name == "runtime.NumGoroutine") = false) ∧
  ∀ (G : Addr → Prop) (w : World) (ds : List D) (args : List Value), (∀ a, G a → a.block < w.heap.size) → VarsOK P w.heap.size w → ArgsR G w con.tys ds args → (con.run ds).pre →
    Calls P f args.toArray w (fun e w' => ∃ v, e = .returned v ∧ RetOK G w (con.run ds).rets v w')

theorem datas_ok {G : Addr → Prop} {w : World} : ∀ {tys : List Ty} {args : List V0} {ds : List D} {vs : List Value}, datas tys args = some ds → All2 (PR0 G w) args vs → ArgsR G w tys ds vs
  | [], [], ds, [], h, _ => by simp only [datas] at h; cases h; exact trivial
  | t :: ts, .one s :: xs, ds, v :: vs, h, ha => by
    simp only [datas] at h
    split at h
    · rename_i hag hd hds
      cases h
      exact ⟨⟨[v], (val_one hag v).symm, dOf_rd hd ⟨ha.1, trivial⟩⟩, datas_ok hds ha.2⟩
    · cases h
  | t :: ts, .agg cs :: xs, ds, v :: vs, h, ha => by
    simp only [datas] at h
    split at h
    · rename_i hag hd hds
      cases h
      obtain ⟨us, h1, h2⟩ := ha.1
      refine ⟨⟨us.toList, ?_, dOf_rd hd h2⟩, datas_ok hds ha.2⟩
      rw [val_agg hag, h1]
    · cases h
  | [], _ :: _, _, _, h, _ => by simp [datas] at h
  | _ :: _, [], _, _, h, _ => by simp [datas] at h
  | _ :: _, _ :: _, _, [], _, ha => ha.elim
  | [], [], _, _ :: _, _, ha => ha.elim

section
variable {P : Program} {N : Nat} {E : Env} {H : Heap} {w : World}

theorem rets_sv {G' : Addr → Prop} {w' : World} {d : Nat} {lk : Look} : ∀ {rets : List RV} {vs : List Value} {j : Nat} {out : List V0} {e : List (Nat × SB)}, (rets.filter RV.made).length = 0 → retsE d lk j rets = some (out, e) →
    All2 (RVR G' w w') rets vs → e = [] ∧ All2 (PR0 G' w') out vs
  | [], [], j, out, e, _, h, _ => by simp only [retsE] at h; cases h; exact ⟨rfl, trivial⟩
  | .sv x :: r, v :: vs, j, out, e, hl, h, ha => by
    simp only [retsE] at h
    cases hr : retsE d lk (j + 1) r with
    | none => simp [hr] at h
    | some y =>
      simp [hr] at h
      obtain ⟨rfl, rfl⟩ := h
      obtain ⟨h1, h2⟩ := rets_sv (by simpa [RV.made] using hl) hr ha.2
      exact ⟨h1, ha.1, h2⟩
  | .fresh .. :: r, v :: vs, j, out, e, hl, h, ha => by simp [RV.made] at hl
  | [], _ :: _, _, _, _, _, _, h => h.elim
  | _ :: _, [], _, _, _, _, _, h => h.elim

theorem plain_vr {G' : Addr → Prop} {w' : World} {E : Env} {H : Heap} {x : V0} {v : Value} (hp : RV.plain (.sv x) = true) (h : PR0 G' w' x v) : VR0 E H w' x v := by
  unfold RV.plain at hp
  split at hp <;> first | (rename_i e; cases e; exact h) | cases hp
theorem rets_plain {G' : Addr → Prop} {w' : World} {E : Env} {H : Heap} {d : Nat} {lk : Look} : ∀ {rets : List RV} {vs : List Value} {j : Nat} {out : List V0} {e : List (Nat × SB)}, (∀ x ∈ rets, RV.plain x = true) → retsE d lk j rets = some (out, e) →
    All2 (RVR G' w w') rets vs → e = [] ∧ All2 (VR0 E H w') out vs
  | [], [], j, out, e, _, h, _ => by simp only [retsE] at h; cases h; exact ⟨rfl, trivial⟩
  | .sv x :: r, v :: vs, j, out, e, hl, h, ha => by
    simp only [retsE] at h
    cases hr : retsE d lk (j + 1) r with
    | none => simp [hr] at h
    | some y =>
      simp [hr] at h
      obtain ⟨rfl, rfl⟩ := h
      obtain ⟨h1, h2⟩ := rets_plain (fun y hy => hl y (List.Mem.tail _ hy)) hr ha.2
      exact ⟨h1, plain_vr (hl _ (List.Mem.head _)) ha.1, h2⟩
  | .fresh .. :: r, v :: vs, j, out, e, hl, h, ha => by have := hl _ (List.Mem.head _); simp [RV.plain] at this
  | [], _ :: _, _, _, _, _, _, h => h.elim
  | _ :: _, [], _, _, _, _, _, h => h.elim

theorem rets_one {G' : Addr → Prop} {w' : World} {d : Nat} {lk : Look} : ∀ {rets : List RV} {vs : List Value} {j : Nat} {out : List V0} {e : List (Nat × SB)}, (rets.filter RV.made).length = 1 → retsE d lk j rets = some (out, e) →
    All2 (RVR G' w w') rets vs → ∃ k et e' xs v, e = [(d + 1 + k, .row 0 et e' xs)] ∧ j ≤ k ∧ k < j + rets.length ∧ lk.get (d + 1 + k) = none ∧ RVR G' w w' (.fresh et e' xs) v ∧
      All2 (fun x u => PR0 G' w' x u ∨ (x = .one (.row (d + 1 + k) 0) ∧ u = v)) out vs
  | [], [], j, out, e, hl, h, _ => by simp at hl
  | .sv x :: r, v :: vs, j, out, e, hl, h, ha => by
    simp only [retsE] at h
    cases hr : retsE d lk (j + 1) r with
    | none => simp [hr] at h
    | some y =>
      simp [hr] at h
      obtain ⟨rfl, rfl⟩ := h
      obtain ⟨k, et, e', xs, v', h1, h2, h3, h4, h5, h6⟩ := rets_one (by simpa [RV.made] using hl) hr ha.2
      exact ⟨k, et, e', xs, v', h1, by omega, by simp only [List.length_cons]; omega, h4, h5, .inl ha.1, h6⟩
  | .fresh et e' xs :: r, v :: vs, j, out, e, hl, h, ha => by
    simp only [retsE] at h
    split at h
    · rename_i y hlk hr
      cases h
      obtain ⟨h1, h2⟩ := rets_sv (by rw [List.filter_cons_of_pos (by rfl), List.length_cons] at hl; exact Nat.succ.inj hl) hr ha.2
      rw [h1]
      exact ⟨j, et, e', xs, v, rfl, Nat.le_refl _, by simp, hlk, ha.1, .inr ⟨rfl, rfl⟩, h2.mono fun _ _ h => .inl h⟩
    · cases h
  | [], _ :: _, _, _, _, _, _, h => h.elim
  | _ :: _, [], _, _, _, _, _, h => h.elim

theorem pack_vr {E' : Env} {H' : Heap} {w' : World} {out : List V0} {vs : List Value} (h : All2 (VR0 E' H' w') out vs) : VRS E' H' w' (packV out) (packVal vs) := by
  match out, vs, h with
  | [], [], _ => exact ⟨#[], rfl, trivial⟩
  | [x], [v], h => exact h.1
  | x :: y :: r, v :: u :: vs, h => exact ⟨_, rfl, by simpa using h⟩

theorem callE_ok {P : Program} {f : FuncId} {con : Con} (hcon : ConOK P f con) (hr : HR P N E H w) (hN : N ≤ w.heap.size) {d : Nat} {lk : Look} {args : List V0} {eff : Eff} (h : callE con d lk args = some eff)
    (hc : ∀ c ∈ eff.cs, c) (hlk : ∀ k ∈ args.flatMap V0.hs, lk.get k = H.get k) (hlkn : ∀ k ∈ newNames d, lk.get k = H.get k) {vs : List Value} (hv : All2 (VR0 E H w) args vs) :
    Calls P f vs.toArray w (fun e w' => ∃ v, e = .returned v ∧ Good P N E H w eff v w') := by
  unfold callE at h
  split at h
  · rename_i args' fz hps
    split at h
    · rename_i dat hrun
      split at h
      · rename_i out e hrt
        split at h
        · rename_i hpl
          cases h
          obtain ⟨E1, hfr, hpr⟩ := persVs_ok hr hps (LkF.of_eq hlk) hv
          refine (hcon.2 E1.G w dat vs hfr.hr.gin (hr.vz.up hN) (datas_ok hrun hpr) (hc _ (List.Mem.head _))).mono fun en w' hen => ?_
          obtain ⟨v, he, hb, G', hg, hg', vs', hvv, hall⟩ := hen
          refine ⟨v, he, ?_⟩
          obtain ⟨h1, h2⟩ := rets_plain (List.all_eq_true.1 hpl) hrt hall (E := E) (H := H)
          obtain ⟨st, hr2⟩ := hr.more hN hb (fun a h => h) (fun a h => .inl h)
          rw [hvv]
          exact ⟨E, st, hr2, hb.mono hN, pack_vr h2⟩
        split at h
        · rename_i hcond
          cases h
          obtain ⟨E1, hfr, hpr⟩ := persVs_ok hr hps (LkF.of_eq hlk) hv
          refine (hcon.2 E1.G w dat vs hfr.hr.gin (hr.vz.up hN) (datas_ok hrun hpr) (hc _ (List.Mem.head _))).mono fun en w' hen => ?_
          obtain ⟨v, he, hb, G', hg, hg', vs', hvv, hall⟩ := hen
          refine ⟨v, he, ?_⟩
          refine Good.of_froze hfr rfl ?_
          rw [hvv]
          by_cases h0 : ((con.run dat).rets.filter RV.made).length = 0
          · obtain ⟨h1, h2⟩ := rets_sv h0 hrt hall
            subst h1
            obtain ⟨st, hr2⟩ := hfr.hr.more hN hb hg hg'
            exact ⟨_, st, hr2, hb.mono hN, pack_vr (h2.mono fun _ _ h => VR0.of_pr h)⟩
          · obtain ⟨k, et, e', xs, v', h1, h2, h3, h4, h5, h6⟩ := rets_one (by omega) hrt hall
            subst h1
            have hdn : (putAll H fz).get (d + 1 + k) = none := by
              refine frozen_none hfr ?_
              rw [← hlkn _ ?_]
              · exact h4
              · have : k < 5 := by omega
                simp only [newNames, List.mem_cons]
                omega
            obtain ⟨cells, c1, c2, c3⟩ := h5
            have hn := hfr.hr.new (w' := w') (b := v'.ownBlock.getD 0) (v := v') (G' := G') (x := .row 0 et e' xs) hN hdn hb hg hg'
              ⟨cells, c1, c2, fun g hg => by rw [hg]; rfl, fun hne a ha => by
                cases ho : v'.ownBlock with
                | none => exact absurd ho hne
                | some g => exact c3 g ho a ha⟩
            refine ⟨_, hn.1, hn.2, hb.mono hN, pack_vr (h6.mono fun x u hx => ?_)⟩
            rcases hx with hx | ⟨rfl, rfl⟩
            · exact VR0.of_pr hx
            · have hsl : ∃ a n c, u = .slice a n c := by
                rcases c1.2 with ⟨h1, _⟩ | ⟨g, cap, cur, h1, _⟩
                · exact ⟨_, _, _, h1⟩
                · exact ⟨_, _, _, h1⟩
              refine ⟨hsl, ?_⟩
              simp only [putAll, Heap.get_put, if_true]
              exact ⟨Nat.le_refl _, fun _ => (upd_same _ _ _).symm⟩
        · cases h
      · cases h
    · cases h
  · cases h


/-! ### One operation -/
/-- A contract whose first argument is a map. -/
def ConOKM (P : Program) (f : FuncId) (con : Con) : Prop :=
  (∃ fn c, P.funcs[f]? = some fn ∧ fn.body = some c ∧ (fn.name == "runtime.NumGoroutine") = false) ∧
  ∀ (e : Ty) (tys : List Ty), con.tys = e :: tys → ∀ (G : Addr → Prop) (w : World) (b : Nat) (es : Array MapEntry) (clock : Nat) (xs ds : List D) (args : List Value), (∀ a, G a → a.block < w.heap.size) → VarsOK P w.heap.size w →
    w.heap[b]? = some (.map es clock) → MapIs e es.toList (xs : List D) → ArgsR G w tys ds args → (con.run (.list xs :: ds)).pre →
    Calls P f (Value.map (some b) :: args).toArray w (fun en w' => ∃ v, en = .returned v ∧ RetOK G w (con.run (.list xs :: ds)).rets v w')

theorem callME_ok {P : Program} {f : FuncId} {con : Con} (hcon : ConOKM P f con) (hr : HR P N E H w) (hN : N ≤ w.heap.size) {e : Ty} {xs : List D} {lk : Look} {args : List V0} {eff : Eff} (h : callME con e xs lk args = some eff)
    (hc : ∀ c ∈ eff.cs, c) (hlk : ∀ k ∈ args.flatMap V0.hs, lk.get k = H.get k) {b : Nat} {es : Array MapEntry} {clock : Nat} (hb : w.heap[b]? = some (.map es clock)) (hm : MapIs e es.toList xs) {vs : List Value} (hv : All2 (VR0 E H w) args vs) :
    Calls P f (Value.map (some b) :: vs).toArray w (fun e w' => ∃ v, e = .returned v ∧ Good P N E H w eff v w') := by
  unfold callME at h
  split at h
  · rename_i e' tys hty
    split at h
    · rename_i args' fz hps
      split at h
      · rename_i dat hrun
        split at h
        · rename_i out e2 hrt
          split at h
          · rename_i hpl
            obtain ⟨rfl, hpl⟩ := hpl
            cases h
            obtain ⟨E1, hfr, hpr⟩ := persVs_ok hr hps (LkF.of_eq hlk) hv
            refine (hcon.2 e tys hty E1.G w b es clock xs dat vs hfr.hr.gin (hr.vz.up hN) hb hm (datas_ok hrun hpr) (hc _ (List.Mem.head _))).mono fun en w' hen => ?_
            obtain ⟨v, he, hb, G', hg, hg', vs', hvv, hall⟩ := hen
            refine ⟨v, he, ?_⟩
            obtain ⟨h1, h2⟩ := rets_plain (List.all_eq_true.1 hpl) hrt hall (E := E) (H := H)
            obtain ⟨st, hr2⟩ := hr.more hN hb (fun a h => h) (fun a h => .inl h)
            rw [hvv]
            exact ⟨E, st, hr2, hb.mono hN, pack_vr h2⟩
          · cases h
        · cases h
      · cases h
    · cases h
  · cases h

def TabOK (P : Program) (tb : Nat → Option Con) : Prop := ∀ f con, tb f = some con → match Nat.ble 1000000 f with
  | true => ConOKM P (f - 1000000) con
  | false => ConOK P f con

theorem plainV_vr : ∀ {vals : List SV} {l : List V0} {vs : List Value}, plainV vals = some l → All2 (VRS E H w) vals vs → All2 (VR0 E H w) l vs
  | [], l, [], h, _ => by simp only [plainV] at h; cases h; exact trivial
  | .v x :: r, l, v :: vs, h, ha => by
    simp only [plainV] at h
    cases hr : plainV r with
    | none => simp [hr] at h
    | some l' =>
      simp [hr] at h
      subst h
      exact ⟨ha.1, plainV_vr hr ha.2⟩
  | .tup _ :: r, l, v :: vs, h, _ => by simp [plainV] at h
  | [], _, _ :: _, _, h => h.elim
  | _ :: _, _, [], _, h => h.elim

theorem plainV_hs : ∀ {vals : List SV} {l : List V0}, plainV vals = some l → vals.flatMap SV.hs = l.flatMap V0.hs
  | [], l, h => by simp only [plainV] at h; cases h; rfl
  | .v x :: r, l, h => by
    simp only [plainV] at h
    cases hr : plainV r with
    | none => simp [hr] at h
    | some l' =>
      simp [hr] at h
      subst h
      simp only [List.flatMap_cons, plainV_hs hr, SV.hs]
  | .tup _ :: r, l, h => by simp [plainV] at h

theorem parts_vr : ∀ {ps : List (Nat × Operand)} {l : List V0} {ρ : Operand → Value}, All2 (VR0 E H w) l ((ps.map (·.2)).map ρ) → All2 (PartsVR E H w) ((ps.map (·.1)).zip l) (ps.map fun (i, x) => (i, ρ x))
  | [], [], _, _ => trivial
  | (i, x) :: ps, v :: l, ρ, h => ⟨⟨rfl, h.1⟩, parts_vr h.2⟩
  | [], _ :: _, _, h => h.elim
  | _ :: _, [], _, h => h.elim

theorem zip_hs : ∀ {is : List Nat} {l : List V0} {k : Nat}, k ∈ (is.zip l).flatMap (fun p => p.2.hs) → k ∈ l.flatMap V0.hs
  | [], l, k, h => by simp at h
  | _ :: _, [], k, h => by simp at h
  | i :: is, v :: l, k, h => by
    simp only [List.zip_cons_cons, List.flatMap_cons, List.mem_append] at h ⊢
    exact h.imp id zip_hs

theorem caps_vr : ∀ {l : List V0} {hs : List Nat} {vs : List Value}, l.mapM capOf = some hs → All2 (VR0 E H w) l vs →
    (∀ h ∈ hs, ∃ cs, H.get h = some (.box cs)) ∧ vs.toArray = (hs.map fun h => Value.pointer (some ⟨E.bm h, 0, none⟩)).toArray
  | [], hs, [], h, _ => by simp at h; subst h; exact ⟨by simp, rfl⟩
  | x :: r, hs, v :: vs, h, ha => by
    simp only [List.mapM_cons, Option.bind_eq_bind, Option.pure_def] at h
    cases hx : capOf x with
    | none => simp [hx] at h
    | some k =>
      cases hr : r.mapM capOf with
      | none => simp [hx, hr] at h
      | some ks =>
        simp [hx, hr] at h
        subst h
        obtain ⟨h1, h2⟩ := caps_vr hr ha.2
        have hk : x = .one (.ptr k 0) := by
          unfold capOf at hx
          split at hx
          · cases hx; rfl
          · cases hx
        subst hk
        obtain ⟨h3, h4⟩ := ha.1
        refine ⟨fun h hm => ?_, ?_⟩
        · rcases List.mem_cons.1 hm with rfl | hm
          · exact h3
          · exact h1 h hm
        · have h5 : vs = ks.map fun h => Value.pointer (some ⟨E.bm h, 0, none⟩) := by simpa using congrArg Array.toList h2
          rw [h4, h5]; rfl
  | [], _, _ :: _, _, h => h.elim
  | _ :: _, _, [], _, h => h.elim

/-- How an operation's wp follows from what it runs to. -/
theorem wp_value {P : Program} {o : Oper} {a : Act} {K : Act → World → Prop} {Q : Exit → Act → World → Prop} {v : Value} {w' : World}
    (h : (execOp a.eval o).run P w = .ok (.value v) w') (hk : K (a.put o.dst v) w') : o.wp P a w K Q := by
  unfold Oper.wp; rw [h]; exact hk
theorem wp_skip {P : Program} {o : Oper} {a : Act} {K : Act → World → Prop} {Q : Exit → Act → World → Prop} {w' : World}
    (h : (execOp a.eval o).run P w = .ok .skip w') (hk : K (a.put o.dst undef) w') : o.wp P a w K Q := by
  unfold Oper.wp; rw [h]; exact hk
theorem run_v {P : Program} {s : Sem Value} {v : Value} {w' : World} (h : s.run P w = .ok v w') : (do pure (Next.value (← s)) : Sem Next).run P w = .ok (.value v) w' := by
  simp [h]
theorem run_u {P : Program} {s : Sem Unit} {w' : World} (h : s.run P w = .ok () w') : (do s; pure Next.skip : Sem Next).run P w = .ok .skip w' := by
  simp [h]

theorem map_arr {α β : Type} (f : α → β) (xs : Array α) : xs.map f = (xs.toList.map f).toArray := by apply Array.ext'; simp

theorem two_of_size {α : Type} {xs : Array α} (h : xs.size = 2) : ∃ y z, xs = #[y, z] := by
  obtain ⟨l⟩ := xs
  match l, h with
  | [y, z], _ => exact ⟨y, z, rfl⟩

theorem wp_bi {P : Program} {b : Builtin} {f : Array TypeId → TypeId → Array Value → Sem Value} (hb : ∀ ats ty cs xs, builtin b ats ty cs xs = (do pure (Next.value (← f ats ty xs)) : Sem Next))
    {dst : Option Tmp} {args : Array Operand} {argTypes : Array TypeId} {type : TypeId} {pos : String} {after : Array Edge} {guard : Option (Nat × Bool)} {a : Act} {K : Act → World → Prop} {Q : Exit → Act → World → Prop} {v : Value} {w' : World}
    (h : (f argTypes type (args.map a.eval)).run P w = .ok v w') (hk : K (a.put dst v) w') : Oper.wp P ⟨dst, .call ⟨.builtin b, args, argTypes⟩, type, pos, after, guard⟩ a w K Q := by
  refine wp_value (w' := w') (v := v) ?_ hk
  simp [execOp, resolve, invoke, hb, h]

theorem core_wp {P : Program} {tt : TT} {tb : Nat → Option Con} (ht : TTok P tt) (hT : TabOK P tb) (hr : HR P N E H w) (hN : N ≤ w.heap.size) {d : Nat} {o : Oper} {vals : List SV} {lk : Look} {f : Eff} {a : Act}
    (h : core tt tb d o.op vals lk = some f) (hc : ∀ c ∈ f.cs, c) (hlk : ∀ k ∈ vals.flatMap SV.hs ++ newNames d, lk.get k = H.get k) (hv : All2 (VRS E H w) vals (o.op.operands.toList.map a.eval))
    {K : Act → World → Prop} {Q : Exit → Act → World → Prop} (hK : ∀ v w', Good P N E H w f v w' → K (a.put o.dst v) w') : o.wp P a w K Q := by
  have hdn : lk.get d = H.get d := hlk d (by simp [newNames])
  have hl1 : ∀ k ∈ vals.flatMap SV.hs, lk.get k = H.get k := fun k hk => hlk k (List.mem_append_left _ hk)
  have hl2 : ∀ k ∈ newNames d, lk.get k = H.get k := fun k hk => hlk k (List.mem_append_right _ hk)
  obtain ⟨dst, op, type, pos, after, guard⟩ := o
  simp only at h hv hK
  unfold core at h
  split at h
  · -- move
    rename_i y x
    cases h
    have h1 : VRS E H w x (a.eval y) := by simpa [Op.operands] using hv.1
    exact wp_value (w' := w) (v := a.eval y) rfl (hK _ _ (Good.pure hr rfl h1))
  · rename_i y x
    cases h
    have h1 : VRS E H w x (a.eval y) := by simpa [Op.operands] using hv.1
    exact wp_value (w' := w) (v := a.eval y) rfl (hK _ _ (Good.pure hr rfl h1))
  · -- pick
    rename_i c y z x u
    cases h
    simp only [Op.operands] at hv
    obtain ⟨h1, h2, h3, _⟩ := hv
    have h1' : a.eval c = .bool true := h1
    refine wp_value (w' := w) (v := a.eval y) ?_ (hK _ _ (Good.pure hr rfl h2))
    simp [execOp, h1', asBool]
  · rename_i c y z x u
    cases h
    simp only [Op.operands] at hv
    obtain ⟨h1, h2, h3, _⟩ := hv
    have h1' : a.eval c = .bool false := h1
    refine wp_value (w' := w) (v := a.eval z) ?_ (hK _ _ (Good.pure hr rfl h3))
    simp [execOp, h1', asBool]
  · -- alloc
    rename_i t
    split at h
    · rename_i ti hg hdn2
      cases h
      rw [hdn] at hdn2
      refine wp_value (v := .pointer (some ⟨w.heap.size, 0, none⟩)) (w' := w.alloc (.cells (ti.ty.val ti.ty.zeroV).cells t)) (run_v ?_) (hK _ _ (newBox hr hN hdn2 (zeroV_vr _)))
      simp [Instr.alloc, run_zeroValue ht hg, newVar, newRow]
    · cases h
  · -- box
    rename_i t y x
    split at h
    · rename_i ti hg hdn2
      split at h
      · rename_i hcond
        cases h
        rw [hdn] at hdn2
        simp only [Op.operands] at hv
        have h1 : VR0 E H w x (a.eval y) := hv.1
        obtain ⟨hcv, _⟩ := cells_vr hcond.2 h1
        refine wp_value (v := .pointer (some ⟨w.heap.size, 0, none⟩)) (w' := w.alloc (.cells (a.eval y).cells t)) (run_v ?_) (hK _ _ (newBox hr hN hdn2 hcv))
        simp [Instr.box, newVar, newRow]
      · cases h
    · cases h
  · -- build
    rename_i t ps
    split at h
    · rename_i l hpl
      have hv1 := plainV_vr hpl hv
      obtain ⟨v, hrun, hg⟩ := buildE_ok ht hr h (vs := ps.map fun (i, x) => (i, a.eval x)) (by
        rw [Array.toList_map]
        exact parts_vr (by simpa [Op.operands] using hv1))
      exact wp_value (run_v hrun) (hK _ _ hg)
    · cases h
  · -- buildSlice
    rename_i t len ps
    split at h
    · rename_i l hpl
      have hv1 := plainV_vr hpl hv
      obtain ⟨v, w', hrun, hg⟩ := buildSliceE_ok ht hr hN h (fun k hk => hl1 k (by rw [plainV_hs hpl]; exact zip_hs hk)) hdn (vs := ps.map fun (i, x) => (i, a.eval x)) (by
        rw [Array.toList_map]
        exact parts_vr (by simpa [Op.operands] using hv1))
      exact wp_value (run_v hrun) (hK _ _ hg)
    · cases h
  · -- load
    rename_i t y p
    simp only [Op.operands] at hv
    obtain ⟨u, hrun, hu, he⟩ := loadE_ok ht hr h (fun k hk => hl1 k (by simpa [SV.hs, V0.hs] using hk)) hc hv.1
    exact wp_value (run_v hrun) (hK _ _ (Good.pure hr he hu))
  · -- store
    rename_i t y z p x
    simp only [Op.operands] at hv
    obtain ⟨w', hrun, hg⟩ := storeE_ok ht hr h (fun k hk => hl1 k (by simpa [SV.hs, V0.hs] using hk)) hv.1 hv.2.1
    exact wp_skip (run_u hrun) (hK _ _ hg)
  · -- nilCheck
    rename_i y p
    simp only [Op.operands] at hv
    have h1 : VR E H w p (a.eval y) := hv.1
    have hptr : ∀ ad, a.eval y = .pointer (some ad) → f = ⟨[], .v (.one p), []⟩ → Oper.wp P ⟨dst, .nilCheck y, type, pos, after, guard⟩ a w K Q := by
      intro ad had hf
      subst hf
      refine wp_value (w' := w) (v := a.eval y) ?_ (hK _ _ (Good.pure hr rfl h1))
      simp [execOp, had]
    split at h
    · cases h
      obtain ⟨_, h2⟩ := h1
      exact hptr _ h2 rfl
    · cases h
      obtain ⟨⟨ad, h2⟩, _⟩ := h1
      exact hptr _ h2 rfl
    · cases h
      obtain ⟨ad, ys, h2, _⟩ := h1
      exact hptr _ h2 rfl
    · cases h
      obtain ⟨_, h2⟩ := h1
      refine wp_value (w' := w) (v := a.eval y) ?_ (hK _ _ (Good.pure hr rfl hv.1))
      simp [execOp, h2]
    · cases h
  · -- binOp
    rename_i op t y z t2 x u
    simp only [Op.operands] at hv
    obtain ⟨v, hrun, hu, he⟩ := binE_ok ht h hc hv.1 hv.2.1 y z
    exact wp_value (run_v hrun) (hK _ _ (Good.pure hr he hu))
  · -- unOp
    rename_i op t y x
    simp only [Op.operands] at hv
    obtain ⟨v, hrun, hg⟩ := unE_ok (P := P) hr h hv.1
    exact wp_value (run_v hrun) (hK _ _ hg)
  · -- convert
    rename_i src dst' y x
    simp only [Op.operands] at hv
    obtain ⟨v, w', hrun, hg⟩ := convE_ok ht hr hN h hc (fun k hk => hl1 k (by simpa [SV.hs, V0.hs] using hk)) hv.1
    exact wp_value (run_v hrun) (hK _ _ hg)
  · -- makeInterface
    rename_i t y k n
    split at h
    · rename_i ti hg
      cases h
      simp only [Op.operands] at hv
      obtain ⟨h1, hin⟩ := vr_int (E := E) (H := H) (w := w) hv.1
      refine wp_value (w' := w) (v := .iface t (.int k n)) (run_v ?_) (hK _ _ (Good.pure hr rfl ⟨rfl, hin⟩))
      have hk := (ht _ _ hg).kind
      rw [h1]
      cases hti : ti.k <;> simp only [hti] at hk
      · simp [Instr.makeInterface, run_underlying hk.1]
      · simp [Instr.makeInterface, run_underlying hk.1]
      · simp [Instr.makeInterface, run_underlying hk.1]
      · simp [Instr.makeInterface, run_underlying hk.1]
      · obtain ⟨fields, hu, _⟩ := hk
        simp [Instr.makeInterface, run_underlying hu]
    · cases h
  · -- typeAssert
    rename_i y xt t x
    split at h
    · rename_i k' ty b hg
      have hk := (ht _ _ hg).kind
      simp only at hk
      simp only [Op.operands] at hv
      split at h
      · rename_i t' k n
        split at h
        · rename_i he
          obtain ⟨rfl, rfl⟩ := he
          cases h
          have h1 : VR E H w (.ifc t' k n) (a.eval y) := hv.1
          obtain ⟨h2, hin⟩ := h1
          refine wp_value (w' := w) (v := .tuple #[.int k n, .bool true]) (run_v ?_) (hK _ _ (Good.pure hr rfl ⟨_, rfl, ⟨rfl, hin⟩, rfl, trivial⟩))
          simp [Instr.typeAssert, run_underlying hk.1, h2]
        · cases h
      · cases h
        have h1 : a.eval y = .nilIface := hv.1
        refine wp_value (w' := w) (v := .tuple #[.int k' 0, .bool false]) (run_v ?_) (hK _ _ (Good.pure hr rfl ⟨_, rfl, ⟨rfl, by unfold inR; cases k' <;> decide⟩, rfl, trivial⟩))
        have hz : (zeroValue t).run P w = .ok (.int k' 0) w := by
          rw [run_zeroValue ht hg]; simp only [hk.2]; rfl
        simp [Instr.typeAssert, run_underlying hk.1, h1, hz]
      · cases h
    · cases h
  · -- makeFunc
    rename_i fn first captured
    split at h
    · rename_i h0
      split at h
      · rename_i l hpl
        split at h
        · rename_i hs hm
          cases h
          have hv1 := plainV_vr hpl hv
          have hfe : first = #[] := Array.eq_empty_of_size_eq_zero h0
          subst hfe
          have hv2 : All2 (VR0 E H w) l (captured.toList.map a.eval) := by simpa [Op.operands] using hv1
          obtain ⟨h1, h2⟩ := caps_vr hm hv2
          refine wp_value (w' := w) (v := .func (.func fn) #[] (captured.map a.eval)) (run_v ?_) (hK _ _ (Good.pure hr rfl ⟨h1, ?_⟩))
          · simp [Instr.makeFunc]
          · rw [← h2, map_arr]
        · cases h
      · cases h
    · cases h
  · -- makeSlice
    rename_i t y z l c
    simp only [Op.operands] at hv
    obtain ⟨v, w', hrun, hg⟩ := makeSliceE_ok ht hr hN h hc hdn hv.1 hv.2.1
    exact wp_value (run_v hrun) (hK _ _ hg)
  · -- makeMap
    rename_i t
    have hg := makeMapE_ok hr hN h hdn
    exact wp_value (run_v (run_mkMap t)) (hK _ _ hg)
  · -- mapUpdate
    rename_i t y z u h' k n x
    simp only [Op.operands] at hv
    obtain ⟨w', hrun, hg⟩ := mapUpdE_ok ht hr h (hl1 _ (by simp [SV.hs, V0.hs, S1.hs])) hv.1 hv.2.1 hv.2.2.1
    exact wp_skip (run_u hrun) (hK _ _ hg)
  · -- lookup
    rename_i t y z ok h' k n
    simp only [Op.operands] at hv
    obtain ⟨u, hrun, hu, he⟩ := lookE_ok ht hr h (hl1 _ (by simp [SV.hs, V0.hs, S1.hs])) hv.1 hv.2.1
    exact wp_value (run_v hrun) (hK _ _ (Good.pure hr he hu))
  · -- slice
    rename_i t y lo hi mx x bs
    have hx : VR E H w x (a.eval y) := by cases lo <;> cases hi <;> cases mx <;> exact hv.1
    have hlx : ∀ k ∈ x.hs, lk.get k = H.get k := fun k hk => hl1 k (by simp only [List.flatMap_cons, List.mem_append]; exact .inl hk)
    have key : ∀ {los his : Option S1} {vlo vhi : Option Value}, sliceE tt t lk x los his mx.isSome = some f → optVR E H w los vlo → optVR E H w his vhi → lo.map a.eval = vlo → hi.map a.eval = vhi →
        Oper.wp P ⟨dst, .slice t y lo hi mx, type, pos, after, guard⟩ a w K Q := by
      intro los his vlo vhi h1 h2 h3 e1 e2
      obtain ⟨hm, u, hrun, hg⟩ := sliceE_ok ht hr h1 hc hlx hx h2 h3
      have hmx : mx = none := by cases mx <;> simp at hm ⊢
      subst hmx
      subst e1; subst e2
      exact wp_value (run_v hrun) (hK _ _ hg)
    split at h
    · exact key (vlo := none) (vhi := none) h trivial trivial rfl rfl
    · rename_i z l
      cases mx with
      | none => exact key (vlo := some (a.eval z)) (vhi := none) h hv.2.1 trivial rfl rfl
      | some m => simp [sliceE] at h
    · rename_i z hh
      cases mx with
      | none => exact key (vlo := none) (vhi := some (a.eval z)) h trivial hv.2.1 rfl rfl
      | some m => simp [sliceE] at h
    · rename_i z z2 l hh
      cases mx with
      | none => exact key (vlo := some (a.eval z)) (vhi := some (a.eval z2)) h hv.2.1 hv.2.2.1 rfl rfl
      | some m => simp [sliceE] at h
    · cases h
  · -- fieldAddr
    rename_i t y j p
    simp only [Op.operands] at hv
    obtain ⟨u, hrun, hu, he⟩ := fieldAddrE_ok ht h hv.1
    exact wp_value (run_v hrun) (hK _ _ (Good.pure hr he hu))
  · -- field
    rename_i t y j x
    simp only [Op.operands] at hv
    obtain ⟨u, hrun, hu, he⟩ := fieldE_ok ht h hv.1
    exact wp_value (run_v hrun) (hK _ _ (Good.pure hr he hu))
  · -- indexAddr
    rename_i t y z x i
    simp only [Op.operands] at hv
    obtain ⟨u, hrun, hu, he⟩ := indexAddrE_ok ht hr h hc (fun k hk => hl1 k (by simp only [List.flatMap_cons, List.mem_append]; exact .inl hk)) hv.1 hv.2.1
    exact wp_value (run_v hrun) (hK _ _ (Good.pure hr he hu))
  · -- index
    rename_i t y z s k n
    split at h
    · rename_i ty by' hg
      cases h
      simp only [Op.operands] at hv
      obtain ⟨h1, _⟩ := vr_str (E := E) (H := H) (w := w) hv.1
      obtain ⟨h2, _⟩ := vr_int (E := E) (H := H) (w := w) hv.2.1
      obtain ⟨h3, h4⟩ := index_str (w := w) ht hg (k := k) (hc _ (List.Mem.head _))
      refine wp_value (w' := w) (run_v ?_) (hK _ _ (Good.pure hr rfl ⟨rfl, h4⟩))
      rw [h1, h2]; exact h3
    · cases h
  · -- extract
    rename_i t y i l
    split at h
    · rename_i x hx
      cases h
      simp only [Op.operands] at hv
      obtain ⟨vs, h1, h2⟩ := hv.1
      obtain ⟨v, h3, h4⟩ := h2.get hx
      refine wp_value (w' := w) (v := v) (run_v ?_) (hK _ _ (Good.pure hr rfl h4))
      rw [h1]
      simp only [Instr.extract]
      rw [← Array.getElem?_toList, h3]
      rfl
    · cases h
  · -- call
    rename_i c
    obtain ⟨callee, args, argTypes⟩ := c
    simp only at h
    split at h
    · -- len
      simp only [Op.operands, Call.operands, Array.empty_append] at hv
      split at h
      · rename_i x
        split at h
        · rename_i hsz
          obtain ⟨v1, he1⟩ : ∃ y, args = #[y] := by
            have := hv.len
            simp at this
            exact Array.size_eq_one_iff.1 this.symm
          subst he1
          have hx : VR E H w x (a.eval v1) := hv.1
          have hlx : ∀ k ∈ x.hs, lk.get k = H.get k := fun k hk => hl1 k (by simpa [SV.hs, V0.hs] using hk)
          obtain ⟨t, ht1⟩ : ∃ y, argTypes = #[y] := Array.size_eq_one_iff.1 hsz
          subst ht1
          have hgd : (#[t] : Array Nat).getD 0 0 = t := rfl
          rw [hgd] at h
          split at h
          · rename_i ty by' hg
            split at h
            · rename_i s
              obtain ⟨u, hrun, hu, he⟩ := lenE_ok (P := P) ht hr hg h hlx (by trivial) hx type
              exact wp_bi (fun _ _ _ _ => rfl) (by simpa using hrun) (hK _ _ (Good.pure hr he hu))
            · cases h
          · rename_i e ty by' hg
            split at h
            · cases h
            · rename_i hns
              obtain ⟨u, hrun, hu, he⟩ := lenE_ok (P := P) ht hr hg h hlx (by cases x <;> first | trivial | exact (hns _ rfl).elim) hx type
              exact wp_bi (fun _ _ _ _ => rfl) (by simpa using hrun) (hK _ _ (Good.pure hr he hu))
          · cases h
        · cases h
      · cases h
    · -- append
      simp only [Op.operands, Call.operands, Array.empty_append] at hv
      split at h
      · rename_i s x
        split at h
        · rename_i hsz
          obtain ⟨v1, v2, he1⟩ : ∃ y z, args = #[y, z] := by
            have := hv.len
            simp at this
            exact two_of_size this.symm
          subst he1
          obtain ⟨t, u, ht1⟩ : ∃ y z, argTypes = #[y, z] := two_of_size hsz
          subst ht1
          obtain ⟨v, w', hrun, hg⟩ := appendE_ok (P := P) (ty := type) ht hr hN h hc (fun k hk => hl1 k (by simpa [SV.hs, V0.hs] using hk)) hdn hv.1 hv.2.1
          exact wp_bi (fun _ _ _ _ => rfl) (by simpa using hrun) (hK _ _ hg)
        · cases h
      · cases h
    · -- copy
      simp only [Op.operands, Call.operands, Array.empty_append] at hv
      split at h
      · rename_i s x
        split at h
        · rename_i hsz
          obtain ⟨v1, v2, he1⟩ : ∃ y z, args = #[y, z] := by
            have := hv.len
            simp at this
            exact two_of_size this.symm
          subst he1
          obtain ⟨t, u, ht1⟩ : ∃ y z, argTypes = #[y, z] := two_of_size hsz
          subst ht1
          obtain ⟨v, w', hrun, hg⟩ := copyE_ok (P := P) (ty := type) ht hr hN h (fun k hk => hl1 k (by simpa [SV.hs, V0.hs] using hk)) hv.1 hv.2.1
          exact wp_bi (fun _ _ _ _ => rfl) (by simpa using hrun) (hK _ _ hg)
        · cases h
      · cases h
    · -- min
      simp only [Op.operands, Call.operands, Array.empty_append] at hv
      split at h
      · rename_i k x k' y
        split at h
        · rename_i hk
          subst hk
          cases h
          obtain ⟨v1, v2, he1⟩ : ∃ y z, args = #[y, z] := by
            have := hv.len
            simp at this
            exact two_of_size this.symm
          subst he1
          obtain ⟨h1, b1⟩ := vr_int (E := E) (H := H) (w := w) hv.1
          obtain ⟨h2, b2⟩ := vr_int (E := E) (H := H) (w := w) hv.2.1
          refine wp_bi (v := .int k (imin x y)) (w' := w) (f := Builtin.min_) (fun _ _ _ _ => rfl) ?_ (hK _ _ (Good.pure hr rfl ⟨rfl, by unfold imin; split <;> assumption⟩))
          simp [h1, h2, Builtin.min_, Builtin.min2, imin]
        · cases h
      · cases h
    · -- max
      simp only [Op.operands, Call.operands, Array.empty_append] at hv
      split at h
      · rename_i k x k' y
        split at h
        · rename_i hk
          subst hk
          cases h
          obtain ⟨v1, v2, he1⟩ : ∃ y z, args = #[y, z] := by
            have := hv.len
            simp at this
            exact two_of_size this.symm
          subst he1
          obtain ⟨h1, b1⟩ := vr_int (E := E) (H := H) (w := w) hv.1
          obtain ⟨h2, b2⟩ := vr_int (E := E) (H := H) (w := w) hv.2.1
          refine wp_bi (v := .int k (imax x y)) (w' := w) (f := Builtin.max_) (fun _ _ _ _ => rfl) ?_ (hK _ _ (Good.pure hr rfl ⟨rfl, by unfold imax; split <;> assumption⟩))
          simp [h1, h2, Builtin.max_, Builtin.max2, imax]
        · cases h
      · cases h
    · -- a function
      rename_i fo
      simp only [Op.operands, Call.operands] at hv
      split at h
      · rename_i fid hmp rest
        split at h
        · rename_i con e xs l htb hbox hpl
          have hv0 : All2 (VRS E H w) (.v (.one (.fn fid [])) :: .v (.one (.mp hmp)) :: rest) (a.eval fo :: args.toList.map a.eval) := by simpa using hv
          obtain ⟨hf0, hvr⟩ := hv0
          have hfo : a.eval fo = .func (.func fid) #[] #[] := hf0.2
          have hcon0 := hT _ con htb
          have hbl : Nat.ble 1000000 (1000000 + fid) = true := Nat.ble_eq_true_of_le (by omega)
          simp only [hbl] at hcon0
          rw [show 1000000 + fid - 1000000 = fid by omega] at hcon0
          obtain ⟨fn, cb, hfn, hbody, hname⟩ := hcon0.1
          rw [hl1 hmp (by simp [SV.hs, V0.hs, S1.hs])] at hbox
          obtain ⟨es, clock, hh, hm⟩ := (hr.box hmp _ hbox).2.map
          cases hargs : args.toList.map a.eval with
          | nil => rw [hargs] at hvr; exact hvr.elim
          | cons v0 vr =>
            rw [hargs] at hvr
            obtain ⟨hm0, hvr⟩ := hvr
            have hv0' : v0 = .map (some (E.bm hmp)) := hm0.2
            have hcall := callME_ok hcon0 hr hN h hc (fun k hk => hl1 k (by simp only [List.flatMap_cons, List.mem_append]; exact .inr (.inr (by rw [plainV_hs hpl]; exact hk)))) hh hm (plainV_vr hpl hvr)
            unfold Oper.wp
            have hrun : (execOp a.eval ⟨dst, .call ⟨.value fo, args, argTypes⟩, type, pos, after, guard⟩).run P w = .ok (.enter fid (Value.map (some (E.bm hmp)) :: vr).toArray) w := by
              have h1 : fn.name ≠ "runtime.NumGoroutine" := by simpa using hname
              simp [execOp, resolve, hfo, Deferred.ofValue, invoke, callFunc, hfn, h1, hbody]
              rw [← hv0', ← hargs]
              exact map_arr _ _
            rw [hrun]
            refine hcall.mono fun e w' he => ?_
            obtain ⟨v, he, hg⟩ := he
            subst he
            exact hK _ _ hg
        · cases h
      · rename_i fid rest _
        split at h
        · rename_i con l hbl htb hpl
          have hv0 : All2 (VRS E H w) (.v (.one (.fn fid [])) :: rest) (a.eval fo :: args.toList.map a.eval) := by simpa using hv
          obtain ⟨hf0, hvr⟩ := hv0
          have hfo : a.eval fo = .func (.func fid) #[] #[] := hf0.2
          have hcon := hT fid con htb
          simp only [hbl] at hcon
          obtain ⟨fn, cb, hfn, hbody, hname⟩ := hcon.1
          have hcall := callE_ok hcon hr hN h hc (fun k hk => hl1 k (by simp only [List.flatMap_cons, List.mem_append]; exact .inr (by rw [plainV_hs hpl]; exact hk))) hl2 (plainV_vr hpl hvr)
          unfold Oper.wp
          have hrun : (execOp a.eval ⟨dst, .call ⟨.value fo, args, argTypes⟩, type, pos, after, guard⟩).run P w = .ok (.enter fid (args.toList.map a.eval).toArray) w := by
            have h1 : fn.name ≠ "runtime.NumGoroutine" := by simpa using hname
            simp [execOp, resolve, hfo, Deferred.ofValue, invoke, callFunc, hfn, h1, hbody]
            exact map_arr _ _
          rw [hrun]
          refine hcall.mono fun e w' he => ?_
          obtain ⟨v, he, hg⟩ := he
          subst he
          exact hK _ _ hg
        · cases h
      · cases h
    · cases h
  · cases h

end
end Go.RX
