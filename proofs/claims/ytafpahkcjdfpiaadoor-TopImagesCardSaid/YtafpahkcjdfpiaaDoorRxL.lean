/- Part L: regions. -/
import Derived.Test.YtafpahkcjdfpiaaDoorRxK
set_option linter.all false
namespace Go.RX
open Go Go.RowKit

theorem conj_iff : ∀ {l : List Prop} {K : Prop}, conj l K ↔ (∀ c ∈ l, c) ∧ K
  | [], K => by simp [conj]
  | c :: r, K => by simp only [conj, conj_iff (l := r), List.mem_cons, forall_eq_or_imp, and_assoc]

theorem look_get (H : Heap) : ∀ (hs : List Nat) {k : Nat}, k ∈ hs → (look H hs).get k = H.get k
  | [], k, h => by simp at h
  | x :: r, k, h => by
    simp only [look, List.map_cons, Look.get]
    split
    · rename_i e; rw [e]
    · rename_i e
      rcases List.mem_cons.1 h with rfl | h
      · exact absurd rfl e
      · exact look_get H r h

/-- What stands fast in a walk: the program's tables, the contracts. -/
structure Ctx (P : Program) (tt : TT) (tb : Nat → Option Con) : Prop where
  tt : TTok P tt
  tb : TabOK P tb

/-- An operation that is wanted. -/
theorem stepE_wp {P : Program} {tt : TT} {tb : Nat → Option Con} (cx : Ctx P tt tb) {N : Nat} {G0 : Addr → Prop} {w0 : World} {vs : List Value} {ds : List Deferred} {E : Env} {s : St} {a : Act} {w : World} {base : Nat} {o : Oper} {f : Eff}
    (h : stepE tt tb base o s = some f) (hc : ∀ c ∈ f.cs, c) (r : Rel P N G0 w0 vs ds E s a w) {K : Act → World → Prop} {Q : Exit → Act → World → Prop}
    (hK : ∀ E' u w', Rel P N G0 w0 vs ds E' (s.with o.dst f.v (putAll s.heap f.e)) (a.put o.dst u) w' → K (a.put o.dst u) w') : o.wp P a w K Q := by
  unfold stepE at h
  split at h
  · rename_i vals hv
    have hvr := evs_vr r.slots hv
    refine core_wp cx.tt cx.tb r.hr r.base h hc (fun k hk => look_get _ _ hk) hvr (fun u w' hg => ?_)
    obtain ⟨E', st, hr, hb, hx⟩ := hg
    exact hK E' u w' (r.step st hr hb o.dst hx)
  · cases h

theorem Rel.congr {P : Program} {N : Nat} {G0 : Addr → Prop} {w0 : World} {vs : List Value} {ds : List Deferred} {E : Env} {s s' : St} {a : Act} {w : World} (r : Rel P N G0 w0 vs ds E s a w) (hs : s'.slots = s.slots) (hu : s'.susp = s.susp) (hh : ∀ h, s'.heap.get h = s.heap.get h) :
    Rel P N G0 w0 vs ds E s' a w := by
  have hv : ∀ x v, VRS E s.heap w x v → VRS E s'.heap w x v := by
    intro x v h
    have h0 : ∀ x v, VR0 E s.heap w x v → VR0 E s'.heap w x v := by
      intro x v h
      cases x with
      | one s => exact VR.congr hh h
      | agg cs => obtain ⟨us, h1, h2⟩ := h; exact ⟨us, h1, h2.mono fun _ _ => VR.congr hh⟩
    cases x with
    | v x => exact h0 x v h
    | tup l => obtain ⟨us, h1, h2⟩ := h; exact ⟨us, h1, h2.mono fun _ _ => h0 _ _⟩
  exact ⟨by rw [hs]; exact r.slots.mono fun _ _ => hv _ _, by rw [hu]; exact r.susp.mono fun _ _ => hv _ _, r.defers, r.below, r.base, r.hr.congr hh, r.g0⟩

/-- A bool that is known. -/
theorem Rel.lit {P : Program} {N : Nat} {G0 : Addr → Prop} {w0 : World} {vs : List Value} {ds : List Deferred} {E : Env} {s : St} {a : Act} {w : World} {dst : Option Nat} {H : Heap} {e : Bool} {x : S1} (hx : (e = true ∧ x = .tt) ∨ (e = false ∧ x = .ff))
    (r : Rel P N G0 w0 vs ds E (s.with dst (.v (.one (.bool e))) H) a w) : Rel P N G0 w0 vs ds E (s.with dst (.v (.one x)) H) a w := by
  refine ⟨?_, r.susp, r.defers, r.below, r.base, r.hr, r.g0⟩
  have h := r.slots
  cases dst with
  | none => exact h
  | some d =>
    simp only [St.with] at h ⊢
    have key : ∀ {l : List SV} {vs : List Value} {d : Nat}, All2 (VRS E H w) (l.set d (.v (.one (.bool e)))) vs → All2 (VRS E H w) (l.set d (.v (.one x))) vs := by
      intro l
      induction l with
      | nil => intro vs d h; exact h
      | cons y l ih =>
        intro vs d h
        cases d with
        | zero =>
          cases vs with
          | nil => exact h.elim
          | cons v vs =>
            refine ⟨?_, h.2⟩
            have h1 : v = .bool e := h.1
            rcases hx with ⟨rfl, rfl⟩ | ⟨rfl, rfl⟩ <;> exact h1
        | succ d =>
          cases vs with
          | nil => exact h.elim
          | cons v vs => exact ⟨h.1, ih h.2⟩
    exact key h

theorem All2.getR {α β : Type} {R : α → β → Prop} : ∀ {as : List α} {bs : List β}, All2 R as bs → ∀ {i : Nat} {b : β}, bs[i]? = some b → ∃ a, as[i]? = some a ∧ R a b
  | [], [], _, i, a, h => by simp at h
  | x :: _, y :: _, h, 0, a, ha => by simp at ha; subst ha; exact ⟨x, by simp, h.1⟩
  | _ :: _, _ :: _, h, i + 1, a, ha => by
    simp at ha
    obtain ⟨b, hb, hr⟩ := All2.getR h.2 ha
    exact ⟨b, by simpa using hb, hr⟩
  | [], _ :: _, h, _, _, _ => h.elim
  | _ :: _, [], h, _, _, _ => h.elim

def bV : Value → Option Bool
  | .bool b => some b
  | _ => none
theorem yielded_bV {ops : Array Oper} {tmps : Array Value} {j : Nat} {p : Oper} {g : Nat} {v : Value} (hp : ops[j]? = some p) (hd : p.dst = some g) (hv : tmps[g]? = some v) : yielded ops tmps j = bV v := by
  unfold yielded
  simp only [hp, hd, Option.bind_some, hv]
  cases v <;> rfl

theorem guard_ok {P : Program} {ops : Array Oper} {N : Nat} {G0 : Addr → Prop} {w0 : World} {vs : List Value} {ds : List Deferred} {E : Env} {s : St} {a : Act} {w : World} {o : Oper} (r : Rel P N G0 w0 vs ds E s a w) :
    (guardE ops.toList s.slots o = .run → Region.wanted o (yielded ops a.tmps) = true) ∧ (guardE ops.toList s.slots o = .skip → Region.wanted o (yielded ops a.tmps) = false) := by
  unfold guardE Region.wanted
  cases hg : o.guard with
  | none => simp
  | some jw =>
    obtain ⟨j, want⟩ := jw
    simp only [Array.getElem?_toList]
    cases hp : ops[j]? with
    | none => simp
    | some p =>
      cases hd : p.dst with
      | none => simp [hd]
      | some g =>
        simp only [hd]
        cases hs : s.slots[g]? with
        | none => simp
        | some x =>
          obtain ⟨v, hv, hx⟩ := r.slots.get hs
          have hy := yielded_bV hp hd (by rw [← Array.getElem?_toList]; exact hv)
          rw [hy]
          split
          · rename_i heq
            injection heq with heq; subst heq
            have : v = .bool true := hx
            subst this
            cases want <;> simp [bV]
          · rename_i heq
            injection heq with heq; subst heq
            have : v = .bool false := hx
            subst this
            cases want <;> simp [bV]
          · rename_i heq
            injection heq with heq; subst heq
            have : v = undef := hx
            subst this
            cases want <;> simp [bV, undef]
          · constructor <;> (intro hh; cases hh)

/-- Nothing done: undefined in the slot. -/
theorem Rel.skip {P : Program} {N : Nat} {G0 : Addr → Prop} {w0 : World} {vs : List Value} {ds : List Deferred} {E : Env} {s : St} {a : Act} {w : World} (r : Rel P N G0 w0 vs ds E s a w) (dst : Option Nat) :
    Rel P N G0 w0 vs ds E (s.with dst (.v (.one .undf)) s.heap) (a.put dst undef) w :=
  r.step (Step.refl E s.heap w) r.hr (Below.refl N w) dst rfl

/-- A region in the text's order. -/
theorem runOps_seq {P : Program} {tt : TT} {tb : Nat → Option Con} (cx : Ctx P tt tb) {ops : Array Oper} {base : Nat} {N : Nat} {G0 : Addr → Prop} {w0 : World} {vs : List Value} {ds : List Deferred} {K : St → List Rec → Prop} {Q : Exit → Act → World → Prop}
    (hK : ∀ E s recs a w, Rel P N G0 w0 vs ds E s a w → K s recs → Q .normal a w) :
    ∀ (l : List Oper) (i : Nat) (E : Env) (s : St) (recs : List Rec) (a : Act) (w : World), Rel P N G0 w0 vs ds E s a w → runOps tt tb base ops.toList l i s recs K → wpList P ops Q l a w
  | [], i, E, s, recs, a, w, r, h => hK E s recs a w r h
  | o :: l, i, E, s, recs, a, w, r, h => by
    unfold runOps at h
    obtain ⟨g1, g2⟩ := guard_ok (P := P) (ops := ops) (o := o) r
    unfold wpList
    split at h
    · rename_i hg
      rw [if_pos (g1 hg)]
      split at h
      · rename_i f hf
        refine .inl ?_
        split at h
        · rename_i e _ hfv
          obtain ⟨hcs, h⟩ := conj_iff.1 h
          refine stepE_wp cx hf hcs r (fun E' u w' r' => ?_)
          rw [hfv] at r'
          cases e with
          | true => exact runOps_seq cx hK l (i + 1) E' _ _ _ w' (r'.lit (.inl ⟨rfl, rfl⟩)) (h.1 rfl)
          | false => exact runOps_seq cx hK l (i + 1) E' _ _ _ w' (r'.lit (.inr ⟨rfl, rfl⟩)) (h.2 rfl)
        · obtain ⟨hcs, h⟩ := conj_iff.1 h
          exact stepE_wp cx hf hcs r (fun E' u w' r' => runOps_seq cx hK l (i + 1) E' _ _ _ w' r' h)
      · exact h.elim
    · rename_i hg
      rw [if_neg (by rw [g2 hg]; simp)]
      exact runOps_seq cx hK l (i + 1) E _ _ _ w (r.skip o.dst) h
    · exact h.elim

end Go.RX
