/- Part Or: results. -/
import Derived.Test.YtafpahkcjdfpiaaDoorRxO
set_option linter.all false
namespace Go.RX
open Go Go.RowKit

/-! ### Results -/
def St.look1 (s : St) : Look := s.heap.map fun x => (x.1, some x.2)
def resE (tt : TT) (s : St) : List ResultVar → Option (List V0)
  | [] => some []
  | .tmp t :: r =>
    match s.slots[t]?, resE tt s r with
    | some (.v x), some l => some (x :: l)
    | _, _ => none
  | .cell a t :: r =>
    match s.slots[a]?, resE tt s r with
    | some (.v (.one (.ptr h o))), some l =>
      match loadE tt t s.look1 (.ptr h o) with
      | some ⟨[], .v x, []⟩ => some (x :: l)
      | _ => none
    | _, _ => none

theorem look1_get (s : St) (h : Nat) : s.look1.get h = s.heap.get h := by
  unfold St.look1
  generalize s.heap = H
  induction H with
  | nil => rfl
  | cons x r ih =>
    obtain ⟨k, b⟩ := x
    simp only [List.map_cons, Look.get, Heap.get]
    split
    · rfl
    · exact ih

section
variable {P : Program} {tt : TT} {tb : Nat → Option Con} {N : Nat} {G0 : Addr → Prop} {w0 : World} {vs : List Value} {ds : List Deferred} {E : Env} {s : St} {a : Act} {w : World}

def resF (tmps : Array Value) : ResultVar → Sem Value
  | .tmp t => pure (tmps.getD t undef)
  | .cell b t => do loadVar t (← asAddr (tmps.getD b undef))

theorem results_eq (fn : Func) (tmps : Array Value) : results fn tmps = (do let vs ← fn.results.mapM (resF tmps); pure (if h : vs.size = 1 then vs[0] else .tuple vs) : Sem Value) := by
  unfold results
  have h : (fun x => (match x with
      | ResultVar.tmp t => pure (tmps.getD t undef)
      | ResultVar.cell b t => do loadVar t (← asAddr (tmps.getD b undef)) : Sem Value)) = resF tmps := by
    funext x
    cases x <;> rfl
  rw [← h]
  rfl

theorem pack_if (us : List Value) : (if h : us.toArray.size = 1 then us.toArray[0] else .tuple us.toArray) = packVal us := by
  match us with
  | [] => rfl
  | [x] => rfl
  | x :: y :: r => simp [packVal]

theorem resE_ok (ht : TTok P tt) (r : Rel P N G0 w0 vs ds E s a w) : ∀ {rs : List ResultVar} {l : List V0}, resE tt s rs = some l →
    ∃ us, (rs.mapM (resF a.tmps)).run P w = .ok us w ∧ All2 (VR0 E s.heap w) l us
  | [], l, h => by simp only [resE] at h; cases h; exact ⟨[], rfl, trivial⟩
  | .tmp t :: rs, l, h => by
    simp only [resE] at h
    split at h
    · rename_i x l' hx hl
      cases h
      obtain ⟨us, h1, h2⟩ := resE_ok ht r hl
      obtain ⟨v, hv, hr⟩ := r.slots.get hx
      refine ⟨v :: us, ?_, ⟨hr, h2⟩⟩
      have hg : a.tmps.getD t undef = v := by
        rw [Array.getElem?_toList] at hv
        simp [Array.getD_eq_getD_getElem?, hv]
      simp [List.mapM_cons, resF, hg, h1]
    · cases h
  | .cell b t :: rs, l, h => by
    simp only [resE] at h
    split at h
    · rename_i k o l' hx hl
      split at h
      · rename_i x hld
        cases h
        obtain ⟨us, h1, h2⟩ := resE_ok ht r hl
        obtain ⟨v, hv, hr⟩ := r.slots.get hx
        obtain ⟨u, hu, hru, _⟩ := loadE_ok ht r.hr hld (fun k _ => look1_get s k) (fun c hc => by cases hc) hr
        refine ⟨u :: us, ?_, ⟨hru, h2⟩⟩
        have hg : a.tmps.getD b undef = v := by
          rw [Array.getElem?_toList] at hv
          simp [Array.getD_eq_getD_getElem?, hv]
        obtain ⟨_, hptr⟩ := hr
        subst hptr
        have hu' : (loadVar t ⟨E.bm k, o, none⟩).run P w = .ok u w := by simpa [Instr.loadAt, Instr.sureAddr] using hu
        simp [List.mapM_cons, resF, hg, h1, asAddr, hu']
      · cases h
    · cases h


end
end Go.RX
