/- Part O: code: matching states, loops, functions. -/
import Derived.Test.YtafpahkcjdfpiaaDoorRxN
set_option linter.all false
namespace Go.RX
open Go Go.RowKit

/-! ### Matching -/
def m1 (H H' : Heap) : S1 → S1 → Prop
  | .mapc e a, .mapc e' b => if e = e' then a = b else False
  | .mapc _ _, _ => False
  | .mp h, .mp h' => if h = h' then (match H'.get h' with | some (.box _) => True | _ => False) else False
  | _, .junk => True
  | .int k a, .int k' b => if k = k' then a = b else False
  | .bool a, .bool b => a = b
  | .tt, .bool b => b = true
  | .ff, .bool b => b = false
  | .bool a, .tt => a = true
  | .bool a, .ff => a = false
  | .tt, .tt => True
  | .ff, .ff => True
  | .str a, .str b => a = b
  | .sl e a, .sl e' b => if e = e' then a = b else False
  | .nilsl, .nilsl => True
  | .nilsl, .sl _ b => b = []
  | .pptr e x, .pptr e' y => if e = e' then x = y else False
  | .ifc t k n, .ifc t' k' n' => if t = t' ∧ k = k' then n = n' else False
  | .nilifc, .nilifc => True
  | .undf, .undf => True
  | .fn f caps, .fn f' caps' => if f = f' ∧ caps = caps' then (if (caps'.all fun h => match H'.get h with | some (.box _) => true | _ => false) = true then True else False) else False
  | .ptr h o, .ptr h' o' => if h = h' ∧ o = o' then (match H'.get h' with | some (.box _) => True | _ => False) else False
  | .row h k, .row h' k' => if h = h' then
      (match H.get h, H'.get h' with
        | some (.row ver _ _ _), some (.row ver' _ _ _) => if k = ver ∧ k' = ver' then True else False
        | some (.frozen ver _ _), some (.frozen ver' _ _) => if k = ver ∧ k' = ver' then True else False
        | _, _ => False) else False
  | .row h k, .sl e b => (match H.get h with
        | some (.frozen ver e' xs) => if k = ver ∧ e = e' then xs = b else False
        | _ => False)
  | _, _ => False

def mL (H H' : Heap) : List S1 → List S1 → Prop
  | [], [] => True
  | [a], [b] => m1 H H' a b
  | a :: r, b :: r' => m1 H H' a b ∧ mL H H' r r'
  | _, _ => False
def m0 (H H' : Heap) : V0 → V0 → Prop
  | .one a, .one b => m1 H H' a b
  | .agg a, .agg b => mL H H' a b
  | _, _ => False
def m0L (H H' : Heap) : List V0 → List V0 → Prop
  | [], [] => True
  | a :: r, b :: r' => m0 H H' a b ∧ m0L H H' r r'
  | _, _ => False
def mV (H H' : Heap) : SV → SV → Prop
  | _, .v (.one .junk) => True
  | .v a, .v b => m0 H H' a b
  | .tup a, .tup b => m0L H H' a b
  | _, _ => False
/-- All slots; True's are dropped where they can be seen. -/
def mSlot1 (H H' : Heap) (a b : SV) (K : Prop) : Prop :=
  match b with
  | .v (.one .junk) => K
  | b => mV H H' a b ∧ K
def mSlots (H H' : Heap) : List SV → List SV → Prop
  | [], [] => True
  | a :: r, b :: r' => mSlot1 H H' a b (mSlots H H' r r')
  | _, _ => False
def mB (H H' : Heap) : Option SB → SB → Prop
  | some (.box a), .box b => mL H H' a b
  | some (.row _ et e a), .row _ et' e' b => if et = et' ∧ e = e' then a = b else False
  | some (.frozen ver e a), .frozen ver' e' b => if e = e' ∧ ver = ver' then a = b else False
  | _, _ => False
def mHeap (H H' : Heap) : Heap → Prop
  | [] => True
  | (h, b) :: r => mB H H' (H.get h) b ∧ mHeap H H' r
def Match (s s' : St) : Prop := mSlots s.heap s'.heap s.slots s'.slots ∧ mHeap s.heap s'.heap s'.heap ∧ mSlots s.heap s'.heap s.susp s'.susp

section
variable {E : Env} {H H' : Heap} {w : World}

theorem mHeap_get : ∀ {L : Heap}, mHeap H H' L → ∀ {h : Nat} {b : SB}, Heap.get L h = some b → mB H H' (H.get h) b
  | [], _, h, b, hb => by simp [Heap.get] at hb
  | (k, c) :: r, hm, h, b, hb => by
    simp only [Heap.get] at hb
    split at hb
    · rename_i hk; subst hk; cases hb; exact hm.1
    · exact mHeap_get hm.2 hb

theorem m1_vr (hm : ∀ h b, H'.get h = some b → mB H H' (H.get h) b) {s s' : S1} (h : m1 H H' s s') {v : Value} (hv : VR E H w s v) : VR E H' w s' v := by
  unfold m1 at h
  split at h
  · exact hv.elim
  · exact h.elim
  · split at h
    · rename_i hk
      subst hk
      split at h
      · rename_i cs hcs
        exact ⟨⟨cs, hcs⟩, hv.2⟩
      · exact h.elim
    · exact h.elim
  · exact trivial
  · split at h
    · rename_i hk; subst hk; subst h; exact hv
    · exact h.elim
  · subst h; exact hv
  · subst h; exact hv
  · subst h; exact hv
  · subst h; exact hv
  · subst h; exact hv
  · exact hv
  · exact hv
  · subst h; exact hv
  · split at h
    · rename_i hk; subst hk; subst h; exact hv
    · exact h.elim
  · exact hv
  · subst h
    have hv' : v = .slice none 0 0 := hv
    exact ⟨none, [], 0, by rw [hv']; rfl, rfl, by simp, by simp [maxLen], by simp⟩
  · split at h
    · rename_i hk; subst hk; subst h; exact hv
    · exact h.elim
  · split at h
    · rename_i hk; obtain ⟨rfl, rfl⟩ := hk; subst h; exact hv
    · exact h.elim
  · exact hv
  · exact hv
  · split at h
    · rename_i hk
      obtain ⟨rfl, rfl⟩ := hk
      split at h
      · rename_i hb
        refine ⟨fun k hk => ?_, hv.2⟩
        have := List.all_eq_true.1 hb k hk
        split at this
        · rename_i cs hcs; exact ⟨cs, hcs⟩
        · cases this
      · exact h.elim
    · exact h.elim
  · split at h
    · rename_i hk
      obtain ⟨rfl, rfl⟩ := hk
      split at h
      · rename_i cs hcs
        exact ⟨⟨cs, hcs⟩, hv.2⟩
      · exact h.elim
    · exact h.elim
  · split at h
    · rename_i hk
      subst hk
      split at h
      · rename_i ver et e xs ver' et' e' xs' h1 h2
        split at h
        · rename_i hkk
          obtain ⟨rfl, rfl⟩ := hkk
          obtain ⟨a1, a2⟩ := hv
          rw [h1] at a2
          refine ⟨a1, ?_⟩
          rw [h2]
          exact ⟨Nat.le_refl _, fun _ => a2.2 rfl⟩
        · exact h.elim
      · rename_i ver e xs ver' e' xs' h1 h2
        split at h
        · rename_i hkk
          obtain ⟨rfl, rfl⟩ := hkk
          obtain ⟨a1, a2⟩ := hv
          rw [h1] at a2
          refine ⟨a1, ?_⟩
          have hb := hm _ _ h2
          rw [h1] at hb
          simp only [mB] at hb
          split at hb
          · rename_i he
            obtain ⟨rfl, _⟩ := he
            subst hb
            rw [h2]
            exact ⟨Nat.le_refl _, fun _ => a2.2 rfl⟩
          · exact hb.elim
        · exact h.elim
      · exact h.elim
    · exact h.elim
  · split at h
    · rename_i ver e' xs h1
      split at h
      · rename_i hkk
        obtain ⟨rfl, rfl⟩ := hkk
        subst h
        obtain ⟨a1, a2⟩ := hv
        rw [h1] at a2
        exact a2.2 rfl
      · exact h.elim
    · exact h.elim
  · exact h.elim

theorem mL_vr (hm : ∀ h b, H'.get h = some b → mB H H' (H.get h) b) : ∀ {ss ss' : List S1} {vs : List Value}, mL H H' ss ss' → All2 (VR E H w) ss vs → All2 (VR E H' w) ss' vs
  | [], [], [], _, _ => trivial
  | [], [], _ :: _, _, ha => ha.elim
  | [a], [b], [v], h, ha => ⟨m1_vr hm h ha.1, trivial⟩
  | a :: a2 :: r, b :: b2 :: r', v :: vs, h, ha => ⟨m1_vr hm h.1 ha.1, mL_vr hm h.2 ha.2⟩
  | [], _ :: _, _, h, _ => h.elim
  | [_], [], _, h, _ => h.elim
  | [_], _ :: _ :: _, v :: vs, h, ha => by
    simp only [mL] at h
    exact h.2.elim
  | _ :: _ :: _, [], _, h, _ => h.elim
  | _ :: _ :: _, [_], v :: vs, h, ha => by
    simp only [mL] at h
    exact h.2.elim
  | _ :: _, _, [], _, ha => ha.elim
  | [_], [_], _ :: _ :: _, _, ha => ha.2.elim

theorem mL_map {e : Ty} {xs : List D} {ss : List S1} (h : mL H H' [.mapc e xs] ss) : ss = [.mapc e xs] := by
  cases ss with
  | nil => exact h.elim
  | cons s r =>
    cases r with
    | nil =>
      have h : m1 H H' (.mapc e xs) s := h
      cases s with
      | mapc e2 xs2 =>
        have h4 : if e = e2 then xs = xs2 else False := h
        split at h4
        · rename_i he; subst he; subst h4; rfl
        · exact h4.elim
      | _ => exact h.elim
    | cons s2 r2 =>
      have h : m1 H H' (.mapc e xs) s ∧ mL H H' [] (s2 :: r2) := by
        unfold mL at h
        exact h
      exact h.2.elim
theorem mL_box (hm : ∀ h b, H'.get h = some b → mB H H' (H.get h) b) {ss ss' : List S1} {o : Option Obj} (h : mL H H' ss ss') (hb : BoxAt E H w ss o) : BoxAt E H' w ss' o := by
  rcases hb with ⟨cs, et, h1, h2⟩ | ⟨e, xs, es, clock, rfl, h2, h3⟩
  · exact .inl ⟨cs, et, h1, mL_vr hm h h2⟩
  · exact .inr ⟨e, xs, es, clock, mL_map h, h2, h3⟩

theorem m0_vr (hm : ∀ h b, H'.get h = some b → mB H H' (H.get h) b) {s s' : V0} (h : m0 H H' s s') {v : Value} (hv : VR0 E H w s v) : VR0 E H' w s' v := by
  unfold m0 at h
  split at h
  · exact m1_vr hm h hv
  · obtain ⟨vs, h1, h2⟩ := hv
    exact ⟨vs, h1, mL_vr hm h h2⟩
  · exact h.elim

theorem m0L_vr (hm : ∀ h b, H'.get h = some b → mB H H' (H.get h) b) : ∀ {ss ss' : List V0} {vs : List Value}, m0L H H' ss ss' → All2 (VR0 E H w) ss vs → All2 (VR0 E H' w) ss' vs
  | [], [], [], _, _ => trivial
  | [], [], _ :: _, _, ha => ha.elim
  | a :: r, b :: r', v :: vs, h, ha => ⟨m0_vr hm h.1 ha.1, m0L_vr hm h.2 ha.2⟩
  | [], _ :: _, _, h, _ => h.elim
  | _ :: _, [], _, h, _ => h.elim
  | _ :: _, _ :: _, [], _, ha => ha.elim

theorem mV_vr (hm : ∀ h b, H'.get h = some b → mB H H' (H.get h) b) {s s' : SV} (h : mV H H' s s') {v : Value} (hv : VRS E H w s v) : VRS E H' w s' v := by
  unfold mV at h
  split at h
  · exact trivial
  · exact m0_vr hm h hv
  · obtain ⟨vs, h1, h2⟩ := hv
    exact ⟨vs, h1, m0L_vr hm h h2⟩
  · exact h.elim

theorem mSlot1_iff {a b : SV} {K : Prop} : mSlot1 H H' a b K → mV H H' a b ∧ K := by
  intro h
  unfold mSlot1 at h
  split at h
  · exact ⟨by unfold mV; trivial, h⟩
  · exact h

theorem mSlots_vr (hm : ∀ h b, H'.get h = some b → mB H H' (H.get h) b) : ∀ {ss ss' : List SV} {vs : List Value}, mSlots H H' ss ss' → All2 (VRS E H w) ss vs → All2 (VRS E H' w) ss' vs
  | [], [], [], _, _ => trivial
  | [], [], _ :: _, _, ha => ha.elim
  | a :: r, b :: r', v :: vs, h, ha => by
    obtain ⟨h1, h2⟩ := mSlot1_iff h
    exact ⟨mV_vr hm h1 ha.1, mSlots_vr hm h2 ha.2⟩
  | [], _ :: _, _, h, _ => h.elim
  | _ :: _, [], _, h, _ => h.elim
  | _ :: _, _ :: _, [], _, ha => ha.elim

theorem Match.rel {P : Program} {N : Nat} {G0 : Addr → Prop} {w0 : World} {ds : List Deferred} {s s' : St} {a : Act} {vs : List Value} (h : Match s s') (r : Rel P N G0 w0 vs ds E s a w) : Rel P N G0 w0 vs ds E s' a w := by
  obtain ⟨h1, h2, h3⟩ := h
  have hm : ∀ h b, s'.heap.get h = some b → mB s.heap s'.heap (s.heap.get h) b := fun h b hb => mHeap_get h2 hb
  have hsol : ∀ h, Solid E s'.heap h → Solid E s.heap h := by
    intro h hs
    rcases hs with ⟨cs, hcs⟩ | ⟨ver, et, e, xs, hcs, hn⟩
    · have := hm _ _ hcs
      unfold mB at this
      split at this
      · rename_i hb _; exact .inl ⟨_, hb⟩
      · rename_i heq; cases heq
      · rename_i heq; cases heq
      · exact this.elim
    · have := hm _ _ hcs
      unfold mB at this
      split at this
      · rename_i heq; cases heq
      · rename_i hb heq; cases heq
        split at this
        · rename_i he; obtain ⟨rfl, rfl⟩ := he; exact .inr ⟨_, _, _, _, hb, hn⟩
        · exact this.elim
      · rename_i heq; cases heq
      · exact this.elim
  refine ⟨mSlots_vr hm h1 r.slots, mSlots_vr hm h3 r.susp, r.defers, r.below, r.base, ⟨fun h cells hx => ?_, fun h ver et e xs hx => ?_, fun h h' a b => r.hr.inj h h' (hsol h a) (hsol h' b), fun a ha h hs => r.hr.gout a ha h (hsol h hs), r.hr.gin, r.hr.gz, r.hr.vz⟩, r.g0⟩
  · have hb := hm _ _ hx
    unfold mB at hb
    split at hb
    · rename_i heq h5 ; cases h5
      obtain ⟨a1, a2⟩ := r.hr.box h _ heq
      exact ⟨a1, mL_box hm hb a2⟩
    · rename_i heq; cases heq
    · rename_i heq; cases heq
    · exact hb.elim
  · have hb := hm _ _ hx
    unfold mB at hb
    split at hb
    · rename_i heq; cases heq
    · rename_i heq h5 ; cases h5
      split at hb
      · rename_i he
        obtain ⟨rfl, rfl⟩ := he
        subst hb
        exact r.hr.row h _ _ _ _ heq
      · exact hb.elim
    · rename_i heq; cases heq
    · exact hb.elim
end

end Go.RX
