/- Part M: regions that draw their order. -/
import Derived.Test.YtafpahkcjdfpiaaDoorRxL
set_option linter.all false
namespace Go.RX
open Go Go.RowKit

/-- The last write, in the text's order, of those of L. -/
def lastW {α : Type} (wr : Rec → Option α) (L : Nat → Bool) : List Rec → Nat → Option α → Option α
  | [], _, acc => acc
  | r :: rs, k, acc => lastW wr L rs (k + 1) (if L k = true then (wr r).or acc else acc)

section
variable {α : Type} {wr : Rec → Option α}

theorem lastW_congr {L1 L2 : Nat → Bool} : ∀ {R : List Rec} {k : Nat} {acc : Option α}, (∀ j r, R[j]? = some r → (wr r).isSome = true → L1 (k + j) = L2 (k + j)) → lastW wr L1 R k acc = lastW wr L2 R k acc
  | [], _, _, _ => rfl
  | r :: R, k, acc, h => by
    simp only [lastW]
    have h0 : (if L1 k = true then (wr r).or acc else acc) = (if L2 k = true then (wr r).or acc else acc) := by
      cases hw : wr r with
      | none => simp
      | some x => rw [show L1 k = L2 k by simpa using h 0 r (by simp) (by rw [hw]; rfl)]
    rw [h0]
    exact lastW_congr fun j r' hj hs => by
      have := h (j + 1) r' (by simpa using hj) hs
      rwa [show k + (j + 1) = k + 1 + j by omega] at this

theorem lastW_none {L : Nat → Bool} : ∀ {R : List Rec} {k : Nat} {acc : Option α}, (∀ j r, R[j]? = some r → L (k + j) = true → wr r = none) → lastW wr L R k acc = acc
  | [], _, _, _ => rfl
  | r :: R, k, acc, h => by
    simp only [lastW]
    have h0 : (if L k = true then (wr r).or acc else acc) = acc := by
      split
      · rename_i hl; rw [h 0 r (by simp) (by simpa using hl)]; rfl
      · rfl
    rw [h0]
    exact lastW_none fun j r' hj hs => h (j + 1) r' (by simpa using hj) (by rwa [show k + (j + 1) = k + 1 + j by omega])

theorem lastW_add {L : Nat → Bool} : ∀ {R : List Rec} {k i : Nat} {acc : Option α} {r : Rec}, R[i]? = some r → L (k + i) = false →
    (∀ j r', i < j → R[j]? = some r' → L (k + j) = true → wr r' = none) →
    lastW wr (fun j => j == k + i || L j) R k acc = (wr r).or (lastW wr L R k acc)
  | [], _, _, _, _, h, _, _ => by simp at h
  | x :: R, k, 0, acc, r, h, hl, hn => by
    simp at h; subst h
    simp only [lastW]
    have hk : L k = false := by simpa using hl
    rw [if_pos (by simp), if_neg (by rw [hk]; simp)]
    rw [lastW_none (L := L) (fun j r' hj hs => hn (j + 1) r' (by omega) (by simpa using hj) (by rwa [show k + (j + 1) = k + 1 + j by omega]))]
    exact lastW_none fun j r' hj hs => by
      have hne : (k + 1 + j == k + 0) = false := by simp; omega
      rw [hne, Bool.false_or] at hs
      exact hn (j + 1) r' (by omega) (by simpa using hj) (by rwa [show k + (j + 1) = k + 1 + j by omega])
  | x :: R, k, i + 1, acc, r, h, hl, hn => by
    simp only [lastW]
    have h0 : (if (k == k + (i + 1) || L k) = true then (wr x).or acc else acc) = (if L k = true then (wr x).or acc else acc) := by
      cases hL : L k <;> simp
    refine (congrArg (lastW wr (fun j => j == k + (i + 1) || L j) R (k + 1)) h0).trans ?_
    have := lastW_add (L := L) (R := R) (k := k + 1) (i := i) (acc := if L k = true then (wr x).or acc else acc) (r := r) (by simpa using h) (by rwa [show k + 1 + i = k + (i + 1) by omega])
      (fun j r' hij hj hs => hn (j + 1) r' (by omega) (by simpa using hj) (by rwa [show k + (j + 1) = k + 1 + j by omega]))
    rw [show k + (i + 1) = k + 1 + i by omega]
    exact this
end

def slotW (t : Nat) (r : Rec) : Option SV := if r.o.dst = some t then some r.v else none
def heapW (h : Nat) (r : Rec) : Option SB := (putAll [] r.e).get h

theorem putAll_get : ∀ (e : List (Nat × SB)) (H : Heap) (h : Nat), (putAll H e).get h = ((putAll [] e).get h).or (H.get h)
  | [], H, h => rfl
  | (k, b) :: r, H, h => by
    simp only [putAll]
    rw [putAll_get r (H.put k b) h, putAll_get r (Heap.put [] k b) h, Heap.get_put, Heap.get_put]
    cases (putAll [] r).get h with
    | some x => rfl
    | none =>
      by_cases hk : h = k
      · simp [hk]
      · simp [hk, Heap.get]

theorem heapW_mem : ∀ {e : List (Nat × SB)} {h : Nat}, ((putAll [] e).get h).isSome = true → h ∈ e.map (·.1)
  | [], h, hs => by simp [putAll, Heap.get] at hs
  | (k, b) :: r, h, hs => by
    simp only [putAll] at hs
    rw [putAll_get, Heap.get_put] at hs
    simp only [List.map_cons, List.mem_cons]
    by_cases hk : h = k
    · exact .inl hk
    · simp only [hk, if_false, Heap.get, Option.or_none] at hs
      exact .inr (heapW_mem hs)

structure StateAt (R : List Rec) (s0 : St) (L : Nat → Bool) (s : St) : Prop where
  len : s.slots.length = s0.slots.length
  slots : ∀ t, s.slots[t]? = lastW (slotW t) L R 0 s0.slots[t]?
  heap : ∀ h, s.heap.get h = lastW (heapW h) L R 0 (s0.heap.get h)
  susp : s.susp = s0.susp

theorem StateAt.congr {R : List Rec} {s0 s : St} {L1 L2 : Nat → Bool} (h : StateAt R s0 L1 s) (he : ∀ i, i < R.length → L1 i = L2 i) : StateAt R s0 L2 s where
  len := h.len
  slots := fun t => by rw [h.slots t]; exact lastW_congr fun j r hj _ => by rw [Nat.zero_add]; exact he j (List.getElem?_eq_some_iff.1 hj).1
  heap := fun t => by rw [h.heap t]; exact lastW_congr fun j r hj _ => by rw [Nat.zero_add]; exact he j (List.getElem?_eq_some_iff.1 hj).1
  susp := h.susp

/-- One more. -/
theorem StateAt.add {R : List Rec} {s0 s : St} {L : Nat → Bool} (h : StateAt R s0 L s) {i : Nat} {r : Rec} (hi : R[i]? = some r) (hl : L i = false) (hd : ∀ d, r.o.dst = some d → d < s0.slots.length)
    (hs : ∀ j r', i < j → R[j]? = some r' → L j = true → ∀ d, r.o.dst = some d → r'.o.dst ≠ some d)
    (hh : ∀ j r', i < j → R[j]? = some r' → L j = true → ∀ k ∈ r.hW, k ∉ r'.hW) :
    StateAt R s0 (fun j => j == i || L j) (s.with r.o.dst r.v (putAll s.heap r.e)) where
  len := by
    cases hdst : r.o.dst with
    | none => exact h.len
    | some d => simp only [St.with, List.length_set]; exact h.len
  slots := fun t => by
    by_cases hw : (slotW t r).isSome = true
    · have hdt : r.o.dst = some t := by
        unfold slotW at hw
        split at hw
        · assumption
        · cases hw
      have ha := lastW_add (wr := slotW t) (L := L) (k := 0) (acc := s0.slots[t]?) hi (by rwa [Nat.zero_add]) (fun j r' hij hj hL => by
        rw [Nat.zero_add] at hL
        unfold slotW
        rw [if_neg (hs j r' hij hj hL t hdt)])
      simp only [Nat.zero_add] at ha
      rw [ha]
      have hlt : t < s.slots.length := by rw [h.len]; exact hd t hdt
      simp only [hdt, St.with, slotW, if_true, Option.some_or]
      rw [List.getElem?_set]
      simp [hlt]
    · have hw0 : slotW t r = none := by simpa using hw
      have hc : lastW (slotW t) (fun j => j == i || L j) R 0 s0.slots[t]? = lastW (slotW t) L R 0 s0.slots[t]? := lastW_congr fun j r' hj hsm => by
        rw [Nat.zero_add]
        have : j ≠ i := fun e => by subst e; rw [hi] at hj; cases hj; rw [hw0] at hsm; cases hsm
        simp [this]
      rw [hc, ← h.slots t]
      unfold slotW at hw0
      cases hdst : r.o.dst with
      | none => rfl
      | some d =>
        have hne : d ≠ t := fun e => by subst e; rw [if_pos hdst] at hw0; cases hw0
        simp only [St.with]
        rw [List.getElem?_set_ne hne]
  heap := fun k => by
    have hg : (s.with r.o.dst r.v (putAll s.heap r.e)).heap.get k = (heapW k r).or (s.heap.get k) := putAll_get _ _ _
    rw [hg]
    by_cases hw : (heapW k r).isSome = true
    · have ha := lastW_add (wr := heapW k) (L := L) (k := 0) (acc := s0.heap.get k) hi (by rwa [Nat.zero_add]) (fun j r' hij hj hL => by
        rw [Nat.zero_add] at hL
        cases hx : heapW k r' with
        | none => rfl
        | some y => exact absurd (heapW_mem (by unfold heapW at hx; rw [hx]; rfl)) (hh j r' hij hj hL k (heapW_mem hw)))
      simp only [Nat.zero_add] at ha
      rw [ha, h.heap k]
    · have hw0 : heapW k r = none := by simpa using hw
      rw [hw0, Option.none_or, h.heap k]
      exact lastW_congr fun j r' hj hsm => by
        rw [Nat.zero_add]
        have : j ≠ i := fun e => by subst e; rw [hi] at hj; cases hj; rw [hw0] at hsm; cases hsm
        simp [this]
  susp := h.susp

/-! ### The text's order as a trace -/
def Lit (v v' : SV) : Prop := v' = v ∨ ∃ e x, v = .v (.one (.bool e)) ∧ v' = .v (.one x) ∧ ((e = true ∧ x = .tt) ∨ (e = false ∧ x = .ff))

def RecOK (tt : TT) (tb : Nat → Option Con) (base : Nat) (ops : List Oper) (r : Rec) (s : St) : Prop :=
  (guardE ops s.slots r.o = .run ∧ (∃ f, stepE tt tb base r.o s = some f ∧ (∀ c ∈ f.cs, c) ∧ r.e = f.e ∧ Lit f.v r.v) ∧ r.rd = readsE base r.o s) ∨
  (guardE ops s.slots r.o = .skip ∧ r.v = .v (.one .undf) ∧ r.e = [])

def TraceOK (tt : TT) (tb : Nat → Option Con) (base : Nat) (ops : List Oper) : List Rec → List Oper → St → St → Prop
  | [], [], s, s' => s = s'
  | r :: rs, o :: os, s, s' => r.o = o ∧ RecOK tt tb base ops r s ∧ TraceOK tt tb base ops rs os (s.with o.dst r.v (putAll s.heap r.e)) s'
  | _, _, _, _ => False

theorem runOps_trace {tt : TT} {tb : Nat → Option Con} {base : Nat} {ops : List Oper} {K : St → List Rec → Prop} : ∀ (l : List Oper) (i : Nat) (s : St) (recs : List Rec), runOps tt tb base ops l i s recs K →
    ∃ rs s', TraceOK tt tb base ops rs l s s' ∧ K s' (recs ++ rs)
  | [], i, s, recs, h => ⟨[], s, rfl, by simpa [runOps] using h⟩
  | o :: l, i, s, recs, h => by
    unfold runOps at h
    split at h
    · rename_i hg
      split at h
      · rename_i f hf
        split at h
        · rename_i e _ hfv
          obtain ⟨hcs, h⟩ := conj_iff.1 h
          cases e with
          | true =>
            obtain ⟨rs, s', h1, h2⟩ := runOps_trace l (i + 1) _ _ (h.1 rfl)
            exact ⟨_ :: rs, s', ⟨rfl, .inl ⟨hg, ⟨f, hf, hcs, rfl, .inr ⟨true, _, hfv, rfl, .inl ⟨rfl, rfl⟩⟩⟩, rfl⟩, h1⟩, by simpa using h2⟩
          | false =>
            obtain ⟨rs, s', h1, h2⟩ := runOps_trace l (i + 1) _ _ (h.2 rfl)
            exact ⟨_ :: rs, s', ⟨rfl, .inl ⟨hg, ⟨f, hf, hcs, rfl, .inr ⟨false, _, hfv, rfl, .inr ⟨rfl, rfl⟩⟩⟩, rfl⟩, h1⟩, by simpa using h2⟩
        · obtain ⟨hcs, h⟩ := conj_iff.1 h
          obtain ⟨rs, s', h1, h2⟩ := runOps_trace l (i + 1) _ _ h
          exact ⟨_ :: rs, s', ⟨rfl, .inl ⟨hg, ⟨f, hf, hcs, rfl, .inl rfl⟩, rfl⟩, h1⟩, by simpa using h2⟩
      · exact h.elim
    · rename_i hg
      obtain ⟨rs, s', h1, h2⟩ := runOps_trace l (i + 1) _ _ h
      exact ⟨_ :: rs, s', ⟨rfl, .inr ⟨hg, rfl, rfl⟩, h1⟩, by simpa using h2⟩
    · exact h.elim

theorem TraceOK.len {tt : TT} {tb : Nat → Option Con} {base : Nat} {ops : List Oper} : ∀ {rs : List Rec} {os : List Oper} {s s' : St}, TraceOK tt tb base ops rs os s s' → rs.map (·.o) = os
  | [], [], _, _, _ => rfl
  | r :: rs, o :: os, _, _, h => by
    obtain ⟨h1, _, h3⟩ := h
    simp [h1, TraceOK.len h3]
  | [], _ :: _, _, _, h => h.elim
  | _ :: _, [], _, _, h => h.elim

/-- The state ahead of operation k, in the text's order. -/
theorem TraceOK.states {tt : TT} {tb : Nat → Option Con} {base : Nat} {ops : List Oper} {s0 sn : St} {R : List Rec} {O : List Oper} (hd : ∀ r ∈ R, ∀ d, r.o.dst = some d → d < s0.slots.length) :
    ∀ (pre rs : List Rec) (os : List Oper) (s : St), R = pre ++ rs → StateAt R s0 (fun j => decide (j < pre.length)) s → TraceOK tt tb base ops rs os s sn →
      (∀ i r, rs[i]? = some r → ∃ si, StateAt R s0 (fun j => decide (j < pre.length + i)) si ∧ RecOK tt tb base ops r si) ∧ StateAt R s0 (fun _ => true) sn
  | pre, [], [], s, hR, hs, ht => by
    refine ⟨by simp, ?_⟩
    have : s = sn := ht
    subst this
    exact hs.congr fun i hi => by rw [hR] at hi; simp at hi; simp [hi]
  | pre, r :: rs, o :: os, s, hR, hs, ht => by
    obtain ⟨h1, h2, h3⟩ := ht
    subst h1
    have hi : R[pre.length]? = some r := by rw [hR]; simp
    have hadd := hs.add hi (by simp) (hd r (by rw [hR]; simp)) (fun j r' hij _ hL => absurd hL (by simp; omega)) (fun j r' hij _ hL => absurd hL (by simp; omega))
    have hadd2 : StateAt R s0 (fun j => decide (j < (pre ++ [r]).length)) (s.with r.o.dst r.v (putAll s.heap r.e)) := hadd.congr fun j _ => by
      have : (j == pre.length || decide (j < pre.length)) = decide (j < (pre ++ [r]).length) := by
        simp only [List.length_append, List.length_cons, List.length_nil]
        rw [Bool.eq_iff_iff]
        simp
        omega
      exact this
    obtain ⟨h4, h5⟩ := TraceOK.states hd (O := O) (pre ++ [r]) rs os _ (by rw [hR]; simp) hadd2 h3
    refine ⟨fun i r' hr' => ?_, h5⟩
    cases i with
    | zero =>
      simp at hr'; subst hr'
      exact ⟨s, hs, h2⟩
    | succ i =>
      obtain ⟨si, h6, h7⟩ := h4 i r' (by simpa using hr')
      refine ⟨si, ?_, h7⟩
      rw [List.length_append] at h6
      simpa [Nat.add_assoc, Nat.add_comm 1 i] using h6
  | _, [], _ :: _, _, _, _, h => h.elim
  | _, _ :: _, [], _, _, _, h => h.elim

end Go.RX
