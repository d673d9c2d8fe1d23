/- Part B: the relation between a symbolic state and the machine's, and how it is kept. -/
import Derived.Test.YtafpahkcjdfpiaaDoorRxA
set_option linter.all false
namespace Go.RX
open Go Go.RowKit

/-- What stands behind the names: handle to block, handle to a row's header, the protected cells. -/
structure Env where
  bm : Nat → Nat
  hd : Nat → Value
  G : Addr → Prop
  G0 : Addr → Prop

def fldOff : Ty → Nat → Nat
  | .pair _ _, 0 => 0
  | .pair f r, j + 1 => f.n + fldOff r j
  | _, _ => 0
def fldTy : Ty → Nat → Option Ty
  | .pair f _, 0 => some f
  | .pair _ r, j + 1 => fldTy r j
  | _, _ => none
def subOff (e : Ty) : Option Nat → Nat
  | none => 0
  | some j => fldOff e j

def VR (E : Env) (H : Heap) (w : World) : S1 → Value → Prop
  | .ptr h off, v => (∃ cs, H.get h = some (.box cs)) ∧ v = .pointer (some ⟨E.bm h, off, none⟩)
  | .row h k, v => (∃ a n c, v = .slice a n c) ∧
    (match H.get h with
    | some (.row ver _ _ _) => k ≤ ver ∧ (k = ver → v = E.hd h)
    | some (.frozen ver e xs) => k ≤ ver ∧ (k = ver → Rd E.G w (.slice e) [v] (.list xs))
    | _ => False)
  | .rptr h k e i fld, v => (∃ a, v = .pointer (some a)) ∧
    (match H.get h with
    | some (.row ver _ e' xs) => k ≤ ver ∧ (k = ver → e = e' ∧ i < xs.length ∧ v = .pointer (some ⟨E.bm h, i * e.n + subOff e fld, none⟩))
    | some (.frozen ver _ _) => k ≤ ver
    | _ => False)
  | .fn f caps, v => (∀ h ∈ caps, ∃ cs, H.get h = some (.box cs)) ∧ v = .func (.func f) #[] (caps.map fun h => Value.pointer (some ⟨E.bm h, 0, none⟩)).toArray
  | .mp h, v => (∃ cs, H.get h = some (.box cs)) ∧ v = .map (some (E.bm h))
  | s, v => PR E.G w s v

def VR0 (E : Env) (H : Heap) (w : World) : V0 → Value → Prop
  | .one s, v => VR E H w s v
  | .agg cs, v => ∃ vs, v = .agg vs ∧ All2 (VR E H w) cs vs.toList

def VRS (E : Env) (H : Heap) (w : World) : SV → Value → Prop
  | .v x, v => VR0 E H w x v
  | .tup l, v => ∃ vs, v = .tuple vs ∧ All2 (VR0 E H w) l vs.toList

def RdL (G : Addr → Prop) (w : World) (e : Ty) : List Value → List D → Prop
  | cells, [] => cells = []
  | cells, x :: xs => ∃ c1 c2, cells = c1 ++ c2 ∧ Rd G w e c1 x ∧ RdL G w e c2 xs

/-- The row h: its header owns the cells that read as xs. -/
def RowR (N : Nat) (E : Env) (w : World) (h et : Nat) (e : Ty) (xs : List D) : Prop :=
  ∃ cells, w.ownsRow N et e.n (E.hd h) xs.length cells ∧ RdL E.G w e cells xs ∧ (∀ g, (E.hd h).ownBlock = some g → g = E.bm h)

def Solid (E : Env) (H : Heap) (h : Nat) : Prop :=
  (∃ cells, H.get h = some (.box cells)) ∨ (∃ ver et e xs, H.get h = some (.row ver et e xs) ∧ (E.hd h).ownBlock ≠ none)

/-- The package-level variables that hold integers, whatever integers they hold. -/
def VarsOK (P : Program) (N : Nat) (w : World) : Prop :=
  ∀ g k, (∀ W : World, W.ShapedOpen P → ∃ m, W.cell? ⟨g, 0, none⟩ = some (.int k m)) → g < N ∧ ∃ m, w.cell? ⟨g, 0, none⟩ = some (.int k m)

theorem VarsOK.keep {P : Program} {N : Nat} {w w' : World} (h : VarsOK P N w) (hk : ∀ k, k < N → k < w.heap.size → w'.heap[k]? = w.heap[k]?) : VarsOK P N w' := fun g k hp => by
  obtain ⟨h1, m, h2⟩ := h g k hp
  refine ⟨h1, m, ?_⟩
  have hlt : g < w.heap.size := by
    unfold World.cell? at h2
    split at h2
    · rename_i hh; exact (Array.getElem?_eq_some_iff.1 hh).1
    · cases h2
  rw [← h2]
  exact World.cell?_of_block (hk g h1 hlt)
theorem VarsOK.below {P : Program} {N : Nat} {w w' : World} (h : VarsOK P N w) (hb : Below w.heap.size w w') : VarsOK P N w' := fun g k hp => by
  obtain ⟨h1, m, h2⟩ := h g k hp
  refine ⟨h1, m, ?_⟩
  have hlt : g < w.heap.size := by
    unfold World.cell? at h2
    split at h2
    · rename_i hh; exact (Array.getElem?_eq_some_iff.1 hh).1
    · cases h2
  rw [← h2]
  exact hb.cell hlt
theorem VarsOK.up {P : Program} {N M : Nat} {w : World} (h : VarsOK P N w) (hN : N ≤ M) : VarsOK P M w := fun g k hp => ⟨Nat.lt_of_lt_of_le (h g k hp).1 hN, (h g k hp).2⟩

/-- A map's element, as data: it needs no memory. -/
def MapV (e : Ty) (v : Value) (d : D) : Prop := ∃ cs, v = (if e.isAgg then Value.agg cs.toArray else cs.headD undef) ∧ ∀ (G : Addr → Prop) (w : World), Rd G w e cs d
def ik (k : Int) : Value := .int .i64 k
/-- A map's entries read as xs. -/
def MapIs (e : Ty) (es : List MapEntry) (xs : List D) : Prop :=
  (∀ x ∈ es, ∃ k, x.key = ik k) ∧ (∀ (i j : Nat) x y, es[i]? = some x → es[j]? = some y → x.key = y.key → i = j) ∧
  ∀ k, (∀ d, mget xs k = some d → ∃ x ∈ es, x.key = ik k ∧ MapV e x.val d) ∧ (mget xs k = none → ∀ x ∈ es, x.key ≠ ik k)
/-- A block of the call's own: cells, or a map. -/
def BoxAt (E : Env) (H : Heap) (w : World) (cells : List S1) (o : Option Obj) : Prop :=
  (∃ cs et, o = some (.cells cs et (0, 0)) ∧ All2 (VR E H w) cells cs.toList) ∨
  (∃ e xs es clock, cells = [.mapc e xs] ∧ o = some (.map es clock) ∧ MapIs e es.toList xs)
theorem BoxAt.mono {E E' : Env} {H H' : Heap} {w w' : World} {cells : List S1} {o : Option Obj} (h : BoxAt E H w cells o) (hv : ∀ s v, VR E H w s v → VR E' H' w' s v) : BoxAt E' H' w' cells o := by
  rcases h with ⟨cs, et, h1, h2⟩ | h
  · exact .inl ⟨cs, et, h1, h2.mono hv⟩
  · exact .inr h
theorem BoxAt.lt {E : Env} {H : Heap} {w w1 : World} {cells : List S1} {b : Nat} (h : BoxAt E H w cells w1.heap[b]?) : b < w1.heap.size := by
  rcases h with ⟨cs, et, h1, _⟩ | ⟨_, _, _, _, _, h1, _⟩ <;> exact (Array.getElem?_eq_some_iff.1 h1).1
theorem BoxAt.plain {E : Env} {H : Heap} {w : World} {cells : List S1} {o : Option Obj} (h : BoxAt E H w cells o) (hc : isMapB cells = false) : ∃ cs et, o = some (.cells cs et (0, 0)) ∧ All2 (VR E H w) cells cs.toList := by
  rcases h with h | ⟨_, _, _, _, rfl, _⟩
  · exact h
  · cases hc
theorem BoxAt.map {E : Env} {H : Heap} {w : World} {e : Ty} {xs : List D} {o : Option Obj} (h : BoxAt E H w [.mapc e xs] o) : ∃ es clock, o = some (.map es clock) ∧ MapIs e es.toList xs := by
  rcases h with ⟨cs, _, _, h⟩ | ⟨_, _, es, clock, h1, h2, h3⟩
  · have hl := h.len
    obtain ⟨v, hv⟩ : ∃ v, cs.toList = [v] := List.length_eq_one_iff.1 (by rw [← hl]; rfl)
    rw [hv] at h
    exact h.1.elim
  · cases h1; exact ⟨es, clock, h2, h3⟩

structure HR (P : Program) (N : Nat) (E : Env) (H : Heap) (w : World) : Prop where
  box : ∀ h cells, H.get h = some (.box cells) → N ≤ E.bm h ∧ BoxAt E H w cells w.heap[E.bm h]?
  row : ∀ h ver et e xs, H.get h = some (.row ver et e xs) → RowR N E w h et e xs
  inj : ∀ h h', Solid E H h → Solid E H h' → E.bm h = E.bm h' → h = h'
  gout : ∀ a, E.G a → ∀ h, Solid E H h → a.block ≠ E.bm h
  gin : ∀ a, E.G a → a.block < w.heap.size
  gz : (∀ a, E.G0 a → E.G a) ∧ ∀ a, E.G a → E.G0 a ∨ N ≤ a.block
  vz : VarsOK P N w

structure St where
  slots : List SV
  susp : List SV
  heap : Heap

structure Rel (P : Program) (N : Nat) (G0 : Addr → Prop) (w0 : World) (vs : List Value) (ds : List Deferred) (E : Env) (s : St) (a : Act) (w : World) : Prop where
  slots : All2 (VRS E s.heap w) s.slots a.tmps.toList
  susp : All2 (VRS E s.heap w) s.susp vs
  defers : a.defers = ds
  below : Below N w0 w
  base : N ≤ w.heap.size
  hr : HR P N E s.heap w
  g0 : E.G0 = G0

/-! ### Rows of data -/
section
variable {G G' : Addr → Prop} {w w' : World} {e : Ty}
theorem RdL.mono (hg : ∀ a, G a → G' a) (hc : ∀ a, G a → w'.cell? a = w.cell? a) : ∀ {xs : List D} {cells : List Value}, RdL G w e cells xs → RdL G' w' e cells xs
  | [], _, h => h
  | _ :: _, _, ⟨c1, c2, h1, h2, h3⟩ => ⟨c1, c2, h1, h2.mono hg hc, RdL.mono hg hc h3⟩
theorem RdL.len : ∀ {xs : List D} {cells : List Value}, RdL G w e cells xs → cells.length = xs.length * e.n
  | [], _, h => by simp [show _ = [] from h]
  | x :: xs, _, ⟨c1, c2, h1, h2, h3⟩ => by
    rw [h1, List.length_append, h2.len, RdL.len h3, List.length_cons, Nat.add_mul, Nat.one_mul, Nat.add_comm]
theorem RdL.append : ∀ {xs ys : List D} {c d : List Value}, RdL G w e c xs → RdL G w e d ys → RdL G w e (c ++ d) (xs ++ ys)
  | [], _, _, _, h, h' => by rw [show _ = [] from h]; exact h'
  | x :: xs, ys, _, d, ⟨c1, c2, h1, h2, h3⟩, h' => ⟨c1, c2 ++ d, by rw [h1, List.append_assoc], h2, RdL.append h3 h'⟩
theorem RdL.one {ys : List Value} {x : D} (h : Rd G w e ys x) : RdL G w e ys [x] := ⟨ys, [], by simp, h, rfl⟩
/-- Element i of a row. -/
theorem RdL.get : ∀ {xs : List D} {cells : List Value}, RdL G w e cells xs → ∀ {i : Nat} {x : D}, xs[i]? = some x →
    Rd G w e ((cells.drop (i * e.n)).take e.n) x
  | [], _, _, i, x, hx => by simp at hx
  | y :: xs, _, ⟨c1, c2, h1, h2, h3⟩, 0, x, hx => by
    simp at hx; subst hx
    rw [h1]
    have : (c1 ++ c2).take e.n = c1 := by rw [← h2.len]; simp
    simpa [this] using h2
  | y :: xs, _, ⟨c1, c2, h1, h2, h3⟩, i + 1, x, hx => by
    simp at hx
    have := RdL.get h3 hx
    rw [h1, Nat.add_mul, Nat.one_mul, Nat.add_comm (i * e.n)]
    have hd : (c1 ++ c2).drop (e.n + i * e.n) = c2.drop (i * e.n) := by
      rw [← h2.len]; simp
    rw [hd]; exact this
theorem RdL.set : ∀ {xs : List D} {cells : List Value}, RdL G w e cells xs → ∀ {i : Nat} {x : D} {ys : List Value}, i < xs.length → Rd G w e ys x →
    RdL G w e (cells.take (i * e.n) ++ ys ++ cells.drop (i * e.n + ys.length)) (xs.set i x)
  | [], _, _, i, x, ys, hi, _ => by simp at hi
  | y :: xs, _, ⟨c1, c2, h1, h2, h3⟩, 0, x, ys, _, hr => by
    refine ⟨ys, c2, ?_, hr, h3⟩
    rw [h1, hr.len, ← h2.len]
    simp
  | y :: xs, _, ⟨c1, c2, h1, h2, h3⟩, i + 1, x, ys, hi, hr => by
    simp at hi
    refine ⟨c1, _, ?_, h2, RdL.set h3 hi hr⟩
    rw [h1, Nat.add_mul, Nat.one_mul, Nat.add_comm (i * e.n), ← h2.len]
    simp [List.take_append, List.drop_append, Nat.add_assoc]
    have : c1.drop (c1.length + (i * c1.length + ys.length)) = [] := by simp
    have t2 : c1.take (c1.length + i * c1.length) = c1 := List.take_of_length_le (by omega)
    simp [this, t2]
/-- A persistent slice read as a row of cells. -/
theorem RdL.of_at {G1 : Addr → Prop} {a : Addr} : ∀ {xs : List D} {k : Nat}, (∀ i x, xs[i]? = some x → ∃ ys, At G1 w (a.add ((k + i) * e.n)) ys ∧ Rd G w e ys x) →
    ∃ cells, RdL G w e cells xs ∧ At G1 w (a.add (k * e.n)) cells
  | [], k, _ => ⟨[], rfl, fun j v h => by simp at h⟩
  | x :: xs, k, h => by
    obtain ⟨ys, hat, hr⟩ := h 0 x (by simp)
    obtain ⟨cs, h1, h2⟩ := RdL.of_at (xs := xs) (k := k + 1) (fun i y hy => by
      have := h (i + 1) y (by simpa using hy)
      rwa [show k + (i + 1) = k + 1 + i by omega] at this)
    refine ⟨ys ++ cs, ⟨ys, cs, rfl, hr, h1⟩, fun j v hj => ?_⟩
    rw [List.getElem?_append] at hj
    split at hj
    · exact hat j v hj
    · rename_i hlt
      have := h2 (j - ys.length) v hj
      have hl := hr.len
      have e1 : (a.add ((k + 1) * e.n)).add (j - ys.length) = (a.add (k * e.n)).add j := by
        have : (k + 1) * e.n + (j - ys.length) = k * e.n + j := by
          rw [Nat.add_mul, Nat.one_mul]; omega
        unfold Addr.add
        repeat' split
        all_goals (first | (simp_all; done) | skip)
        all_goals (first | (cases a; simp_all; omega) | skip)
      rwa [e1] at this
end

/-! ### Steps of the relation -/
/-- What a step may do to the world behind a row's handle, as far as old names are concerned. -/
structure Step (E E' : Env) (H H' : Heap) (w w' : World) : Prop where
  g : ∀ a, E.G a → E'.G a
  c : ∀ a, E.G a → w'.cell? a = w.cell? a
  box : ∀ h cs, H.get h = some (.box cs) → (∃ cs', H'.get h = some (.box cs')) ∧ E'.bm h = E.bm h
  row : ∀ h ver et e xs, H.get h = some (.row ver et e xs) →
    (∃ ver' et' xs', H'.get h = some (.row ver' et' e xs') ∧ ver ≤ ver' ∧ (ver' = ver → E'.hd h = E.hd h ∧ E'.bm h = E.bm h ∧ xs.length ≤ xs'.length)) ∨
    (∃ ver' xs', H'.get h = some (.frozen ver' e xs') ∧ ver ≤ ver' ∧ (ver' = ver → Rd E'.G w' (.slice e) [E.hd h] (.list xs')))
  fro : ∀ h ver e xs, H.get h = some (.frozen ver e xs) → H'.get h = some (.frozen ver e xs)
  g0 : E'.G0 = E.G0

section
variable {E E' : Env} {H H' : Heap} {w w' : World}
theorem Step.vr (st : Step E E' H H' w w') {s : S1} {v : Value} (h : VR E H w s v) : VR E' H' w' s v := by
  cases s with
  | ptr k off =>
    obtain ⟨⟨cs, hcs⟩, hv⟩ := h
    obtain ⟨h1, h2⟩ := st.box k cs hcs
    exact ⟨h1, by rw [h2]; exact hv⟩
  | row k ver0 =>
    simp only [VR] at h ⊢
    obtain ⟨hsl, h⟩ := h
    refine ⟨hsl, ?_⟩
    cases hk : H.get k with
    | none => simp [hk] at h
    | some b =>
      cases b with
      | box cs => simp [hk] at h
      | row ver et e xs =>
        simp only [hk] at h
        rcases st.row k ver et e xs hk with ⟨ver', et', xs', h1, h2, h3⟩ | ⟨ver', xs', h1, h2, h3⟩
        · simp only [h1]
          refine ⟨Nat.le_trans h.1 h2, fun e1 => ?_⟩
          have e2 : ver' = ver := by have := h.1; omega
          rw [(h3 e2).1]
          exact h.2 (by omega)
        · simp only [h1]
          refine ⟨Nat.le_trans h.1 h2, fun e1 => ?_⟩
          have e2 : ver' = ver := by have := h.1; omega
          rw [h.2 (by omega)]
          exact h3 e2
      | frozen ver e xs =>
        simp only [hk] at h
        rw [st.fro k ver e xs hk]
        exact ⟨h.1, fun e1 => Rd.mono st.g st.c (h.2 e1)⟩
  | rptr k ver0 e0 i fld =>
    simp only [VR] at h ⊢
    obtain ⟨hsl, h⟩ := h
    refine ⟨hsl, ?_⟩
    cases hk : H.get k with
    | none => simp [hk] at h
    | some b =>
      cases b with
      | box cs => simp [hk] at h
      | row ver et e xs =>
        simp only [hk] at h
        rcases st.row k ver et e xs hk with ⟨ver', et', xs', h1, h2, h3⟩ | ⟨ver', xs', h1, h2, h3⟩
        · simp only [h1]
          refine ⟨Nat.le_trans h.1 h2, fun e1 => ?_⟩
          have e2 : ver' = ver := by have := h.1; omega
          obtain ⟨a1, a2, a3⟩ := h.2 (by omega)
          obtain ⟨b1, b2, b3⟩ := h3 e2
          exact ⟨a1, by omega, by rw [b2]; exact a3⟩
        · simp only [h1]
          exact Nat.le_trans h.1 h2
      | frozen ver e xs =>
        simp only [hk] at h
        rw [st.fro k ver e xs hk]
        exact h
  | fn f caps =>
    obtain ⟨h1, h2⟩ := h
    refine ⟨fun k hk => ?_, ?_⟩
    · obtain ⟨cs, hcs⟩ := h1 k hk
      exact (st.box k cs hcs).1
    · rw [h2]
      congr 2
      apply List.map_congr_left
      intro k hk
      obtain ⟨cs, hcs⟩ := h1 k hk
      rw [(st.box k cs hcs).2]
  | mp k =>
    obtain ⟨⟨cs, hcs⟩, hv⟩ := h
    obtain ⟨h1, h2⟩ := st.box k cs hcs
    exact ⟨h1, by rw [h2]; exact hv⟩
  | mapc e xs => exact h.elim
  | int k n => exact PR.mono (s := .int k n) st.g st.c h
  | bool b => exact PR.mono (s := .bool b) st.g st.c h
  | tt => exact PR.mono (s := .tt) st.g st.c h
  | ff => exact PR.mono (s := .ff) st.g st.c h
  | str l => exact PR.mono (s := .str l) st.g st.c h
  | sl e xs => exact PR.mono (s := .sl e xs) st.g st.c h
  | nilsl => exact PR.mono (s := .nilsl) st.g st.c h
  | pptr e x => exact PR.mono (s := .pptr e x) st.g st.c h
  | ifc t k n => exact PR.mono (s := .ifc t k n) st.g st.c h
  | nilifc => exact PR.mono (s := .nilifc) st.g st.c h
  | undf => exact PR.mono (s := .undf) st.g st.c h
  | junk => exact trivial

theorem Step.vr0 (st : Step E E' H H' w w') {s : V0} {v : Value} (h : VR0 E H w s v) : VR0 E' H' w' s v := by
  cases s with
  | one s => exact st.vr h
  | agg cs => obtain ⟨vs, h1, h2⟩ := h; exact ⟨vs, h1, h2.mono fun _ _ => st.vr⟩

theorem Step.vrs (st : Step E E' H H' w w') {s : SV} {v : Value} (h : VRS E H w s v) : VRS E' H' w' s v := by
  cases s with
  | v x => exact st.vr0 h
  | tup l => obtain ⟨vs, h1, h2⟩ := h; exact ⟨vs, h1, h2.mono fun _ _ => st.vr0⟩

theorem Step.trans {E2 : Env} {H2 : Heap} {w2 : World} (st : Step E E' H H' w w') (su : Step E' E2 H' H2 w' w2) : Step E E2 H H2 w w2 where
  g := fun a h => su.g a (st.g a h)
  c := fun a h => (su.c a (st.g a h)).trans (st.c a h)
  box := fun h cs h1 => by
    obtain ⟨⟨cs', h2⟩, b1⟩ := st.box h cs h1
    obtain ⟨h3, b2⟩ := su.box h cs' h2
    exact ⟨h3, b2.trans b1⟩
  row := fun h ver et e xs h1 => by
    rcases st.row h ver et e xs h1 with ⟨v1, et1, xs1, a1, a2, a3⟩ | ⟨v1, xs1, a1, a2, a3⟩
    · rcases su.row h v1 et1 e xs1 a1 with ⟨v2, et2, xs2, b1, b2, b3⟩ | ⟨v2, xs2, b1, b2, b3⟩
      · refine .inl ⟨v2, et2, xs2, b1, Nat.le_trans a2 b2, fun ev => ?_⟩
        obtain ⟨p1, p2, p3⟩ := a3 (by omega)
        obtain ⟨q1, q2, q3⟩ := b3 (by omega)
        exact ⟨q1.trans p1, q2.trans p2, Nat.le_trans p3 q3⟩
      · refine .inr ⟨v2, xs2, b1, Nat.le_trans a2 b2, fun ev => ?_⟩
        rw [← (a3 (by omega)).1]
        exact b3 (by omega)
    · exact .inr ⟨v1, xs1, su.fro h v1 e xs1 a1, a2, fun ev => Rd.mono su.g su.c (a3 ev)⟩
  fro := fun h ver e xs h1 => su.fro h ver e xs (st.fro h ver e xs h1)
  g0 := su.g0.trans st.g0

theorem Step.congr {H2 : Heap} (st : Step E E' H H' w w') (he : ∀ h, H2.get h = H'.get h) : Step E E' H H2 w w' where
  g := st.g
  c := st.c
  box := fun h cs h1 => by rw [he]; exact st.box h cs h1
  row := fun h ver et e xs h1 => by simp only [he]; exact st.row h ver et e xs h1
  fro := fun h ver e xs h1 => by rw [he]; exact st.fro h ver e xs h1
  g0 := st.g0

theorem VR.congr {E : Env} {H H2 : Heap} {w : World} (he : ∀ h, H2.get h = H.get h) {s : S1} {v : Value} (h : VR E H w s v) : VR E H2 w s v := by
  cases s with
  | ptr k off => simp only [VR, he] at h ⊢; exact h
  | row k ver => simp only [VR, he] at h ⊢; exact h
  | rptr k ver e i fld => simp only [VR, he] at h ⊢; exact h
  | fn f caps => simp only [VR, he] at h ⊢; exact h
  | mp k => simp only [VR, he] at h ⊢; exact h
  | mapc e xs => exact h
  | int k n => exact h
  | bool b => exact h
  | tt => exact h
  | ff => exact h
  | str l => exact h
  | sl e xs => exact h
  | nilsl => exact h
  | pptr e x => exact h
  | ifc t k n => exact h
  | nilifc => exact h
  | undf => exact h
  | junk => exact h

theorem HR.congr {P : Program} {N : Nat} {E : Env} {H H2 : Heap} {w : World} (hr : HR P N E H w) (he : ∀ h, H2.get h = H.get h) : HR P N E H2 w where
  box := fun h cells h1 => by
    rw [he] at h1
    obtain ⟨a, b⟩ := hr.box h cells h1
    exact ⟨a, b.mono fun _ _ => VR.congr he⟩
  row := fun h ver et e xs h1 => hr.row h ver et e xs (by rw [← he]; exact h1)
  inj := fun h h' a b => hr.inj h h' (by simp only [Solid, he] at a ⊢; exact a) (by simp only [Solid, he] at b ⊢; exact b)
  gout := fun a ha h hs => hr.gout a ha h (by simp only [Solid, he] at hs ⊢; exact hs)
  gin := hr.gin
  gz := hr.gz
  vz := hr.vz

theorem Step.refl (E : Env) (H : Heap) (w : World) : Step E E H H w w where
  g := fun _ h => h
  c := fun _ _ => rfl
  box := fun _ cs h => ⟨⟨cs, h⟩, rfl⟩
  row := fun _ ver et _ xs h => .inl ⟨ver, et, xs, h, Nat.le_refl _, fun _ => ⟨rfl, rfl, Nat.le_refl _⟩⟩
  fro := fun _ _ _ _ h => h
  g0 := rfl
end

/-- The state with a new value in slot d (where one is named) and new blocks. -/
def St.with (s : St) (dst : Option Nat) (x : SV) (H : Heap) : St :=
  { slots := match dst with | some d => s.slots.set d x | none => s.slots, susp := s.susp, heap := H }

theorem toList_put (a : Act) (d : Nat) (u : Value) : (a.put (some d) u).tmps.toList = a.tmps.toList.set d u := by
  simp [Act.put, Array.toList_setIfInBounds]

/-- One step of the relation: the world and the names move on, slot dst gets a new value. -/
theorem Rel.step {P : Program} {N : Nat} {G0 : Addr → Prop} {w0 : World} {vs : List Value} {ds : List Deferred} {E E' : Env} {s : St} {a : Act} {w w' : World} {H' : Heap} (r : Rel P N G0 w0 vs ds E s a w)
    (st : Step E E' s.heap H' w w') (hr : HR P N E' H' w') (hb : Below N w w') (dst : Option Nat) {x : SV} {u : Value}
    (hx : VRS E' H' w' x u) : Rel P N G0 w0 vs ds E' (s.with dst x H') (a.put dst u) w' := by
  refine ⟨?_, r.susp.mono fun _ _ => st.vrs, ?_, r.below.trans hb, Nat.le_trans r.base hb.size, hr, st.g0.trans r.g0⟩
  · have hs : All2 (VRS E' H' w') s.slots a.tmps.toList := r.slots.mono fun _ _ => st.vrs
    cases dst with
    | none => exact hs
    | some d =>
      rw [toList_put]
      exact hs.set hx
  · cases dst <;> exact r.defers

/-! ### The single steps -/
section
variable {P : Program} {N : Nat} {E : Env} {H : Heap} {w : World}

def upd {α : Type} (f : Nat → α) (k : Nat) (v : α) : Nat → α := fun j => if j = k then v else f j
theorem upd_same {α : Type} (f : Nat → α) (k : Nat) (v : α) : upd f k v k = v := by simp [upd]
theorem upd_ne {α : Type} (f : Nat → α) {k j : Nat} (v : α) (h : j ≠ k) : upd f k v j = f j := by simp [upd, h]

theorem Solid.lt (hr : HR P N E H w) {h : Nat} (hs : Solid E H h) : E.bm h < w.heap.size := by
  rcases hs with ⟨cells, hc⟩ | ⟨ver, et, e, xs, hc, hn⟩
  · exact (hr.box h cells hc).2.lt
  · obtain ⟨cells, how, _, hb⟩ := hr.row h ver et e xs hc
    cases ho : (E.hd h).ownBlock with
    | none => exact absurd ho hn
    | some g =>
      rw [← hb g ho]
      exact (how.lt g ho).2
theorem Solid.ge (hr : HR P N E H w) {h : Nat} (hs : Solid E H h) : N ≤ E.bm h := by
  rcases hs with ⟨cells, hc⟩ | ⟨ver, et, e, xs, hc, hn⟩
  · exact (hr.box h cells hc).1
  · obtain ⟨cells, how, _, hb⟩ := hr.row h ver et e xs hc
    cases ho : (E.hd h).ownBlock with
    | none => exact absurd ho hn
    | some g =>
      rw [← hb g ho]
      exact (how.lt g ho).1

theorem RowR.keep {w' : World} {h et : Nat} {e : Ty} {xs : List D} {E' : Env} (hE : E'.hd h = E.hd h) (hB : E'.bm h = E.bm h) (hg : ∀ a, E.G a → E'.G a) (hc : ∀ a, E.G a → w'.cell? a = w.cell? a)
    (hk : ∀ g, (E.hd h).ownBlock = some g → w'.heap[g]? = w.heap[g]?) (r : RowR N E w h et e xs) : RowR N E' w' h et e xs := by
  obtain ⟨cells, how, hrd, hb⟩ := r
  refine ⟨cells, ?_, hrd.mono hg hc, by rw [hE, hB]; exact hb⟩
  rw [hE]
  refine ⟨how.1, ?_⟩
  rcases how.2 with h1 | ⟨g, cap, cur, h1, h2, h3, h4⟩
  · exact .inl h1
  · refine .inr ⟨g, cap, cur, h1, h2, ?_, h4⟩
    rw [hk g (by rw [h1]; rfl)]
    exact h3

/-- Nothing of ours moves: old blocks stay, the names stay. -/
theorem HR.below {w' : World} (hr : HR P N E H w) (hb : Below w.heap.size w w') : Step E E H H w w' ∧ HR P N E H w' := by
  have hc : ∀ a, E.G a → w'.cell? a = w.cell? a := fun a ha => hb.cell (hr.gin a ha)
  have st : Step E E H H w w' := { (Step.refl E H w) with
    c := hc
    row := fun _ ver et _ xs h => .inl ⟨ver, et, xs, h, Nat.le_refl _, fun _ => ⟨rfl, rfl, Nat.le_refl _⟩⟩ }
  refine ⟨st, ⟨fun h cells hx => ?_, fun h ver et e xs hx => ?_, hr.inj, hr.gout, fun a ha => Nat.lt_of_lt_of_le (hr.gin a ha) hb.size, hr.gz, hr.vz.below hb⟩⟩
  · obtain ⟨h1, h2⟩ := hr.box h cells hx
    exact ⟨h1, by rw [show ({ E with G := E.G } : Env).bm = E.bm from rfl, hb.block _ h2.lt]; exact h2.mono fun _ _ => st.vr⟩
  · have r := hr.row h ver et e xs hx
    refine r.keep rfl rfl (fun _ h => h) hc (fun g hg => hb.block g ?_)
    obtain ⟨cells, how, _, _⟩ := r
    exact (how.lt g hg).2
/-- The names after a new one. -/
def Env.new (E : Env) (d b : Nat) (v : Value) (G : Addr → Prop) : Env := { bm := upd E.bm d b, hd := upd E.hd d v, G := G, G0 := E.G0 }

theorem ne_of_get {H : Heap} {d h : Nat} {x : SB} (hd : H.get d = none) (h' : H.get h = some x) : h ≠ d := fun e => by subst e; rw [hd] at h'; cases h'

/-- A new name for a block (or for none: a nil row): the step. -/
theorem Step.new {w' : World} {d b : Nat} {v : Value} {G' : Addr → Prop} {x : SB} (hd : H.get d = none) (hg : ∀ a, E.G a → G' a) (hc : ∀ a, E.G a → w'.cell? a = w.cell? a) :
    Step E (E.new d b v G') H (H.put d x) w w' where
  g := hg
  c := hc
  box := fun h cs h1 => ⟨⟨cs, by rw [Heap.get_put, if_neg (ne_of_get hd h1)]; exact h1⟩, upd_ne _ _ (ne_of_get hd h1)⟩
  row := fun h ver et e xs h1 => .inl ⟨ver, et, xs, by rw [Heap.get_put, if_neg (ne_of_get hd h1)]; exact h1, Nat.le_refl _, fun _ => ⟨upd_ne _ _ (ne_of_get hd h1), upd_ne _ _ (ne_of_get hd h1), Nat.le_refl _⟩⟩
  fro := fun h ver e xs h1 => by rw [Heap.get_put, if_neg (ne_of_get hd h1)]; exact h1
  g0 := rfl

/-- A new name: the block that it names is new, and so is what is protected besides. -/
theorem HR.new {w' : World} {d b : Nat} {v : Value} {G' : Addr → Prop} {x : SB} (hr : HR P N E H w) (hN : N ≤ w.heap.size) (hd : H.get d = none) (hb : Below w.heap.size w w')
    (hg : ∀ a, E.G a → G' a) (hg' : ∀ a, G' a → E.G a ∨ (w.heap.size ≤ a.block ∧ a.block < w'.heap.size))
    (hx : match x with
      | .box cells => w.heap.size ≤ b ∧ BoxAt E H w cells w'.heap[b]? ∧ ∀ a, G' a → a.block ≠ b
      | .row _ et e xs => ∃ cells, w'.ownsRow w.heap.size et e.n v xs.length cells ∧ RdL G' w' e cells xs ∧ (∀ g, v.ownBlock = some g → g = b) ∧ (v.ownBlock ≠ none → ∀ a, G' a → a.block ≠ b)
      | .frozen .. => True) :
    Step E (E.new d b v G') H (H.put d x) w w' ∧ HR P N (E.new d b v G') (H.put d x) w' := by
  have hc : ∀ a, E.G a → w'.cell? a = w.cell? a := fun a ha => hb.cell (hr.gin a ha)
  have st : Step E (E.new d b v G') H (H.put d x) w w' := Step.new hd hg hc
  have hsol : ∀ h, Solid (E.new d b v G') (H.put d x) h → (h ≠ d ∧ Solid E H h ∧ (E.new d b v G').bm h = E.bm h) ∨ (h = d ∧ w.heap.size ≤ b ∧ b < w'.heap.size ∧ (E.new d b v G').bm h = b ∧ ∀ a, G' a → a.block ≠ b) := by
    intro h hs
    by_cases e1 : h = d
    · subst e1
      refine .inr ⟨rfl, ?_⟩
      rcases hs with ⟨cells, hcs⟩ | ⟨ver, et, e, xs, hcs, hn⟩
      · rw [Heap.get_put, if_pos rfl] at hcs
        cases hcs
        obtain ⟨h1, h2, h4⟩ := hx
        exact ⟨h1, h2.lt, upd_same _ _ _, h4⟩
      · rw [Heap.get_put, if_pos rfl] at hcs
        cases hcs
        obtain ⟨cells, h1, h2, h3, h4⟩ := hx
        have hv : (E.new h b v G').hd h = v := upd_same _ _ _
        rw [hv] at hn
        cases ho : v.ownBlock with
        | none => exact absurd ho hn
        | some g =>
          have := h3 g ho
          subst this
          have hl := h1.lt g ho
          exact ⟨hl.1, hl.2, upd_same _ _ _, h4 hn⟩
    · refine .inl ⟨e1, ?_, upd_ne _ _ e1⟩
      rcases hs with ⟨cells, hcs⟩ | ⟨ver, et, e, xs, hcs, hn⟩
      · rw [Heap.get_put, if_neg e1] at hcs
        exact .inl ⟨cells, hcs⟩
      · rw [Heap.get_put, if_neg e1] at hcs
        refine .inr ⟨ver, et, e, xs, hcs, ?_⟩
        rwa [show (E.new d b v G').hd h = E.hd h from upd_ne _ _ e1] at hn
  refine ⟨st, ⟨fun h cells h1 => ?_, fun h ver et e xs h1 => ?_, fun h h' hs hs' heq => ?_, fun a ha h hs => ?_, fun a ha => ?_, ⟨fun a ha => hg a (hr.gz.1 a ha), fun a ha => (hg' a ha).elim (fun h => hr.gz.2 a h) (fun h => .inr (Nat.le_trans hN h.1))⟩, hr.vz.below hb⟩⟩
  · by_cases e1 : h = d
    · subst e1
      rw [Heap.get_put, if_pos rfl] at h1
      cases h1
      obtain ⟨h2, h3, _⟩ := hx
      have hbm : (E.new h b v G').bm h = b := upd_same _ _ _
      rw [hbm]
      exact ⟨Nat.le_trans hN h2, h3.mono fun _ _ => st.vr⟩
    · rw [Heap.get_put, if_neg e1] at h1
      obtain ⟨h2, h3⟩ := hr.box h cells h1
      have hbm : (E.new d b v G').bm h = E.bm h := upd_ne _ _ e1
      rw [hbm]
      exact ⟨h2, by rw [hb.block _ h3.lt]; exact h3.mono fun _ _ => st.vr⟩
  · by_cases e1 : h = d
    · subst e1
      rw [Heap.get_put, if_pos rfl] at h1
      cases h1
      obtain ⟨cells, h2, h3, h4, _⟩ := hx
      have hbm : (E.new h b v G').bm h = b := upd_same _ _ _
      have hv : (E.new h b v G').hd h = v := upd_same _ _ _
      refine ⟨cells, ?_, h3, by rw [hv, hbm]; exact h4⟩
      rw [hv]
      refine ⟨h2.1, ?_⟩
      rcases h2.2 with h5 | ⟨g, cap, cur, h5, h6, h7⟩
      · exact .inl h5
      · exact .inr ⟨g, cap, cur, h5, Nat.le_trans hN h6, h7⟩
    · rw [Heap.get_put, if_neg e1] at h1
      have r := hr.row h ver et e xs h1
      refine r.keep (upd_ne _ _ e1) (upd_ne _ _ e1) hg hc (fun g hgg => hb.block g ?_)
      obtain ⟨cells, how, _, _⟩ := r
      exact (how.lt g hgg).2
  · rcases hsol h hs with ⟨e1, s1, b1⟩ | ⟨e1, l1, _, b1, _⟩ <;> rcases hsol h' hs' with ⟨e2, s2, b2⟩ | ⟨e2, l2, _, b2, _⟩
    · exact hr.inj h h' s1 s2 (by rw [← b1, ← b2]; exact heq)
    · exact absurd heq (by rw [b1, b2]; have := s1.lt hr; omega)
    · exact absurd heq (by rw [b1, b2]; have := s2.lt hr; omega)
    · rw [e1, e2]
  · rcases hsol h hs with ⟨e1, s1, b1⟩ | ⟨e1, l1, _, b1, hav⟩
    · rw [b1]
      rcases hg' a ha with h2 | h2
      · exact hr.gout a h2 h s1
      · have := s1.lt hr; omega
    · rw [b1]; exact hav a ha
  · rcases hg' a ha with h2 | h2
    · exact Nat.lt_of_lt_of_le (hr.gin a h2) hb.size
    · exact h2.2

/-- More is protected: cells of new blocks. -/
theorem HR.more {w' : World} {G' : Addr → Prop} (hr : HR P N E H w) (hN : N ≤ w.heap.size) (hb : Below w.heap.size w w')
    (hg : ∀ a, E.G a → G' a) (hg' : ∀ a, G' a → E.G a ∨ (w.heap.size ≤ a.block ∧ a.block < w'.heap.size)) :
    Step E { E with G := G' } H H w w' ∧ HR P N { E with G := G' } H w' := by
  have hc : ∀ a, E.G a → w'.cell? a = w.cell? a := fun a ha => hb.cell (hr.gin a ha)
  have st : Step E { E with G := G' } H H w w' := {
    g := hg, c := hc
    box := fun h cs h1 => ⟨⟨cs, h1⟩, rfl⟩
    row := fun _ ver et _ xs h => .inl ⟨ver, et, xs, h, Nat.le_refl _, fun _ => ⟨rfl, rfl, Nat.le_refl _⟩⟩
    fro := fun _ _ _ _ h => h
    g0 := rfl }
  have hsol : ∀ h, Solid { E with G := G' } H h → Solid E H h := fun h hs => hs
  refine ⟨st, ⟨fun h cells hx => ?_, fun h ver et e xs hx => ?_, fun h h' a b => hr.inj h h' (hsol h a) (hsol h' b), fun a ha h hs => ?_, fun a ha => ?_, ⟨fun a ha => hg a (hr.gz.1 a ha), fun a ha => (hg' a ha).elim (fun h => hr.gz.2 a h) (fun h => .inr (Nat.le_trans hN h.1))⟩, hr.vz.below hb⟩⟩
  · obtain ⟨h1, h2⟩ := hr.box h cells hx
    exact ⟨h1, by rw [show ({ E with G := E.G } : Env).bm = E.bm from rfl, hb.block _ h2.lt]; exact h2.mono fun _ _ => st.vr⟩
  · have r := hr.row h ver et e xs hx
    refine r.keep (E := E) (E' := { E with G := G' }) rfl rfl hg hc (fun g hgg => hb.block g ?_)
    obtain ⟨cells, how, _, _⟩ := r
    exact (how.lt g hgg).2
  · rcases hg' a ha with h2 | h2
    · exact hr.gout a h2 h (hsol h hs)
    · have := (hsol h hs).lt hr
      show a.block ≠ E.bm h
      omega
  · rcases hg' a ha with h2 | h2
    · exact Nat.lt_of_lt_of_le (hr.gin a h2) hb.size
    · exact h2.2

/-- A box gets new cells. -/
theorem HR.boxSet {w' : World} {h : Nat} {cells cells' : List S1} (hr : HR P N E H w) (hh : H.get h = some (.box cells))
    (hw : BoxAt E H w cells' w'.heap[E.bm h]?) (ho : ∀ k, k ≠ E.bm h → w'.heap[k]? = w.heap[k]?) (hs : w'.heap.size = w.heap.size) : Step E E H (H.put h (.box cells')) w w' ∧ HR P N E (H.put h (.box cells')) w' := by
  have hsb : Solid E H h := .inl ⟨cells, hh⟩
  have hc : ∀ a, E.G a → w'.cell? a = w.cell? a := fun a ha => World.cell?_of_block (ho a.block (hr.gout a ha h hsb))
  have st : Step E E H (H.put h (.box cells')) w w' := {
    g := fun _ h => h, c := hc
    box := fun k cs h1 => ⟨by
      rw [Heap.get_put]
      by_cases e1 : k = h
      · exact ⟨cells', by rw [if_pos e1]⟩
      · exact ⟨cs, by rw [if_neg e1]; exact h1⟩, rfl⟩
    row := fun k ver et e xs h1 => .inl ⟨ver, et, xs, by rw [Heap.get_put, if_neg (fun e1 => by subst e1; rw [hh] at h1; cases h1)]; exact h1, Nat.le_refl _, fun _ => ⟨rfl, rfl, Nat.le_refl _⟩⟩
    fro := fun k ver e xs h1 => by rw [Heap.get_put, if_neg (fun e1 => by subst e1; rw [hh] at h1; cases h1)]; exact h1
    g0 := rfl }
  have hsol : ∀ k, Solid E (H.put h (.box cells')) k → Solid E H k := by
    intro k hs
    by_cases e1 : k = h
    · subst e1; exact hsb
    · rcases hs with ⟨cs, hcs⟩ | ⟨ver, et, e, xs, hcs, hn⟩
      · rw [Heap.get_put, if_neg e1] at hcs; exact .inl ⟨cs, hcs⟩
      · rw [Heap.get_put, if_neg e1] at hcs; exact .inr ⟨ver, et, e, xs, hcs, hn⟩
  refine ⟨st, ⟨fun k cs1 h1 => ?_, fun k ver et' e xs h1 => ?_, fun k k' a b => hr.inj k k' (hsol k a) (hsol k' b), fun a ha k hk => hr.gout a ha k (hsol k hk), fun a ha => by rw [hs]; exact hr.gin a ha, hr.gz, hr.vz.keep fun k hk _ => ho k (by have := hsb.ge hr; omega)⟩⟩
  · by_cases e1 : k = h
    · subst e1
      rw [Heap.get_put, if_pos rfl] at h1
      cases h1
      exact ⟨(hr.box k cells hh).1, hw.mono fun _ _ => st.vr⟩
    · rw [Heap.get_put, if_neg e1] at h1
      obtain ⟨h2, h3⟩ := hr.box k cs1 h1
      refine ⟨h2, ?_⟩
      rw [ho _ (fun e2 => e1 (hr.inj k h (.inl ⟨cs1, h1⟩) hsb e2))]
      exact h3.mono fun _ _ => st.vr
  · have e1 : k ≠ h := fun e1 => by subst e1; rw [Heap.get_put, if_pos rfl] at h1; cases h1
    rw [Heap.get_put, if_neg e1] at h1
    have r := hr.row k ver et' e xs h1
    refine r.keep rfl rfl (fun _ h => h) hc (fun g hgg => ho g ?_)
    obtain ⟨_, _, _, hbk⟩ := r
    have hg := hbk g hgg
    subst hg
    exact fun e2 => e1 (hr.inj k h (.inr ⟨ver, et', e, xs, h1, by rw [hgg]; simp⟩) hsb e2)

/-- A row moves on: its header and its cells change, nothing else of ours does. -/
theorem HR.rowUpd {w' : World} {h ver et : Nat} {e : Ty} {xs : List D} (hr : HR P N E H w) (hh : H.get h = some (.row ver et e xs)) (ver' : Nat) (v' : Value) (xs' : List D)
    (hver : ver ≤ ver') (hsame : ver' = ver → v' = E.hd h ∧ xs.length ≤ xs'.length) (hgr : w.grownBy w' (E.hd h).ownBlock)
    (hblk : ∀ g, v'.ownBlock = some g → (E.hd h).ownBlock = some g ∨ w.heap.size ≤ g)
    (hown : ∃ cells, w'.ownsRow N et e.n v' xs'.length cells ∧ RdL E.G w' e cells xs') :
    Step E (E.new h (v'.ownBlock.getD (E.bm h)) v' E.G) H (H.put h (.row ver' et e xs')) w w' ∧ HR P N (E.new h (v'.ownBlock.getD (E.bm h)) v' E.G) (H.put h (.row ver' et e xs')) w' := by
  have hb0 : ∀ g, (E.hd h).ownBlock = some g → g = E.bm h := by obtain ⟨_, _, _, h3⟩ := hr.row h ver et e xs hh; exact h3
  have hsl : (E.hd h).ownBlock ≠ none → Solid E H h := fun hn => .inr ⟨ver, et, e, xs, hh, hn⟩
  have hblock : ∀ k, k < w.heap.size → ((E.hd h).ownBlock ≠ none → k ≠ E.bm h) → w'.heap[k]? = w.heap[k]? := fun k hk hne => hgr.block k hk (fun e1 => by
    cases ho : (E.hd h).ownBlock with
    | none => rw [ho] at e1; cases e1
    | some g =>
      rw [ho] at e1; cases e1
      exact hne (by rw [ho]; simp) (hb0 k ho))
  have hc : ∀ a, E.G a → w'.cell? a = w.cell? a := fun a ha => World.cell?_of_block (hblock a.block (hr.gin a ha) (fun hn => hr.gout a ha h (hsl hn)))
  have hbm : ∀ k, k ≠ h → (E.new h (v'.ownBlock.getD (E.bm h)) v' E.G).bm k = E.bm k := fun k hk => upd_ne _ _ hk
  have hhd : ∀ k, k ≠ h → (E.new h (v'.ownBlock.getD (E.bm h)) v' E.G).hd k = E.hd k := fun k hk => upd_ne _ _ hk
  have hbms : (E.new h (v'.ownBlock.getD (E.bm h)) v' E.G).bm h = v'.ownBlock.getD (E.bm h) := upd_same _ _ _
  have hhds : (E.new h (v'.ownBlock.getD (E.bm h)) v' E.G).hd h = v' := upd_same _ _ _
  have st : Step E (E.new h (v'.ownBlock.getD (E.bm h)) v' E.G) H (H.put h (.row ver' et e xs')) w w' := {
    g := fun _ h => h, c := hc
    box := fun k cs h1 => by
      have e1 : k ≠ h := fun e1 => by subst e1; rw [hh] at h1; cases h1
      exact ⟨⟨cs, by rw [Heap.get_put, if_neg e1]; exact h1⟩, hbm k e1⟩
    row := fun k ver1 et1 e1 xs1 h1 => by
      by_cases ek : k = h
      · subst ek
        rw [hh] at h1; cases h1
        refine .inl ⟨ver', et, xs', by rw [Heap.get_put, if_pos rfl], hver, fun ev => ?_⟩
        obtain ⟨s1, s2⟩ := hsame ev
        refine ⟨by rw [hhds]; exact s1, ?_, s2⟩
        rw [hbms, s1]
        cases ho : (E.hd k).ownBlock with
        | none => rfl
        | some g => exact hb0 g ho
      · exact .inl ⟨ver1, et1, xs1, by rw [Heap.get_put, if_neg ek]; exact h1, Nat.le_refl _, fun _ => ⟨hhd k ek, hbm k ek, Nat.le_refl _⟩⟩
    fro := fun k ver1 e1 xs1 h1 => by rw [Heap.get_put, if_neg (fun e2 => by subst e2; rw [hh] at h1; cases h1)]; exact h1
    g0 := rfl }
  have hsol : ∀ k, Solid (E.new h (v'.ownBlock.getD (E.bm h)) v' E.G) (H.put h (.row ver' et e xs')) k → (k ≠ h ∧ Solid E H k) ∨ (k = h ∧ ∃ g, v'.ownBlock = some g) := by
    intro k hs
    by_cases e1 : k = h
    · subst e1
      refine .inr ⟨rfl, ?_⟩
      rcases hs with ⟨cs, hcs⟩ | ⟨ver1, et1, e1, xs1, hcs, hn⟩
      · rw [Heap.get_put, if_pos rfl] at hcs; cases hcs
      · rw [hhds] at hn
        exact Option.ne_none_iff_exists'.1 hn
    · refine .inl ⟨e1, ?_⟩
      rcases hs with ⟨cs, hcs⟩ | ⟨ver1, et1, e2, xs1, hcs, hn⟩
      · rw [Heap.get_put, if_neg e1] at hcs; exact .inl ⟨cs, hcs⟩
      · rw [Heap.get_put, if_neg e1] at hcs
        rw [hhd k e1] at hn
        exact .inr ⟨ver1, et1, e2, xs1, hcs, hn⟩
  -- the row's new block is none of the others'
  have hnew : ∀ k, k ≠ h → Solid E H k → ∀ g, v'.ownBlock = some g → E.bm k ≠ g := by
    intro k hk hs g hg heq
    rcases hblk g hg with h1 | h1
    · have := hb0 g h1
      exact hk (hr.inj k h hs (hsl (by rw [h1]; simp)) (by rw [heq, this]))
    · have := hs.lt hr; omega
  refine ⟨st, ⟨fun k cs1 h1 => ?_, fun k ver1 et1 e1 xs1 h1 => ?_, fun k k' hs hs' heq => ?_, fun a ha k hs => ?_, fun a ha => Nat.lt_of_lt_of_le (hr.gin a ha) hgr.size, hr.gz, hr.vz.keep fun k hk h2 => hblock k h2 (fun hn => by have := (hsl hn).ge hr; omega)⟩⟩
  · have e1 : k ≠ h := fun e1 => by subst e1; rw [Heap.get_put, if_pos rfl] at h1; cases h1
    rw [Heap.get_put, if_neg e1] at h1
    obtain ⟨h2, h3⟩ := hr.box k cs1 h1
    rw [hbm k e1]
    refine ⟨h2, ?_⟩
    rw [hblock _ h3.lt (fun hn e2 => e1 (hr.inj k h (.inl ⟨cs1, h1⟩) (hsl hn) e2))]
    exact h3.mono fun _ _ => st.vr
  · by_cases ek : k = h
    · subst ek
      rw [Heap.get_put, if_pos rfl] at h1
      cases h1
      obtain ⟨cells, h2, h3⟩ := hown
      refine ⟨cells, by rw [hhds]; exact h2, h3, ?_⟩
      rw [hhds, hbms]
      intro g hg
      rw [hg]; rfl
    · rw [Heap.get_put, if_neg ek] at h1
      have r := hr.row k ver1 et1 e1 xs1 h1
      refine r.keep (hhd k ek) (hbm k ek) (fun _ h => h) hc (fun g hgg => ?_)
      obtain ⟨_, how, _, hbk⟩ := r
      have hg := hbk g hgg
      subst hg
      refine hblock _ (how.lt _ hgg).2 (fun hn e2 => ek (hr.inj k h (.inr ⟨ver1, et1, e1, xs1, h1, by rw [hgg]; simp⟩) (hsl hn) e2))
  · rcases hsol k hs with ⟨e1, s1⟩ | ⟨e1, g1, o1⟩ <;> rcases hsol k' hs' with ⟨e2, s2⟩ | ⟨e2, g2, o2⟩
    · rw [hbm k e1, hbm k' e2] at heq; exact hr.inj k k' s1 s2 heq
    · subst e2
      rw [hbm k e1, hbms, o2] at heq
      exact absurd heq (hnew k e1 s1 g2 o2)
    · subst e1
      rw [hbm k' e2, hbms, o1] at heq
      exact absurd heq.symm (hnew k' e2 s2 g1 o1)
    · rw [e1, e2]
  · rcases hsol k hs with ⟨e1, s1⟩ | ⟨e1, g1, o1⟩
    · rw [hbm k e1]; exact hr.gout a ha k s1
    · subst e1
      rw [hbms, o1]
      show a.block ≠ g1
      rcases hblk g1 o1 with h2 | h2
      · rw [hb0 g1 h2]; exact hr.gout a ha k (hsl (by rw [h2]; simp))
      · have := hr.gin a ha; omega

/-- A row becomes data that is only read. -/
theorem HR.freeze {h ver et : Nat} {e : Ty} {xs : List D} (hr : HR P N E H w) (hh : H.get h = some (.row ver et e xs)) :
    ∃ G', Step E { E with G := G' } H (H.put h (.frozen ver e xs)) w w ∧ HR P N { E with G := G' } (H.put h (.frozen ver e xs)) w ∧ Rd G' w (.slice e) [E.hd h] (.list xs) := by
  obtain ⟨cells, how, hrd, hbk⟩ := hr.row h ver et e xs hh
  have hbn : ∀ (n : Nat), (⟨E.bm h, 0, none⟩ : Addr).add n = ⟨E.bm h, n, none⟩ := fun n => by rw [Addr.add_lit, Nat.zero_add]
  refine ⟨fun a => E.G a ∨ ((E.hd h).ownBlock ≠ none ∧ a.block = E.bm h), ?_⟩
  have hgsub : ∀ a, E.G a → (E.G a ∨ ((E.hd h).ownBlock ≠ none ∧ a.block = E.bm h)) := fun a ha => .inl ha
  have hread : Rd (fun a => E.G a ∨ ((E.hd h).ownBlock ≠ none ∧ a.block = E.bm h)) w (.slice e) [E.hd h] (.list xs) := by
    rcases how.2 with ⟨h1, h2⟩ | ⟨g, cap, cur, h1, h2, h3, h4, h5, h6, h7⟩
    · have hx : xs = [] := List.eq_nil_of_length_eq_zero h2
      subst hx
      exact ⟨none, [], 0, by rw [h1]; rfl, rfl, by simp, by simp [maxLen], by simp⟩
    · have hg : g = E.bm h := hbk g (by rw [h1]; rfl)
      subst hg
      refine ⟨some ⟨E.bm h, 0, none⟩, xs, cap, by rw [h1], rfl, h4, h5, fun i x hi => ?_⟩
      refine ⟨⟨E.bm h, 0, none⟩, (cells.drop (i * e.n)).take e.n, rfl, fun j v hj => ?_, (hrd.get hi).mono hgsub (fun _ _ => rfl)⟩
      rw [hbn, Addr.add_lit]
      refine ⟨.inr ⟨by rw [h1]; simp [Value.ownBlock], rfl⟩, ?_⟩
      rw [List.getElem?_take] at hj
      split at hj
      · rw [List.getElem?_drop] at hj
        have := how.cells (g := E.bm h) (by rw [h1]; rfl) (i * e.n + j) v hj
        rwa [hbn] at this
      · cases hj
  have st : Step E { E with G := fun a => E.G a ∨ ((E.hd h).ownBlock ≠ none ∧ a.block = E.bm h) } H (H.put h (.frozen ver e xs)) w w := {
    g := hgsub, c := fun _ _ => rfl
    box := fun k cs h1 => ⟨⟨cs, by rw [Heap.get_put, if_neg (fun e1 => by subst e1; rw [hh] at h1; cases h1)]; exact h1⟩, rfl⟩
    row := fun k ver1 et1 e1 xs1 h1 => by
      by_cases ek : k = h
      · subst ek
        rw [hh] at h1; cases h1
        exact .inr ⟨_, _, by rw [Heap.get_put, if_pos rfl], Nat.le_refl _, fun _ => hread⟩
      · exact .inl ⟨ver1, et1, xs1, by rw [Heap.get_put, if_neg ek]; exact h1, Nat.le_refl _, fun _ => ⟨rfl, rfl, Nat.le_refl _⟩⟩
    fro := fun k ver1 e1 xs1 h1 => by rw [Heap.get_put, if_neg (fun e2 => by subst e2; rw [hh] at h1; cases h1)]; exact h1
    g0 := rfl }
  have hsol : ∀ k, Solid { E with G := fun a => E.G a ∨ ((E.hd h).ownBlock ≠ none ∧ a.block = E.bm h) } (H.put h (.frozen ver e xs)) k → k ≠ h ∧ Solid E H k := by
    intro k hs
    have e1 : k ≠ h := fun e1 => by
      subst e1
      rcases hs with ⟨cs, hcs⟩ | ⟨ver1, et1, e1, xs1, hcs, hn⟩ <;> rw [Heap.get_put, if_pos rfl] at hcs <;> cases hcs
    refine ⟨e1, ?_⟩
    rcases hs with ⟨cs, hcs⟩ | ⟨ver1, et1, e2, xs1, hcs, hn⟩
    · rw [Heap.get_put, if_neg e1] at hcs; exact .inl ⟨cs, hcs⟩
    · rw [Heap.get_put, if_neg e1] at hcs; exact .inr ⟨ver1, et1, e2, xs1, hcs, hn⟩
  refine ⟨st, ⟨fun k cs1 h1 => ?_, fun k ver1 et1 e1 xs1 h1 => ?_, fun k k' a b => hr.inj k k' (hsol k a).2 (hsol k' b).2, fun a ha k hk => ?_, fun a ha => ?_, ⟨fun a ha => .inl (hr.gz.1 a ha), fun a ha => ha.elim (fun h => hr.gz.2 a h) (fun h => .inr (by rw [h.2]; exact Solid.ge hr (.inr ⟨ver, et, e, xs, hh, h.1⟩)))⟩, hr.vz⟩, hread⟩
  · have e1 : k ≠ h := fun e1 => by subst e1; rw [Heap.get_put, if_pos rfl] at h1; cases h1
    rw [Heap.get_put, if_neg e1] at h1
    obtain ⟨h2, h3⟩ := hr.box k cs1 h1
    exact ⟨h2, h3.mono fun _ _ => st.vr⟩
  · have e2 : k ≠ h := fun e1 => by subst e1; rw [Heap.get_put, if_pos rfl] at h1; cases h1
    rw [Heap.get_put, if_neg e2] at h1
    exact (hr.row k ver1 et1 e1 xs1 h1).keep (E := E) (E' := { E with G := fun a => E.G a ∨ ((E.hd h).ownBlock ≠ none ∧ a.block = E.bm h) }) rfl rfl hgsub (fun _ _ => rfl) (fun _ _ => rfl)
  · obtain ⟨e1, s1⟩ := hsol k hk
    rcases ha with h1 | ⟨h1, h2⟩
    · exact hr.gout a h1 k s1
    · rw [h2]
      exact fun e2 => e1 (hr.inj k h s1 (.inr ⟨ver, et, e, xs, hh, h1⟩) e2.symm)
  · rcases ha with h1 | ⟨h1, h2⟩
    · exact hr.gin a h1
    · rw [h2]; exact Solid.lt hr (.inr ⟨ver, et, e, xs, hh, h1⟩)
end

end Go.RX
