/- A verified symbolic executor over the kit's calculus, part A: data, types, symbolic values, what it is to read memory. -/
import Derived.WalkKit
import Derived.ProofKit
set_option linter.all false
namespace Go.RX
open Go

/-- Plain data. -/
inductive D where
  | int (n : Int)
  | bool (b : Bool)
  | str (s : List UInt8)
  | list (xs : List D)
  | agg (xs : List D)

instance : Inhabited D := ⟨.int 0⟩

def D.i : D → Int
  | .int n => n
  | _ => 0
def D.b : D → Bool
  | .bool x => x
  | _ => false
def D.s : D → List UInt8
  | .str x => x
  | _ => []
def D.l : D → List D
  | .list x => x
  | _ => []
def D.parts : D → List D
  | .agg x => x
  | _ => []
def D.fld (d : D) (j : Nat) : D := d.parts.getD j (.int 0)
/-- element i (an Int index) -/
def elt (xs : List D) (i : Int) : D := xs.getD i.toNat (.int 0)
def lenI (xs : List D) : Int := (xs.length : Int)
def lenS (xs : List UInt8) : Int := (xs.length : Int)

/-- Shapes of data. -/
inductive Ty where
  | int (k : IntKind)
  | bool
  | str
  | slice (e : Ty)
  | unit
  | pair (f r : Ty)
  deriving DecidableEq

def Ty.struct : List Ty → Ty
  | [] => .unit
  | f :: r => .pair f (Ty.struct r)

def Ty.n : Ty → Nat
  | .unit => 0
  | .pair f r => f.n + r.n
  | _ => 1

def inR (k : IntKind) (n : Int) : Prop := k.min ≤ n ∧ n ≤ k.max

def At (G : Addr → Prop) (w : World) (a : Addr) (ys : List Value) : Prop :=
  ∀ j v, ys[j]? = some v → G (a.add j) ∧ w.cell? (a.add j) = some v

/-- The cells cs, of shape t, read as d; all memory that is met lies within G. -/
def Rd (G : Addr → Prop) (w : World) : Ty → List Value → D → Prop
  | .int k, cs, d => ∃ n, cs = [.int k n] ∧ d = .int n ∧ inR k n
  | .bool, cs, d => ∃ b, cs = [.bool b] ∧ d = .bool b
  | .str, cs, d => ∃ l : List UInt8, cs = [.string ⟨⟨l⟩⟩] ∧ d = .str l ∧ l.length ≤ maxLen
  | .slice e, cs, d => ∃ (a : Option Addr) (xs : List D) (cap : Nat), cs = [.slice a xs.length cap] ∧ d = .list xs ∧ xs.length ≤ cap ∧ cap ≤ maxLen ∧
      (∀ i x, xs[i]? = some x → ∃ b ys, a = some b ∧ At G w (b.add (i * e.n)) ys ∧ Rd G w e ys x)
  | .unit, cs, d => cs = [] ∧ d = .agg []
  | .pair f r, cs, d => ∃ c1 c2 d1 ds, cs = c1 ++ c2 ∧ d = .agg (d1 :: ds) ∧ Rd G w f c1 d1 ∧ Rd G w r c2 (.agg ds)

theorem Rd.len {G : Addr → Prop} {w : World} : ∀ {t : Ty} {cs : List Value} {d : D}, Rd G w t cs d → cs.length = t.n := by
  intro t
  induction t with
  | int k => rintro cs d ⟨n, rfl, _⟩; rfl
  | bool => rintro cs d ⟨n, rfl, _⟩; rfl
  | str => rintro cs d ⟨n, rfl, _⟩; rfl
  | slice e _ => rintro cs d ⟨a, xs, cap, rfl, _⟩; rfl
  | unit => rintro cs d ⟨rfl, _⟩; rfl
  | pair f r hf hr =>
    rintro cs d ⟨c1, c2, d1, ds, rfl, _, h1, h2⟩
    simp [Ty.n, hf h1, hr h2]

theorem At.mono {G G' : Addr → Prop} {w w' : World} (hg : ∀ a, G a → G' a) (hc : ∀ a, G a → w'.cell? a = w.cell? a) {a : Addr} {ys : List Value}
    (h : At G w a ys) : At G' w' a ys := fun j v hj => ⟨hg _ (h j v hj).1, (hc _ (h j v hj).1).trans (h j v hj).2⟩

theorem Rd.mono {G G' : Addr → Prop} {w w' : World} (hg : ∀ a, G a → G' a) (hc : ∀ a, G a → w'.cell? a = w.cell? a) :
    ∀ {t : Ty} {cs : List Value} {d : D}, Rd G w t cs d → Rd G' w' t cs d := by
  intro t
  induction t with
  | int k => exact fun h => h
  | bool => exact fun h => h
  | str => exact fun h => h
  | slice e he =>
    rintro cs d ⟨a, xs, cap, h1, h2, h3, h4, h5⟩
    refine ⟨a, xs, cap, h1, h2, h3, h4, fun i x hi => ?_⟩
    obtain ⟨b, ys, hb, hat, hr⟩ := h5 i x hi
    exact ⟨b, ys, hb, hat.mono hg hc, he hr⟩
  | unit => exact fun h => h
  | pair f r hf hr =>
    rintro cs d ⟨c1, c2, d1, ds, h1, h2, h3, h4⟩
    exact ⟨c1, c2, d1, ds, h1, h2, hf h3, hr h4⟩

/-- Well-formed data of a shape (what reading gives). -/
def WT : Ty → D → Prop
  | .int k, d => ∃ n, d = .int n ∧ inR k n
  | .bool, d => ∃ b, d = .bool b
  | .str, d => ∃ l : List UInt8, d = .str l ∧ l.length ≤ maxLen
  | .slice e, d => ∃ xs, d = .list xs ∧ xs.length ≤ maxLen ∧ ∀ x ∈ xs, WT e x
  | .unit, d => d = .agg []
  | .pair f r, d => ∃ d1 ds, d = .agg (d1 :: ds) ∧ WT f d1 ∧ WT r (.agg ds)

theorem Rd.wt {G : Addr → Prop} {w : World} : ∀ {t : Ty} {cs : List Value} {d : D}, Rd G w t cs d → WT t d := by
  intro t
  induction t with
  | int k => rintro cs d ⟨n, _, h, h'⟩; exact ⟨n, h, h'⟩
  | bool => rintro cs d ⟨n, _, h⟩; exact ⟨n, h⟩
  | str => rintro cs d ⟨n, _, h, h'⟩; exact ⟨n, h, h'⟩
  | slice e he =>
    rintro cs d ⟨a, xs, cap, _, h2, h3, h4, h5⟩
    refine ⟨xs, h2, Nat.le_trans h3 h4, fun x hx => ?_⟩
    obtain ⟨i, hi⟩ := List.getElem?_of_mem hx
    obtain ⟨b, ys, _, _, hr⟩ := h5 i x hi
    exact he hr
  | unit => rintro cs d ⟨_, h⟩; exact h
  | pair f r hf hr =>
    rintro cs d ⟨c1, c2, d1, ds, h1, h2, h3, h4⟩
    exact ⟨d1, ds, h2, hf h3, hr h4⟩

/-! ### Pointwise relations -/
def All2 {α β : Type} (R : α → β → Prop) : List α → List β → Prop
  | [], [] => True
  | a :: as, b :: bs => R a b ∧ All2 R as bs
  | _, _ => False

section
variable {α β : Type} {R R' : α → β → Prop}
theorem All2.len : ∀ {as : List α} {bs : List β}, All2 R as bs → as.length = bs.length
  | [], [], _ => rfl
  | _ :: _, _ :: _, h => by simp [All2.len h.2]
  | [], _ :: _, h => h.elim
  | _ :: _, [], h => h.elim
theorem All2.mono (hr : ∀ a b, R a b → R' a b) : ∀ {as : List α} {bs : List β}, All2 R as bs → All2 R' as bs
  | [], [], _ => trivial
  | _ :: _, _ :: _, h => ⟨hr _ _ h.1, All2.mono hr h.2⟩
  | [], _ :: _, h => h.elim
  | _ :: _, [], h => h.elim
theorem All2.get : ∀ {as : List α} {bs : List β}, All2 R as bs → ∀ {i : Nat} {a : α}, as[i]? = some a → ∃ b, bs[i]? = some b ∧ R a b
  | [], [], _, i, a, h => by simp at h
  | x :: _, y :: _, h, 0, a, ha => by simp at ha; subst ha; exact ⟨y, by simp, h.1⟩
  | _ :: _, _ :: _, h, i + 1, a, ha => by
    simp at ha
    obtain ⟨b, hb, hr⟩ := All2.get h.2 ha
    exact ⟨b, by simpa using hb, hr⟩
  | [], _ :: _, h, _, _, _ => h.elim
  | _ :: _, [], h, _, _, _ => h.elim
theorem All2.append : ∀ {as as' : List α} {bs bs' : List β}, All2 R as bs → All2 R as' bs' → All2 R (as ++ as') (bs ++ bs')
  | [], _, [], _, _, h' => h'
  | _ :: _, _, _ :: _, _, h, h' => ⟨h.1, All2.append h.2 h'⟩
  | [], _, _ :: _, _, h, _ => h.elim
  | _ :: _, _, [], _, h, _ => h.elim
theorem All2.set : ∀ {as : List α} {bs : List β}, All2 R as bs → ∀ {i : Nat} {a : α} {b : β}, R a b → All2 R (as.set i a) (bs.set i b)
  | [], [], _, _, _, _, _ => trivial
  | _ :: _, _ :: _, h, 0, _, _, hr => ⟨hr, h.2⟩
  | _ :: _, _ :: _, h, _ + 1, _, _, hr => ⟨h.1, All2.set h.2 hr⟩
  | [], _ :: _, h, _, _, _, _ => h.elim
  | _ :: _, [], h, _, _, _, _ => h.elim
theorem All2.take : ∀ {as : List α} {bs : List β} (n : Nat), All2 R as bs → All2 R (as.take n) (bs.take n)
  | _, _, 0, _ => by simp [All2]
  | [], [], _ + 1, _ => trivial
  | _ :: _, _ :: _, n + 1, h => ⟨h.1, All2.take n h.2⟩
  | [], _ :: _, _, h => h.elim
  | _ :: _, [], _, h => h.elim
theorem All2.drop : ∀ {as : List α} {bs : List β} (n : Nat), All2 R as bs → All2 R (as.drop n) (bs.drop n)
  | _, _, 0, h => h
  | [], [], _ + 1, _ => trivial
  | _ :: _, _ :: _, n + 1, h => All2.drop n h.2
  | [], _ :: _, _, h => h.elim
  | _ :: _, [], _, h => h.elim
theorem All2.replicate {a : α} {b : β} (h : R a b) : ∀ n, All2 R (List.replicate n a) (List.replicate n b)
  | 0 => trivial
  | n + 1 => ⟨h, All2.replicate h n⟩
end

/-! ### Symbolic values -/
/-- One cell. -/
inductive S1 where
  | int (k : IntKind) (n : Int)
  | bool (b : Bool)
  | tt
  | ff
  | str (s : List UInt8)
  | sl (e : Ty) (xs : List D)
  | nilsl
  | ptr (h off : Nat)
  | row (h ver : Nat)
  | rptr (h ver : Nat) (e : Ty) (i : Nat) (fld : Option Nat)
  | pptr (e : Ty) (x : D)
  | fn (f : Nat) (caps : List Nat)
  | ifc (t : Nat) (k : IntKind) (n : Int)
  | nilifc
  | undf
  | junk
  | mp (h : Nat)
  | mapc (e : Ty) (xs : List D)

/-- Does a block hold a map? -/
def isMapB : List S1 → Bool
  | [.mapc _ _] => true
  | _ => false
/-- A map as data: the latest entry of a key counts. -/
def mget (xs : List D) (k : Int) : Option D :=
  match xs with
  | [] => none
  | x :: r => if (x.fld 0).i = k then some (x.fld 1) else mget r k
def mhas (xs : List D) (k : Int) : Bool := (mget xs k).isSome
def mput (xs : List D) (k : Int) (d : D) : List D := .agg [.int k, d] :: xs

/-- A value: one cell, or a struct's cells. -/
inductive V0 where
  | one (s : S1)
  | agg (cs : List S1)

/-- What a slot holds: a value; a tuple. -/
inductive SV where
  | v (x : V0)
  | tup (l : List V0)

/-- A block of the call's own. -/
inductive SB where
  | box (cells : List S1)
  | row (ver et : Nat) (e : Ty) (xs : List D)
  | frozen (ver : Nat) (e : Ty) (xs : List D)

abbrev Heap := List (Nat × SB)
def Heap.get (H : Heap) (h : Nat) : Option SB :=
  match H with
  | [] => none
  | (k, b) :: r => if k = h then some b else Heap.get r h
def Heap.put (H : Heap) (h : Nat) (b : SB) : Heap :=
  match H with
  | [] => [(h, b)]
  | (k, c) :: r => if k = h then (k, b) :: r else (k, c) :: Heap.put r h b

theorem Heap.get_put (H : Heap) (h : Nat) (b : SB) (k : Nat) : (H.put h b).get k = if k = h then some b else H.get k := by
  induction H with
  | nil =>
    simp only [Heap.put, Heap.get]
    by_cases hk : h = k
    · simp [hk]
    · simp [hk, Ne.symm hk]
  | cons x r ih =>
    obtain ⟨j, c⟩ := x
    simp only [Heap.put]
    by_cases hj : j = h
    · subst hj
      simp only [if_true, Heap.get]
      by_cases hk : j = k
      · simp [hk]
      · simp [hk, Ne.symm hk]
    · simp only [hj, if_false, Heap.get, ih]
      by_cases hk : j = k
      · subst hk; simp [hj]
      · simp [hk]

/-- The cells of data of a shape. -/
def svAt : Ty → D → Option Nat → List S1
  | .int k, d, _ => [.int k d.i]
  | .bool, d, _ => [.bool d.b]
  | .str, d, _ => [.str d.s]
  | .slice e, d, _ => [.sl e d.l]
  | .unit, _, _ => []
  | .pair f r, d, o => svAt f (d.fld (o.getD 0)) none ++ svAt r d (some (o.getD 0 + 1))

/-- Is it a struct? -/
def Ty.isAgg : Ty → Bool
  | .unit | .pair .. => true
  | _ => false

def svOf (t : Ty) (d : D) : V0 :=
  match t.isAgg, svAt t d none with
  | false, [s] => .one s
  | _, cs => .agg cs

/-- Persistent one-cell values. -/
def PR (G : Addr → Prop) (w : World) : S1 → Value → Prop
  | .int k n, v => v = .int k n ∧ inR k n
  | .bool b, v => v = .bool b
  | .tt, v => v = .bool true
  | .ff, v => v = .bool false
  | .str l, v => v = .string ⟨⟨l⟩⟩ ∧ l.length ≤ maxLen
  | .sl e xs, v => Rd G w (.slice e) [v] (.list xs)
  | .nilsl, v => v = .slice none 0 0
  | .pptr e x, v => ∃ a ys, v = .pointer (some a) ∧ At G w a ys ∧ Rd G w e ys x
  | .ifc t k n, v => v = .iface t (.int k n) ∧ inR k n
  | .nilifc, v => v = .nilIface
  | .undf, v => v = undef
  | .junk, _ => True
  | _, _ => False

theorem PR.mono {G G' : Addr → Prop} {w w' : World} (hg : ∀ a, G a → G' a) (hc : ∀ a, G a → w'.cell? a = w.cell? a) {s : S1} {v : Value}
    (h : PR G w s v) : PR G' w' s v := by
  cases s with
  | sl e xs => exact Rd.mono hg hc h
  | pptr e x => obtain ⟨a, ys, h1, h2, h3⟩ := h; exact ⟨a, ys, h1, h2.mono hg hc, Rd.mono hg hc h3⟩
  | _ => exact h

theorem parts_drop_cons {ds : List D} {j : Nat} {d1 : D} {rest : List D} (h : ds.drop j = d1 :: rest) : (D.agg ds).fld j = d1 ∧ ds.drop (j + 1) = rest := by
  have h0 : ds[j]? = some d1 := by
    have := List.getElem?_drop (xs := ds) (i := j) (j := 0)
    rw [h] at this
    simpa using this.symm
  constructor
  · simp [D.fld, D.parts, List.getD, h0]
  · rw [← List.drop_drop (i := 1) (j := j), h] <;> simp

theorem Rd.agg {G : Addr → Prop} {w : World} {t : Ty} {cs : List Value} {ds : List D} (h : Rd G w t cs (.agg ds)) : t.isAgg = true := by
  cases t with
  | int k => obtain ⟨_, _, h, _⟩ := h; cases h
  | bool => obtain ⟨_, _, h⟩ := h; cases h
  | str => obtain ⟨_, _, h, _⟩ := h; cases h
  | slice e => obtain ⟨_, _, _, _, h, _⟩ := h; cases h
  | unit => rfl
  | pair f r => rfl

/-- What is read, cell by cell. -/
theorem Rd.cells {G : Addr → Prop} {w : World} : ∀ {t : Ty} {cs : List Value},
    (∀ {d : D}, Rd G w t cs d → t.isAgg = false → All2 (PR G w) (svAt t d none) cs) ∧
    (∀ {ds : List D} {j : Nat}, t.isAgg = true → Rd G w t cs (.agg (ds.drop j)) → All2 (PR G w) (svAt t (.agg ds) (some j)) cs) := by
  intro t
  induction t with
  | int k =>
    intro cs
    refine ⟨?_, fun h => by simp [Ty.isAgg] at h⟩
    rintro d ⟨n, rfl, rfl, h⟩ _
    exact ⟨⟨rfl, h⟩, trivial⟩
  | bool =>
    intro cs
    refine ⟨?_, fun h => by simp [Ty.isAgg] at h⟩
    rintro d ⟨n, rfl, rfl⟩ _
    exact ⟨rfl, trivial⟩
  | str =>
    intro cs
    refine ⟨?_, fun h => by simp [Ty.isAgg] at h⟩
    rintro d ⟨n, rfl, rfl, h⟩ _
    exact ⟨⟨rfl, h⟩, trivial⟩
  | slice e _ =>
    intro cs
    refine ⟨?_, fun h => by simp [Ty.isAgg] at h⟩
    rintro d ⟨a, xs, cap, rfl, rfl, h⟩ _
    exact ⟨⟨a, xs, cap, rfl, rfl, h⟩, trivial⟩
  | unit =>
    intro cs
    refine ⟨fun _ h => by simp [Ty.isAgg] at h, ?_⟩
    rintro ds j _ ⟨rfl, _⟩
    exact trivial
  | pair f r hf hr =>
    intro cs
    refine ⟨fun _ h => by simp [Ty.isAgg] at h, ?_⟩
    rintro ds j _ ⟨c1, c2, d1, rest, rfl, hd, h1, h2⟩
    injection hd with hd
    obtain ⟨e1, e2⟩ := parts_drop_cons hd
    simp only [svAt, Option.getD_some]
    have hl : All2 (PR G w) (svAt f ((D.agg ds).fld j) none) c1 := by
      rw [e1]
      by_cases hfa : f.isAgg = true
      · -- a struct within a struct: its data are an agg
        have hd1 : ∃ xs, d1 = .agg xs := by
          cases f <;> simp [Ty.isAgg] at hfa
          · exact ⟨_, h1.2⟩
          · obtain ⟨_, _, _, _, _, h, _⟩ := h1; exact ⟨_, h⟩
        obtain ⟨xs, rfl⟩ := hd1
        have h1' : Rd G w f c1 (.agg (xs.drop 0)) := by simpa using h1
        have := hf.2 hfa h1'
        cases f <;> simp [Ty.isAgg] at hfa
        · exact this
        · exact this
      · exact hf.1 h1 (by simpa using hfa)
    have hra : r.isAgg = true := h2.agg
    exact hl.append (hr.2 hra (by rw [e2]; exact h2))

theorem Rd.sv {G : Addr → Prop} {w : World} {t : Ty} {cs : List Value} {d : D} (h : Rd G w t cs d) : All2 (PR G w) (svAt t d none) cs := by
  by_cases hfa : t.isAgg = true
  · have hd1 : ∃ xs, d = .agg xs := by
      cases t <;> simp [Ty.isAgg] at hfa
      · exact ⟨_, h.2⟩
      · obtain ⟨_, _, _, _, _, h, _⟩ := h; exact ⟨_, h⟩
    obtain ⟨xs, rfl⟩ := hd1
    have h1' : Rd G w t cs (.agg (xs.drop 0)) := by simpa using h
    have := (Rd.cells (cs := cs)).2 hfa h1'
    cases t <;> simp [Ty.isAgg] at hfa
    · exact this
    · exact this
  · exact (Rd.cells (cs := cs)).1 h (by simpa using hfa)

/-- From cells to data: the data of shape t at the head of the cells, and the rest. -/
def dTake : Ty → List S1 → Option (D × List S1)
  | .int k, .int k' n :: r => if k = k' then some (.int n, r) else none
  | .bool, .bool b :: r => some (.bool b, r)
  | .bool, .tt :: r => some (.bool true, r)
  | .bool, .ff :: r => some (.bool false, r)
  | .str, .str s :: r => some (.str s, r)
  | .slice e, .sl e' xs :: r => if e = e' then some (.list xs, r) else none
  | .slice _, .nilsl :: r => some (.list [], r)
  | .unit, r => some (.agg [], r)
  | .pair f r, cs =>
    match dTake f cs with
    | some (d1, cs') =>
      match dTake r cs' with
      | some (.agg ds, cs'') => some (.agg (d1 :: ds), cs'')
      | _ => none
    | none => none
  | _, _ => none

def dOf (t : Ty) (cs : List S1) : Option D :=
  match dTake t cs with
  | some (d, []) => some d
  | _ => none

theorem dTake_rd {G : Addr → Prop} {w : World} : ∀ {t : Ty} {ss rs : List S1} {d : D} {cs : List Value}, dTake t ss = some (d, rs) → All2 (PR G w) ss cs →
    ∃ c1 c2, cs = c1 ++ c2 ∧ Rd G w t c1 d ∧ All2 (PR G w) rs c2 := by
  intro t
  induction t with
  | int k =>
    intro ss rs d cs h ha
    match ss, cs, h, ha with
    | .int k' n :: r, v :: cs, h, ha =>
      simp only [dTake] at h
      split at h
      · rename_i hk; subst hk; simp at h; obtain ⟨rfl, rfl⟩ := h
        exact ⟨[v], cs, rfl, ⟨n, by rw [ha.1.1], rfl, ha.1.2⟩, ha.2⟩
      · cases h
  | bool =>
    intro ss rs d cs h ha
    match ss, cs, h, ha with
    | .bool b :: r, v :: cs, h, ha =>
      simp [dTake] at h; obtain ⟨rfl, rfl⟩ := h
      exact ⟨[v], cs, rfl, ⟨b, by rw [show v = _ from ha.1], rfl⟩, ha.2⟩
    | .tt :: r, v :: cs, h, ha =>
      simp [dTake] at h; obtain ⟨rfl, rfl⟩ := h
      exact ⟨[v], cs, rfl, ⟨true, by rw [show v = _ from ha.1], rfl⟩, ha.2⟩
    | .ff :: r, v :: cs, h, ha =>
      simp [dTake] at h; obtain ⟨rfl, rfl⟩ := h
      exact ⟨[v], cs, rfl, ⟨false, by rw [show v = _ from ha.1], rfl⟩, ha.2⟩
  | str =>
    intro ss rs d cs h ha
    match ss, cs, h, ha with
    | .str b :: r, v :: cs, h, ha =>
      simp [dTake] at h; obtain ⟨rfl, rfl⟩ := h
      exact ⟨[v], cs, rfl, ⟨b, by rw [ha.1.1], rfl, ha.1.2⟩, ha.2⟩
  | slice e _ =>
    intro ss rs d cs h ha
    match ss, cs, h, ha with
    | .sl e' xs :: r, v :: cs, h, ha =>
      simp only [dTake] at h
      split at h
      · rename_i hk; subst hk; simp at h; obtain ⟨rfl, rfl⟩ := h
        exact ⟨[v], cs, rfl, ha.1, ha.2⟩
      · cases h
    | .nilsl :: r, v :: cs, h, ha =>
      simp [dTake] at h; obtain ⟨rfl, rfl⟩ := h
      refine ⟨[v], cs, rfl, ⟨none, [], 0, by rw [show v = _ from ha.1]; rfl, rfl, by simp, by simp [maxLen], by simp⟩, ha.2⟩
  | unit =>
    intro ss rs d cs h ha
    simp [dTake] at h
    obtain ⟨rfl, rfl⟩ := h
    exact ⟨[], cs, rfl, ⟨rfl, rfl⟩, ha⟩
  | pair f r hf hr =>
    intro ss rs d cs h ha
    simp only [dTake] at h
    split at h
    · rename_i d1 cs' h1
      split at h
      · rename_i ds cs'' h2
        simp at h
        obtain ⟨rfl, rfl⟩ := h
        obtain ⟨c1, c2, rfl, r1, a1⟩ := hf h1 ha
        obtain ⟨c3, c4, rfl, r2, a2⟩ := hr h2 a1
        exact ⟨c1 ++ c3, c4, by simp, ⟨c1, c3, d1, ds, rfl, rfl, r1, r2⟩, a2⟩
      · cases h
    · cases h

theorem dOf_rd {G : Addr → Prop} {w : World} {t : Ty} {ss : List S1} {d : D} {cs : List Value} (h : dOf t ss = some d) (ha : All2 (PR G w) ss cs) : Rd G w t cs d := by
  unfold dOf at h
  split at h
  · rename_i d' hd
    simp at h; subst h
    obtain ⟨c1, c2, rfl, hr, ha2⟩ := dTake_rd hd ha
    have : c2 = [] := List.eq_nil_of_length_eq_zero (by simpa using ha2.len.symm)
    subst this
    simpa using hr
  · cases h

end Go.RX
