/- Part E: the operations do what the executor says: numbers, structs, memory. -/
import Derived.Test.YtafpahkcjdfpiaaDoorRxD
set_option linter.all false
namespace Go.RX
open Go Go.RowKit

/-- What an operation leaves behind it. -/
def Good (P : Program) (N : Nat) (E : Env) (H : Heap) (w : World) (f : Eff) (u : Value) (w' : World) : Prop :=
  ∃ E', Step E E' H (putAll H f.e) w w' ∧ HR P N E' (putAll H f.e) w' ∧ Below N w w' ∧ VRS E' (putAll H f.e) w' f.v u

section
variable {P : Program} {N : Nat} {E : Env} {H : Heap} {w : World}

theorem Good.pure {f : Eff} {u : Value} (hr : HR P N E H w) (he : f.e = []) (hv : VRS E H w f.v u) : Good P N E H w f u w := by
  refine ⟨E, ?_⟩
  rw [he]
  exact ⟨Step.refl E H w, hr, Below.refl N w, hv⟩

theorem vr_int {k : IntKind} {n : Int} {v : Value} (h : VR E H w (.int k n) v) : v = .int k n ∧ inR k n := h
theorem vr_bool {b : S1} {x : Bool} {v : Value} (hb : boolOf b = some x) (h : VR E H w b v) : v = .bool x := by
  cases b <;> simp [boolOf] at hb
  · subst hb; exact h
  · subst hb; exact h
  · subst hb; exact h
theorem vr_str {l : List UInt8} {v : Value} (h : VR E H w (.str l) v) : v = .string ⟨⟨l⟩⟩ ∧ l.length ≤ maxLen := h

theorem wrap_inR (k : IntKind) (n : Int) : inR k (k.wrap n) := by
  cases k <;> simp [inR, IntKind.wrap, IntKind.min, IntKind.max, IntKind.bits, IntKind.signed] <;> (try split) <;> omega
theorem bits_inR (op : BinOp) (k : IntKind) (a b : Int) : inR k (bits op k a b) := wrap_inR k _

theorem tmod_inR {k : IntKind} {a b : Int} (h : inR k a) : inR k (a.tmod b) := by
  have h1 : -(a.natAbs : Int) ≤ a.tmod b := by
    have := Int.natAbs_tmod a b
    have h2 : (a.tmod b).natAbs ≤ a.natAbs := by rw [this]; exact Nat.mod_le _ _
    omega
  have h2 : a.tmod b ≤ (a.natAbs : Int) := by
    have := Int.natAbs_tmod a b
    have h2 : (a.tmod b).natAbs ≤ a.natAbs := by rw [this]; exact Nat.mod_le _ _
    omega
  have h3 : 0 ≤ a → 0 ≤ a.tmod b := fun h => Int.tmod_nonneg b h
  have h4 : a ≤ 0 → a.tmod b ≤ 0 := fun h => by
    have := Int.tmod_nonneg b (show 0 ≤ -a by omega)
    rw [Int.neg_tmod] at this
    omega
  cases k <;> simp [inR, IntKind.min, IntKind.max, IntKind.bits, IntKind.signed] at h ⊢ <;> omega

theorem fdiv_inR {k : IntKind} {a : Int} {j : Nat} (h : inR k a) : inR k (a.fdiv (2 ^ j)) := by
  have hp : (0 : Int) < 2 ^ j := Int.pow_pos (by decide)
  have e : a.fdiv (2 ^ j) = a / 2 ^ j := Int.fdiv_eq_ediv_of_nonneg _ (by omega)
  rw [e]
  have h1 : 0 ≤ a → 0 ≤ a / 2 ^ j := fun h => Int.ediv_nonneg h (by omega)
  have h2 : 0 ≤ a → a / 2 ^ j ≤ a := fun h => Int.ediv_le_self _ h
  have h3 : a < 0 → a / 2 ^ j < 0 := fun h => Int.ediv_neg_of_neg_of_pos h hp
  have h4 : a < 0 → a ≤ a / 2 ^ j := fun h => by
    apply Int.le_ediv_of_mul_le hp
    have : a * 2 ^ j ≤ a * 1 := Int.mul_le_mul_of_nonpos_left (by omega) (by omega)
    omega
  generalize a / 2 ^ j = q at *
  cases k <;> simp [inR, IntKind.min, IntKind.max, IntKind.bits, IntKind.signed] at h ⊢ <;> omega


theorem run_seq {P : Program} {α β : Type} {x : Sem α} {f : α → Sem β} {w w' : World} {a : α} (h : x.run P w = .ok a w') : (x >>= f).run P w = (f a).run P w' := by
  rw [Sem.run_bind, h]; rfl

theorem toList_mk (l : List UInt8) : (⟨⟨l⟩⟩ : ByteArray).toList = l := by rw [ByteArray.toList_eq]

/-- Operations on numbers, strings and truth values. -/
theorem binS_ok {P : Program} {tt : TT} (ht : TTok P tt) {t : Nat} {op : BinOp} {x y : S1} {f : Eff} (h : binS tt t op x y = some f) (hc : ∀ c ∈ f.cs, c) {vx vy : Value}
    (hx : VR E H w x vx) (hy : VR E H w y vy) (ox oy : Operand) :
    ∃ u, (do eqGuard op t ox oy vx vy; binOp op t vx vy : Sem Value).run P w = .ok u w ∧ VRS E H w f.v u ∧ f.e = [] := by
  unfold binS at h
  split at h
  · rename_i k a k' b
    obtain ⟨rfl, ha⟩ := vr_int hx
    obtain ⟨rfl, hb⟩ := vr_int hy
    split at h
    · cases h
      have h0 : (0 : Int) ≤ b := hc _ (by simp)
      refine ⟨_, ?_, ⟨rfl, wrap_inR k _⟩, rfl⟩
      simp [eqGuard_shl, binOp_shl, Op.shift, show ¬ b < 0 by omega]; rfl
    · cases h
      have h0 : (0 : Int) ≤ b := hc _ (by simp)
      refine ⟨_, ?_, ⟨rfl, fdiv_inR ha⟩, rfl⟩
      simp [eqGuard_shr, binOp_shr, Op.shift, show ¬ b < 0 by omega]; rfl
    · split at h
      · rename_i hk
        subst hk
        split at h
        · cases h; exact ⟨_, by simp [eqGuard_add, binOp_add, Op.intArith]; rfl, ⟨rfl, wrap_inR k _⟩, rfl⟩
        · cases h; exact ⟨_, by simp [eqGuard_sub, binOp_sub, Op.intArith]; rfl, ⟨rfl, wrap_inR k _⟩, rfl⟩
        · cases h; exact ⟨_, by simp [eqGuard_mul, binOp_mul, Op.intArith]; rfl, ⟨rfl, wrap_inR k _⟩, rfl⟩
        · cases h
          have h0 : b ≠ 0 := hc _ (by simp)
          exact ⟨_, by simp [eqGuard_quo, binOp_quo, Op.intDiv, h0]; rfl, ⟨rfl, wrap_inR k _⟩, rfl⟩
        · cases h
          have h0 : b ≠ 0 := hc _ (by simp)
          exact ⟨_, by simp [eqGuard_rem, binOp_rem, Op.intDiv, h0]; rfl, ⟨rfl, tmod_inR ha⟩, rfl⟩
        · cases h; exact ⟨_, by simp [eqGuard_and, binOp_and, intBits_and], ⟨rfl, bits_inR _ k _ _⟩, rfl⟩
        · cases h; exact ⟨_, by simp [eqGuard_or, binOp_or, intBits_or], ⟨rfl, bits_inR _ k _ _⟩, rfl⟩
        · cases h; exact ⟨_, by simp [eqGuard_xor, binOp_xor, intBits_xor], ⟨rfl, bits_inR _ k _ _⟩, rfl⟩
        · cases h; exact ⟨_, by simp [eqGuard_andNot, binOp_andNot, intBits_andNot], ⟨rfl, bits_inR _ k _ _⟩, rfl⟩
        · cases h; exact ⟨_, by simp [eqGuard_at_int, binOp_eql]; rfl, rfl, rfl⟩
        · cases h; exact ⟨_, by simp [eqGuard_at_int, binOp_neq]; rfl, rfl, rfl⟩
        · cases h; exact ⟨_, by simp [eqGuard_lss, binOp_lss]; rfl, rfl, rfl⟩
        · cases h; exact ⟨_, by simp [eqGuard_leq, binOp_leq]; rfl, rfl, rfl⟩
        · cases h; exact ⟨_, by simp [eqGuard_gtr, binOp_gtr]; rfl, rfl, rfl⟩
        · cases h; exact ⟨_, by simp [eqGuard_geq, binOp_geq]; rfl, rfl, rfl⟩
        · cases h
      · cases h
  · rename_i a b
    obtain ⟨rfl, ha⟩ := vr_str hx
    obtain ⟨rfl, hb⟩ := vr_str hy
    split at h
    · cases h
      have h0 : a.length + b.length ≤ 4294967296 := hc _ (by simp)
      refine ⟨.string ⟨⟨a ++ b⟩⟩, ?_, ⟨rfl, ?_⟩, rfl⟩
      · have hs : ¬ ((((⟨⟨a⟩⟩ : ByteArray).size + (⟨⟨b⟩⟩ : ByteArray).size : Nat) : Int) > IntKind.i64.max) := by
          show ¬ (((a.length + b.length : Nat) : Int) > IntKind.i64.max)
          rw [IntKind.max_i64]; omega
        simp only [eqGuard_at_string, binOp, Op.stringOp, Sem.run_bind, Sem.run_pure, Result.andThen_ok, if_neg hs]
        congr 2
      · simp only [scat, List.length_append, maxLen]; omega
    · cases h
      refine ⟨.bool (seq' a b), ?_, rfl, rfl⟩
      simp only [eqGuard_at_string, binOp, Op.stringOp, Sem.run_bind, Sem.run_pure, Result.andThen_ok, toList_mk]
      rfl
    · cases h
      refine ⟨.bool (bnot (seq' a b)), ?_, rfl, rfl⟩
      simp only [eqGuard_at_string, binOp, Op.stringOp, Sem.run_bind, Sem.run_pure, Result.andThen_ok, toList_mk]
      rfl
    · cases h
      refine ⟨.bool (slt a b), ?_, rfl, rfl⟩
      simp only [eqGuard_at_string, binOp, Op.stringOp, Sem.run_bind, Sem.run_pure, Result.andThen_ok, toList_mk]
      rfl
    · cases h
  · split at h
    · rename_i hti
      have hu := (ht _ _ hti).kind.1
      split at h
      · rename_i a b h1 h2
        cases h
        rw [vr_bool h1 hx, vr_bool h2 hy]
        refine ⟨.bool (a == b), ?_, rfl, rfl⟩
        have := run_equalIn_bool (P := P) w 9999 t a b hu
        simp [eqGuard_at_bool, binOp, Op.equal, Op.maxDepth, this]
      · rename_i a b h1 h2
        cases h
        rw [vr_bool h1 hx, vr_bool h2 hy]
        refine ⟨.bool (!(a == b)), ?_, rfl, rfl⟩
        have := run_equalIn_bool (P := P) w 9999 t a b hu
        simp [eqGuard_at_bool, binOp, Op.equal, Op.maxDepth, this]
      · cases h
    · cases h

/-! ### Structs are compared cell by cell -/
def eqG : List S1 → List S1 → Option Bool
  | [], [] => some true
  | x :: xs, y :: ys => match eqCells.eq1 x y, eqG xs ys with
    | some a, some b => some (a && b)
    | _, _ => none
  | _, _ => none

theorem eqCells_eqG : ∀ {xs ys : List S1} {z : Bool}, eqCells xs ys = some z → eqG xs ys = some z
  | [], [], z, h => by simpa [eqCells, eqG] using h
  | [x], [y], z, h => by
    have h' : eqCells.eq1 x y = some z := h
    simp [eqG, h']
  | [x], y :: y' :: ys, z, h => by
    simp only [eqCells] at h
    split at h
    · rename_i h1 h2; simp at h2
    · cases h
  | x :: x' :: xs, [y], z, h => by
    simp only [eqCells] at h
    split at h
    · rename_i h1 h2; simp at h2
    · cases h
  | x :: x' :: xs, y :: y' :: ys, z, h => by
    simp only [eqCells] at h
    split at h
    · rename_i a b h1 h2
      cases h
      have := eqCells_eqG (xs := x' :: xs) (ys := y' :: ys) h2
      simp [eqG, h1] at this ⊢
      rw [this]
      rfl
    · cases h
  | [], _ :: _, z, h => by simp [eqCells] at h
  | _ :: _, [], z, h => by simp [eqCells] at h

theorem eqG_append : ∀ {a b c d : List S1} {z : Bool}, a.length = b.length → eqG (a ++ c) (b ++ d) = some z → ∃ z1 z2, eqG a b = some z1 ∧ eqG c d = some z2 ∧ z = (z1 && z2)
  | [], [], c, d, z, _, h => ⟨true, z, rfl, h, by simp⟩
  | x :: xs, y :: ys, c, d, z, hl, h => by
    simp only [List.cons_append, eqG] at h ⊢
    split at h
    · rename_i a b h1 h2
      cases h
      obtain ⟨z1, z2, e1, e2, rfl⟩ := eqG_append (by simpa using hl) h2
      exact ⟨a && z1, z2, by simp [h1, e1], e2, by rw [Bool.and_assoc]⟩
    · cases h
  | [], _ :: _, _, _, _, hl, _ => by simp at hl
  | _ :: _, [], _, _, _, hl, _ => by simp at hl

def Ty.depth : Ty → Nat
  | .pair f r => max (f.depth + 1) r.depth
  | _ => 0

theorem eq1_run {P : Program} {tt : TT} (ht : TTok P tt) {t : Nat} {ti : TI} (hg : tt.get t = some ti) {x y : S1} {z : Bool}
    (h : eqCells.eq1 x y = some z) {vx vy : Value} (hx : VR E H w x vx) (hy : VR E H w y vy) (hsx : cellZt ti.ty x = true) (d : Nat) : (Op.equalIn (d + 1) t vx vy).run P w = .ok z w := by
  have hk := (ht t ti hg).of_ty
  unfold eqCells.eq1 at h
  split at h
  · rename_i k a k' b
    split at h
    · rename_i hkk; subst hkk; cases h
      obtain ⟨rfl, _⟩ := vr_int hx
      obtain ⟨rfl, _⟩ := vr_int hy
      cases hty : ti.ty <;> simp [hty, cellZt] at hsx
      subst hsx
      simp only [hty] at hk
      exact run_equalIn_int w d t _ _ a b hk
    · cases h
  · rename_i a b
    cases h
    obtain ⟨rfl, _⟩ := vr_str hx
    obtain ⟨rfl, _⟩ := vr_str hy
    cases hty : ti.ty <;> simp [hty, cellZt] at hsx
    simp only [hty] at hk
    have := run_equalIn_string (P := P) w d t ⟨⟨a⟩⟩ ⟨⟨b⟩⟩ hk
    rw [toList_mk, toList_mk] at this
    exact this
  · split at h
    · rename_i a b h1 h2
      cases h
      rw [vr_bool h1 hx, vr_bool h2 hy]
      have hb : ti.ty = .bool := by
        cases x <;> simp [boolOf] at h1 <;> cases hty : ti.ty <;> simp [hty, cellZt] at hsx <;> rfl
      simp only [hb] at hk
      exact run_equalIn_bool w d t a b hk
    · cases h

theorem all2_split {α β : Type} {R : α → β → Prop} : ∀ {a : List α} {b : List α} {c : List β}, All2 R (a ++ b) c → ∃ c1 c2, c = c1 ++ c2 ∧ All2 R a c1 ∧ All2 R b c2
  | [], _, c, h => ⟨[], c, rfl, trivial, h⟩
  | _ :: _, _, _ :: _, h => by
    obtain ⟨c1, c2, e, h1, h2⟩ := all2_split h.2
    exact ⟨_ :: c1, c2, by rw [e]; rfl, ⟨h.1, h1⟩, h2⟩
  | _ :: _, _, [], h => h.elim

theorem cellsZt_app : ∀ {t : Ty} {a r : List S1} (b : List S1), cellsZt t a = some r → cellsZt t (a ++ b) = some (r ++ b) := by
  intro t
  induction t with
  | pair f r hf hr =>
    intro a r0 b h
    simp only [cellsZt] at h ⊢
    split at h
    · rename_i cs' h1
      simp only [hf b h1]
      exact hr b h
    · cases h
  | unit => intro a r b h; simp [cellsZt] at h ⊢; rw [h]
  | _ =>
    intro a r b h
    cases a with
    | nil => simp [cellsZt] at h
    | cons s r =>
      simp only [cellsZt, List.cons_append] at h ⊢
      split at h
      · rename_i hz; cases h; simp [hz]
      · cases h

theorem cellsZt_split : ∀ {t : Ty} {ss rs : List S1}, cellsZt t ss = some rs → ∃ a, ss = a ++ rs ∧ a.length = t.n ∧ cellsZt t a = some [] := by
  intro t
  induction t with
  | pair f r hf hr =>
    intro ss rs h
    simp only [cellsZt] at h
    split at h
    · rename_i cs' h1
      obtain ⟨a, e1, l1, z1⟩ := hf h1
      obtain ⟨b, e2, l2, z2⟩ := hr h
      refine ⟨a ++ b, by rw [e1, e2, List.append_assoc], by simp [Ty.n, l1, l2], ?_⟩
      have := cellsZt_app b z1
      simp only [List.nil_append] at this
      simp only [cellsZt, this, z2]
    · cases h
  | unit => intro ss rs h; simp [cellsZt] at h; subst h; exact ⟨[], rfl, rfl, rfl⟩
  | _ =>
    intro ss rs h
    cases ss with
    | nil => simp [cellsZt] at h
    | cons s r =>
      simp only [cellsZt] at h
      split at h
      · rename_i hz; cases h; exact ⟨[s], rfl, rfl, by simp [cellsZt, hz]⟩
      · cases h

theorem info_of {P : Program} {tt : TT} (ht : TTok P tt) {t : Nat} {ti : TI} (hg : tt.get t = some ti) : ∃ i, P.info? t = some i ∧ i.size = ti.ty.n ∧ i.bytes = ti.bytes ∧ i.zero = some (ti.ty.val ti.ty.zeroV) := (ht t ti hg).info

theorem run_sizeOf {P : Program} {tt : TT} (ht : TTok P tt) {t : Nat} {ti : TI} (hg : tt.get t = some ti) (w : World) : (sizeOf t).run P w = .ok ti.ty.n w := by
  obtain ⟨i, h1, h2, _⟩ := info_of ht hg
  simp [sizeOf, typeInfo, h1, h2]
theorem run_zeroValue {P : Program} {tt : TT} (ht : TTok P tt) {t : Nat} {ti : TI} (hg : tt.get t = some ti) (w : World) : (zeroValue t).run P w = .ok (ti.ty.val ti.ty.zeroV) w := by
  obtain ⟨i, h1, _, _, h2⟩ := info_of ht hg
  simp [zeroValue, typeInfo, h1, h2]
theorem run_isAgg {P : Program} {tt : TT} (ht : TTok P tt) {t : Nat} {ti : TI} (hg : tt.get t = some ti) (w : World) : (isAgg t).run P w = .ok ti.ty.isAgg w := by
  have hk := (ht t ti hg).of_ty
  unfold isAgg
  rw [Sem.run_bind]
  cases hty : ti.ty <;> simp only [hty] at hk
  · rw [run_underlying hk]; rfl
  · rw [run_underlying hk]; rfl
  · rw [run_underlying hk]; rfl
  · obtain ⟨et, te, h1, _⟩ := hk; rw [run_underlying h1]; rfl
  · obtain ⟨fs, fields, _, h1, _⟩ := hk; rw [run_underlying h1]; rfl
  · obtain ⟨fs, fields, _, h1, _⟩ := hk; rw [run_underlying h1]; rfl

theorem val_agg {t : Ty} (h : t.isAgg = true) (cs : List Value) : t.val cs = .agg cs.toArray := by simp [Ty.val, h]
theorem val_one {t : Ty} (h : t.isAgg = false) (v : Value) : t.val [v] = v := by simp [Ty.val, h]
theorem n_of_not_agg {t : Ty} (h : t.isAgg = false) : t.n = 1 := by cases t <;> simp [Ty.isAgg] at h <;> rfl

/-- A part of a struct. -/
theorem run_part {P : Program} {tt : TT} (ht : TTok P tt) {t : Nat} {ti : TI} (hg : tt.get t = some ti) (cs : Array Value) (off : Nat) (hfit : ti.ty.isAgg = false → off + 1 ≤ cs.size) (w : World) :
    (part t cs off).run P w = .ok (ti.ty.val ((cs.toList.drop off).take ti.ty.n)) w := by
  unfold part
  rw [Sem.run_bind, run_isAgg ht hg]
  by_cases ha : ti.ty.isAgg = true
  · simp only [Result.andThen_ok, ha, if_true, Sem.run_bind, run_sizeOf ht hg, Sem.run_pure]
    rw [val_agg ha]
    congr 2
    apply Array.ext'
    simp [Array.toList_extract, List.extract]
  · have ha' : ti.ty.isAgg = false := by simpa using ha
    have hn := n_of_not_agg ha'
    have hfit := hfit ha'
    simp only [Result.andThen_ok, ha', Bool.false_eq_true, if_false]
    have : cs[off]? = some (cs[off]'(by omega)) := Array.getElem?_eq_getElem (by omega)
    rw [this]
    simp only [Sem.run_pure]
    rw [hn]
    have e : (cs.toList.drop off).take 1 = [cs[off]'(by omega)] := by
      rw [List.drop_eq_getElem_cons (by simpa using by omega)]
      rfl
    rw [e, val_one ha']

theorem drop_take_of {α : Type} {X a b : List α} {o n : Nat} (h : X.drop o = a ++ b) (hn : a.length = n) : (X.drop o).take n = a := by
  rw [h, ← hn]; simp
theorem drop_of {α : Type} {X a b : List α} {o n : Nat} (h : X.drop o = a ++ b) (hn : a.length = n) : X.drop (o + n) = b := by
  rw [← List.drop_drop, h, ← hn]; simp

theorem eqIn_run {P : Program} {tt : TT} (ht : TTok P tt) : ∀ (ty : Ty),
    (∀ {t : Nat} {ti : TI} {xs ys : List S1} {vxs vys : List Value} {z : Bool} {d : Nat}, tt.get t = some ti → ti.ty = ty → eqG xs ys = some z → cellsZt ty xs = some [] → ys.length = ty.n →
      All2 (VR E H w) xs vxs → All2 (VR E H w) ys vys → ty.depth ≤ d → (Op.equalIn (d + 1) t (ty.val vxs) (ty.val vys)).run P w = .ok z w) ∧
    (∀ {fs : List (Nat × Nat)} {fields : List Field} {o : Nat} {X Y : Array Value} {xs ys : List S1} {vxs vys rx ry : List Value} {z : Bool} {d : Nat}, structOK tt ty fs o = true → fieldsZ fs fields = true →
      X.toList.drop o = vxs ++ rx → Y.toList.drop o = vys ++ ry → eqG xs ys = some z → cellsZt ty xs = some [] → ys.length = ty.n →
      All2 (VR E H w) xs vxs → All2 (VR E H w) ys vys → ty.depth ≤ d + 1 → (Op.eqFields (d + 1) X Y fields).run P w = .ok z w) := by
  intro ty
  -- a whole struct by its fields
  have whole : ∀ (ty : Ty), ty.isAgg = true → (∀ {fs : List (Nat × Nat)} {fields : List Field} {o : Nat} {X Y : Array Value} {xs ys : List S1} {vxs vys rx ry : List Value} {z : Bool} {d : Nat}, structOK tt ty fs o = true → fieldsZ fs fields = true →
      X.toList.drop o = vxs ++ rx → Y.toList.drop o = vys ++ ry → eqG xs ys = some z → cellsZt ty xs = some [] → ys.length = ty.n →
      All2 (VR E H w) xs vxs → All2 (VR E H w) ys vys → ty.depth ≤ d + 1 → (Op.eqFields (d + 1) X Y fields).run P w = .ok z w) →
      ∀ {t : Nat} {ti : TI} {xs ys : List S1} {vxs vys : List Value} {z : Bool} {d : Nat}, tt.get t = some ti → ti.ty = ty → eqG xs ys = some z → cellsZt ty xs = some [] → ys.length = ty.n →
      All2 (VR E H w) xs vxs → All2 (VR E H w) ys vys → ty.depth ≤ d + 1 → (Op.equalIn (d + 1 + 1) t (ty.val vxs) (ty.val vys)).run P w = .ok z w := by
    intro ty ha hB t ti xs ys vxs vys z d hg hty hz hcs hl hx hy hd
    have hk := (ht t ti hg).of_ty
    have hk' : ∃ fs fields, ti.k = .struct fs ∧ P.underlying t = some (.struct fields) ∧ fieldsZ fs fields.toList = true ∧ structOK tt ti.ty fs 0 = true ∧ P.stoodInHeld t = false ∧ P.eqGuardType P.depth t = false := by
      rw [hty] at hk
      rw [hty]
      cases ty <;> simp [Ty.isAgg] at ha
      · exact hk
      · exact hk
    obtain ⟨fs, fields, _, hu, hf, hs, hsi, _⟩ := hk'
    rw [val_agg ha, val_agg ha]
    have hfo : P.fieldsOf t = fields := by simp [Program.fieldsOf, hu]
    rw [run_equalIn_struct w (d + 1) t _ _ (by rw [hfo]; exact hu) hsi, hfo]
    rw [hty] at hs
    exact hB (rx := []) (ry := []) hs hf (by simp) (by simp) hz hcs hl hx hy hd
  induction ty with
  | unit =>
    have hB : ∀ {fs : List (Nat × Nat)} {fields : List Field} {o : Nat} {X Y : Array Value} {xs ys : List S1} {vxs vys rx ry : List Value} {z : Bool} {d : Nat}, structOK tt .unit fs o = true → fieldsZ fs fields = true →
        X.toList.drop o = vxs ++ rx → Y.toList.drop o = vys ++ ry → eqG xs ys = some z → cellsZt .unit xs = some [] → ys.length = Ty.unit.n →
        All2 (VR E H w) xs vxs → All2 (VR E H w) ys vys → Ty.unit.depth ≤ d + 1 → (Op.eqFields (d + 1) X Y fields).run P w = .ok z w := by
      intro fs fields o X Y xs ys vxs vys rx ry z d hs hf _ _ hz hcs hl _ _ _
      cases fs with
      | cons x fs => simp [structOK] at hs
      | nil =>
        cases fields with
        | cons f fr => simp [fieldsZ] at hf
        | nil =>
          simp [cellsZt] at hcs
          subst hcs
          have : ys = [] := List.eq_nil_of_length_eq_zero hl
          subst this
          simp [eqG] at hz
          subst hz
          simp [Op.eqFields]
    refine ⟨?_, hB⟩
    intro t ti xs ys vxs vys z d hg hty hz hcs hl hx hy hd
    cases d with
    | zero =>
      simp [cellsZt] at hcs
      subst hcs
      have : ys = [] := List.eq_nil_of_length_eq_zero hl
      subst this
      simp [eqG] at hz
      subst hz
      have hk := (ht t ti hg).of_ty
      rw [hty] at hk
      obtain ⟨fs, fields, _, hu, hf, hs, hsi, _⟩ := hk
      rw [val_agg rfl, val_agg rfl]
      have hfo : P.fieldsOf t = fields := by simp [Program.fieldsOf, hu]
      rw [run_equalIn_struct w 0 t _ _ (by rw [hfo]; exact hu) hsi, hfo]
      cases fs with
      | cons x fs => simp [structOK] at hs
      | nil =>
        cases hfl : fields.toList with
        | cons f fr => rw [hfl] at hf; simp [fieldsZ] at hf
        | nil => simp [Op.eqFields]
    | succ d => exact whole .unit rfl hB hg hty hz hcs hl hx hy (by omega)
  | pair f r ihf ihr =>
    have hB : ∀ {fs : List (Nat × Nat)} {fields : List Field} {o : Nat} {X Y : Array Value} {xs ys : List S1} {vxs vys rx ry : List Value} {z : Bool} {d : Nat}, structOK tt (.pair f r) fs o = true → fieldsZ fs fields = true →
        X.toList.drop o = vxs ++ rx → Y.toList.drop o = vys ++ ry → eqG xs ys = some z → cellsZt (.pair f r) xs = some [] → ys.length = (Ty.pair f r).n →
        All2 (VR E H w) xs vxs → All2 (VR E H w) ys vys → (Ty.pair f r).depth ≤ d + 1 → (Op.eqFields (d + 1) X Y fields).run P w = .ok z w := by
      intro fs fields o X Y xs ys vxs vys rx ry z d hs hf hX hY hz hcs hl hx hy hd
      cases fs with
      | nil => simp [structOK] at hs
      | cons x fs =>
        obtain ⟨ft, off⟩ := x
        simp only [structOK, Bool.and_eq_true, beq_iff_eq] at hs
        obtain ⟨⟨rfl, h2⟩, h3⟩ := hs
        cases hgf : tt.get ft with
        | none => simp [hgf] at h2
        | some tf =>
          simp only [hgf, beq_iff_eq] at h2
          cases fields with
          | nil => simp [fieldsZ] at hf
          | cons fd fr =>
            simp only [fieldsZ, Bool.and_eq_true, beq_iff_eq, Bool.not_eq_true'] at hf
            obtain ⟨⟨⟨rfl, rfl⟩, hnm⟩, hfr⟩ := hf
            simp only [cellsZt] at hcs
            split at hcs
            · rename_i cs' hcf
              obtain ⟨x1, e1, l1, z1⟩ := cellsZt_split hcf
              subst e1
              have hys : ys = ys.take f.n ++ ys.drop f.n := (List.take_append_drop _ _).symm
              have hl1 : (ys.take f.n).length = f.n := by rw [List.length_take, hl]; simp [Ty.n]
              have hl2 : (ys.drop f.n).length = r.n := by rw [List.length_drop, hl]; simp [Ty.n]
              rw [hys] at hz hy
              obtain ⟨za, zb, hza, hzb, rfl⟩ := eqG_append (by rw [l1, hl1]) hz
              obtain ⟨v1, v2, rfl, hv1, hv2⟩ := all2_split hx
              obtain ⟨u1, u2, rfl, hu1, hu2⟩ := all2_split hy
              have lv1 : v1.length = f.n := by rw [← hv1.len, l1]
              have lu1 : u1.length = f.n := by rw [← hu1.len, hl1]
              have fitX : tf.ty.isAgg = false → fd.offset + 1 ≤ X.size := fun ha => by
                have := congrArg List.length hX
                have h1 := n_of_not_agg (h2 ▸ ha)
                simp [lv1, h1] at this
                omega
              have fitY : tf.ty.isAgg = false → fd.offset + 1 ≤ Y.size := fun ha => by
                have := congrArg List.length hY
                have h1 := n_of_not_agg (h2 ▸ ha)
                simp [lu1, h1] at this
                omega
              have hpx := run_part ht hgf X fd.offset fitX w
              have hpy := run_part ht hgf Y fd.offset fitY w
              rw [h2, drop_take_of (by rw [hX, List.append_assoc]) lv1] at hpx
              rw [h2, drop_take_of (by rw [hY, List.append_assoc]) lu1] at hpy
              have hdf : f.depth ≤ d := by simp [Ty.depth] at hd; omega
              have hdr : r.depth ≤ d + 1 := by simp [Ty.depth] at hd; omega
              have hcmp := ihf.1 hgf h2 hza z1 hl1 hv1 hu1 hdf
              have hrest := ihr.2 h3 hfr (drop_of (by rw [hX, List.append_assoc]) lv1) (drop_of (by rw [hY, List.append_assoc]) lu1) hzb hcs hl2 hv2 hu2 hdr
              have hne : fd.name ≠ "_" := by simpa using hnm
              simp only [Op.eqFields, if_pos hne, Sem.run_bind, hpx, hpy, hcmp, Result.andThen_ok]
              cases za
              · simp
              · simp [hrest]
            · cases hcs
    refine ⟨?_, hB⟩
    intro t ti xs ys vxs vys z d hg hty hz hcs hl hx hy hd
    cases d with
    | zero => simp [Ty.depth] at hd
    | succ d => exact whole (.pair f r) rfl hB hg hty hz hcs hl hx hy (by omega)
  | _ =>
    refine ⟨?_, fun hs => absurd (structOK_agg hs) (by simp [Ty.isAgg])⟩
    intro t ti xs ys vxs vys z d hg hty hz hcs hl hx hy hd
    obtain ⟨x', e, l, _⟩ := cellsZt_split hcs
    have hlx : xs.length = 1 := by rw [e]; simpa [Ty.n] using l
    obtain ⟨x, rfl⟩ := List.length_eq_one_iff.1 hlx
    obtain ⟨y, rfl⟩ := List.length_eq_one_iff.1 hl
    match vxs, vys, hx, hy with
    | [vx], [vy], hx, hy =>
      rw [val_one rfl, val_one rfl]
      have hz' : eqCells.eq1 x y = some z := by
        simp only [eqG] at hz
        split at hz
        · rename_i a b h1 h2; cases hz; cases h2; simpa using h1
        · cases hz
      refine eq1_run ht hg hz' hx.1 hy.1 ?_ d
      rw [hty]
      unfold cellsZt at hcs
      split at hcs
      · assumption
      · cases hcs

theorem depth_le_n : ∀ (t : Ty), t.depth ≤ t.sz := by
  intro t
  induction t with
  | pair f r hf hr => simp only [Ty.depth, Ty.sz]; omega
  | _ => simp [Ty.depth]

theorem VR0.agg {cs : List S1} {v : Value} (h : VR0 E H w (.agg cs) v) : ∃ vs, v = .agg vs ∧ All2 (VR E H w) cs vs.toList := h

/-- Every operation on two values. -/
theorem binE_ok {P : Program} {tt : TT} (ht : TTok P tt) {t : Nat} {op : BinOp} {x y : V0} {f : Eff} (h : binE tt op t x y = some f) (hc : ∀ c ∈ f.cs, c) {vx vy : Value}
    (hx : VR0 E H w x vx) (hy : VR0 E H w y vy) (ox oy : Operand) :
    ∃ u, (do eqGuard op t ox oy vx vy; binOp op t vx vy : Sem Value).run P w = .ok u w ∧ VRS E H w f.v u ∧ f.e = [] := by
  unfold binE at h
  split at h
  · exact binS_ok ht h hc hx hy ox oy
  · rename_i xs ys
    obtain ⟨ax, rfl, hx⟩ := hx
    obtain ⟨ay, rfl, hy⟩ := hy
    split at h
    · rename_i ti b hg he
      split at h
      · rename_i hcond
        simp only [Bool.and_eq_true, beq_iff_eq, decide_eq_true_eq] at hcond
        obtain ⟨⟨⟨⟨⟨hfl, hag⟩, hlx⟩, hly⟩, hcz⟩, hsz⟩ := hcond
        have hcz' : cellsZt ti.ty xs = some [] := by
          unfold zOK at hcz
          split at hcz
          · assumption
          · cases hcz
        have hk := (ht t ti hg).of_ty
        have hk' : P.eqGuardType P.depth t = false := by
          cases hty : ti.ty <;> simp only [hty] at hk <;> simp [hty, Ty.isAgg] at hag
          · obtain ⟨_, _, _, _, _, _, _, h⟩ := hk; exact h
          · obtain ⟨_, _, _, _, _, _, _, h⟩ := hk; exact h
        have hr : (Op.equalIn 10000 t (.agg ax) (.agg ay)).run P w = .ok b w := by
          have hd := depth_le_n ti.ty
          have := (eqIn_run (E := E) (H := H) (w := w) ht ti.ty).1 (d := 9999) hg rfl (eqCells_eqG he) hcz' hly hx hy (by omega)
          rw [val_agg hag, val_agg hag] at this
          simpa using this
        split at h
        · cases h
          refine ⟨.bool b, ?_, rfl, rfl⟩
          rw [run_seq (run_eqGuard_agg w .eql t ox oy ax ay hk'), run_eql_struct, hr]
          rfl
        · cases h
          refine ⟨.bool (bnot b), ?_, rfl, rfl⟩
          rw [run_seq (run_eqGuard_agg w .neq t ox oy ax ay hk'), run_neq_struct, hr]
          rfl
        · cases h
      · cases h
    · cases h
  · cases h

end
end Go.RX
