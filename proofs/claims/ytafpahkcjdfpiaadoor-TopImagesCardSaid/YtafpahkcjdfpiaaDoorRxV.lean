/- Part V: words for specifications: the first error of a row of checks; lists made of a function; sums. -/
import Derived.Test.YtafpahkcjdfpiaaDoorRxS
set_option linter.all false
namespace Go.RX
open Go

def boxL (s : St) (h j : Nat) : List D := match s.heap.get h with
  | some (.box cs) => (match cs[j]? with
    | some (.sl _ xs) => xs
    | _ => [])
  | _ => []
def boxS (s : St) (h j : Nat) : List UInt8 := match s.heap.get h with
  | some (.box cs) => (match cs[j]? with
    | some (.str xs) => xs
    | _ => [])
  | _ => []
def strOf (s : St) (t : Nat) : List UInt8 := match s.slots[t]? with
  | some (.v (.one (.str xs))) => xs
  | _ => []
def rowL (s : St) (h : Nat) : List D := match s.heap.get h with
  | some (.row _ _ _ xs) => xs
  | some (.frozen _ _ xs) => xs
  | _ => []
/-- As frame; of the suspended slots only us are kept. -/
def frameU (s : St) (ks us hs : List Nat) (l : List (Nat × SV)) (h : List (Nat × SB)) : St :=
  ⟨setS (keepS s.slots ks (List.replicate s.slots.length J)) l, keepS s.susp us (List.replicate s.susp.length J), putS (keepH s.heap hs) h⟩
def isNil (s : St) (t : Nat) : Bool := match s.slots[t]? with
  | some (.v (.one .nilsl)) => true
  | _ => false
def vU (n : Int) : RV := .sv (.one (.int .u64 n))
def sU (n : Int) : SV := .v (.one (.int .u64 n))
def sSl (e : Ty) (l : List D) : SV := .v (.one (.sl e l))
def sRow (h : Nat) : SV := .v (.one (.row h 0))
def vSl (e : Ty) (l : List D) : RV := .sv (.one (.sl e l))
def rl (r : D) (j : Nat) : List D := (r.fld j).l
def rb (r : D) (j : Nat) : Bool := (r.fld j).b
def rs (r : D) (j : Nat) : List UInt8 := (r.fld j).s
/-- Element i of a list of integers. -/
def ei (l : List D) (i : Nat) : Int := (elt l (i : Int)).i
/-- The first error that f names among 0, 1, .. -/
def errTo (f : Nat → Int) : Nat → Int
  | 0 => 0
  | i + 1 => if errTo f i ≠ 0 then errTo f i else f i
theorem errTo_next {f : Nat → Int} {i : Nat} (h : errTo f i = 0) (h1 : f i = 0) : errTo f (i + 1) = 0 := by
  rw [errTo, if_neg (by simp [h])]; exact h1
theorem errTo_stop {f : Nat → Int} {i n : Nat} (h : errTo f i = 0) (h1 : f i ≠ 0) (hn : i < n) : errTo f n = f i := by
  induction n with
  | zero => omega
  | succ n ih =>
    by_cases e : i = n
    · subst e; rw [errTo, if_neg (by simp [h])]
    · have := ih (by omega)
      rw [errTo, if_pos (by rw [this]; exact h1), this]
theorem errTo_all {f : Nat → Int} {n : Nat} (h : errTo f n = 0) : ∀ i, i < n → f i = 0 := by
  induction n with
  | zero => intro i hi; omega
  | succ n ih =>
    rw [errTo] at h
    split at h
    · rename_i h1; exact absurd h h1
    · rename_i h1
      intro i hi
      by_cases e : i = n
      · rw [e]; exact h
      · exact ih (Classical.not_not.1 h1) i (by omega)
theorem errTo_zero {f : Nat → Int} {n : Nat} (h : ∀ i, i < n → f i = 0) : errTo f n = 0 := by
  induction n with
  | zero => rfl
  | succ n ih => exact errTo_next (ih fun i hi => h i (by omega)) (h n (by omega))

/-- The list of f 0, .., f (n - 1). -/
def mkL (n : Nat) (f : Nat → D) : List D := (List.range n).map f
theorem mkL_len {n : Nat} {f : Nat → D} : (mkL n f).length = n := by simp [mkL]
theorem elt_mkL {n : Nat} {f : Nat → D} {i : Nat} (h : i < n) : elt (mkL n f) (i : Int) = f i := by
  rw [elt_get (by rw [mkL_len]; exact h)]; simp [mkL]
theorem list_ext {l m : List D} (h : l.length = m.length) (h1 : ∀ i : Nat, i < l.length → elt l (i : Int) = elt m (i : Int)) : l = m := by
  refine List.ext_getElem h fun i hi hj => ?_
  have := h1 i hi
  rwa [elt_get hi, elt_get hj] at this
theorem mkL_eq {n : Nat} {f : Nat → D} {l : List D} (h : l.length = n) (h1 : ∀ i : Nat, i < n → elt l (i : Int) = f i) : l = mkL n f :=
  list_ext (by rw [mkL_len]; exact h) fun i hi => by rw [h1 i (by omega), elt_mkL (by omega)]
theorem mkL_congr {n : Nat} {f g : Nat → D} (h : ∀ i, i < n → f i = g i) : mkL n f = mkL n g :=
  mkL_eq mkL_len fun i hi => by rw [elt_mkL hi, h i hi]
theorem xset_mkL {n k : Nat} {f : Nat → D} {d : D} : xset (mkL n f) k d = mkL n fun i => if k = i then d else f i :=
  mkL_eq (by rw [xset_len, mkL_len]) fun _ hi => by rw [elt_xset (by rw [mkL_len]; exact hi), elt_mkL hi]
theorem xrep_mkL {n : Int} {d : D} : xrep n d = mkL n.toNat fun _ => d :=
  mkL_eq xrep_len fun _ hi => elt_xrep hi
theorem mkL_snoc {n : Nat} {f : Nat → D} : xcat (mkL n f) [f n] = mkL (n + 1) f := by
  simp [xcat, mkL, List.range_succ]
theorem mkL_zero {f : Nat → D} : mkL 0 f = [] := rfl

theorem imin_eq {a b : Int} : imin a b = min a b := by unfold imin; split <;> omega
theorem imax_eq {a b : Int} : imax a b = max a b := by unfold imax; split <;> omega
theorem imul_eq {a b : Int} (h : -9223372036854775808 ≤ a * b ∧ a * b ≤ 9223372036854775807) : imul .i64 a b = a * b := by
  unfold imul
  rw [IntKind.wrap_i64]
  omega
theorem wrap_id {a : Int} (h : -9223372036854775808 ≤ a ∧ a ≤ 9223372036854775807) : IntKind.wrap .i64 a = a := by
  rw [IntKind.wrap_i64]; omega
theorem iquo_eq {a b : Int} (ha : 0 ≤ a) (hb : 0 < b) (h : a ≤ 9223372036854775807) : iquo .i64 a b = a / b := by
  unfold iquo
  rw [Int.tdiv_eq_ediv_of_nonneg ha]
  have h1 : a / b ≤ a := Int.ediv_le_self b ha
  have h2 : 0 ≤ a / b := Int.ediv_nonneg ha (by omega)
  exact wrap_id (by omega)
theorem irem_eq {a b : Int} (ha : 0 ≤ a) : irem a b = a % b := Int.tmod_eq_emod_of_nonneg ha
theorem iconv_eq {a : Int} (h : -9223372036854775808 ≤ a ∧ a ≤ 9223372036854775807) : iconv .i64 a = a := wrap_id h
/-- Are two lists of integers equal, one by one? -/
def sameTo (xs ys : List D) (n : Nat) : Prop := ∀ i, i < n → (elt xs (i : Int)).i = (elt ys (i : Int)).i
def sameZ (xs ys : List D) : Bool := decide (xs.length = ys.length) && (List.range xs.length).all fun i => (elt xs (i : Int)).i == (elt ys (i : Int)).i
theorem sameZ_self (l : List D) : sameZ l l = true := by simp [sameZ]
theorem sameZ_t {a b : List D} : (sameZ a b = true) = (a.length = b.length ∧ sameTo a b a.length) := by
  simp [sameZ, sameTo]
theorem sameZ_f {a b : List D} {i : Nat} (hi : i < a.length) (h : (elt a (i : Int)).i ≠ (elt b (i : Int)).i) : sameZ a b = false := by
  rw [← Bool.not_eq_true, sameZ_t]
  exact fun h1 => h (h1.2 i hi)
end Go.RX
