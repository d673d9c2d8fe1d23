/- Part S: words for contracts and loops. -/
import Derived.Test.YtafpahkcjdfpiaaDoorRxR
set_option linter.all false
namespace Go.RX
open Go

def bodyOf (f : Func) : Code := f.body.getD .skip
def noLp : Loops := fun _ _ => none
abbrev Tab := Nat → Option Con
def J : SV := .v (.one .junk)
def sI (n : Int) : SV := .v (.one (.int .i64 n))
def sB (b : Bool) : SV := .v (.one (.bool b))
def setS (sl : List SV) : List (Nat × SV) → List SV
  | [] => sl
  | (t, v) :: r => setS (sl.set t v) r
def putS (H : Heap) : List (Nat × SB) → Heap
  | [] => H
  | (h, b) :: r => putS (H.put h b) r
/-- The state with slots anew. -/
def over (s : St) (l : List (Nat × SV)) : St := ⟨setS s.slots l, s.susp, s.heap⟩
/-- .. and with blocks anew. -/
def overH (s : St) (l : List (Nat × SV)) (h : List (Nat × SB)) : St := ⟨setS s.slots l, s.susp, putS s.heap h⟩
def junks : List Nat → List (Nat × SV)
  | [] => []
  | t :: r => (t, J) :: junks r
/-- The slots ks of sl, over junk. -/
def keepS (sl : List SV) : List Nat → List SV → List SV
  | [], acc => acc
  | t :: r, acc => keepS sl r (acc.set t (sl.getD t J))
def keepH (H : Heap) : List Nat → Heap
  | [] => []
  | h :: r => (match H.get h with
    | some b => (h, b) :: keepH H r
    | none => keepH H r)
/-- The state at a loop's head: the slots ks and the blocks hs as they were; the slots l and the blocks h anew; all else is gone. -/
def frame (s : St) (ks hs : List Nat) (l : List (Nat × SV)) (h : List (Nat × SB)) : St :=
  ⟨setS (keepS s.slots ks (List.replicate s.slots.length J)) l, s.susp, putS (keepH s.heap hs) h⟩
def boxI (s : St) (h j : Nat) : Int := match s.heap.get h with
  | some (.box cs) => (match cs[j]? with
    | some (.int _ n) => n
    | _ => 0)
  | _ => 0
def slOf (s : St) (t : Nat) : List D := match s.slots[t]? with
  | some (.v (.one (.sl _ xs))) => xs
  | _ => []
def intOf (s : St) (t : Nat) : Int := match s.slots[t]? with
  | some (.v (.one (.int _ n))) => n
  | _ => 0
def vI (n : Int) : RV := .sv (.one (.int .i64 n))
def vB (b : Bool) : RV := .sv (.one (.bool b))
/-- Field j of a struct, an integer. -/
def ri (r : D) (j : Nat) : Int := (r.fld j).i
def bad : CRes := ⟨False, []⟩
def i64 : Ty := .int .i64

/-! ### Conditions read -/
theorem ile_t {a b : Int} : (ile a b = true) = (a ≤ b) := by simp [ile]
theorem ile_f {a b : Int} : (ile a b = false) = (b < a) := by simp [ile]
theorem ilt_t {a b : Int} : (ilt a b = true) = (a < b) := by simp [ilt]
theorem ilt_f {a b : Int} : (ilt a b = false) = (b ≤ a) := by simp [ilt]
theorem ieq_t {a b : Int} : (ieq a b = true) = (a = b) := by simp [ieq]
theorem ieq_f {a b : Int} : (ieq a b = false) = (a ≠ b) := by simp [ieq]
theorem bnot_t {a : Bool} : (bnot a = true) = (a = false) := by simp [bnot]
theorem bnot_f {a : Bool} : (bnot a = false) = (a = true) := by simp [bnot]
theorem band_t {a b : Bool} : (band a b = true) = (a = true ∧ b = true) := by simp [band]
theorem band_f {a b : Bool} : (band a b = false) = (a = false ∨ b = false) := by cases a <;> cases b <;> simp [band]
theorem bool_eq {a b : Bool} (h : a = true ↔ b = true) : a = b := by cases a <;> cases b <;> simp_all
theorem iadd_eq {a b : Int} (h : -9223372036854775808 ≤ a + b ∧ a + b ≤ 9223372036854775807) : iadd .i64 a b = a + b := by
  unfold iadd
  rw [IntKind.wrap_i64]
  omega
theorem isub_eq {a b : Int} (h : -9223372036854775808 ≤ a - b ∧ a - b ≤ 9223372036854775807) : isub .i64 a b = a - b := by
  unfold isub
  rw [IntKind.wrap_i64]
  omega

/-! ### Arguments apart -/
theorem wts0 {dat : List D} (h : WTs [] dat) : dat = [] := by
  cases dat with
  | nil => rfl
  | cons d r => exact h.elim
theorem wtsC {t : Ty} {ts : List Ty} {dat : List D} (h : WTs (t :: ts) dat) : ∃ d r, dat = d :: r ∧ WT t d ∧ WTs ts r := by
  cases dat with
  | nil => exact h.elim
  | cons d r => exact ⟨d, r, rfl, h.1, h.2⟩
theorem wts1 {t0 : Ty} {dat : List D} (h : WTs [t0] dat) : ∃ d0, dat = [d0] ∧ WT t0 d0 := by
  obtain ⟨d0, r, rfl, h0, h⟩ := wtsC h
  obtain rfl := wts0 h
  exact ⟨d0, rfl, h0⟩
theorem wts2 {t0 t1 : Ty} {dat : List D} (h : WTs [t0, t1] dat) : ∃ d0 d1, dat = [d0, d1] ∧ WT t0 d0 ∧ WT t1 d1 := by
  obtain ⟨d0, r, rfl, h0, h⟩ := wtsC h
  obtain ⟨d1, rfl, h'⟩ := wts1 h
  exact ⟨d0, d1, rfl, h0, h'⟩
theorem wts3 {t0 t1 t2 : Ty} {dat : List D} (h : WTs [t0, t1, t2] dat) : ∃ d0 d1 d2, dat = [d0, d1, d2] ∧ WT t0 d0 ∧ WT t1 d1 ∧ WT t2 d2 := by
  obtain ⟨d0, r, rfl, h0, h⟩ := wtsC h
  obtain ⟨d1, d2, rfl, h'⟩ := wts2 h
  exact ⟨d0, d1, d2, rfl, h0, h'⟩
theorem wts4 {t0 t1 t2 t3 : Ty} {dat : List D} (h : WTs [t0, t1, t2, t3] dat) : ∃ d0 d1 d2 d3, dat = [d0, d1, d2, d3] ∧ WT t0 d0 ∧ WT t1 d1 ∧ WT t2 d2 ∧ WT t3 d3 := by
  obtain ⟨d0, r, rfl, h0, h⟩ := wtsC h
  obtain ⟨d1, d2, d3, rfl, h'⟩ := wts3 h
  exact ⟨d0, d1, d2, d3, rfl, h0, h'⟩
theorem wts5 {t0 t1 t2 t3 t4 : Ty} {dat : List D} (h : WTs [t0, t1, t2, t3, t4] dat) : ∃ d0 d1 d2 d3 d4, dat = [d0, d1, d2, d3, d4] ∧ WT t0 d0 ∧ WT t1 d1 ∧ WT t2 d2 ∧ WT t3 d3 ∧ WT t4 d4 := by
  obtain ⟨d0, r, rfl, h0, h⟩ := wtsC h
  obtain ⟨d1, d2, d3, d4, rfl, h'⟩ := wts4 h
  exact ⟨d0, d1, d2, d3, d4, rfl, h0, h'⟩
theorem wts6 {t0 t1 t2 t3 t4 t5 : Ty} {dat : List D} (h : WTs [t0, t1, t2, t3, t4, t5] dat) : ∃ d0 d1 d2 d3 d4 d5, dat = [d0, d1, d2, d3, d4, d5] ∧ WT t0 d0 ∧ WT t1 d1 ∧ WT t2 d2 ∧ WT t3 d3 ∧ WT t4 d4 ∧ WT t5 d5 := by
  obtain ⟨d0, r, rfl, h0, h⟩ := wtsC h
  obtain ⟨d1, d2, d3, d4, d5, rfl, h'⟩ := wts5 h
  exact ⟨d0, d1, d2, d3, d4, d5, rfl, h0, h'⟩
theorem wts7 {t0 t1 t2 t3 t4 t5 t6 : Ty} {dat : List D} (h : WTs [t0, t1, t2, t3, t4, t5, t6] dat) : ∃ d0 d1 d2 d3 d4 d5 d6, dat = [d0, d1, d2, d3, d4, d5, d6] ∧ WT t0 d0 ∧ WT t1 d1 ∧ WT t2 d2 ∧ WT t3 d3 ∧ WT t4 d4 ∧ WT t5 d5 ∧ WT t6 d6 := by
  obtain ⟨d0, r, rfl, h0, h⟩ := wtsC h
  obtain ⟨d1, d2, d3, d4, d5, d6, rfl, h'⟩ := wts6 h
  exact ⟨d0, d1, d2, d3, d4, d5, d6, rfl, h0, h'⟩
theorem wts8 {t0 t1 t2 t3 t4 t5 t6 t7 : Ty} {dat : List D} (h : WTs [t0, t1, t2, t3, t4, t5, t6, t7] dat) : ∃ d0 d1 d2 d3 d4 d5 d6 d7, dat = [d0, d1, d2, d3, d4, d5, d6, d7] ∧ WT t0 d0 ∧ WT t1 d1 ∧ WT t2 d2 ∧ WT t3 d3 ∧ WT t4 d4 ∧ WT t5 d5 ∧ WT t6 d6 ∧ WT t7 d7 := by
  obtain ⟨d0, r, rfl, h0, h⟩ := wtsC h
  obtain ⟨d1, d2, d3, d4, d5, d6, d7, rfl, h'⟩ := wts7 h
  exact ⟨d0, d1, d2, d3, d4, d5, d6, d7, rfl, h0, h'⟩
theorem wts9 {t0 t1 t2 t3 t4 t5 t6 t7 t8 : Ty} {dat : List D} (h : WTs [t0, t1, t2, t3, t4, t5, t6, t7, t8] dat) : ∃ d0 d1 d2 d3 d4 d5 d6 d7 d8, dat = [d0, d1, d2, d3, d4, d5, d6, d7, d8] ∧ WT t0 d0 ∧ WT t1 d1 ∧ WT t2 d2 ∧ WT t3 d3 ∧ WT t4 d4 ∧ WT t5 d5 ∧ WT t6 d6 ∧ WT t7 d7 ∧ WT t8 d8 := by
  obtain ⟨d0, r, rfl, h0, h⟩ := wtsC h
  obtain ⟨d1, d2, d3, d4, d5, d6, d7, d8, rfl, h'⟩ := wts8 h
  exact ⟨d0, d1, d2, d3, d4, d5, d6, d7, d8, rfl, h0, h'⟩
theorem wt_i {k : IntKind} {d : D} (h : WT (.int k) d) : d = .int d.i ∧ k.min ≤ d.i ∧ d.i ≤ k.max := by
  obtain ⟨n, rfl, h⟩ := h
  exact ⟨rfl, h⟩
theorem wt_i64 {d : D} (h : WT (.int .i64) d) : -9223372036854775808 ≤ d.i ∧ d.i ≤ 9223372036854775807 := (wt_i h).2
theorem wt_u8 {d : D} (h : WT (.int .u8) d) : 0 ≤ d.i ∧ d.i ≤ 255 := (wt_i h).2
theorem wt_u16 {d : D} (h : WT (.int .u16) d) : 0 ≤ d.i ∧ d.i ≤ 65535 := (wt_i h).2
theorem wt_u32 {d : D} (h : WT (.int .u32) d) : 0 ≤ d.i ∧ d.i ≤ 4294967295 := (wt_i h).2
theorem wt_u64 {d : D} (h : WT (.int .u64) d) : 0 ≤ d.i ∧ d.i ≤ 18446744073709551615 := (wt_i h).2
theorem wt_i32 {d : D} (h : WT (.int .i32) d) : -2147483648 ≤ d.i ∧ d.i ≤ 2147483647 := (wt_i h).2
theorem wt_b {d : D} (h : WT .bool d) : d = .bool d.b := by
  obtain ⟨n, rfl⟩ := h
  rfl
theorem wt_s {d : D} (h : WT .str d) : d = .str d.s ∧ d.s.length ≤ maxLen := by
  obtain ⟨n, rfl, h⟩ := h
  exact ⟨rfl, h⟩
theorem wt_sl {e : Ty} {d : D} (h : WT (.slice e) d) : d = .list d.l ∧ d.l.length ≤ maxLen ∧ ∀ x ∈ d.l, WT e x := by
  obtain ⟨n, rfl, h⟩ := h
  exact ⟨rfl, h⟩
/-- An element within its list. -/
theorem elt_mem {xs : List D} {i : Nat} (h : i < xs.length) : elt xs (i : Int) ∈ xs := by
  unfold elt
  rw [Int.toNat_natCast, List.getD_eq_getElem?_getD, List.getElem?_eq_getElem h]
  exact List.getElem_mem h
theorem elt_get {xs : List D} {i : Nat} (h : i < xs.length) : elt xs (i : Int) = xs[i] := by
  unfold elt
  rw [Int.toNat_natCast, List.getD_eq_getElem?_getD, List.getElem?_eq_getElem h]
  rfl

theorem xrep_len {n : Int} {d : D} : (xrep n d).length = n.toNat := List.length_replicate
theorem xset_len {l : List D} {i : Nat} {d : D} : (xset l i d).length = l.length := List.length_set
theorem xcat_len {l m : List D} : (xcat l m).length = l.length + m.length := List.length_append
theorem xsub_len {l : List D} {a b : Int} : (xsub l a b).length = min b.toNat l.length - a.toNat := by simp [xsub]
theorem elt_xrep {n : Int} {d : D} {i : Nat} (h : i < n.toNat) : elt (xrep n d) (i : Int) = d := by
  rw [elt_get (by rw [xrep_len]; exact h)]
  exact List.getElem_replicate _
theorem elt_xset {l : List D} {j i : Nat} {d : D} (h : i < l.length) : elt (xset l j d) (i : Int) = if j = i then d else elt l (i : Int) := by
  rw [elt_get (by rw [xset_len]; exact h), elt_get h]
  exact List.getElem_set _
theorem D.i_int {n : Int} : (D.int n).i = n := rfl
theorem D.b_bool {n : Bool} : (D.bool n).b = n := rfl
theorem D.s_str {n : List UInt8} : (D.str n).s = n := rfl
theorem D.l_list {n : List D} : (D.list n).l = n := rfl

end Go.RX
