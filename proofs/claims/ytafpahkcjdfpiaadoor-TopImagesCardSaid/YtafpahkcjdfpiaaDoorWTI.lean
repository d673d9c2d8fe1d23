/- Part of the proof of the laws of this seat: contracts of its functions, for every input. -/
import Derived.Test.YtafpahkcjdfpiaaDoorWTF
import Derived.Laws.RangeString
import Derived.Laws.RangeAny
import Derived.Lib.SliceRun
import Derived.Deep.RegionLaw
import Derived.Deep.DeepCutAuto
set_option linter.all false
namespace Go.Proofs.YtafpahkcjdfpiaaDoor
open Go Go.RX Go.Proofs Go.RowKit
set_option linter.all false
set_option maxRecDepth 1000000
/-- The answer of a search. -/
def Found (n : Nat) (T : Nat → List UInt8) (id : List UInt8) (r : Int) : Prop := (∃ g : Nat, r = (g : Int) ∧ g < n ∧ T g = id ∧ ∀ j, j < g → T j ≠ id) ∨ (r = -1 ∧ ∀ j, j < n → T j ≠ id)
theorem fdTo_none {l : List D} {s : List UInt8} : ∀ {k : Nat}, (∀ j : Nat, j < k → ((elt l (j : Int)).fld 0).s ≠ s) → fdTo l s k = -1
  | 0, _ => rfl
  | k + 1, h => by
    rw [fdTo, fdTo_none fun j hj => h j (by omega), if_neg (by decide), if_neg (show ¬ rs (elt l (k : Int)) 0 = s from h k (by omega))]
theorem fdTo_stay {l : List D} {s : List UInt8} {k : Nat} (h : 0 ≤ fdTo l s k) : ∀ {n : Nat}, k ≤ n → fdTo l s n = fdTo l s k
  | 0, hk => by rw [show k = 0 by omega]
  | n + 1, hk => by
    rcases Nat.lt_or_ge n k with h1 | h1
    · rw [show k = n + 1 by omega]
    · rw [fdTo, fdTo_stay h h1, if_pos h]
theorem fd_some {l : List D} {s : List UInt8} {g : Nat} (hg : g < l.length) (h : ∀ j : Nat, j < g → ((elt l (j : Int)).fld 0).s ≠ s) (he : ((elt l (g : Int)).fld 0).s = s) : fdZ l s = g := by
  have e : fdTo l s (g + 1) = g := by rw [fdTo, fdTo_none h, if_neg (by decide), if_pos (show rs (elt l (g : Int)) 0 = s from he)]
  unfold fdZ
  rw [fdTo_stay (k := g + 1) (by rw [e]; omega) (by omega), e]
theorem fd_none {l : List D} {s : List UInt8} (h : ∀ j : Nat, j < l.length → ((elt l (j : Int)).fld 0).s ≠ s) : fdZ l s = -1 := fdTo_none h
theorem fdTo_cases {l : List D} {s : List UInt8} : ∀ k : Nat, (∃ g : Nat, fdTo l s k = g ∧ g < k ∧ ((elt l (g : Int)).fld 0).s = s ∧ ∀ j : Nat, j < g → ((elt l (j : Int)).fld 0).s ≠ s) ∨ (fdTo l s k = -1 ∧ ∀ j : Nat, j < k → ((elt l (j : Int)).fld 0).s ≠ s)
  | 0 => .inr ⟨rfl, fun j hj => by omega⟩
  | k + 1 => by
    rcases fdTo_cases (l := l) (s := s) k with ⟨g, h1, h2, h3, h4⟩ | ⟨h1, h2⟩
    · exact .inl ⟨g, by rw [fdTo, h1, if_pos (by omega)], by omega, h3, h4⟩
    · by_cases e : ((elt l (k : Int)).fld 0).s = s
      · exact .inl ⟨k, by rw [fdTo, h1, if_neg (by decide), if_pos (show rs (elt l (k : Int)) 0 = s from e)], by omega, e, h2⟩
      · refine .inr ⟨by rw [fdTo, h1, if_neg (by decide), if_neg (show ¬ rs (elt l (k : Int)) 0 = s from e)], fun j hj => ?_⟩
        by_cases q : j = k
        · subst q; exact e
        · exact h2 j (by omega)
theorem fd_cases (l : List D) (s : List UInt8) : (∃ g : Nat, fdZ l s = g ∧ g < l.length ∧ ((elt l (g : Int)).fld 0).s = s ∧ ∀ j : Nat, j < g → ((elt l (j : Int)).fld 0).s ≠ s) ∨ (fdZ l s = -1 ∧ ∀ j : Nat, j < l.length → ((elt l (j : Int)).fld 0).s ≠ s) := fdTo_cases _
theorem walk76 (s t : List UInt8) (y1 y2 y3 y4 : Value) (B : Nat) (W : World) (hB : B < W.heap.size) (hc : W.cell? ⟨B, 0, none⟩ = some (.string ⟨⟨s⟩⟩)) :
    Calls Tryd.prog 76 #[.agg #[.string ⟨⟨t⟩⟩, y1, y2, y3, y4], .pointer (some ⟨B, 0, none⟩)] W fun e w' => e = .returned (.bool (decide (t = s))) ∧ Below W.heap.size W w' := by
  have hne : B ≠ W.heap.size := by omega
  go_enter Tryd.func76, Tryd.ntmps76
  go_wp2
  all_goals
    go_ret
    exact ⟨by simp_all; exact Bool.eq_iff_iff.2 (by simp), (Below.refl _ W).alloc (Nat.le_refl _) _⟩
theorem walk175 (a : Option Addr) (cap n B : Nat) (id : List UInt8) (Y : Nat → List Value) (T : Nat → List UInt8) (w : World) (hn : n ≤ 9223372036854775807)
    (hY : ∀ j, j < n → ∃ ad, a = some ad ∧ ad.block < w.heap.size ∧ (∃ y1 y2 y3 y4, Y j = [.string ⟨⟨T j⟩⟩, y1, y2, y3, y4]) ∧ ∀ i v, (Y j)[i]? = some v → w.cell? ((ad.add (j * 5)).add i) = some v)
    (hB : B < w.heap.size) (hc : w.cell? ⟨B, 0, none⟩ = some (.string ⟨⟨id⟩⟩)) :
    Calls Tryd.prog 75 #[.slice a n cap, .func (.func 76) #[] #[.pointer (some ⟨B, 0, none⟩)]] w fun e w' => ∃ r : Int, e = .returned (.int .i64 r) ∧ Keep (Found n T id r) ∧ Below w.heap.size w w' := by
  go_enter Tryd.func75, Tryd.ntmps75
  go_wp2
  go_loopw [5, 8] (fun _ v8 wr => ∃ k : Nat, k ≤ n ∧ v8 = .int .i64 k ∧ Below w.heap.size w wr ∧ ∀ j, j < k → T j ≠ id) (fun _ v8 _ => n - (vInt v8).toNat)
  case atStart => exact ⟨0, by omega, rfl, Below.refl _ w, fun j hj => by omega⟩
  case round =>
    obtain ⟨k, hk, rfl, BW, A⟩ := hrel
    by_cases hlt : k < n
    · have hltz : (k : Int) < (n : Int) := by omega
      obtain ⟨ad, rfl, hab, ⟨y1, y2, y3, y4, hy⟩, hcells⟩ := hY k hlt
      have hcell : ∀ i v, (Y k)[i]? = some v → wr.cell? ((ad.add (k * 5)).add i) = some v := fun i v hi => by
        rw [← hcells i v hi]
        refine BW.cell ?_
        have h2 := hab
        unfold Addr.add; split <;> (try split) <;> exact h2
      rw [hy] at hcell
      have l0 : wr.cell? (ad.add (k * 5)) = some (.string ⟨⟨T k⟩⟩) := hcell 0 _ rfl
      have l1 : wr.cell? ⟨(ad.add (k * 5)).block, (ad.add (k * 5)).off + 1, none⟩ = some y1 := hcell 1 _ rfl
      have l2 : wr.cell? ⟨(ad.add (k * 5)).block, (ad.add (k * 5)).off + 2, none⟩ = some y2 := hcell 2 _ rfl
      have l3 : wr.cell? ⟨(ad.add (k * 5)).block, (ad.add (k * 5)).off + 3, none⟩ = some y3 := hcell 3 _ rfl
      have l4 : wr.cell? ⟨(ad.add (k * 5)).block, (ad.add (k * 5)).off + 4, none⟩ = some y4 := hcell 4 _ rfl
      clear hcell
      have hcw : wr.cell? ⟨B, 0, none⟩ = some (.string ⟨⟨id⟩⟩) := (BW.cell (p := ⟨B, 0, none⟩) hB).trans hc
      have hcall := walk76 id (T k) y1 y2 y3 y4 B wr (Nat.lt_of_lt_of_le hB BW.size) hcw
      clear hY hcells hy
      by_cases hq : T k = id
      · rw [decide_eq_true hq] at hcall
        rw [hq] at hcall l0
        go_wp2_with (go_at_call 76; refine hcall.mono ?_; rintro e w' ⟨rfl, hb'⟩)
        go_ret
        exact ⟨_, rfl, ⟨.inl ⟨k, rfl, hlt, hq, A⟩⟩, BW.trans (hb'.mono BW.size)⟩
      · rw [decide_eq_false hq] at hcall
        go_wp2_with (go_at_call 76; refine hcall.mono ?_; rintro e w' ⟨rfl, hb'⟩)
        go_roundw
        case rel =>
          refine ⟨k + 1, by omega, by go_num, BW.trans (hb'.mono BW.size), fun j hj => ?_⟩
          by_cases e : j = k
          · subst e; exact hq
          · exact A j (by omega)
        case measure => simp [vInt]; omega
    · have hltz : ¬ (k : Int) < (n : Int) := by omega
      obtain rfl : k = n := by omega
      go_wp2
      go_ret
      exact ⟨_, rfl, ⟨.inr ⟨rfl, A⟩⟩, BW⟩
theorem walk57 (a : Option Addr) (cap n : Nat) (id : List UInt8) (Y : Nat → List Value) (T : Nat → List UInt8) (w : World) (hn : n ≤ 9223372036854775807)
    (hY : ∀ j, j < n → ∃ ad, a = some ad ∧ ad.block < w.heap.size ∧ (∃ y1 y2 y3 y4, Y j = [.string ⟨⟨T j⟩⟩, y1, y2, y3, y4]) ∧ ∀ i v, (Y j)[i]? = some v → w.cell? ((ad.add (j * 5)).add i) = some v) :
    Calls Tryd.prog 57 #[.slice a n cap, .string ⟨⟨id⟩⟩] w fun e w' => ∃ r : Int, e = .returned (.int .i64 r) ∧ Keep (Found n T id r) ∧ Below w.heap.size w w' := by
  have hcall := walk175 a cap n w.heap.size id Y T (w.alloc (.cells #[.string ⟨⟨id⟩⟩] 9)) hn (fun j hj => by
    obtain ⟨ad, h1, h2, h3, h4⟩ := hY j hj
    exact ⟨ad, h1, by simp; omega, h3, fun i v hi => by
      rw [← h4 i v hi]
      refine ((Below.refl w.heap.size w).alloc (Nat.le_refl _) _).cell ?_
      have h5 := h2
      unfold Addr.add; split <;> (try split) <;> exact h5⟩) (by simp) (by simp)
  clear hY
  go_enter Tryd.func57, Tryd.ntmps57
  go_wp2_with (go_at_call 75; refine hcall.mono ?_; rintro e w' ⟨r, rfl, hr, hb'⟩)
  go_ret
  exact ⟨_, rfl, hr, ((Below.refl _ w).alloc (Nat.le_refl _) _).trans (hb'.mono (by simp))⟩
theorem c57 : ConOK Tryd.prog 57 con57 := by
  refine ⟨⟨Tryd.f57, bodyOf Tryd.f57, Tryd.func57, by kernel_rfl, by kernel_rfl⟩, fun G w ds args hG hz ha hpre => ?_⟩
  obtain ⟨l, s, v1, v2, rfl, rfl, h1, h2⟩ := argsR2 ha
  obtain ⟨rfl, hl⟩ := args_str h2
  obtain ⟨cs, rfl, a, xs, cap, rfl, rfl, hlc, hcm, hel⟩ := h1
  have hx : ∀ j, j < xs.length → ∃ ys, ∃ ad, a = some ad ∧ ad.block < w.heap.size ∧ (∃ y1 y2 y3 y4, ys = [.string ⟨⟨((elt xs (j : Int)).fld 0).s⟩⟩, y1, y2, y3, y4]) ∧ ∀ i v, ys[i]? = some v → w.cell? ((ad.add (j * 5)).add i) = some v := fun j hj => by
    obtain ⟨ad, ys, e1, hat, hrd⟩ := hel j xs[j] (List.getElem?_eq_getElem hj)
    have hlen := hrd.len
    rw [elt_get hj]
    obtain ⟨c1, c2, d1, ds, e2, e3, ⟨t, e4, e5, e6⟩, hr2⟩ := hrd
    subst e4
    have h5 : c2.length = 4 := by
      rw [e2] at hlen
      simp only [List.length_append, List.length_singleton] at hlen
      have : imT.n = 5 := rfl
      omega
    match c2, h5 with
    | [y1, y2, y3, y4], _ =>
      refine ⟨ys, ad, e1, ?_, ⟨y1, y2, y3, y4, ?_⟩, fun i v hi => (hat i v hi).2⟩
      · have := (hat 0 (.string ⟨⟨t⟩⟩) (by rw [e2]; rfl)).1
        have := hG _ this
        unfold Addr.add at this
        split at this <;> (try split at this) <;> exact this
      · rw [e2, e3, e5]; rfl
  have hYT : ∃ Y : Nat → List Value, ∀ j, j < xs.length → ∃ ad, a = some ad ∧ ad.block < w.heap.size ∧ (∃ y1 y2 y3 y4, Y j = [.string ⟨⟨((elt xs (j : Int)).fld 0).s⟩⟩, y1, y2, y3, y4]) ∧ ∀ i v, (Y j)[i]? = some v → w.cell? ((ad.add (j * 5)).add i) = some v := by
    refine ⟨fun j => if h : j < xs.length then (hx j h).choose else [], fun j hj => ?_⟩
    have := (hx j hj).choose_spec
    rw [show (fun j => if h : j < xs.length then (hx j h).choose else []) j = (hx j hj).choose from dif_pos hj]
    exact this
  obtain ⟨Y, hY⟩ := hYT
  refine (walk57 a cap xs.length s.s Y (fun j => ((elt xs (j : Int)).fld 0).s) w (by unfold maxLen at *; omega) hY).mono fun e w' he => ?_
  obtain ⟨r, rfl, ⟨hr⟩, hbel⟩ := he
  have e1 : r = fdZ xs s.s := by
    rcases hr with ⟨g, rfl, h1, h2, h3⟩ | ⟨rfl, h1⟩
    · exact (fd_some h1 h3 h2).symm
    · exact (fd_none h1).symm
  have hR : inR .i64 r := by
    rw [e1]
    refine ⟨?_, ?_⟩
    · show (-9223372036854775808 : Int) ≤ _
      rcases fd_cases xs s.s with ⟨g, h1, h2, _⟩ | ⟨h1, _⟩ <;> omega
    · show _ ≤ (9223372036854775807 : Int)
      unfold maxLen at *
      rcases fd_cases xs s.s with ⟨g, h1, h2, _⟩ | ⟨h1, _⟩ <;> omega
  have hrv : RVR G w w' (RV.sv (.one (.int .i64 (fdZ xs s.s)))) (Value.int .i64 r) := ⟨by rw [e1], by rw [← e1]; exact hR⟩
  exact ⟨_, rfl, ret_plain (rets := [_]) (vs := [_]) hbel ⟨hrv, trivial⟩⟩
end Go.Proofs.YtafpahkcjdfpiaaDoor
namespace Go.Proofs.YtafpahkcjdfpiaaDoor
open Go Go.RX Go.Proofs Go.RowKit
set_option linter.all false
set_option maxRecDepth 1000000
theorem argsR1 {G : Addr → Prop} {w : World} {t1 : Ty} : ∀ {ds : List D} {args : List Value}, ArgsR G w [t1] ds args → ∃ d1 v1, ds = [d1] ∧ args = [v1] ∧ (∃ cs, v1 = t1.val cs ∧ Rd G w t1 cs d1)
  | [d1], [v1], h => ⟨d1, v1, rfl, rfl, h.1⟩
  | [], _, h => by cases ‹List Value› <;> exact h.elim
  | [_], [], h => h.elim
  | _ :: _ :: _, [], h => h.elim
  | [_], _ :: _ :: _, h => h.2.elim
  | _ :: _ :: _, [_], h => h.2.elim
  | _ :: _ :: _, _ :: _ :: _, h => h.2.elim
theorem walk56 (w : World) : Calls Tryd.prog 56 #[.string ⟨⟨caseB⟩⟩] w fun e w' => e = .returned (.bool true) ∧ Below w.heap.size w w' := by
  obtain ⟨s, hs⟩ : ∃ s : ByteArray, s = ⟨⟨caseB⟩⟩ := ⟨_, rfl⟩
  rw [← hs]
  have hsz : s.size = 4 := by rw [hs]; rfl
  have hne : ¬ s.toList = [] := by rw [hs]; decide +kernel
  have hne2 : ¬ s.toList.isEmpty = true := by rw [hs]; decide +kernel
  have hch : ∀ (p : Nat) (h : p < s.size), 97 ≤ (s[p]'h).toNat ∧ (s[p]'h).toNat ≤ 122 := by
    subst hs
    intro p h
    have : p < 4 := by omega
    match p, this with
    | 0, _ => revert h; decide
    | 1, _ => revert h; decide
    | 2, _ => revert h; decide
    | 3, _ => revert h; decide
  clear hs
  have hBI : ∀ p, Below w.heap.size w (w.iter s p) := fun p => (Below.refl _ w).alloc (Nat.le_refl _) _
  go_enter Tryd.func56, Tryd.ntmps56
  go_wp2
  all_goals (first | (exact absurd (by assumption) hne) | (exact absurd (by assumption) hne2) | skip)
  go_loopw [3, 4] (fun _ _ w' => ∃ pos : Nat, pos ≤ 4 ∧ w' = w.iter s pos) (fun _ _ w' => s.size - w'.iterPos w.heap.size)
  case atStart => exact ⟨0, by omega, rfl⟩
  case round =>
    obtain ⟨pos, hle, rfl⟩ := hrel
    by_cases hp : pos < s.size
    · have hcc := hch pos hp
      have hnx := fun ty => run_next_ascii (P := Tryd.prog) w s pos ty hp (by omega)
      generalize (s[pos]'hp).toNat = c at hcc hnx
      have hc1 : (97 : Int) ≤ (c : Int) := by omega
      have hc2 : (c : Int) ≤ 122 := by omega
      clear hch
      go_wp2
      go_roundw
      case rel => exact ⟨pos + 1, by omega, rfl⟩
      case measure => simp; omega
    · have hnx := fun ty => run_next_end (P := Tryd.prog) w s pos ty hp
      clear hch
      go_wp2
      go_ret
      exact ⟨rfl, hBI _⟩
theorem c56 : ConOK Tryd.prog 56 con56 := by
  refine ⟨⟨Tryd.f56, bodyOf Tryd.f56, Tryd.func56, by kernel_rfl, by kernel_rfl⟩, fun G w ds args hG hz ha hpre => ?_⟩
  obtain ⟨s, v, rfl, rfl, h1⟩ := argsR1 ha
  obtain ⟨rfl, hl⟩ := args_str h1
  have hs : s.s = caseB := hpre
  rw [hs]
  refine (walk56 w).mono fun e w' he => ?_
  obtain ⟨rfl, hbel⟩ := he
  exact ⟨_, rfl, ret_plain (rets := [.sv (.one .tt)]) (vs := [_]) hbel ⟨rfl, trivial⟩⟩
end Go.Proofs.YtafpahkcjdfpiaaDoor
namespace Go.Proofs.YtafpahkcjdfpiaaDoor
open Go Go.RX Go.Proofs Go.RowKit
set_option linter.all false
set_option maxRecDepth 1000000
set_option maxHeartbeats 400000
/-- An append whose run is known, as a step of a region that draws its order. -/
theorem step_app {w : World} {ops : Array Oper} {o : Oper} {a : Act} {K : Act → World → Prop} {Q : Exit → Act → World → Prop} {E : Prop} (hgd : o.guard = none) (s x : Operand) (t t' : TypeId)
    (ho : o.op = .call { callee := .builtin .append, args := #[s, x], argTypes := #[t, t'] }) (v u : Value) (hs : a.eval s = v) (hx : a.eval x = u)
    (R : Value → World → Prop) (hr : ∃ v' w', (Builtin.append_ #[t, t'] o.type #[v, u]).run Tryd.prog w = .ok v' w' ∧ R v' w')
    (hK : ∀ v' w', R v' w' → K (a.put o.dst v') w') :
    if Region.wanted o (yielded ops a.tmps) = true then Oper.wp Tryd.prog o a w K Q else E := by
  have hw : Region.wanted o (yielded ops a.tmps) = true := by simp [Region.wanted, hgd]
  rw [if_pos hw]
  obtain ⟨v', w', hrun, hR⟩ := hr
  refine wp_value (w' := w') (v := v') ?_ (hK _ _ hR)
  simp only [execOp, ho, resolve, invoke, builtin, Sem.run_bind, Sem.run_pure, Result.andThen_ok, List.map_toArray, List.map_cons, List.map_nil, hs, hx, hrun]
/-- An append of nothing. -/
theorem run_append_zero {w : World} (a : Addr) (m qc : Nat) (hm : m ≤ qc) (b : Option Addr) (c : Nat) : (Builtin.append_ #[22, 22] 22 #[.slice (some a) m qc, .slice b 0 c]).run Tryd.prog w = .ok (.slice (some a) m qc) w := by
  obtain ⟨i, hi, hsz, hby, hz⟩ := info_of tt_ok (t := 9) (ti := ⟨.str, .str, 16⟩) (by kernel_rfl)
  cases b <;> simp [Builtin.append_, run_underlying Tryd.underlying22, sizeOf, typeInfo, hi, Builtin.lenOf, Builtin.firstCells, hm, storeCells, loadCells, loadCellsFrom]
theorem walk61 (q m qc : Nat) (w : World) (hm : m + 1 ≤ qc) (hq : qc ≤ 9223372036854775807) (hc : (w.cell? ⟨q, m, none⟩).isSome = true) (hf : w.frozen? ⟨q, m, none⟩ = false) :
    Calls Tryd.prog 61 #[.slice (some ⟨q, 0, none⟩) (m + 1) qc, .int .i64 m, .int .i64 (m + 1)] w fun e w' => e = .returned (.slice (some ⟨q, 0, none⟩) m qc) ∧ w' = (w.setCell ⟨q, m, none⟩ (.string ⟨⟨[]⟩⟩)).drew := by
  have hm2 : m ≤ qc := by omega
  have hm0 : (0 : Int) ≤ (m : Int) + 1 := by omega
  have hqm : ¬ qc = m := by omega
  have hcl : ∀ (ty : TypeId) (c : Nat), (Builtin.clear_ #[22] ty #[.slice (some ⟨q, m, none⟩) 1 c]).run Tryd.prog w.drew = .ok (.tuple #[]) (w.drew.setCell ⟨q, m, none⟩ (.string ⟨⟨[]⟩⟩)) := fun ty c =>
    Lib.run_clear_slice w.drew 22 9 ty (.string ⟨⟨[]⟩⟩) Tryd.underlying22 (fun w => run_zeroValue tt_ok (t := 9) (ti := ⟨.str, .str, 16⟩) (by kernel_rfl) w) rfl rfl q m 1 c (by omega)
      (fun j hj => by obtain rfl : j = 0 := by omega
                      exact hc) (fun j hj => by obtain rfl : j = 0 := by omega
                                                exact hf)
  clear hc hf
  go_enter Tryd.func61, Tryd.ntmps61
  go_upto_region 5 with (fail)
  go_region_law (refine step_app rfl (.tmp 22) (.tmp 25) 22 22 rfl (.slice (some ⟨q, 0, none⟩) m qc) (.slice (if qc = m + 1 then some ⟨q, 0, none⟩ else some ⟨q, m + 1, none⟩) 0 (qc - (m + 1))) (by simp [Act.eval, Act.put]) (by simp [Act.eval, Act.put]) (fun v' w' => v' = .slice (some ⟨q, 0, none⟩) m qc ∧ w' = w.drew) ⟨_, _, run_append_zero _ m qc (by omega) _ _, rfl, rfl⟩ ?_; intro v' w' hv'; obtain ⟨rfl, rfl⟩ := hv')
  go_wp2
  all_goals
    go_ret
    exact ⟨rfl, rfl⟩
theorem ownsRow_drew {w : World} {b e size n : Nat} {v : Value} {xs : List Value} (h : w.ownsRow b e size v n xs) : w.drew.ownsRow b e size v n xs := h
/-- The world's part of "out[k].Hold = slices.Delete(out[k].Hold, m, m+1)", m the last. -/
theorem free_tail {w1 : World} {N n k m : Nat} {v : Value} {F X : Nat → List Value} {Q H : Nat → Value} (hD : DeepAt w1 N v n F Q H X) (hF : ∀ i, i < n → (F i).length = 3) (hk : k < n) (hX : (X k).length = m + 1) (hm : m ≤ 100000) (hN : N ≤ w1.heap.size) :
    ∃ g cv q qc, v = .slice (some ⟨g, 0, none⟩) n cv ∧ w1.cell? ⟨g, k * 5 + 3, none⟩ = some (.slice (some ⟨q, 0, none⟩) (m + 1) qc) ∧ g < w1.heap.size ∧
      Calls Tryd.prog 61 #[.slice (some ⟨q, 0, none⟩) (m + 1) qc, .int .i64 m, .int .i64 (m + 1)] w1 fun e w2 => e = .returned (.slice (some ⟨q, 0, none⟩) m qc) ∧
        w2.cell? ⟨g, k * 5 + 3, none⟩ = some (.slice (some ⟨q, 0, none⟩) (m + 1) qc) ∧ w2.frozen? ⟨g, k * 5 + 3, none⟩ = false ∧
          Keep ((∃ Q', DeepAt (w2.setCell ⟨g, k * 5 + 3, none⟩ (.slice (some ⟨q, 0, none⟩) m qc)) N v n F Q' H (fun i => if i = k then (X k).take m else X i)) ∧ Below N w1 (w2.setCell ⟨g, k * 5 + 3, none⟩ (.slice (some ⟨q, 0, none⟩) m qc))) := by
  obtain ⟨g, cv, rfl, hNg, hg⟩ := hD.own.form (by omega)
  have hsub := hD.sub k hk
  rw [hX] at hsub
  obtain ⟨q, qc, hq, hNq, hql⟩ := hsub.form (by omega)
  have hge : w1.cell? ⟨g, k * 5 + 3, none⟩ = some (.slice (some ⟨q, 0, none⟩) (m + 1) qc) := by
    have := hD.own.cells (g := g) rfl (k * 5 + 3) (Q k) (flat_get hF hk)
    rw [Addr.add_lit, Nat.zero_add] at this
    rw [← hq]
    exact this
  refine ⟨g, cv, q, qc, rfl, hge, hg, ?_⟩
  have hgq : q ≠ g := fun e => (hD.dis k hk q (by rw [hq]; rfl)).1 (by rw [e]; rfl)
  rw [hq] at hsub
  have hsub0 := hsub
  rcases hsub.2 with ⟨h0, _⟩ | ⟨q', cap, cur, hv, _, hqh, hnc, hcm, hcs, htk⟩
  · cases h0
  cases hv
  have hcq : (w1.cell? ⟨q, m, none⟩).isSome = true := by
    have := hsub0.cellAt m (by omega)
    rw [this, List.getElem?_eq_getElem (by rw [hX]; omega)]; rfl
  have hfq : w1.frozen? ⟨q, m, none⟩ = false := frozen_of_row _ _ _ _ _ hqh
  refine (walk61 q m qc w1 hnc (by unfold maxLen at hcm; omega) hcq hfq).mono fun e w2 he => ?_
  obtain ⟨rfl, rfl⟩ := he
  have hblk : (w1.setCell ⟨q, m, none⟩ (.string ⟨⟨[]⟩⟩)).drew.heap[g]? = w1.heap[g]? := Below.heap_setCell w1 ⟨q, m, none⟩ _ g (fun e => hgq e.symm)
  obtain ⟨W2, hW2⟩ : ∃ W2, W2 = (w1.setCell ⟨q, m, none⟩ (.string ⟨⟨[]⟩⟩)).drew := ⟨_, rfl⟩
  have hW2s : W2.heap.size = w1.heap.size := by rw [hW2]; show (w1.setCell ⟨q, m, none⟩ (.string ⟨⟨[]⟩⟩)).heap.size = _; simp
  have hoth : ∀ b, b ≠ q → W2.heap[b]? = w1.heap[b]? := fun b hb => by rw [hW2]; exact Below.heap_setCell w1 ⟨q, m, none⟩ _ b hb
  have hrow : W2.ownsRow N 9 1 (.slice (some ⟨q, 0, none⟩) m qc) m ((X k).take m) := by
    refine ⟨by rw [List.length_take]; omega, .inr ⟨q, qc, cur.setIfInBounds m (.string ⟨⟨[]⟩⟩), rfl, hNq, ?_, by omega, hcm, by simp [hcs], ?_⟩⟩
    · rw [hW2]
      exact heap_setCell_same _ _ _ _ _ _ hqh
    · rw [← htk, Array.toList_setIfInBounds, List.take_set_of_le (by omega), List.take_take]
      congr 1
      omega
  have hown2 : W2.ownsRow N 25 5 (.slice (some ⟨g, 0, none⟩) n cv) n _ := ownsRow_keep hD.own fun b hb => by
    have : b = g := by simp [Value.ownBlock] at hb; exact hb.symm
    rw [this, hW2]; exact hblk
  have hset := ownsRow_set hown2 (j := k * 5 + 3) (by omega) (.slice (some ⟨q, 0, none⟩) m qc)
  rw [flat_set hF hk] at hset
  rw [← hW2]
  refine ⟨rfl, ?_, ?_, ⟨⟨fun i => if i = k then .slice (some ⟨q, 0, none⟩) m qc else Q i, hset, fun i hi => ?_, fun i hi b hb => ?_⟩, ?_⟩⟩
  · rw [← hge]; exact World.cell?_of_block (w := w1) (hoth g (fun e => hgq e.symm))
  · have hfr : W2.frozen? ⟨g, k * 5 + 3, none⟩ = w1.frozen? ⟨g, k * 5 + 3, none⟩ := World.frozen?_of_block (w := w1) (hoth g (fun e => hgq e.symm))
    rw [hfr]
    rcases hD.own.2 with ⟨h0, _⟩ | ⟨g', cap', cur', hv, _, hg', _⟩
    · cases h0
    · cases hv
      exact frozen_of_row _ _ _ _ _ hg'
  · by_cases e : i = k
    · subst e
      simp only [↓reduceIte]
      rw [show ((X i).take m).length = m by rw [List.length_take]; omega]
      refine ownsRow_setCell_other hrow ?_ _
      intro h
      have : q = g := by simpa [Value.ownBlock] using h
      exact hgq this
    · simp only [if_neg e]
      refine ownsRow_setCell_other (ownsRow_keep (hD.sub i hi) fun b hb => hoth b fun h => ?_) (fun h => (hD.dis i hi g h).1 rfl) _
      subst h
      exact (hD.dis i hi b hb).2 k hk (by omega) (by rw [hq]; rfl)
  · by_cases e : i = k
    · subst e
      simp only [↓reduceIte] at hb
      have hqb : (Q i).ownBlock = some b := by rw [hq]; exact hb
      refine ⟨(hD.dis i hi b hqb).1, fun j hj hne => ?_⟩
      simp only [if_neg hne]
      exact (hD.dis i hi b hqb).2 j hj hne
    · simp only [if_neg e] at hb
      refine ⟨(hD.dis i hi b hb).1, fun j hj hne => ?_⟩
      by_cases e2 : j = k
      · subst e2
        simp only [↓reduceIte]
        intro h
        exact (hD.dis i hi b hb).2 j hj hne (by rw [hq]; exact h)
      · simp only [if_neg e2]
        exact (hD.dis i hi b hb).2 j hj hne
  · have b1 : Below N w1 W2 := by rw [hW2]; exact ((Below.refl N w1).setCell (p := ⟨q, m, none⟩) hNq _).drew
    exact b1.setCell (p := ⟨g, k * 5 + 3, none⟩) hNg _
end Go.Proofs.YtafpahkcjdfpiaaDoor
