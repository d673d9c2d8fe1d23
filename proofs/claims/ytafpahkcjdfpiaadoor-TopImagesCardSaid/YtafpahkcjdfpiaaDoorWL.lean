/- Part of the proof of the laws of this seat: contracts of its functions, for every input. -/
import Derived.Test.YtafpahkcjdfpiaaDoorWK
import Derived.Test.YtafpahkcjdfpiaaDoorWI
import Derived.WalkKit
import Derived.LoopTactic
set_option linter.all false
namespace Go.Proofs.YtafpahkcjdfpiaaDoor
open Go Go.RX Go.Proofs Go.RowKit
set_option linter.all false
set_option maxRecDepth 1000000
def vInt : Value → Int
  | .int _ n => n
  | _ => 0
theorem loadL (P : Program) (W : World) (a : Addr) (cs : List Value) (k : Nat) (hk : cs.length = k) (h : ∀ j v, cs[j]? = some v → W.cell? (a.add j) = some v) :
    Sem.run P (loadCellsFrom a 0 k #[]) W = .ok cs.toArray W := by
  have := run_loadCells_list (P := P) (w := W) a cs h
  rw [hk] at this
  simpa [loadCells] using this
theorem walk68 (s t : List UInt8) (y1 y2 y3 y4 : Value) (B : Nat) (W : World) (hB : B < W.heap.size) (hc : W.cell? ⟨B, 0, none⟩ = some (.string ⟨⟨s⟩⟩)) :
    Calls Tryd.prog 68 #[.agg #[.string ⟨⟨t⟩⟩, y1, y2, y3, y4], .pointer (some ⟨B, 0, none⟩)] W fun e w' => e = .returned (.bool (decide (t = s))) ∧ Below W.heap.size W w' := by
  have hne : B ≠ W.heap.size := by omega
  go_enter Tryd.func68, Tryd.ntmps68
  go_wp2
  all_goals
    go_ret
    exact ⟨by simp_all; exact Bool.eq_iff_iff.2 (by simp), (Below.refl _ W).alloc (Nat.le_refl _) _⟩
theorem walk75 (a : Option Addr) (cap n B : Nat) (id : List UInt8) (Y : Nat → List Value) (T : Nat → List UInt8) (w : World) (hn : n ≤ 9223372036854775807)
    (hY : ∀ j, j < n → ∃ ad, a = some ad ∧ ad.block < w.heap.size ∧ (∃ y1 y2 y3 y4, Y j = [.string ⟨⟨T j⟩⟩, y1, y2, y3, y4]) ∧ ∀ i v, (Y j)[i]? = some v → w.cell? ((ad.add (j * 5)).add i) = some v)
    (hB : B < w.heap.size) (hc : w.cell? ⟨B, 0, none⟩ = some (.string ⟨⟨id⟩⟩)) :
    Calls Tryd.prog 75 #[.slice a n cap, .func (.func 68) #[] #[.pointer (some ⟨B, 0, none⟩)]] w fun e w' => ∃ r : Int, e = .returned (.int .i64 r) ∧ (0 ≤ r ↔ ∃ j, j < n ∧ T j = id) ∧ Below w.heap.size w w' := by
  go_enter Tryd.func75, Tryd.ntmps75
  go_wp2
  go_loopw [5, 8] (fun _ v8 wr => ∃ k : Nat, k ≤ n ∧ v8 = .int .i64 k ∧ Below w.heap.size w wr ∧ ∀ j, j < k → T j ≠ id) (fun _ v8 _ => n - (vInt v8).toNat)
  case atStart => exact ⟨0, by omega, rfl, Below.refl _ w, fun j hj => by omega⟩
  case round =>
    obtain ⟨k, hk, rfl, BW, A⟩ := hrel
    by_cases hlt : k < n
    · have hltz : (k : Int) < (n : Int) := by omega
      obtain ⟨ad, rfl, hab, ⟨y1, y2, y3, y4, hy⟩, hcells⟩ := hY k hlt
      have hcell : ∀ i v, (Y k)[i]? = some v → wr.cell? ((ad.add (k * 5)).add i) = some v := fun i v hi => by
        rw [← hcells i v hi]
        refine BW.cell ?_
        have h2 := hab
        unfold Addr.add; split <;> (try split) <;> exact h2
      rw [hy] at hcell
      have l0 : wr.cell? (ad.add (k * 5)) = some (.string ⟨⟨T k⟩⟩) := hcell 0 _ rfl
      have l1 : wr.cell? ⟨(ad.add (k * 5)).block, (ad.add (k * 5)).off + 1, none⟩ = some y1 := hcell 1 _ rfl
      have l2 : wr.cell? ⟨(ad.add (k * 5)).block, (ad.add (k * 5)).off + 2, none⟩ = some y2 := hcell 2 _ rfl
      have l3 : wr.cell? ⟨(ad.add (k * 5)).block, (ad.add (k * 5)).off + 3, none⟩ = some y3 := hcell 3 _ rfl
      have l4 : wr.cell? ⟨(ad.add (k * 5)).block, (ad.add (k * 5)).off + 4, none⟩ = some y4 := hcell 4 _ rfl
      clear hcell
      have hcw : wr.cell? ⟨B, 0, none⟩ = some (.string ⟨⟨id⟩⟩) := (BW.cell (p := ⟨B, 0, none⟩) hB).trans hc
      have hcall := walk68 id (T k) y1 y2 y3 y4 B wr (Nat.lt_of_lt_of_le hB BW.size) hcw
      clear hY hcells hy
      by_cases hq : T k = id
      · rw [decide_eq_true hq] at hcall
        rw [hq] at hcall l0
        go_wp2_with (go_at_call 68; refine hcall.mono ?_; rintro e w' ⟨rfl, hb'⟩)
        go_ret
        exact ⟨_, rfl, ⟨fun _ => ⟨k, hlt, hq⟩, fun _ => by omega⟩, BW.trans (hb'.mono BW.size)⟩
      · rw [decide_eq_false hq] at hcall
        go_wp2_with (go_at_call 68; refine hcall.mono ?_; rintro e w' ⟨rfl, hb'⟩)
        go_roundw
        case rel =>
          refine ⟨k + 1, by omega, by go_num, BW.trans (hb'.mono BW.size), fun j hj => ?_⟩
          by_cases e : j = k
          · subst e; exact hq
          · exact A j (by omega)
        case measure => simp [vInt]; omega
    · have hltz : ¬ (k : Int) < (n : Int) := by omega
      obtain rfl : k = n := by omega
      go_wp2
      go_ret
      exact ⟨_, rfl, ⟨fun h => absurd h (by decide), fun ⟨j, hj, h⟩ => absurd h (A j hj)⟩, BW⟩
theorem walk67 (a : Option Addr) (cap n B : Nat) (id : List UInt8) (Y : Nat → List Value) (T : Nat → List UInt8) (w : World) (hn : n ≤ 9223372036854775807)
    (hY : ∀ j, j < n → ∃ ad, a = some ad ∧ ad.block < w.heap.size ∧ (∃ y1 y2 y3 y4, Y j = [.string ⟨⟨T j⟩⟩, y1, y2, y3, y4]) ∧ ∀ i v, (Y j)[i]? = some v → w.cell? ((ad.add (j * 5)).add i) = some v)
    (hB : B < w.heap.size) (hc : w.cell? ⟨B, 0, none⟩ = some (.string ⟨⟨id⟩⟩)) :
    Calls Tryd.prog 67 #[.slice a n cap, .func (.func 68) #[] #[.pointer (some ⟨B, 0, none⟩)]] w fun e w' => ∃ b : Bool, e = .returned (.bool b) ∧ (b = true ↔ ∃ j, j < n ∧ T j = id) ∧ Below w.heap.size w w' := by
  have hcall := walk75 a cap n B id Y T w hn hY hB hc
  clear hY hc
  go_enter Tryd.func67, Tryd.ntmps67
  go_wp2_with (go_at_call 75; refine hcall.mono ?_; rintro e w' ⟨r, rfl, hr, hb'⟩)
  all_goals
    go_ret
    exact ⟨_, rfl, by first | (rw [← hr]; simp; done) | simp [← hr], hb'⟩
theorem walk40 (a : Option Addr) (cap n : Nat) (id : List UInt8) (Y : Nat → List Value) (T : Nat → List UInt8) (w : World) (hn : n ≤ 9223372036854775807)
    (hY : ∀ j, j < n → ∃ ad, a = some ad ∧ ad.block < w.heap.size ∧ (∃ y1 y2 y3 y4, Y j = [.string ⟨⟨T j⟩⟩, y1, y2, y3, y4]) ∧ ∀ i v, (Y j)[i]? = some v → w.cell? ((ad.add (j * 5)).add i) = some v) :
    Calls Tryd.prog 40 #[.slice a n cap, .string ⟨⟨id⟩⟩] w fun e w' => ∃ b : Bool, e = .returned (.bool b) ∧ (b = true ↔ ∃ j, j < n ∧ T j = id) ∧ Below w.heap.size w w' := by
  have hcall := walk67 a cap n w.heap.size id Y T (w.alloc (.cells #[.string ⟨⟨id⟩⟩] 9)) hn (fun j hj => by
    obtain ⟨ad, h1, h2, h3, h4⟩ := hY j hj
    exact ⟨ad, h1, by simp; omega, h3, fun i v hi => by
      rw [← h4 i v hi]
      refine ((Below.refl w.heap.size w).alloc (Nat.le_refl _) _).cell ?_
      have h5 := h2
      unfold Addr.add; split <;> (try split) <;> exact h5⟩) (by simp) (by simp)
  clear hY
  go_enter Tryd.func40, Tryd.ntmps40
  go_wp2_with (go_at_call 67; refine hcall.mono ?_; rintro e w' ⟨r, rfl, hr, hb'⟩)
  go_ret
  exact ⟨_, rfl, hr, ((Below.refl _ w).alloc (Nat.le_refl _) _).trans (hb'.mono (by simp))⟩
theorem c40 : ConOK Tryd.prog 40 con40 := by
  refine ⟨⟨Tryd.f40, bodyOf Tryd.f40, Tryd.func40, by kernel_rfl, by kernel_rfl⟩, fun G w ds args hG hz ha hpre => ?_⟩
  obtain ⟨l, s, v1, v2, rfl, rfl, h1, h2⟩ := argsR2 ha
  obtain ⟨rfl, hl⟩ := args_str h2
  obtain ⟨cs, rfl, a, xs, cap, rfl, rfl, hlc, hcm, hel⟩ := h1
  have hx : ∀ j, j < xs.length → ∃ ys, ∃ ad, a = some ad ∧ ad.block < w.heap.size ∧ (∃ y1 y2 y3 y4, ys = [.string ⟨⟨((elt xs (j : Int)).fld 0).s⟩⟩, y1, y2, y3, y4]) ∧ ∀ i v, ys[i]? = some v → w.cell? ((ad.add (j * 5)).add i) = some v := fun j hj => by
    obtain ⟨ad, ys, e1, hat, hrd⟩ := hel j xs[j] (List.getElem?_eq_getElem hj)
    have hlen := hrd.len
    rw [elt_get hj]
    obtain ⟨c1, c2, d1, ds, e2, e3, ⟨t, e4, e5, e6⟩, hr2⟩ := hrd
    subst e4
    have h5 : c2.length = 4 := by
      rw [e2] at hlen
      simp only [List.length_append, List.length_singleton] at hlen
      have : imT.n = 5 := rfl
      omega
    match c2, h5 with
    | [y1, y2, y3, y4], _ =>
      refine ⟨ys, ad, e1, ?_, ⟨y1, y2, y3, y4, ?_⟩, fun i v hi => (hat i v hi).2⟩
      · have := (hat 0 (.string ⟨⟨t⟩⟩) (by rw [e2]; rfl)).1
        have := hG _ this
        unfold Addr.add at this
        split at this <;> (try split at this) <;> exact this
      · rw [e2, e3, e5]; rfl
  have hYT : ∃ Y : Nat → List Value, ∀ j, j < xs.length → ∃ ad, a = some ad ∧ ad.block < w.heap.size ∧ (∃ y1 y2 y3 y4, Y j = [.string ⟨⟨((elt xs (j : Int)).fld 0).s⟩⟩, y1, y2, y3, y4]) ∧ ∀ i v, (Y j)[i]? = some v → w.cell? ((ad.add (j * 5)).add i) = some v := by
    refine ⟨fun j => if h : j < xs.length then (hx j h).choose else [], fun j hj => ?_⟩
    have := (hx j hj).choose_spec
    rw [show (fun j => if h : j < xs.length then (hx j h).choose else []) j = (hx j hj).choose from dif_pos hj]
    exact this
  obtain ⟨Y, hY⟩ := hYT
  refine (walk40 a cap xs.length s.s Y (fun j => ((elt xs (j : Int)).fld 0).s) w (by unfold maxLen at *; omega) hY).mono fun e w' he => ?_
  obtain ⟨b, rfl, hb, hbel⟩ := he
  have hbz : b = hasZ (ims xs) s.s := by
    cases hq : hasZ (ims xs) s.s with
    | true =>
      unfold hasZ at hq
      rw [List.any_eq_true] at hq
      obtain ⟨x, hx1, hx2⟩ := hq
      obtain ⟨j, hj, rfl⟩ := mem_ims hx1
      exact hb.2 ⟨j, hj, of_decide_eq_true hx2⟩
    | false =>
      cases b with
      | false => rfl
      | true =>
        obtain ⟨j, hj, h⟩ := hb.1 rfl
        rw [has_t hj h] at hq; cases hq
  subst hbz
  have hr : RVR G w w' (RV.sv (.one (.bool (hasZ (ims xs) s.s)))) (Value.bool (hasZ (ims xs) s.s)) := rfl
  exact ⟨_, rfl, ret_plain (rets := [_]) (vs := [_]) hbel ⟨hr, trivial⟩⟩
end Go.Proofs.YtafpahkcjdfpiaaDoor
