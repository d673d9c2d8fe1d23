/- Part of the proof of the laws of this seat: contracts of its functions, for every input. -/
import Derived.Test.YtkfghnflbehecaaDoorWD
set_option linter.all false
namespace Go.Proofs.YtkfghnflbehecaaDoor
open Go Go.RX Go.Proofs Go.RowKit
set_option linter.all false
set_option maxRecDepth 1000000
theorem walk38 (s t : List UInt8) (y1 y2 y3 y4 : Value) (B : Nat) (W : World) (hB : B < W.heap.size) (hc : W.cell? ⟨B, 0, none⟩ = some (.string ⟨⟨s⟩⟩)) :
    Calls Tryd.prog 38 #[.agg #[.string ⟨⟨t⟩⟩, y1, y2, y3, y4], .pointer (some ⟨B, 0, none⟩)] W fun e w' => e = .returned (.bool (decide (t = s))) ∧ Below W.heap.size W w' := by
  have hne : B ≠ W.heap.size := by omega
  go_enter Tryd.func38, Tryd.ntmps38
  go_wp2
  all_goals
    go_ret
    exact ⟨by simp_all; exact Bool.eq_iff_iff.2 (by simp), (Below.refl _ W).alloc (Nat.le_refl _) _⟩
theorem walk46 (s t : List UInt8) (B : Nat) (W : World) (hB : B < W.heap.size) (hc : W.cell? ⟨B, 0, none⟩ = some (.string ⟨⟨s⟩⟩)) :
    Calls Tryd.prog 46 #[.string ⟨⟨t⟩⟩, .pointer (some ⟨B, 0, none⟩)] W fun e w' => e = .returned (.bool (decide (t = s))) ∧ Below W.heap.size W w' := by
  go_enter Tryd.func46, Tryd.ntmps46
  go_wp2
  all_goals
    go_ret
    exact ⟨by simp_all; exact Bool.eq_iff_iff.2 (by simp), (Below.refl _ W)⟩
/-- The answer of a search. -/
def Found (n : Nat) (T : Nat → List UInt8) (id : List UInt8) (r : Int) : Prop := (∃ g : Nat, r = (g : Int) ∧ g < n ∧ T g = id ∧ ∀ j, j < g → T j ≠ id) ∨ (r = -1 ∧ ∀ j, j < n → T j ≠ id)
theorem walk37 (a : Option Addr) (cap n B : Nat) (id : List UInt8) (Y : Nat → List Value) (T : Nat → List UInt8) (w : World) (hn : n ≤ 9223372036854775807)
    (hY : ∀ j, j < n → ∃ ad, a = some ad ∧ ad.block < w.heap.size ∧ (∃ t1 t2 t3 p1 p2 p3, Y j = [.string ⟨⟨T j⟩⟩, .int .i64 t1, .int .i64 t2, .int .i64 t3, .slice p1 p2 p3]) ∧ ∀ i v, (Y j)[i]? = some v → w.cell? ((ad.add (j * 5)).add i) = some v)
    (hB : B < w.heap.size) (hc : w.cell? ⟨B, 0, none⟩ = some (.string ⟨⟨id⟩⟩)) :
    Calls Tryd.prog 37 #[.slice a n cap, .func (.func 38) #[] #[.pointer (some ⟨B, 0, none⟩)]] w fun e w' => ∃ r : Int, e = .returned (.int .i64 r) ∧ Keep (Found n T id r) ∧ Below w.heap.size w w' := by
  go_enter Tryd.func37, Tryd.ntmps37
  go_wp2
  go_loopw [5, 9] (fun _ v8 wr => ∃ k : Nat, k ≤ n ∧ v8 = .int .i64 k ∧ Below w.heap.size w wr ∧ ∀ j, j < k → T j ≠ id) (fun _ v8 _ => n - (vInt v8).toNat)
  case atStart => exact ⟨0, by omega, rfl, Below.refl _ w, fun j hj => by omega⟩
  case round =>
    obtain ⟨k, hk, rfl, BW, A⟩ := hrel
    by_cases hlt : k < n
    · have hltz : (k : Int) < (n : Int) := by omega
      obtain ⟨ad, rfl, hab, ⟨t1, t2, t3, p1, p2, p3, hy⟩, hcells⟩ := hY k hlt
      have hcell : ∀ i v, (Y k)[i]? = some v → wr.cell? ((ad.add (k * 5)).add i) = some v := fun i v hi => by
        rw [← hcells i v hi]
        refine BW.cell ?_
        have h2 := hab
        unfold Addr.add; split <;> (try split) <;> exact h2
      rw [hy] at hcell
      have l0 : wr.cell? (ad.add (k * 5)) = some (.string ⟨⟨T k⟩⟩) := hcell 0 _ rfl
      have l1 : wr.cell? ⟨(ad.add (k * 5)).block, (ad.add (k * 5)).off + 1, none⟩ = some (.int .i64 t1) := hcell 1 _ rfl
      have l2 : wr.cell? ⟨(ad.add (k * 5)).block, (ad.add (k * 5)).off + 2, none⟩ = some (.int .i64 t2) := hcell 2 _ rfl
      have l3 : wr.cell? ⟨(ad.add (k * 5)).block, (ad.add (k * 5)).off + 3, none⟩ = some (.int .i64 t3) := hcell 3 _ rfl
      have l4 : wr.cell? ⟨(ad.add (k * 5)).block, (ad.add (k * 5)).off + 4, none⟩ = some (.slice p1 p2 p3) := hcell 4 _ rfl
      clear hcell
      have hcw : (wr.alloc (.cells #[.string ⟨⟨T k⟩⟩, .int .i64 t1, .int .i64 t2, .int .i64 t3, .slice p1 p2 p3] 40)).cell? ⟨B, 0, none⟩ = some (.string ⟨⟨id⟩⟩) := ((BW.alloc BW.size _).cell (p := ⟨B, 0, none⟩) hB).trans hc
      have hsz : (wr.alloc (.cells #[.string ⟨⟨T k⟩⟩, .int .i64 t1, .int .i64 t2, .int .i64 t3, .slice p1 p2 p3] 40)).heap.size = wr.heap.size + 1 := by simp
      have hcall := walk38 id (T k) (.int .i64 t1) (.int .i64 t2) (.int .i64 t3) (.slice p1 p2 p3) B (wr.alloc (.cells #[.string ⟨⟨T k⟩⟩, .int .i64 t1, .int .i64 t2, .int .i64 t3, .slice p1 p2 p3] 40)) (by rw [hsz]; have := BW.size; omega) hcw
      have KB : Keep (Below w.heap.size w (wr.alloc (.cells #[.string ⟨⟨T k⟩⟩, .int .i64 t1, .int .i64 t2, .int .i64 t3, .slice p1 p2 p3] 40)) ∧ w.heap.size ≤ (wr.alloc (.cells #[.string ⟨⟨T k⟩⟩, .int .i64 t1, .int .i64 t2, .int .i64 t3, .slice p1 p2 p3] 40)).heap.size ∧ ∀ j, j < k → T j ≠ id) := ⟨BW.alloc BW.size _, by rw [hsz]; have := BW.size; omega, A⟩
      clear hY hcells hy hcw hsz BW A
      by_cases hq : T k = id
      · rw [decide_eq_true hq] at hcall
        have hq' : Keep (T k = id) := ⟨hq⟩
        clear hq
        go_wp2_with (go_at_call 38; refine hcall.mono ?_; rintro e w' ⟨rfl, hb'⟩)
        go_ret
        exact ⟨_, rfl, ⟨.inl ⟨k, rfl, hlt, hq'.out, KB.out.2.2⟩⟩, KB.out.1.trans (hb'.mono KB.out.2.1)⟩
      · rw [decide_eq_false hq] at hcall
        have hq' : Keep (T k ≠ id) := ⟨hq⟩
        clear hq
        go_wp2_with (go_at_call 38; refine hcall.mono ?_; rintro e w' ⟨rfl, hb'⟩)
        go_roundw
        case rel =>
          refine ⟨k + 1, by omega, by go_num, KB.out.1.trans (hb'.mono KB.out.2.1), fun j hj => ?_⟩
          by_cases e : j = k
          · subst e; exact hq'.out
          · exact KB.out.2.2 j (by omega)
        case measure => simp [vInt]; omega
    · have hltz : ¬ (k : Int) < (n : Int) := by omega
      obtain rfl : k = n := by omega
      have A' : Keep (∀ j, j < k → T j ≠ id) := ⟨A⟩
      clear A hY
      go_wp2
      go_ret
      exact ⟨_, rfl, ⟨.inr ⟨rfl, A'.out⟩⟩, BW⟩
theorem walk45 (a : Option Addr) (cap n B : Nat) (id : List UInt8) (T : Nat → List UInt8) (w : World) (hn : n ≤ 9223372036854775807)
    (hY : ∀ j, j < n → ∃ ad, a = some ad ∧ ad.block < w.heap.size ∧ w.cell? (ad.add (j * 1)) = some (.string ⟨⟨T j⟩⟩))
    (hB : B < w.heap.size) (hc : w.cell? ⟨B, 0, none⟩ = some (.string ⟨⟨id⟩⟩)) :
    Calls Tryd.prog 45 #[.slice a n cap, .func (.func 46) #[] #[.pointer (some ⟨B, 0, none⟩)]] w fun e w' => ∃ r : Int, e = .returned (.int .i64 r) ∧ Keep (Found n T id r) ∧ Below w.heap.size w w' := by
  go_enter Tryd.func45, Tryd.ntmps45
  go_wp2
  go_loopw [5, 6, 9] (fun _ _ v8 wr => ∃ k : Nat, k ≤ n ∧ v8 = .int .i64 k ∧ Below w.heap.size w wr ∧ ∀ j, j < k → T j ≠ id) (fun _ _ v8 _ => n - (vInt v8).toNat)
  case atStart => exact ⟨0, by omega, rfl, Below.refl _ w, fun j hj => by omega⟩
  case round =>
    obtain ⟨k, hk, rfl, BW, A⟩ := hrel
    by_cases hlt : k < n
    · have hltz : (k : Int) < (n : Int) := by omega
      obtain ⟨ad, rfl, hab, hcells⟩ := hY k hlt
      rw [Nat.mul_one] at hcells
      have l0 : wr.cell? (ad.add k) = some (.string ⟨⟨T k⟩⟩) := (BW.cell (by
        have h2 := hab
        unfold Addr.add; split <;> (try split) <;> exact h2)).trans hcells
      have hcw : wr.cell? ⟨B, 0, none⟩ = some (.string ⟨⟨id⟩⟩) := (BW.cell (p := ⟨B, 0, none⟩) hB).trans hc
      have hcall := walk46 id (T k) B wr (Nat.lt_of_lt_of_le hB BW.size) hcw
      have KB : Keep (Below w.heap.size w wr ∧ ∀ j, j < k → T j ≠ id) := ⟨BW, A⟩
      clear hY hcells hcw A
      by_cases hq : T k = id
      · rw [decide_eq_true hq] at hcall
        have hq' : Keep (T k = id) := ⟨hq⟩
        clear hq
        go_wp2_with (go_at_call 46; refine hcall.mono ?_; rintro e w' ⟨rfl, hb'⟩)
        go_ret
        exact ⟨_, rfl, ⟨.inl ⟨k, rfl, hlt, hq'.out, KB.out.2⟩⟩, KB.out.1.trans (hb'.mono KB.out.1.size)⟩
      · rw [decide_eq_false hq] at hcall
        have hq' : Keep (T k ≠ id) := ⟨hq⟩
        clear hq
        go_wp2_with (go_at_call 46; refine hcall.mono ?_; rintro e w' ⟨rfl, hb'⟩)
        go_roundw
        case rel =>
          refine ⟨k + 1, by omega, by go_num, KB.out.1.trans (hb'.mono KB.out.1.size), fun j hj => ?_⟩
          by_cases e : j = k
          · subst e; exact hq'.out
          · exact KB.out.2 j (by omega)
        case measure => simp [vInt]; omega
    · have hltz : ¬ (k : Int) < (n : Int) := by omega
      obtain rfl : k = n := by omega
      have A' : Keep (∀ j, j < k → T j ≠ id) := ⟨A⟩
      clear A hY
      go_wp2
      go_ret
      exact ⟨_, rfl, ⟨.inr ⟨rfl, A'.out⟩⟩, BW⟩
theorem walk20 (a : Option Addr) (cap n : Nat) (id : List UInt8) (Y : Nat → List Value) (T : Nat → List UInt8) (w : World) (hn : n ≤ 9223372036854775807)
    (hY : ∀ j, j < n → ∃ ad, a = some ad ∧ ad.block < w.heap.size ∧ (∃ t1 t2 t3 p1 p2 p3, Y j = [.string ⟨⟨T j⟩⟩, .int .i64 t1, .int .i64 t2, .int .i64 t3, .slice p1 p2 p3]) ∧ ∀ i v, (Y j)[i]? = some v → w.cell? ((ad.add (j * 5)).add i) = some v) :
    Calls Tryd.prog 20 #[.slice a n cap, .string ⟨⟨id⟩⟩] w fun e w' => ∃ r : Int, e = .returned (.int .i64 r) ∧ Keep (Found n T id r) ∧ Below w.heap.size w w' := by
  have hcall := walk37 a cap n w.heap.size id Y T (w.alloc (.cells #[.string ⟨⟨id⟩⟩] 9)) hn (fun j hj => by
    obtain ⟨ad, h1, h2, h3, h4⟩ := hY j hj
    exact ⟨ad, h1, by simp; omega, h3, fun i v hi => by
      rw [← h4 i v hi]
      refine ((Below.refl w.heap.size w).alloc (Nat.le_refl _) _).cell ?_
      have h5 := h2
      unfold Addr.add; split <;> (try split) <;> exact h5⟩) (by simp) (by simp)
  clear hY
  go_enter Tryd.func20, Tryd.ntmps20
  go_wp2_with (go_at_call 37; refine hcall.mono ?_; rintro e w' ⟨r, rfl, hr, hb'⟩)
  go_ret
  exact ⟨_, rfl, hr, ((Below.refl _ w).alloc (Nat.le_refl _) _).trans (hb'.mono (by simp))⟩
theorem walk35 (a : Option Addr) (cap n : Nat) (id : List UInt8) (T : Nat → List UInt8) (w : World) (hn : n ≤ 9223372036854775807)
    (hY : ∀ j, j < n → ∃ ad, a = some ad ∧ ad.block < w.heap.size ∧ w.cell? (ad.add (j * 1)) = some (.string ⟨⟨T j⟩⟩)) :
    Calls Tryd.prog 35 #[.slice a n cap, .string ⟨⟨id⟩⟩] w fun e w' => ∃ r : Int, e = .returned (.bool (decide (0 ≤ r))) ∧ Keep (Found n T id r) ∧ Below w.heap.size w w' := by
  have hcall := walk45 a cap n w.heap.size id T (w.alloc (.cells #[.string ⟨⟨id⟩⟩] 9)) hn (fun j hj => by
    obtain ⟨ad, h1, h2, h3⟩ := hY j hj
    exact ⟨ad, h1, by simp; omega, by
      rw [← h3]
      refine ((Below.refl w.heap.size w).alloc (Nat.le_refl _) _).cell ?_
      have h5 := h2
      unfold Addr.add; split <;> (try split) <;> exact h5⟩) (by simp) (by simp)
  clear hY
  go_enter Tryd.func35, Tryd.ntmps35
  go_wp2_with (go_at_call 45; refine hcall.mono ?_; rintro e w' ⟨r, rfl, hr, hb'⟩)
  all_goals
    go_ret
    exact ⟨r, by simp [*], hr, ((Below.refl _ w).alloc (Nat.le_refl _) _).trans (hb'.mono (by simp))⟩
theorem c20 : ConOK Tryd.prog 20 con20 := by
  refine ⟨⟨Tryd.f20, bodyOf Tryd.f20, Tryd.func20, by kernel_rfl, by kernel_rfl⟩, fun G w ds args hG hz ha hpre => ?_⟩
  obtain ⟨l, s, v1, v2, rfl, rfl, h1, h2⟩ := argsR2 ha
  obtain ⟨rfl, hl⟩ := args_str h2
  obtain ⟨cs, rfl, a, xs, cap, rfl, rfl, hlc, hcm, hel⟩ := h1
  have key : ∀ j, ∃ Yj : List Value, j < xs.length → ∃ ad, a = some ad ∧ ad.block < w.heap.size ∧ (∃ t1 t2 t3 p1 p2 p3, Yj = [.string ⟨⟨((elt xs (j : Int)).fld 0).s⟩⟩, .int .i64 t1, .int .i64 t2, .int .i64 t3, .slice p1 p2 p3]) ∧ ∀ i v, Yj[i]? = some v → w.cell? ((ad.add (j * 5)).add i) = some v := fun j => by
    by_cases hj : j < xs.length
    · obtain ⟨ad, ys, e1, hat, hrd⟩ := hel j xs[j] (List.getElem?_eq_getElem hj)
      obtain ⟨k, t, c, st, a', n, cap', ps, rfl, e2, _⟩ := rd_dis hrd
      refine ⟨_, fun _ => ⟨ad, e1, ?_, ⟨_, _, _, _, _, _, by rw [elt_get hj, e2]; rfl⟩, fun i v hi => (hat i v hi).2⟩⟩
      have := hG _ (hat 0 _ rfl).1
      rwa [addr_block, addr_block] at this
    · exact ⟨[], fun h => absurd h hj⟩
  have hYT := Classical.skolem.1 key
  obtain ⟨Y, hY⟩ := hYT
  refine (walk20 a cap xs.length s.s Y (fun j => ((elt xs (j : Int)).fld 0).s) w (by unfold maxLen at *; omega) hY).mono fun e w' he => ?_
  obtain ⟨r, rfl, ⟨hr⟩, hbel⟩ := he
  have e1 : r = findZ xs s.s := by
    rcases hr with ⟨g, rfl, h1, h2, h3⟩ | ⟨rfl, h1⟩
    · exact (findZ_some h1 h3 h2).symm
    · exact (findZ_none h1).symm
  have hR : inR .i64 r := by
    have h1 := findZ_lt xs s.s
    have h2 : -1 ≤ findZ xs s.s := by rcases findZ_cases xs s.s with ⟨g, h1, _⟩ | ⟨h1, _⟩ <;> omega
    rw [e1]
    refine ⟨?_, ?_⟩
    · show (-9223372036854775808 : Int) ≤ _; omega
    · show _ ≤ (9223372036854775807 : Int); unfold maxLen at *; omega
  have hrv : RVR G w w' (RV.sv (.one (.int .i64 (findZ xs s.s)))) (Value.int .i64 r) := ⟨by rw [e1], by rw [← e1]; exact hR⟩
  exact ⟨_, rfl, ret_plain (rets := [_]) (vs := [_]) hbel ⟨hrv, trivial⟩⟩
theorem c35 : ConOK Tryd.prog 35 con35 := by
  refine ⟨⟨Tryd.f35, bodyOf Tryd.f35, Tryd.func35, by kernel_rfl, by kernel_rfl⟩, fun G w ds args hG hz ha hpre => ?_⟩
  obtain ⟨l, s, v1, v2, rfl, rfl, h1, h2⟩ := argsR2 ha
  obtain ⟨rfl, hl⟩ := args_str h2
  obtain ⟨cs, rfl, a, xs, cap, rfl, rfl, hlc, hcm, hel⟩ := h1
  have hY : ∀ j, j < xs.length → ∃ ad, a = some ad ∧ ad.block < w.heap.size ∧ w.cell? (ad.add (j * 1)) = some (.string ⟨⟨(elt xs (j : Int)).s⟩⟩) := fun j hj => by
    obtain ⟨ad, ys, e1, hat, b, rfl, e2, hb⟩ := hel j xs[j] (List.getElem?_eq_getElem hj)
    have h0 := hat 0 _ rfl
    refine ⟨ad, e1, ?_, ?_⟩
    · have := hG _ h0.1
      rwa [addr_block, addr_block] at this
    · rw [elt_get hj, e2]
      have := h0.2
      rwa [Addr.add_zero'] at this
  refine (walk35 a cap xs.length s.s (fun j => (elt xs (j : Int)).s) w (by unfold maxLen at *; omega) hY).mono fun e w' he => ?_
  obtain ⟨r, rfl, ⟨hr⟩, hbel⟩ := he
  have e1 : decide (0 ≤ r) = hasZ xs s.s := by
    rcases hr with ⟨g, rfl, h1, h2, h3⟩ | ⟨rfl, h1⟩
    · rw [hasZ_t.2 ⟨g, h1, h2⟩]; exact decide_eq_true (by omega)
    · have : hasZ xs s.s = false := by
        rw [← Bool.not_eq_true, hasZ_t]
        rintro ⟨j, hj, h⟩
        exact h1 j hj h
      rw [this]; rfl
  have hrv : RVR G w w' (RV.sv (.one (.bool (hasZ xs s.s)))) (Value.bool (decide (0 ≤ r))) := by rw [e1]; rfl
  exact ⟨_, rfl, ret_plain (rets := [_]) (vs := [_]) hbel ⟨hrv, trivial⟩⟩
end Go.Proofs.YtkfghnflbehecaaDoor
