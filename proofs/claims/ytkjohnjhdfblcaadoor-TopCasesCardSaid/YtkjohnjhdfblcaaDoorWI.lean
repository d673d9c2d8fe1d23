/- Part of the proof of the laws of this seat: contracts of its functions, for every input. -/
import Derived.Test.YtkjohnjhdfblcaaDoorWH
import Derived.Lib.OthersKept
set_option linter.all false
namespace Go.Proofs.YtkjohnjhdfblcaaDoor
open Go Go.RX Go.Proofs Go.RowKit Go.Maps
set_option linter.all false
def inCal (cal : List D) (k : Nat) (x : Int) : Bool := (cal.take k).any fun d => d.i == x
def Hol (m : DataW Unit) (cal : List D) (k : Nat) : Prop := ∀ x : Int, m.atKey (.int .i64 x) (.lit (.bool false)) = .lit (.bool (inCal cal k x))
def vInt : Value → Int
  | .int _ q => q
  | _ => 0
theorem key3 : Keyed Tryd.prog 3 := int_keyed Tryd.underlying3
theorem zero4 (w : World) : (zeroValue 4).run Tryd.prog w = .ok (.bool false) w := by kernel_rfl
theorem u101 : Tryd.prog.underlying 101 = some (.map 3 4) := Tryd.underlying101
def dayOk (d : Int) : Bool := decide (0 ≤ d) && decide (d < 795364)
structure LR where
  d : Int
  e : Int
/-- The n-th business day after d. -/
def ltF (cal : List D) : Nat → Int → Int → LR
  | 0, _, _ => ⟨0, 12⟩
  | f + 1, d, n => if n ≤ 0 then ⟨d, 0⟩ else if dayOk (d + 1) = false then ⟨0, 12⟩ else ltF cal f (d + 1) (if (d + 1) % 7 < 5 ∧ inCal cal cal.length (d + 1) = false then n - 1 else n)
def laterZ (cal : List D) (d n : Int) : LR :=
  if dayOk d = false then ⟨0, 12⟩ else if n < 0 ∨ 4096 < n then ⟨0, 1⟩ else ltF cal (795365 - d).toNat d n
theorem inCal_succ {cal : List D} {k : Nat} (hk : k < cal.length) (x : Int) : inCal cal (k + 1) x = (inCal cal k x || (ei cal k == x)) := by
  unfold inCal
  rw [List.take_add_one, List.getElem?_eq_getElem hk, List.any_append]
  simp only [Option.toList_some, List.any_cons, List.any_nil, Bool.or_false]
  unfold ei
  rw [elt_get hk]
theorem hol_next {m : DataW Unit} {cal : List D} {k : Nat} (hk : k < cal.length) (h : Hol m cal k) (hm : Maps.IsMap m) : Hol (m.put (.int .i64 (ei cal k)) (.lit (.bool true))) cal (k + 1) := fun x => by
  rw [inCal_succ hk]
  by_cases e : ei cal k = x
  · subst e
    rw [atKey_put_same hm (by simp [WideAt.IsKeyLit])]
    simp
  · rw [atKey_put_other (fun e' => e (by cases e'; rfl)), h x]
    simp [e]
theorem boolElem {v : Value} {b : Bool} {ps : List MemPlace} (h : plainElem (H := Unit) Tryd.prog 4 v = some (.lit (.bool b), ps)) : v = .bool b := by
  have hu := Tryd.underlying4
  unfold plainElem at h
  generalize Tryd.prog.underlying 4 = u at *
  subst hu
  cases v <;> simp at h
  rw [h.1]
theorem ltF_step {cal : List D} {d n : Int} (h1 : 0 ≤ d) (h2 : d < 795364) : ltF cal (795365 - d).toNat d n = if n ≤ 0 then ⟨d, 0⟩ else if dayOk (d + 1) = false then ⟨0, 12⟩ else ltF cal (795365 - (d + 1)).toNat (d + 1) (if (d + 1) % 7 < 5 ∧ inCal cal cal.length (d + 1) = false then n - 1 else n) := by
  obtain ⟨f, hf⟩ : ∃ f, (795365 - d).toNat = f + 1 := ⟨(795365 - d).toNat - 1, by omega⟩
  rw [hf, ltF, show (795365 - (d + 1)).toNat = f by omega]
set_option maxRecDepth 1000000 in
theorem walk58 (a : Option Addr) (cap : Nat) (l : List D) (d n : Int) (w : World) (hl : l.length ≤ 1000000)
    (ha : ∀ j, j < l.length → ∃ ad, a = some ad ∧ ad.block < w.heap.size ∧ w.cell? (ad.add j) = some (.int .i64 (ei l j))) (hr : ∀ j, (Lit.int .i64 (ei l j)).wf = true) (hd : -9223372036854775808 ≤ d ∧ d ≤ 9223372036854775807) :
    Calls Tryd.prog 58 #[.slice a l.length cap, .int .i64 d, .int .i64 n] w fun e w' => e = .returned (.tuple #[.int .i64 (laterZ l d n).d, .int .i64 (laterZ l d n).e]) ∧ Below w.heap.size w w' := by
  have hmm := @run_makeMap Tryd.prog
  by_cases h0 : 0 ≤ d ∧ d < 795364
  · obtain ⟨h1, h2⟩ := h0
    have hday : dayOk d = true := by simp [dayOk, h1, h2]
    by_cases h3 : n < 0
    · have e : laterZ l d n = ⟨0, 1⟩ := by unfold laterZ; rw [if_neg (by simp [hday]), if_pos (.inl h3)]
      rw [e]
      go_enter Tryd.func58, Tryd.ntmps58
      go_wp2
      all_goals first
        | (exfalso; omega)
        | (go_ret2; exact ⟨rfl, Below.refl _ _⟩)
    · by_cases h4 : 4096 < n
      · have e : laterZ l d n = ⟨0, 1⟩ := by unfold laterZ; rw [if_neg (by simp [hday]), if_pos (.inr h4)]
        rw [e]
        go_enter Tryd.func58, Tryd.ntmps58
        go_wp2
        all_goals first
          | (exfalso; omega)
          | (go_ret2; exact ⟨rfl, Below.refl _ _⟩)
      · have e : laterZ l d n = ltF l (795365 - d).toNat d n := by unfold laterZ; rw [if_neg (by simp [hday]), if_neg (by omega)]
        rw [e]
        have h5 : 0 ≤ n := by omega
        have h6 : n ≤ 4096 := by omega
        go_enter Tryd.func58, Tryd.ntmps58
        go_wp2
        go_loopw [23] (fun i wr => ∃ k : Nat, k ≤ l.length ∧ i = .int .i64 k ∧ (∃ m, wr.ownsMap Tryd.prog 3 (plainElem Tryd.prog 4) w.heap.size k m ∧ Hol m l k) ∧ Below w.heap.size w wr) (fun i _ => l.length - (vInt i).toNat)
        case atStart => exact ⟨0, Nat.zero_le _, rfl, ⟨_, World.ownsMap_made _ _ _ _, fun x => rfl⟩, (Below.refl _ _).alloc (Nat.le_refl _) _⟩
        case round =>
          obtain ⟨k, hk, rfl, ⟨m, hown, hm⟩, hnx⟩ := hrel
          by_cases hlt : k < l.length
          · obtain ⟨ad, rfl, hab, hac⟩ := ha k hlt
            have hcx : wr.cell? (ad.add k) = some (.int .i64 (ei l k)) := (hnx.cell (by unfold Addr.add; split <;> exact hab)).trans hac
            have hkey : keyOf Tryd.prog 3 (.int .i64 (ei l k)) = some (.int .i64 (ei l k)) := keyOf_int_mk Tryd.underlying3 (hr k)
            go_wp2_with (first
              | (at_mapUpdate; refine wpList_mapUpdate_own _ rfl _ _ _ 101 rfl 3 4 key3 u101 (plainElem (H := Unit) Tryd.prog 4) w.heap.size k _ rfl hown (by unfold maxLen; omega) _ _ _ rfl rfl hkey _ [] (plainElem_bool Tryd.underlying4 true) ?_; intro w1 hown1 hgrow1)
              | go_in)
            go_roundw
            case rel => exact ⟨k + 1, by omega, by go_num, ⟨_, hown1, hol_next hlt hm hown.isMap⟩, hnx.grown hgrow1 hnx.size (fun j hj => by cases hj; exact Nat.le_refl _)⟩
            case measure => simp [vInt]; omega
          · obtain rfl : k = l.length := by omega
            go_wp2
            go_loopw [1, 2] (fun v1 v2 w' => ∃ d' n' : Int, v1 = .int .i64 d' ∧ v2 = .int .i64 n' ∧ w' = wr ∧ 0 ≤ d' ∧ d' < 795364 ∧ 0 ≤ n' ∧ n' ≤ 4096 ∧ ltF l (795365 - d').toNat d' n' = ltF l (795365 - d).toNat d n) (fun v1 _ _ => (795365 - vInt v1).toNat)
            case atStart => exact ⟨d, n, rfl, rfl, rfl, h1, h2, h5, h6, rfl⟩
            case round =>
              obtain ⟨d', n', rfl, rfl, rfl, j1, j2, j3, j4, j5⟩ := hrel
              rw [ltF_step j1 j2] at j5
              by_cases i1 : n' ≤ 0
              · obtain rfl : n' = 0 := by omega
                rw [if_pos (by omega)] at j5
                go_wp2
                go_ret2
                rw [← j5]
                exact ⟨rfl, hnx⟩
              · rw [if_neg i1] at j5
                have i2 : 0 < n' := by omega
                have i3 : 0 ≤ d' + 1 := by omega
                by_cases i4 : d' + 1 < 795364
                · rw [if_neg (by simp [dayOk, i3, i4])] at j5
                  have hkey : keyOf Tryd.prog 3 (.int .i64 (d' + 1)) = some (.int .i64 (d' + 1)) := keyOf_int_mk Tryd.underlying3 (by simp only [Lit.wf, Bool.and_eq_true, decide_eq_true_eq]; exact ⟨show (-9223372036854775808 : Int) ≤ _ by omega, show _ ≤ (9223372036854775807 : Int) by omega⟩)
                  obtain ⟨v, ps, hrun, hv⟩ := hown.lookup key3 u101 (zero4 wr) (plainElem_bool (H := Unit) Tryd.underlying4 false) hkey
                  rw [hm (d' + 1)] at hv
                  obtain rfl := boolElem hv
                  by_cases i5 : (d' + 1) % 7 < 5
                  · cases i6 : inCal l l.length (d' + 1) with
                    | true =>
                      rw [if_neg (by simp [i6])] at j5
                      rw [i6] at hrun
                      go_wp2
                      go_roundw
                      case rel => exact ⟨d' + 1, n', rfl, rfl, trivial, by omega, by omega, by omega, by omega, j5⟩
                      case measure => simp [vInt]; omega
                    | false =>
                      rw [if_pos ⟨i5, i6⟩] at j5
                      rw [i6] at hrun
                      go_wp2
                      go_roundw
                      case rel => exact ⟨d' + 1, n' - 1, rfl, rfl, trivial, by omega, by omega, by omega, by omega, j5⟩
                      case measure => simp [vInt]; omega
                  · rw [if_neg (by omega)] at j5
                    go_wp2
                    go_roundw
                    case rel => exact ⟨d' + 1, n', rfl, rfl, trivial, by omega, by omega, by omega, by omega, j5⟩
                    case measure => simp [vInt]; omega
                · rw [if_pos (by simp [dayOk]; omega)] at j5
                  go_wp2
                  go_ret2
                  rw [← j5]
                  exact ⟨rfl, hnx⟩
  · have e : laterZ l d n = ⟨0, 12⟩ := by unfold laterZ; rw [if_pos (by simp [dayOk]; omega)]
    rw [e]
    by_cases h1 : d < 0
    · go_enter Tryd.func58, Tryd.ntmps58
      go_wp2
      all_goals first
        | (exfalso; omega)
        | (go_ret2; exact ⟨rfl, Below.refl _ _⟩)
    · have h2 : 0 ≤ d := by omega
      have h3 : ¬ d < 795364 := by omega
      go_enter Tryd.func58, Tryd.ntmps58
      go_wp2
      all_goals first
        | (exfalso; omega)
        | (go_ret2; exact ⟨rfl, Below.refl _ _⟩)
end Go.Proofs.YtkjohnjhdfblcaaDoor
