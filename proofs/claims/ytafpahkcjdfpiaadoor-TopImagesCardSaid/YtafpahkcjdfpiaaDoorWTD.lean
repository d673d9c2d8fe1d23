/- Part of the proof of the laws of this seat: contracts of its functions, for every input. -/
import Derived.Test.YtafpahkcjdfpiaaDoorWTC
import Derived.WalkKit
import Derived.LoopTactic
import Derived.Maps.OwnOps
set_option linter.all false
namespace Go.Proofs.YtafpahkcjdfpiaaDoor
open Go Go.RX Go.Proofs Go.RowKit
set_option linter.all false
set_option maxRecDepth 1000000
set_option maxHeartbeats 400000
theorem walk52 (n : Int) (w : World) : Calls Tryd.prog 52 #[.int .i64 n] w fun e w' => e = .returned (.bool (timeZ n)) ∧ w' = w := by
  go_enter Tryd.func52, Tryd.ntmps52
  go_wp2
  · go_ret
    refine ⟨?_, rfl⟩
    have h0 : 0 ≤ n := by assumption
    show Ending.returned (.bool (decide (n < 68719476736))) = _
    unfold timeZ
    rw [decide_eq_true h0, Bool.true_and]
  · go_ret
    refine ⟨?_, rfl⟩
    have h0 : n < 0 := by assumption
    show Ending.returned (.bool false) = _
    unfold timeZ
    rw [decide_eq_false (by omega), Bool.false_and]
/-- A look-up whose run is known. -/
theorem wpList_look (w : World) {ops : Array Oper} {rest : List Oper} {o : Oper} {a : Act} {Q : Exit → Act → World → Prop} (hgd : o.guard = none) (m x : Operand) (t : TypeId) (ok : Bool)
    (ho : o.op = .lookup t m x ok) (v u : Value) (hs : a.eval m = v) (hx : a.eval x = u) (r : Value)
    (hr : (Instr.lookup t v u ok).run Tryd.prog w = .ok r w)
    (h : wpList Tryd.prog ops Q rest (a.put o.dst r) w) : wpList Tryd.prog ops Q (o :: rest) a w := by
  refine wpList_plain hgd fun _ hK => ?_
  unfold Oper.wp
  simp [execOp, ho, hs, hx, hr, Result.andThen]
  exact hK _ _ h
def untEv (t c : Int) (hn : Nat) (hs : Bool) : Int :=
  if timeZ t = false ∨ (c ≠ -1 ∧ timeZ c = false) then 12
  else if hs = false then 10
  else if 0 < hn then 32
  else if c = -1 then 11 else 0
def untDv (t c : Int) (hn : Nat) (hs : Bool) (k1 k2 : Int) : Int := if untEv t c hn hs = 0 then imax (iadd .i64 t k1) (iadd .i64 c k2) else 0
theorem walk54 (w : World) (b : Nat) (id y3 y4 : Value) (t p c k0 k1 k2 : Int) (ha : Option Addr) (hn hc : Nat) (hs : Bool) (hb : b < w.heap.size)
    (hlook : ∀ W : World, W.heap[b]? = w.heap[b]? → (Instr.lookup 74 (.map (some b)) (.int .i64 p) true).run Tryd.prog W = .ok (.tuple #[.agg #[.int .i64 k0, .int .i64 k1, .int .i64 k2], .bool hs]) W) :
    Calls Tryd.prog 54 #[.map (some b), .agg #[id, .int .i64 t, .int .i64 p, .slice ha hn hc, y4], .int .i64 c] w fun e w' => e = .returned (.tuple #[.int .i64 (untDv t c hn hs k1 k2), .int .i64 (untEv t c hn hs)]) ∧ Below w.heap.size w w' := by
  have hne : b ≠ w.heap.size := by omega
  have h52 := walk52
  go_enter Tryd.func54, Tryd.ntmps54
  go_wp2_with (first
    | (go_at_call 52; refine (h52 _ _).mono ?_; rintro e w' ⟨rfl, rfl⟩)
    | (at_lookup; refine wpList_look _ rfl _ _ 74 true rfl _ _ rfl rfl _ (hlook _ (heap_alloc_old _ _ hb)) ?_))
  all_goals go_ret2
  all_goals refine ⟨?_, by first | exact ((Below.refl _ w).alloc (Nat.le_refl _) _).alloc (by simp) _ | exact (Below.refl _ w).alloc (Nat.le_refl _) _⟩
  all_goals
    clear hlook h52 hne hb
    simp_all [untDv, untEv, imax, iadd]
    try (simp only [wrap64, IntKind.wrap_i64]; split <;> omega)
theorem argsR2' {G : Addr → Prop} {w : World} {t1 t2 : Ty} {ds : List D} {args : List Value} (h : ArgsR G w [t1, t2] ds args) : ∃ d1 d2 v1 v2, ds = [d1, d2] ∧ args = [v1, v2] ∧ (∃ cs, v1 = t1.val cs ∧ Rd G w t1 cs d1) ∧ (∃ cs, v2 = t2.val cs ∧ Rd G w t2 cs d2) := argsR2 h
theorem rd_im {G : Addr → Prop} {w : World} {ys : List Value} {x : D} (h : Rd G w imT ys x) :
    ∃ k t c a n cap ps g, ys = [.string ⟨⟨k⟩⟩, .int .i64 t, .int .i64 c, .slice a n cap, .int .u64 g] ∧ x = .agg [.str k, .int t, .int c, .list ps, .int g] ∧ n = ps.length ∧
      k.length ≤ maxLen ∧ inR .i64 t ∧ inR .i64 c ∧ inR .u64 g ∧ Rd G w ls [.slice a n cap] (.list ps) := by
  obtain ⟨c1, r1, d1, e1, rfl, rfl, ⟨k, rfl, rfl, hk⟩, c2, r2, d2, e2, rfl, q2, ⟨t, rfl, rfl, ht⟩, c3, r3, d3, e3, rfl, q3, ⟨c, rfl, rfl, hc⟩, c4, r4, d4, e4, rfl, q4, h4, c5, r5, d5, e5, rfl, q5, ⟨g, rfl, rfl, hg⟩, rfl, q6⟩ := h
  cases q2; cases q3; cases q4; cases q5; cases q6
  have h4' := h4
  obtain ⟨a, ps, cap, rfl, rfl, _⟩ := h4
  exact ⟨k, t, c, a, _, cap, ps, g, rfl, rfl, rfl, hk, ht, hc, hg, h4'⟩
theorem c54 : ConOKM Tryd.prog 54 con54 := by
  refine ⟨⟨Tryd.f54, bodyOf Tryd.f54, Tryd.func54, by kernel_rfl, by kernel_rfl⟩, fun e tys he G w b es clock xs ds args hG hz hb hm ha hpre => ?_⟩
  cases he
  obtain ⟨im, c, v1, v2, rfl, rfl, ⟨cs, rfl, h1⟩, h2⟩ := argsR2' ha
  obtain ⟨rfl, hc1, hc2⟩ := args_i64 h2
  obtain ⟨id, t, p, a, n, cap, ps, g, rfl, rfl, rfl, hid, ht, hp, hg, hh⟩ := rd_im h1
  have hlt : b < w.heap.size := (Array.getElem?_eq_some_iff.1 hb).1
  have key : ∀ W : World, W.heap[b]? = w.heap[b]? → ∃ v, MapV keT v (mgetD keT xs p) ∧ (Instr.lookup 74 (.map (some b)) (ik p) true).run Tryd.prog W = .ok (.tuple #[v, .bool (mhas xs p)]) W := fun W hW => by
    obtain ⟨hu1, hu2⟩ := (tt_ok 3 ⟨.int .i64, .int .i64, 8⟩ (by kernel_rfl)).maps 74 3 71 (by kernel_rfl)
    obtain ⟨v, hv, hr⟩ := run_lookup (tt := tt) hu1 hu2 (run_zeroValue tt_ok (t := 71) (ti := ⟨.struct [(3, 0), (3, 1), (3, 2)], keT, 24⟩) (by kernel_rfl) W) (hW.trans hb) hm p true ⟨keT.zeroV, rfl, fun G w => rd_zero _ (by decide)⟩
    exact ⟨v, hv, hr⟩
  obtain ⟨v, hv, _⟩ := key w rfl
  obtain ⟨cs, hv1, hrd⟩ := mapV_val hv
  obtain ⟨c1, r1, d1, e1, rfl, q1, ⟨k0, rfl, rfl, _⟩, c2, r2, d2, e2, rfl, q2, ⟨k1, rfl, rfl, _⟩, c3, r3, d3, e3, rfl, q3, ⟨k2, rfl, rfl, _⟩, rfl, q4⟩ := hrd G w
  cases q2; cases q3; cases q4
  have hlook : ∀ W : World, W.heap[b]? = w.heap[b]? → (Instr.lookup 74 (.map (some b)) (.int .i64 p) true).run Tryd.prog W = .ok (.tuple #[.agg #[.int .i64 k0, .int .i64 k1, .int .i64 k2], .bool (mhas xs p)]) W := fun W hW => by
    obtain ⟨v', hv', hr'⟩ := key W hW
    obtain ⟨cs', rfl, hrd'⟩ := mapV_val hv'
    obtain ⟨c1, r1, d1, e1, rfl, q1', ⟨k0', rfl, rfl, _⟩, c2, r2, d2, e2, rfl, q2, ⟨k1', rfl, rfl, _⟩, c3, r3, d3, e3, rfl, q3, ⟨k2', rfl, rfl, _⟩, rfl, q4⟩ := hrd' G w
    cases q2; cases q3; cases q4
    rw [q1] at q1'
    cases q1'
    exact hr'
  refine (walk54 w b _ (.int .u64 g) _ t p c.i k0 k1 k2 a ps.length cap (mhas xs p) hlt hlook).mono fun e w' he => ?_
  obtain ⟨rfl, hbl⟩ := he
  refine ⟨_, rfl, ?_⟩
  have hE : untE xs (.agg [.str id, .int t, .int p, .list ps, .int g]) c.i = untEv t c.i ps.length (mhas xs p) := rfl
  have hD : untD xs (.agg [.str id, .int t, .int p, .list ps, .int g]) c.i = untDv t c.i ps.length (mhas xs p) k1 k2 := by
    unfold untD untDv
    rw [hE]
    show (if _ then imax (iadd .i64 t (ri (mgetD keT xs p) 1)) (iadd .i64 c.i (ri (mgetD keT xs p) 2)) else 0) = _
    rw [q1]; rfl
  have hr1 : inR .i64 (untDv t c.i ps.length (mhas xs p) k1 k2) := by
    unfold untDv
    split
    · unfold imax; split <;> exact wrap_inR _ _
    · exact ⟨by decide, by decide⟩
  have hr2 : inR .i64 (untEv t c.i ps.length (mhas xs p)) := by
    unfold untEv
    repeat' split
    all_goals exact ⟨by decide, by decide⟩
  have := ret_plain (G := G) (rets := [vI (untDv t c.i ps.length (mhas xs p) k1 k2), vI (untEv t c.i ps.length (mhas xs p))]) (vs := [.int .i64 (untDv t c.i ps.length (mhas xs p) k1 k2), .int .i64 (untEv t c.i ps.length (mhas xs p))]) hbl ⟨⟨rfl, hr1⟩, ⟨rfl, hr2⟩, trivial⟩
  show RetOK G w [vI (untD xs _ c.i), vI (untE xs _ c.i)] _ w'
  rw [hD, hE]
  exact this
end Go.Proofs.YtafpahkcjdfpiaaDoor
