/- Part of the proof of the laws of this seat: contracts of its functions, for every input. -/
import Derived.Test.YtafpahkcjdfpiaaDoorWA
import Derived.Test.YtafpahkcjdfpiaaDoorWSH
import Derived.Test.YtafpahkcjdfpiaaDoorRxV
import Derived.Lib.SplitLaws
import Derived.Laws.OwnMore
set_option linter.all false
namespace Go.Proofs.YtafpahkcjdfpiaaDoor
open Go Go.RX Go.Proofs Go.RowKit
set_option linter.all false
set_option maxRecDepth 100000
def i64 : Ty := .int .i64
def blank : ByteArray := ⟨#[32]⟩
def splitD (s : List UInt8) : List D := (Lib.splitB blank 0 (Lib.countB ⟨⟨s⟩⟩ blank) ⟨⟨s⟩⟩).map fun b => .str b.data.toList
def con78 : Con := ⟨[.str, .str], fun | [s, p] => ⟨p.s = [32] ∧ s.s.length ≤ 1000000, [.fresh 9 .str (splitD s.s)]⟩ | _ => bad⟩
theorem ret_plain {G : Addr → Prop} {w w' : World} {rets : List RV} {vs : List Value} (hb : Below w.heap.size w w') (h : All2 (RVR G w w') rets vs) : RetOK G w rets (packVal vs) w' :=
  ⟨hb, G, fun _ h => h, fun _ h => .inl h, vs, rfl, h⟩
theorem below_iter {w : World} {s : ByteArray} {pos : Nat} : Below w.heap.size w (w.iter s pos) := (Below.refl _ _).alloc (Nat.le_refl _) _
theorem args_str {G : Addr → Prop} {w : World} {d : D} {v : Value} (h : ∃ cs, v = Ty.str.val cs ∧ Rd G w .str cs d) : v = .string ⟨⟨d.s⟩⟩ ∧ d.s.length ≤ maxLen := by
  obtain ⟨cs, rfl, l, rfl, rfl, hl⟩ := h
  exact ⟨rfl, hl⟩
theorem args_i64 {G : Addr → Prop} {w : World} {d : D} {v : Value} (h : ∃ cs, v = i64.val cs ∧ Rd G w i64 cs d) : v = .int .i64 d.i ∧ -9223372036854775808 ≤ d.i ∧ d.i ≤ 9223372036854775807 := by
  obtain ⟨cs, rfl, n, rfl, rfl, hl⟩ := h
  exact ⟨rfl, hl⟩
theorem argsR2 {G : Addr → Prop} {w : World} {t1 t2 : Ty} : ∀ {ds : List D} {args : List Value}, ArgsR G w [t1, t2] ds args → ∃ d1 d2 v1 v2, ds = [d1, d2] ∧ args = [v1, v2] ∧ (∃ cs, v1 = t1.val cs ∧ Rd G w t1 cs d1) ∧ (∃ cs, v2 = t2.val cs ∧ Rd G w t2 cs d2)
  | [d1, d2], [v1, v2], h => ⟨d1, d2, v1, v2, rfl, rfl, h.1, h.2.1⟩
  | [], _, h => by cases ‹List Value› <;> exact h.elim
  | [_], [], h => h.elim
  | [_], [_], h => h.2.elim
  | [_], _ :: _ :: _, h => h.2.elim
  | _ :: _ :: _, [], h => h.elim
  | _ :: _ :: _, [_], h => h.2.elim
  | _ :: _ :: _ :: _, [_, _], h => h.2.2.elim
  | [_, _], _ :: _ :: _ :: _, h => h.2.2.elim
  | _ :: _ :: _ :: _, _ :: _ :: _ :: _, h => h.2.2.elim
theorem argsR3 {G : Addr → Prop} {w : World} {t1 t2 t3 : Ty} : ∀ {ds : List D} {args : List Value}, ArgsR G w [t1, t2, t3] ds args → ∃ d1 d2 d3 v1 v2 v3, ds = [d1, d2, d3] ∧ args = [v1, v2, v3] ∧ (∃ cs, v1 = t1.val cs ∧ Rd G w t1 cs d1) ∧ (∃ cs, v2 = t2.val cs ∧ Rd G w t2 cs d2) ∧ (∃ cs, v3 = t3.val cs ∧ Rd G w t3 cs d3)
  | d1 :: ds, v1 :: vs, h => by
    obtain ⟨d2, d3, v2, v3, rfl, rfl, h2, h3⟩ := argsR2 h.2
    exact ⟨d1, d2, d3, v1, v2, v3, rfl, rfl, h.1, h2, h3⟩
  | [], _, h => by cases ‹List Value› <;> exact h.elim
  | _ :: _, [], h => h.elim
theorem c78 : ConOK Tryd.prog 78 con78 := by
  refine ⟨⟨Tryd.f78, bodyOf Tryd.f78, Tryd.func78, by kernel_rfl, by kernel_rfl⟩, fun G w ds args hG hz ha hpre => ?_⟩
  obtain ⟨s, p, v1, v2, rfl, rfl, h1, h2⟩ := argsR2 ha
  obtain ⟨rfl, hl⟩ := args_str h1
  obtain ⟨rfl, hl2⟩ := args_str h2
  obtain ⟨p1, p2⟩ : p.s = [32] ∧ s.s.length ≤ 1000000 := hpre
  rw [p1]
  obtain ⟨_, m, hm⟩ := hz 0 .i64 Tryd.laysM146.s1_3
  refine (Tryd.strings_Split ⟨⟨s.s⟩⟩ blank m w (show s.s.length < 4294967281 by omega) hm (by decide)).mono fun e w' he => ?_
  obtain ⟨rfl, rfl⟩ := he
  have hk := Lib.splitB_all blank (by decide) 0 _ ⟨⟨s.s⟩⟩ rfl
  have hle := Lib.countB_le blank (by decide) _ ⟨⟨s.s⟩⟩ (Nat.le_refl _)
  have hsz : ∀ (k : Nat) (b : ByteArray), ∀ x ∈ Lib.splitB blank 0 k b, x.data.toList.length ≤ b.data.toList.length := fun k => by
    induction k with
    | zero => intro b x hx; rw [Lib.splitB_zero, List.mem_singleton] at hx; rw [hx]; exact Nat.le_refl _
    | succ k ih =>
      intro b x hx
      unfold Lib.splitB at hx
      split at hx
      · rw [List.mem_singleton] at hx; rw [hx]; exact Nat.le_refl _
      · rcases List.mem_cons.1 hx with rfl | hx
        · rw [Lib.extract_from_zero, List.length_take]; omega
        · refine Nat.le_trans (ih _ x hx) ?_
          rw [Lib.extract_to_end, List.length_drop]; omega
  have hlen : (splitD s.s).length = Lib.countB ⟨⟨s.s⟩⟩ blank + 1 := by unfold splitD; rw [List.length_map, hk]
  have hown := World.ownsRow_lit (e := 9) (size := 1) (base := w.heap.size) w ((Lib.splitB blank 0 (Lib.countB ⟨⟨s.s⟩⟩ blank) ⟨⟨s.s⟩⟩).map Value.string).toArray (Lib.countB ⟨⟨s.s⟩⟩ blank + 1) (Nat.le_refl _)
    (by have : Lib.countB ⟨⟨s.s⟩⟩ blank ≤ s.s.length := hle; unfold maxLen; omega) (by simp [hk])
  refine ⟨_, rfl, (Below.refl _ _).alloc (Nat.le_refl _) _, G, fun _ h => h, fun _ h => .inl h, [_], rfl, ⟨_, by rw [hlen]; exact hown, ?_, ?_⟩, trivial⟩
  · have key : ∀ l : List ByteArray, (∀ x ∈ l, x.data.toList.length ≤ maxLen) → RdL G (w.alloc (.cells ((Lib.splitB blank 0 (Lib.countB ⟨⟨s.s⟩⟩ blank) ⟨⟨s.s⟩⟩).map Value.string).toArray 9)) .str (l.map Value.string) (l.map fun b => .str b.data.toList) := by
      intro l
      induction l with
      | nil => intro _; rfl
      | cons x l ih => intro h; exact ⟨[.string x], l.map Value.string, rfl, ⟨x.data.toList, rfl, rfl, h x (List.mem_cons_self ..)⟩, ih fun y hy => h y (List.mem_cons_of_mem _ hy)⟩
    have := key (Lib.splitB blank 0 (Lib.countB ⟨⟨s.s⟩⟩ blank) ⟨⟨s.s⟩⟩) fun x hx => by
      have := hsz _ _ x hx
      have e : (⟨⟨s.s⟩⟩ : ByteArray).data.toList.length = s.s.length := rfl
      rw [e] at this
      unfold maxLen; omega
    simpa [splitD] using this
  · intro g hg a haG
    have := hG a haG
    simp only [Value.ownBlock, Option.some.injEq] at hg
    omega
end Go.Proofs.YtafpahkcjdfpiaaDoor
