/- Part of the proof of the laws of this seat: contracts of its functions, for every input. -/
import Derived.Test.YtkfghnflbehecaaDoorWK
set_option linter.all false
namespace Go.Proofs.YtkfghnflbehecaaDoor
open Go Go.RX Go.Proofs Go.RowKit
set_option linter.all false
set_option maxRecDepth 1000000
set_option maxHeartbeats 400000
def strV (d : D) : Value := .string ⟨⟨d.s⟩⟩
/-- A dispute as data, and its cells. -/
def DisOK (x : D) (F X : List Value) : Prop :=
  ∃ k t c s ps, x = .agg [.str k, .int t, .int c, .int s, .list ps] ∧ F = [.string ⟨⟨k⟩⟩, .int .i64 t, .int .i64 c, .int .i64 s] ∧ X = ps.map (fun d => .string ⟨⟨d.s⟩⟩) ∧
    k.length ≤ maxLen ∧ inR .i64 t ∧ inR .i64 c ∧ inR .i64 s ∧ ∀ p ∈ ps, ∃ b, p = .str b ∧ b.length ≤ maxLen
theorem rd_strs {G : Addr → Prop} {w : World} {v : Value} {d : D} (h : Rd G w ls [v] d) : ∃ ps, d = .list ps ∧ ∀ p ∈ ps, ∃ b, p = .str b ∧ b.length ≤ maxLen := by
  obtain ⟨a, ps, cap, _, rfl, _, _, hel⟩ := h
  refine ⟨ps, rfl, fun p hp => ?_⟩
  obtain ⟨i, hi⟩ := List.getElem?_of_mem hp
  obtain ⟨_, ys, _, _, b, _, rfl, hb⟩ := hel i p hi
  exact ⟨b, rfl, hb⟩
theorem rd_dis {G : Addr → Prop} {w : World} {ys : List Value} {x : D} (h : Rd G w disT ys x) :
    ∃ k t c s a n cap ps, ys = [.string ⟨⟨k⟩⟩, .int .i64 t, .int .i64 c, .int .i64 s, .slice a n cap] ∧ x = .agg [.str k, .int t, .int c, .int s, .list ps] ∧ n = ps.length ∧
      k.length ≤ maxLen ∧ inR .i64 t ∧ inR .i64 c ∧ inR .i64 s ∧ (∀ p ∈ ps, ∃ b, p = .str b ∧ b.length ≤ maxLen) ∧ Rd G w ls [.slice a n cap] (.list ps) := by
  obtain ⟨c1, r1, d1, e1, rfl, rfl, ⟨k, rfl, rfl, hk⟩, c2, r2, d2, e2, rfl, q2, ⟨t, rfl, rfl, ht⟩, c3, r3, d3, e3, rfl, q3, ⟨c, rfl, rfl, hc⟩, c4, r4, d4, e4, rfl, q4, ⟨s, rfl, rfl, hs⟩, c5, r5, d5, e5, rfl, q5, h5, rfl, q6⟩ := h
  cases q2; cases q3; cases q4; cases q5; cases q6
  have h5' := h5
  obtain ⟨a, ps, cap, rfl, rfl, _⟩ := h5
  obtain ⟨ps', e, hps⟩ := rd_strs h5'
  cases e
  exact ⟨k, t, c, s, a, _, cap, ps, rfl, rfl, rfl, hk, ht, hc, hs, hps, h5'⟩
theorem addr_block (a : Addr) (j : Nat) : (a.add j).block = a.block := by unfold Addr.add; split <;> rfl
/-- A row of strings that a call owns, as data. -/
theorem rd_own {G : Addr → Prop} {w : World} {N : Nat} {q : Value} {ps : List D} (h : w.ownsRow N 9 1 q ps.length (ps.map fun d => .string ⟨⟨d.s⟩⟩)) (hs : ∀ p ∈ ps, ∃ b, p = .str b ∧ b.length ≤ maxLen) (hG : ∀ g, q.ownBlock = some g → ∀ a : Addr, a.block = g → G a) : Rd G w ls [q] (.list ps) := by
  have hown := h
  rcases h.2 with ⟨rfl, h0⟩ | ⟨g, cap, cur, rfl, _, _, hnc, hcm, _, _⟩
  · obtain rfl := List.length_eq_zero_iff.1 h0
    exact ⟨none, [], 0, rfl, rfl, Nat.le_refl _, Nat.zero_le _, fun i x hx => by simp at hx⟩
  · refine ⟨some ⟨g, 0, none⟩, ps, cap, rfl, rfl, hnc, hcm, fun i x hx => ?_⟩
    obtain ⟨b, rfl, hb⟩ := hs x (List.mem_of_getElem? hx)
    refine ⟨_, [.string ⟨⟨b⟩⟩], rfl, fun j v hj => ?_, b, rfl, rfl, hb⟩
    have hj0 : j = 0 := by
      cases j with
      | zero => rfl
      | succ j => simp at hj
    subst hj0
    simp only [List.getElem?_cons_zero, Option.some.injEq] at hj
    subst hj
    have := hown.cells (g := g) rfl i (.string ⟨⟨b⟩⟩) (by rw [List.getElem?_map, hx]; rfl)
    refine ⟨hG g rfl _ (by rw [addr_block, addr_block]), ?_⟩
    have e : ((⟨g, 0, none⟩ : Addr).add (i * ls.n)).add 0 = (⟨g, 0, none⟩ : Addr).add i := by
      show ((⟨g, 0, none⟩ : Addr).add (i * 1)).add 0 = _
      rw [Addr.add_zero', Nat.mul_one]
    have e2 : Ty.str.n = ls.n := rfl
    rw [e2, e]
    exact this
theorem rdl_range {G : Addr → Prop} {w : World} {e : Ty} : ∀ {xs : List D} {f : Nat → List Value}, (∀ i x, xs[i]? = some x → Rd G w e (f i) x) → RdL G w e ((List.range xs.length).flatMap f) xs
  | [], f, _ => by simp [RdL]
  | x :: xs, f, h => by
    have e1 : (List.range (x :: xs).length).flatMap f = f 0 ++ (List.range xs.length).flatMap (fun i => f (i + 1)) := by
      rw [List.length_cons, List.range_succ_eq_map, List.flatMap_cons, List.flatMap_map]
    exact ⟨f 0, _, e1, h 0 x rfl, rdl_range (f := fun i => f (i + 1)) fun i y hy => h (i + 1) y (by simpa using hy)⟩
theorem DeepAt.rdl {G : Addr → Prop} {w : World} {N : Nat} {v : Value} {F X : Nat → List Value} {Q : Nat → Value} {xs : List D} (hD : DeepAt w N v xs.length F Q X) (hx : ∀ i x, xs[i]? = some x → DisOK x (F i) (X i))
    (hG : ∀ i, i < xs.length → ∀ g, (Q i).ownBlock = some g → ∀ a : Addr, a.block = g → G a) : RdL G w disT ((List.range xs.length).flatMap fun i => F i ++ [Q i]) xs := by
  refine rdl_range (f := fun i => F i ++ [Q i]) fun i x hi => ?_
  have hlt : i < xs.length := (List.getElem?_eq_some_iff.1 hi).1
  obtain ⟨k, t, c, s, ps, rfl, e1, e2, hk, ht, hc, hs, hps⟩ := hx i x hi
  rw [e1]
  have hsub := hD.sub i hlt
  rw [e2, List.length_map] at hsub
  exact ⟨[.string ⟨⟨k⟩⟩], _, _, _, rfl, rfl, ⟨k, rfl, rfl, hk⟩, [.int .i64 t], _, _, _, rfl, rfl, ⟨t, rfl, rfl, ht⟩, [.int .i64 c], _, _, _, rfl, rfl, ⟨c, rfl, rfl, hc⟩, [.int .i64 s], _, _, _, rfl, rfl, ⟨s, rfl, rfl, hs⟩, [Q i], [], _, _, rfl, rfl, rd_own hsub hps (hG i hlt), rfl, rfl⟩
/-- The memory of a list's inner rows. -/
def subG (G : Addr → Prop) (Q : Nat → Value) (k : Nat) (a : Addr) : Prop := G a ∨ ∃ i, i < k ∧ (Q i).ownBlock = some a.block
theorem deep_fresh {G : Addr → Prop} {w w' : World} {v : Value} {F X : Nat → List Value} {Q : Nat → Value} {xs : List D} (hG : ∀ a, G a → a.block < w.heap.size) (hb : Below w.heap.size w w') (hD : DeepAt w' w.heap.size v xs.length F Q X) (hx : ∀ i x, xs[i]? = some x → DisOK x (F i) (X i)) :
    RetOK G w [.fresh 40 disT xs] v w' := by
  refine ⟨hb, subG G Q xs.length, fun a h => .inl h, fun a h => ?_, [v], rfl, ⟨_, hD.own, hD.rdl hx fun i hi g hg a ha => .inr ⟨i, hi, by rw [ha]; exact hg⟩, fun g hg a ha => ?_⟩, trivial⟩
  · rcases h with h | ⟨i, hi, hq⟩
    · exact .inl h
    · exact .inr ((hD.sub i hi).lt _ hq)
  · rcases ha with h | ⟨i, hi, hq⟩
    · have := hG a h; have := (hD.own.lt g hg).1; omega
    · intro e
      rw [e] at hq
      exact (hD.dis i hi g hq).1 hg
def fit (l : List D) : Prop := l.length ≤ 2000 ∧ ∀ x ∈ l, (x.fld 4).l.length ≤ 100000
def con32 : Con := ⟨[ldi], fun | [l] => ⟨fit l.l, [.fresh 40 disT l.l]⟩ | _ => bad⟩
theorem argsR1 {G : Addr → Prop} {w : World} {t1 : Ty} : ∀ {ds : List D} {args : List Value}, ArgsR G w [t1] ds args → ∃ d1 v1, ds = [d1] ∧ args = [v1] ∧ (∃ cs, v1 = t1.val cs ∧ Rd G w t1 cs d1)
  | [d1], [v1], h => ⟨d1, v1, rfl, rfl, h.1⟩
  | [], _, h => by cases ‹List Value› <;> exact h.elim
  | [_], [], h => h.elim
  | _ :: _ :: _, [], h => h.elim
  | [_], _ :: _ :: _, h => h.2.elim
  | _ :: _ :: _, [_], h => h.2.elim
  | _ :: _ :: _, _ :: _ :: _, h => h.2.elim
/-- What the walks of the copies ask, out of data. -/
theorem copy_facts {G : Addr → Prop} {w : World} {xs : List D} {v : Value} (h : Rd G w ldi [v] (.list xs)) (hfit : fit xs) :
    ∃ (a : Option Addr) (cap : Nat) (kb : Nat → List UInt8) (tt' cc ss : Nat → Int) (p : Nat → Option Addr × Nat × Nat), v = .slice a xs.length cap ∧ (∀ j, j < xs.length → (p j).2.1 ≤ 100000) ∧
      (∀ j, j < xs.length → ∃ ad, a = some ad ∧ G (ad.add (j * 5)) ∧ w.cell? (ad.add (j * 5)) = some (.string ⟨⟨kb j⟩⟩) ∧ w.cell? ⟨(ad.add (j * 5)).block, (ad.add (j * 5)).off + 1, none⟩ = some (.int .i64 (tt' j)) ∧ w.cell? ⟨(ad.add (j * 5)).block, (ad.add (j * 5)).off + 2, none⟩ = some (.int .i64 (cc j)) ∧ w.cell? ⟨(ad.add (j * 5)).block, (ad.add (j * 5)).off + 3, none⟩ = some (.int .i64 (ss j)) ∧ w.cell? ⟨(ad.add (j * 5)).block, (ad.add (j * 5)).off + 4, none⟩ = some (.slice (p j).1 (p j).2.1 (p j).2.2) ∧ Rd G w ls [.slice (p j).1 (p j).2.1 (p j).2.2] ((elt xs (j : Int)).fld 4)) ∧
      ∀ i x, xs[i]? = some x → DisOK x [.string ⟨⟨kb i⟩⟩, .int .i64 (tt' i), .int .i64 (cc i), .int .i64 (ss i)] ((elt xs (i : Int)).fld 4 |>.l.map fun d => .string ⟨⟨d.s⟩⟩) := by
  obtain ⟨a, xs', cap, e1, e2, hlc, hcm, hel⟩ := h
  cases e2
  injection e1 with e1
  subst e1
  have helt : ∀ (i : Nat) x, xs[i]? = some x → elt xs (i : Int) = x := fun i x hx => by simp [elt, List.getD, hx]
  have key : ∀ j, ∃ p : Option Addr × Nat × Nat, ∀ x, xs[j]? = some x → ∃ ad k t c s ps, a = some ad ∧ At G w (ad.add (j * 5)) [.string ⟨⟨k⟩⟩, .int .i64 t, .int .i64 c, .int .i64 s, .slice p.1 p.2.1 p.2.2] ∧ x = .agg [.str k, .int t, .int c, .int s, .list ps] ∧ p.2.1 = ps.length ∧
      k.length ≤ maxLen ∧ inR .i64 t ∧ inR .i64 c ∧ inR .i64 s ∧ (∀ p ∈ ps, ∃ b, p = .str b ∧ b.length ≤ maxLen) ∧ Rd G w ls [.slice p.1 p.2.1 p.2.2] (.list ps) := fun j => by
    cases hx : xs[j]? with
    | none => exact ⟨(none, 0, 0), fun x h => by cases h⟩
    | some x =>
      obtain ⟨ad, ys, e1, hat, hrd⟩ := hel j x hx
      obtain ⟨k, t, c, s, a', n, cap', ps, rfl, rfl, e3, h1, h2, h3, h4, h5, h6⟩ := rd_dis hrd
      exact ⟨(a', n, cap'), fun y hy => by cases hy; exact ⟨ad, k, t, c, s, ps, e1, hat, rfl, e3, h1, h2, h3, h4, h5, h6⟩⟩
  obtain ⟨p, hp⟩ := Classical.skolem.1 key
  refine ⟨a, cap, fun j => ((elt xs (j : Int)).fld 0).s, fun j => ((elt xs (j : Int)).fld 1).i, fun j => ((elt xs (j : Int)).fld 2).i, fun j => ((elt xs (j : Int)).fld 3).i, p, rfl, fun j hj => ?_, fun j hj => ?_, fun i x hx => ?_⟩
  · obtain ⟨ad, k, t, c, s, ps, _, _, e3, e4, _⟩ := hp j xs[j] (List.getElem?_eq_getElem hj)
    have := hfit.2 xs[j] (List.getElem_mem hj)
    rw [e3] at this
    rw [e4]; exact this
  · obtain ⟨ad, k, t, c, s, ps, e1, hat, e3, e4, _, _, _, _, _, h6⟩ := hp j xs[j] (List.getElem?_eq_getElem hj)
    have he := helt j xs[j] (List.getElem?_eq_getElem hj)
    rw [e3] at he
    subst e1
    have c0 := hat 0 _ rfl
    have c1 := hat 1 _ rfl
    have c2 := hat 2 _ rfl
    have c3 := hat 3 _ rfl
    have c4 := hat 4 _ rfl
    rw [Addr.add_zero'] at c0
    refine ⟨ad, rfl, c0.1, ?_⟩
    simp only [he]
    exact ⟨c0.2, c1.2, c2.2, c3.2, c4.2, h6⟩
  · obtain ⟨ad, k, t, c, s, ps, e1, hat, rfl, e4, h1, h2, h3, h4, h5, h6⟩ := hp i x hx
    simp only [helt i _ hx]
    exact ⟨k, t, c, s, ps, rfl, rfl, rfl, h1, h2, h3, h4, h5⟩
theorem c32 : ConOK Tryd.prog 32 con32 := by
  refine ⟨⟨Tryd.f32, bodyOf Tryd.f32, Tryd.func32, by kernel_rfl, by kernel_rfl⟩, fun G w ds args hG hz ha hpre => ?_⟩
  obtain ⟨l, v, rfl, rfl, cs, rfl, h1⟩ := argsR1 ha
  have h0 := h1
  obtain ⟨_, xs, _, rfl, rfl, _⟩ := h0
  obtain ⟨a, cap, kb, tt', cc, ss, p, e, hP, hY, hO⟩ := copy_facts h1 hpre
  cases e
  refine (walk32 G _ _ xs.length xs w hpre.1 hG kb tt' cc ss (fun j => (p j).1) (fun j => (p j).2.1) (fun j => (p j).2.2) hP hY).mono fun e w' he => ?_
  obtain ⟨v, Q, rfl, hD, hb⟩ := he
  exact ⟨v, rfl, deep_fresh hG hb hD hO⟩
theorem c42 : ConOK Tryd.prog 42 con32 := by
  refine ⟨⟨Tryd.f42, bodyOf Tryd.f42, Tryd.func42, by kernel_rfl, by kernel_rfl⟩, fun G w ds args hG hz ha hpre => ?_⟩
  obtain ⟨l, v, rfl, rfl, cs, rfl, h1⟩ := argsR1 ha
  have h0 := h1
  obtain ⟨_, xs, _, rfl, rfl, _⟩ := h0
  obtain ⟨a, cap, kb, tt', cc, ss, p, e, hP, hY, hO⟩ := copy_facts h1 hpre
  cases e
  refine (walk42 G _ _ xs.length xs w hpre.1 hG kb tt' cc ss (fun j => (p j).1) (fun j => (p j).2.1) (fun j => (p j).2.2) hP hY).mono fun e w' he => ?_
  obtain ⟨v, Q, rfl, hD, hb⟩ := he
  exact ⟨v, rfl, deep_fresh hG hb hD hO⟩
end Go.Proofs.YtkfghnflbehecaaDoor
