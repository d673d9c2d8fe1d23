/- Part of the proof of the laws of this seat: contracts of its functions, for every input. -/
import Derived.Test.YtafpahkcjdfpiaaDoorWTD
import Derived.WalkKit
import Derived.LoopTactic
import Derived.Deep.AppendLies
import Derived.Laws.OwnMore
set_option linter.all false
namespace Go.Proofs.YtafpahkcjdfpiaaDoor
open Go Go.RX Go.Proofs Go.RowKit
set_option linter.all false
set_option maxRecDepth 1000000
set_option maxHeartbeats 400000
/-- A fact that the walk shall not use. -/
structure Keep (p : Prop) : Prop where
  out : p
/-- An append whose run is known. -/
theorem wpList_app (w : World) {ops : Array Oper} {rest : List Oper} {o : Oper} {a : Act} {Q : Exit → Act → World → Prop} (hgd : o.guard = none) (s x : Operand) (t t' : TypeId)
    (ho : o.op = .call { callee := .builtin .append, args := #[s, x], argTypes := #[t, t'] }) (v u : Value) (hs : a.eval s = v) (hx : a.eval x = u)
    (R : Value → World → Prop) (hr : ∃ v' w', (Builtin.append_ #[t, t'] o.type #[v, u]).run Tryd.prog w = .ok v' w' ∧ R v' w')
    (h : ∀ v' w', R v' w' → wpList Tryd.prog ops Q rest (a.put o.dst v') w') : wpList Tryd.prog ops Q (o :: rest) a w := by
  obtain ⟨v', w', hrun, hR⟩ := hr
  refine wpList_plain hgd fun _ hK => ?_
  refine wp_value (w' := w') (v := v') ?_ (hK _ _ (h v' w' hR))
  simp only [execOp, ho, resolve, invoke, builtin, Sem.run_bind, Sem.run_pure, Result.andThen_ok, List.map_toArray, List.map_cons, List.map_nil, hs, hx, hrun]
/-- The source of an append, out of data. -/
theorem src_of {G : Addr → Prop} {w : World} {e : Ty} {P : Program} {u : TypeId} {v : Value} {d : D} (h : Rd G w (.slice e) [v] d) : ∃ E : Env, E.G = G ∧ Src E w e d.l P u v := by
  obtain ⟨a, xs, cap, h1, rfl, h2, h3, hel⟩ := h
  cases h1
  refine ⟨{ bm := fun _ => 0, hd := fun _ => undef, G := G, G0 := G }, rfl, ?_⟩
  cases a with
  | none =>
    cases xs with
    | nil => exact .inr (.inl ⟨cap, rfl, rfl⟩)
    | cons x xs => obtain ⟨b, _, hb, _⟩ := hel 0 x (by simp); cases hb
  | some a =>
    obtain ⟨cells, c1, c2⟩ := RdL.of_at (G := G) (w := w) (e := e) (G1 := fun _ => True) (a := a) (xs := xs) (k := 0) (fun i x hx => by
      obtain ⟨b, ys, hb, hat, hrd⟩ := hel i x hx
      cases hb
      exact ⟨ys, fun j u hu => ⟨trivial, by rw [Nat.zero_add]; exact (hat j u hu).2⟩, hrd⟩)
    refine .inl ⟨a, cap, cells, rfl, c1, fun j c hj => ?_⟩
    have := (c2 j c hj).2
    simpa [Addr.add_zero'] using this
/-- An append onto a row of the call's own: where the new row lies. -/
theorem append_own2 {P : Program} (w : World) (base : Nat) (u ty et : TypeId) (i : TypeInfo) (z : Value) (size bytes : Nat) (hut : P.underlying u = some (.slice et)) (hi : P.info? et = some i) (hz : i.zero = some z) (hsz : i.size = size) (hby : i.bytes = bytes) (hzs : z.cells.size = size) (h0 : 0 < size)
    (v : Value) (n : Nat) (cells : List Value) (hown : w.ownsRow base et size v n cells) (a : Addr) (m cap : Nat) (news : List Value) (hl : news.length = m * size) (hat : ∀ j u, news[j]? = some u → w.cell? (a.add j) = some u) (h1 : ∀ u ∈ news, u.oneCell' = true)
    (h63 : n + m ≤ maxLen) (hbytes : (n + m) * bytes ≤ 140737488355328) (hbase : base ≤ w.heap.size) :
    ∃ v' w', (Builtin.append_ #[u, u] ty #[v, .slice (some a) m cap]).run P w = .ok v' w' ∧ w'.ownsRow base et size v' (n + m) (cells ++ news) ∧ w.grownBy w' v.ownBlock ∧ (∀ g, v'.ownBlock = some g → v.ownBlock = some g ∨ w.heap.size ≤ g) := by
  obtain ⟨v', w', hrun, hh1, hh2, hh5⟩ := run_append_own (P := P) w base u ty et i z size bytes hut hi hz hsz hby hzs h0 v n cells hown a m cap news hl hat h1 h63 hbytes hbase
  refine ⟨v', w', hrun, hh1, hh2, fun g hg => ?_⟩
  rcases hown.2 with ⟨rfl, hx⟩ | ⟨g0, cap0, cur, rfl, hbg, hgh, hnc, hcm, hcs, htake⟩
  · by_cases hlt : g < w.heap.size
    · exfalso
      by_cases hm : m = 0
      · have := hh5.2 ⟨rfl, hm⟩
        subst this
        simp [Value.ownBlock] at hg
      · have hr2 := run_append_nil (P := P) w u ty et i z hut hi hz a m cap news (by rw [hsz]; exact hl) hat (by omega) (by simp [maxLen] at h63; omega) (by rw [hby]; rw [hx] at hbytes; simp at hbytes; omega)
        rw [hrun] at hr2
        cases hr2
        simp [Value.ownBlock] at hg
        omega
    · exact .inr (by omega)
  · by_cases hroom : n + m ≤ cap0
    · have hr2 := run_append_room (P := P) w u ty et i hut hi g0 n cap0 cur hgh a m cap news (by rw [hsz]; exact hl) hat h1 hroom (by rw [hsz, hl, hcs, ← Nat.add_mul]; exact Nat.mul_le_mul_right _ hroom)
      rw [hrun] at hr2
      cases hr2
      exact .inl hg
    · have holds : ∀ j u, cells[j]? = some u → w.cell? ((⟨g0, 0, none⟩ : Addr).add j) = some u := hown.cells (g := g0) rfl
      have hr2 := run_append_grow (P := P) w u ty et i z hut hi hz ⟨g0, 0, none⟩ n cap0 cells (by rw [hsz]; exact hown.1) holds a m cap news (by rw [hsz]; exact hl) hat (by omega) (by simp [maxLen] at h63; omega)
        (growslice_fits (by omega) (by rw [hby]; exact hbytes))
      rw [hrun] at hr2
      cases hr2
      simp [Value.ownBlock] at hg
      exact .inr (by omega)
/-- A list of structs whose last field is a slice that nobody else has. -/
structure DeepAt (w : World) (N : Nat) (v : Value) (k : Nat) (F : Nat → List Value) (Q H : Nat → Value) (X : Nat → List Value) : Prop where
  own : w.ownsRow N 25 5 v k ((List.range k).flatMap fun i => F i ++ [Q i, H i])
  sub : ∀ i, i < k → w.ownsRow N 9 1 (Q i) (X i).length (X i)
  dis : ∀ i, i < k → ∀ g, (Q i).ownBlock = some g → v.ownBlock ≠ some g ∧ ∀ j, j < k → j ≠ i → (Q j).ownBlock ≠ some g
theorem DeepAt.nil (w : World) (N : Nat) (F : Nat → List Value) (Q H : Nat → Value) (X : Nat → List Value) : DeepAt w N (.slice none 0 0) 0 F Q H X :=
  ⟨World.ownsRow_nil w _ _ _, fun i h => by omega, fun i h => by omega⟩
theorem ownsRow_keep {w w' : World} {base e size n : Nat} {v : Value} {xs : List Value} (h : w.ownsRow base e size v n xs) (hk : ∀ g, v.ownBlock = some g → w'.heap[g]? = w.heap[g]?) : w'.ownsRow base e size v n xs := by
  refine ⟨h.1, ?_⟩
  rcases h.2 with h1 | ⟨g, cap, cur, h1, h2, h3, h4⟩
  · exact .inl h1
  · exact .inr ⟨g, cap, cur, h1, h2, by rw [hk g (by rw [h1]; rfl)]; exact h3, h4⟩
theorem DeepAt.keep {w w' : World} {N k : Nat} {v : Value} {F : Nat → List Value} {Q H : Nat → Value} {X : Nat → List Value} (h : DeepAt w N v k F Q H X) (hk : ∀ g, g < w.heap.size → w'.heap[g]? = w.heap[g]?) : DeepAt w' N v k F Q H X :=
  ⟨ownsRow_keep h.own fun g hg => hk g (h.own.lt g hg).2, fun i hi => ownsRow_keep (h.sub i hi) fun g hg => hk g ((h.sub i hi).lt g hg).2, h.dis⟩
theorem rangeMap_succ {k : Nat} {f : Nat → List Value} : (List.range (k + 1)).flatMap f = (List.range k).flatMap f ++ f k := by simp [List.range_succ, List.flatMap_append]
/-- One struct more. -/
theorem DeepAt.snoc {w w1 w2 : World} {N k : Nat} {v v' q : Value} {F : Nat → List Value} {Q H : Nat → Value} {X : Nat → List Value} (h : DeepAt w N v k F Q H X) (hk1 : ∀ g, g < w.heap.size → w1.heap[g]? = w.heap[g]?) (hs1 : w.heap.size ≤ w1.heap.size)
    (hQ : Q k = q) (hq : w1.ownsRow N 9 1 q (X k).length (X k)) (hqb : ∀ g, q.ownBlock = some g → w.heap.size ≤ g)
    (ho : w2.ownsRow N 25 5 v' (k + 1) ((List.range k).flatMap (fun i => F i ++ [Q i, H i]) ++ (F k ++ [q, H k]))) (hg : w1.grownBy w2 v.ownBlock) (hv : ∀ g, v'.ownBlock = some g → v.ownBlock = some g ∨ w1.heap.size ≤ g) :
    DeepAt w2 N v' (k + 1) F Q H X := by
  have hvlt : ∀ g, v.ownBlock = some g → g < w.heap.size := fun g hh => (h.own.lt g hh).2
  have hq2 : ∀ g, q.ownBlock = some g → w1.heap.size > g := fun g hh => (hq.lt g hh).2
  have keepsub : ∀ i, i < k → w2.ownsRow N 9 1 (Q i) (X i).length (X i) := fun i hi => by
    refine ownsRow_keep (h.sub i hi) fun g hgg => ?_
    have hlt := ((h.sub i hi).lt g hgg).2
    rw [hg.block g (by omega) (fun e => (h.dis i hi g hgg).1 e.symm), hk1 g hlt]
  have keepq : w2.ownsRow N 9 1 q (X k).length (X k) := ownsRow_keep hq fun g hgg => by
    rw [hg.block g (hq2 g hgg) (fun e => by have := hvlt g e.symm; have := hqb g hgg; omega)]
  refine ⟨by rw [rangeMap_succ, hQ]; exact ho, fun i hi => ?_, fun i hi g hgg => ⟨fun e => ?_, fun j hj hne e => ?_⟩⟩
  · rcases Nat.lt_succ_iff_lt_or_eq.1 hi with h1 | rfl
    · exact keepsub i h1
    · rw [hQ]; exact keepq
  · rcases Nat.lt_succ_iff_lt_or_eq.1 hi with h1 | rfl
    · have hlt := ((h.sub i h1).lt g hgg).2
      rcases hv g e with h2 | h2
      · exact (h.dis i h1 g hgg).1 h2
      · omega
    · rw [hQ] at hgg
      rcases hv g e with h2 | h2
      · have := hvlt g h2; have := hqb g hgg; omega
      · have := hq2 g hgg; omega
  · rcases Nat.lt_succ_iff_lt_or_eq.1 hi with h1 | rfl <;> rcases Nat.lt_succ_iff_lt_or_eq.1 hj with h2 | rfl
    · exact (h.dis i h1 g hgg).2 j h2 hne e
    · rw [hQ] at e
      have := ((h.sub i h1).lt g hgg).2; have := hqb g e; omega
    · rw [hQ] at hgg
      have := ((h.sub j h2).lt g e).2; have := hqb g hgg; omega
    · exact hne rfl
theorem DeepAt.congr {w : World} {N k : Nat} {v : Value} {F : Nat → List Value} {Q Q' H : Nat → Value} {X : Nat → List Value} (h : DeepAt w N v k F Q H X) (hQ : ∀ i, i < k → Q' i = Q i) : DeepAt w N v k F Q' H X := by
  have e : (List.range k).flatMap (fun i => F i ++ [Q' i, H i]) = (List.range k).flatMap (fun i => F i ++ [Q i, H i]) := by
    rw [List.flatMap_def, List.flatMap_def, List.map_congr_left fun i hi => by rw [hQ i (List.mem_range.1 hi)]]
  exact ⟨by rw [e]; exact h.own, fun i hi => by rw [hQ i hi]; exact h.sub i hi, fun i hi g hg => by
    rw [hQ i hi] at hg
    exact ⟨(h.dis i hi g hg).1, fun j hj hne => by rw [hQ j hj]; exact (h.dis i hi g hg).2 j hj hne⟩⟩
theorem rdl_str {G : Addr → Prop} {w : World} : ∀ {ys : List D} {cells : List Value}, RdL G w .str cells ys → cells = ys.map fun d => Value.string ⟨⟨d.s⟩⟩
  | [], _, h => h
  | y :: ys, _, ⟨c1, c2, h1, ⟨t, h2, h3, _⟩, h4⟩ => by rw [h1, h2, rdl_str h4, h3]; rfl
/-- An image as data, and its cells. -/
def ImOK (x : D) (F : List Value) (h : Value) (X : List Value) : Prop :=
  ∃ k t c ps g, x = .agg [.str k, .int t, .int c, .list ps, .int g] ∧ F = [.string ⟨⟨k⟩⟩, .int .i64 t, .int .i64 c] ∧ h = .int .u64 g ∧ X = ps.map (fun d => .string ⟨⟨d.s⟩⟩) ∧
    k.length ≤ maxLen ∧ inR .i64 t ∧ inR .i64 c ∧ inR .u64 g ∧ ∀ p ∈ ps, ∃ b, p = .str b ∧ b.length ≤ maxLen
theorem rd_strs {G : Addr → Prop} {w : World} {v : Value} {d : D} (h : Rd G w ls [v] d) : ∃ ps, d = .list ps ∧ ∀ p ∈ ps, ∃ b, p = .str b ∧ b.length ≤ maxLen := by
  obtain ⟨a, ps, cap, _, rfl, _, _, hel⟩ := h
  refine ⟨ps, rfl, fun p hp => ?_⟩
  obtain ⟨i, hi⟩ := List.getElem?_of_mem hp
  obtain ⟨_, ys, _, _, b, _, rfl, hb⟩ := hel i p hi
  exact ⟨b, rfl, hb⟩
theorem addr_block (a : Addr) (j : Nat) : (a.add j).block = a.block := by unfold Addr.add; split <;> rfl
/-- A row of strings that a call owns, as data. -/
theorem rd_own {G : Addr → Prop} {w : World} {N : Nat} {q : Value} {ps : List D} (h : w.ownsRow N 9 1 q ps.length (ps.map fun d => .string ⟨⟨d.s⟩⟩)) (hs : ∀ p ∈ ps, ∃ b, p = .str b ∧ b.length ≤ maxLen) (hG : ∀ g, q.ownBlock = some g → ∀ a : Addr, a.block = g → G a) : Rd G w ls [q] (.list ps) := by
  have hown := h
  rcases h.2 with ⟨rfl, h0⟩ | ⟨g, cap, cur, rfl, _, _, hnc, hcm, _, _⟩
  · obtain rfl := List.length_eq_zero_iff.1 h0
    exact ⟨none, [], 0, rfl, rfl, Nat.le_refl _, Nat.zero_le _, fun i x hx => by simp at hx⟩
  · refine ⟨some ⟨g, 0, none⟩, ps, cap, rfl, rfl, hnc, hcm, fun i x hx => ?_⟩
    obtain ⟨b, rfl, hb⟩ := hs x (List.mem_of_getElem? hx)
    refine ⟨_, [.string ⟨⟨b⟩⟩], rfl, fun j v hj => ?_, b, rfl, rfl, hb⟩
    have hj0 : j = 0 := by
      cases j with
      | zero => rfl
      | succ j => simp at hj
    subst hj0
    simp only [List.getElem?_cons_zero, Option.some.injEq] at hj
    subst hj
    have := hown.cells (g := g) rfl i (.string ⟨⟨b⟩⟩) (by rw [List.getElem?_map, hx]; rfl)
    refine ⟨hG g rfl _ (by rw [addr_block, addr_block]), ?_⟩
    have e : ((⟨g, 0, none⟩ : Addr).add (i * ls.n)).add 0 = (⟨g, 0, none⟩ : Addr).add i := by
      show ((⟨g, 0, none⟩ : Addr).add (i * 1)).add 0 = _
      rw [Addr.add_zero', Nat.mul_one]
    have e2 : Ty.str.n = ls.n := rfl
    rw [e2, e]
    exact this
theorem rdl_range {G : Addr → Prop} {w : World} {e : Ty} : ∀ {xs : List D} {f : Nat → List Value}, (∀ i x, xs[i]? = some x → Rd G w e (f i) x) → RdL G w e ((List.range xs.length).flatMap f) xs
  | [], f, _ => by simp [RdL]
  | x :: xs, f, h => by
    have e1 : (List.range (x :: xs).length).flatMap f = f 0 ++ (List.range xs.length).flatMap (fun i => f (i + 1)) := by
      rw [List.length_cons, List.range_succ_eq_map, List.flatMap_cons, List.flatMap_map]
    exact ⟨f 0, _, e1, h 0 x rfl, rdl_range (f := fun i => f (i + 1)) fun i y hy => h (i + 1) y (by simpa using hy)⟩
theorem DeepAt.rdl {G : Addr → Prop} {w : World} {N : Nat} {v : Value} {F X : Nat → List Value} {Q H : Nat → Value} {xs : List D} (hD : DeepAt w N v xs.length F Q H X) (hx : ∀ i x, xs[i]? = some x → ImOK x (F i) (H i) (X i))
    (hG : ∀ i, i < xs.length → ∀ g, (Q i).ownBlock = some g → ∀ a : Addr, a.block = g → G a) : RdL G w imT ((List.range xs.length).flatMap fun i => F i ++ [Q i, H i]) xs := by
  refine rdl_range (f := fun i => F i ++ [Q i, H i]) fun i x hi => ?_
  have hlt : i < xs.length := (List.getElem?_eq_some_iff.1 hi).1
  obtain ⟨k, t, c, ps, g, rfl, e1, e0, e2, hk, ht, hc, hg, hps⟩ := hx i x hi
  rw [e1, e0]
  have hsub := hD.sub i hlt
  rw [e2, List.length_map] at hsub
  exact ⟨[.string ⟨⟨k⟩⟩], _, _, _, rfl, rfl, ⟨k, rfl, rfl, hk⟩, [.int .i64 t], _, _, _, rfl, rfl, ⟨t, rfl, rfl, ht⟩, [.int .i64 c], _, _, _, rfl, rfl, ⟨c, rfl, rfl, hc⟩, [Q i], _, _, _, rfl, rfl, rd_own hsub hps (hG i hlt), [.int .u64 g], [], _, _, rfl, rfl, ⟨g, rfl, rfl, hg⟩, rfl, rfl⟩
/-- The memory of a list's inner rows. -/
def subG (G : Addr → Prop) (Q : Nat → Value) (k : Nat) (a : Addr) : Prop := G a ∨ ∃ i, i < k ∧ (Q i).ownBlock = some a.block
/-- What the walk of the copies asks, out of data. -/
theorem copy_facts {G : Addr → Prop} {w : World} {xs : List D} {v : Value} (h : Rd G w lim [v] (.list xs)) (hfit : fit xs) :
    ∃ (a : Option Addr) (cap : Nat) (kb : Nat → List UInt8) (tt' cc gg : Nat → Int) (p : Nat → Option Addr × Nat × Nat), v = .slice a xs.length cap ∧ (∀ j, j < xs.length → (p j).2.1 ≤ 100000) ∧
      (∀ j, j < xs.length → ∃ ad, a = some ad ∧ G (ad.add (j * 5)) ∧ w.cell? (ad.add (j * 5)) = some (.string ⟨⟨kb j⟩⟩) ∧ w.cell? ⟨(ad.add (j * 5)).block, (ad.add (j * 5)).off + 1, none⟩ = some (.int .i64 (tt' j)) ∧ w.cell? ⟨(ad.add (j * 5)).block, (ad.add (j * 5)).off + 2, none⟩ = some (.int .i64 (cc j)) ∧ w.cell? ⟨(ad.add (j * 5)).block, (ad.add (j * 5)).off + 3, none⟩ = some (.slice (p j).1 (p j).2.1 (p j).2.2) ∧ w.cell? ⟨(ad.add (j * 5)).block, (ad.add (j * 5)).off + 4, none⟩ = some (.int .u64 (gg j)) ∧ Rd G w ls [.slice (p j).1 (p j).2.1 (p j).2.2] ((elt xs (j : Int)).fld 3)) ∧
      ∀ i x, xs[i]? = some x → ImOK x [.string ⟨⟨kb i⟩⟩, .int .i64 (tt' i), .int .i64 (cc i)] (.int .u64 (gg i)) ((elt xs (i : Int)).fld 3 |>.l.map fun d => .string ⟨⟨d.s⟩⟩) := by
  obtain ⟨a, xs', cap, e1, e2, hlc, hcm, hel⟩ := h
  cases e2
  injection e1 with e1
  subst e1
  have helt : ∀ (i : Nat) x, xs[i]? = some x → elt xs (i : Int) = x := fun i x hx => by simp [elt, List.getD, hx]
  have key : ∀ j, ∃ p : Option Addr × Nat × Nat, ∀ x, xs[j]? = some x → ∃ ad k t c ps g, a = some ad ∧ At G w (ad.add (j * 5)) [.string ⟨⟨k⟩⟩, .int .i64 t, .int .i64 c, .slice p.1 p.2.1 p.2.2, .int .u64 g] ∧ x = .agg [.str k, .int t, .int c, .list ps, .int g] ∧ p.2.1 = ps.length ∧
      k.length ≤ maxLen ∧ inR .i64 t ∧ inR .i64 c ∧ inR .u64 g ∧ (∀ p ∈ ps, ∃ b, p = .str b ∧ b.length ≤ maxLen) ∧ Rd G w ls [.slice p.1 p.2.1 p.2.2] (.list ps) := fun j => by
    cases hx : xs[j]? with
    | none => exact ⟨(none, 0, 0), fun x h => by cases h⟩
    | some x =>
      obtain ⟨ad, ys, e1, hat, hrd⟩ := hel j x hx
      obtain ⟨k, t, c, a', n, cap', ps, g, rfl, rfl, e3, h1, h2, h3, h4, h6⟩ := rd_im hrd
      have h5 : ∀ p ∈ ps, ∃ b, p = .str b ∧ b.length ≤ maxLen := by
        obtain ⟨ps', q1, q2⟩ := rd_strs h6
        cases q1; exact q2
      exact ⟨(a', n, cap'), fun y hy => by cases hy; exact ⟨ad, k, t, c, ps, g, e1, hat, rfl, e3, h1, h2, h3, h4, h5, h6⟩⟩
  obtain ⟨p, hp⟩ := Classical.skolem.1 key
  refine ⟨a, cap, fun j => ((elt xs (j : Int)).fld 0).s, fun j => ((elt xs (j : Int)).fld 1).i, fun j => ((elt xs (j : Int)).fld 2).i, fun j => ((elt xs (j : Int)).fld 4).i, p, rfl, fun j hj => ?_, fun j hj => ?_, fun i x hx => ?_⟩
  · obtain ⟨ad, k, t, c, ps, g, _, _, e3, e4, _⟩ := hp j xs[j] (List.getElem?_eq_getElem hj)
    have := hfit.2 xs[j] (List.getElem_mem hj)
    rw [e3] at this
    rw [e4]; unfold rl at this
    exact Nat.le_trans this (by decide)
  · obtain ⟨ad, k, t, c, ps, g, e1, hat, e3, e4, _, _, _, _, _, h6⟩ := hp j xs[j] (List.getElem?_eq_getElem hj)
    have he := helt j xs[j] (List.getElem?_eq_getElem hj)
    rw [e3] at he
    subst e1
    have c0 := hat 0 _ rfl
    have c1 := hat 1 _ rfl
    have c2 := hat 2 _ rfl
    have c3 := hat 3 _ rfl
    have c4 := hat 4 _ rfl
    rw [Addr.add_zero'] at c0
    refine ⟨ad, rfl, c0.1, ?_⟩
    simp only [he]
    exact ⟨c0.2, c1.2, c2.2, c3.2, c4.2, h6⟩
  · obtain ⟨ad, k, t, c, ps, g, e1, hat, rfl, e4, h1, h2, h3, h4, h5, h6⟩ := hp i x hx
    simp only [helt i _ hx]
    exact ⟨k, t, c, ps, g, rfl, rfl, rfl, rfl, h1, h2, h3, h4, h5⟩
theorem own_rd {G : Addr → Prop} {w : World} {N et : Nat} {e : Ty} {v : Value} {xs : List D} {cells : List Value} (h : w.ownsRow N et e.n v xs.length cells) (hr : RdL G w e cells xs) (hG : ∀ g, v.ownBlock = some g → ∀ a : Addr, a.block = g → G a) : Rd G w (.slice e) [v] (.list xs) := by
  have hown := h
  rcases h.2 with ⟨rfl, h0⟩ | ⟨g, cap, cur, rfl, _, _, hnc, hcm, _, _⟩
  · obtain rfl := List.length_eq_zero_iff.1 h0
    exact ⟨none, [], 0, rfl, rfl, Nat.le_refl _, Nat.zero_le _, fun i x hx => by simp at hx⟩
  · refine ⟨some ⟨g, 0, none⟩, xs, cap, rfl, rfl, hnc, hcm, fun i x hx => ?_⟩
    refine ⟨_, _, rfl, fun j v hj => ?_, hr.get hx⟩
    rw [List.getElem?_take] at hj
    split at hj
    · rw [List.getElem?_drop] at hj
      have := hown.cells (g := g) rfl (i * e.n + j) v hj
      refine ⟨hG g rfl _ (by rw [addr_block, addr_block]), ?_⟩
      have e1 : ((⟨g, 0, none⟩ : Addr).add (i * e.n)).add j = (⟨g, 0, none⟩ : Addr).add (i * e.n + j) := by
        unfold Addr.add
        repeat' split
        all_goals (first | (simp_all; done) | (simp_all; omega))
      rw [e1]; exact this
    · cases hj
theorem ownsRow_set {w : World} {N e size g n cv j : Nat} {cells : List Value} (h : w.ownsRow N e size (.slice (some ⟨g, 0, none⟩) n cv) n cells) (hj : j < n * size) (u : Value) : (w.setCell ⟨g, j, none⟩ u).ownsRow N e size (.slice (some ⟨g, 0, none⟩) n cv) n (cells.set j u) := by
  rcases h.2 with ⟨h0, _⟩ | ⟨g', cap, cur, hv, hb, hg, h1, h2, h3, h4⟩
  · cases h0
  · cases hv
    refine ⟨by rw [List.length_set]; exact h.1, .inr ⟨g, cv, cur.setIfInBounds j u, rfl, hb, heap_setCell_same _ _ _ _ _ _ hg, h1, h2, by simp [h3], ?_⟩⟩
    rw [Array.toList_setIfInBounds, List.take_set, h4]
theorem flat_len {F : Nat → List Value} {Q H : Nat → Value} : ∀ {k : Nat}, (∀ i, i < k → (F i).length = 3) → ((List.range k).flatMap fun i => F i ++ [Q i, H i]).length = k * 5
  | 0, _ => rfl
  | k + 1, h => by
    rw [rangeMap_succ, List.length_append, flat_len fun i hi => h i (by omega), List.length_append, h k (by omega)]
    simp; omega
theorem flat_set {F : Nat → List Value} {Q H : Nat → Value} {q : Value} {j : Nat} : ∀ {k : Nat}, (∀ i, i < k → (F i).length = 3) → j < k → (((List.range k).flatMap fun i => F i ++ [Q i, H i]).set (j * 5 + 3) q) = (List.range k).flatMap fun i => F i ++ [if i = j then q else Q i, H i]
  | 0, _, h => by omega
  | k + 1, h, hj => by
    have hl := flat_len (Q := Q) (H := H) (F := F) (k := k) fun i hi => h i (by omega)
    rw [rangeMap_succ, rangeMap_succ]
    by_cases e : j = k
    · subst e
      rw [List.set_append_right _ _ (by rw [hl]; omega), hl, if_pos rfl]
      congr 1
      · rw [List.flatMap_def, List.flatMap_def]
        exact congrArg _ (List.map_congr_left fun i hi => by rw [if_neg (by have := List.mem_range.1 hi; omega)])
      · rw [List.set_append_right _ _ (by rw [h j (by omega)]; omega), h j (by omega)]
        rw [show j * 5 + 3 - j * 5 - 3 = 0 by omega]; rfl
    · rw [List.set_append_left _ _ (by rw [hl]; omega), flat_set (fun i hi => h i (by omega)) (by omega), if_neg (by omega)]
theorem flat_get {F : Nat → List Value} {Q H : Nat → Value} {j : Nat} : ∀ {k : Nat}, (∀ i, i < k → (F i).length = 3) → j < k → ((List.range k).flatMap fun i => F i ++ [Q i, H i])[j * 5 + 3]? = some (Q j)
  | 0, _, h => by omega
  | k + 1, h, hj => by
    have hl := flat_len (Q := Q) (H := H) (F := F) (k := k) fun i hi => h i (by omega)
    rw [rangeMap_succ]
    by_cases e : j = k
    · subst e
      rw [List.getElem?_append_right (by rw [hl]; omega), hl, List.getElem?_append_right (by rw [h j (by omega)]; omega), h j (by omega), show j * 5 + 3 - j * 5 - 3 = 0 by omega]
      rfl
    · rw [List.getElem?_append_left (by rw [hl]; omega), flat_get (fun i hi => h i (by omega)) (by omega)]
theorem slice_of_own {w : World} {N e size n : Nat} {v : Value} {xs : List Value} (h : w.ownsRow N e size v n xs) : ∃ a m c, v = .slice a m c := by
  rcases h.2 with ⟨e, _⟩ | ⟨_, _, _, e, _⟩
  · exact ⟨_, _, _, e⟩
  · exact ⟨_, _, _, e⟩
/-- The world's part of "out[k].Proofs = append(out[k].Proofs, id)". -/
theorem prove_tail {w1 : World} {N n k : Nat} {v : Value} {F X : Nat → List Value} {Q H : Nat → Value} {id : List UInt8} (hD : DeepAt w1 N v n F Q H X) (hF : ∀ i, i < n → (F i).length = 3) (hk : k < n) (hX : (X k).length ≤ 100000) (hN : N ≤ w1.heap.size) :
    ∃ g cv qa qn qc, v = .slice (some ⟨g, 0, none⟩) n cv ∧ w1.cell? ⟨g, k * 5 + 3, none⟩ = some (.slice qa qn qc) ∧ g < w1.heap.size ∧
      ∃ v' w2, (Builtin.append_ #[22, 22] 22 #[.slice qa qn qc, .slice (some ⟨w1.heap.size, 0, none⟩) 1 1]).run Tryd.prog (w1.alloc (.cells #[.string ⟨⟨id⟩⟩] 9 (0, 0))) = .ok v' w2 ∧
        ∃ pa pn pc, v' = .slice pa pn pc ∧ w2.cell? ⟨g, k * 5 + 3, none⟩ = some (.slice qa qn qc) ∧ w2.frozen? ⟨g, k * 5 + 3, none⟩ = false ∧
          Keep ((∃ Q', DeepAt (w2.setCell ⟨g, k * 5 + 3, none⟩ (.slice pa pn pc)) N v n F Q' H (fun i => if i = k then X k ++ [.string ⟨⟨id⟩⟩] else X i)) ∧ Below N w1 (w2.setCell ⟨g, k * 5 + 3, none⟩ (.slice pa pn pc))) := by
  obtain ⟨g, cv, rfl, hNg, hg⟩ := hD.own.form (by omega)
  obtain ⟨qa, qn, qc, hq⟩ := slice_of_own (hD.sub k hk)
  have hge : w1.cell? ⟨g, k * 5 + 3, none⟩ = some (.slice qa qn qc) := by
    have := hD.own.cells (g := g) rfl (k * 5 + 3) (Q k) (flat_get hF hk)
    rw [Addr.add_lit, Nat.zero_add] at this
    rw [← hq]
    exact this
  refine ⟨g, cv, qa, qn, qc, rfl, hge, hg, ?_⟩
  obtain ⟨W1, hW1⟩ : ∃ W1, W1 = w1.alloc (.cells #[.string ⟨⟨id⟩⟩] 9 (0, 0)) := ⟨_, rfl⟩
  rw [← hW1]
  have hs1 : W1.heap.size = w1.heap.size + 1 := by rw [hW1]; simp
  have h1o : ∀ i, i < w1.heap.size → W1.heap[i]? = w1.heap[i]? := fun i hi => by rw [hW1, heap_alloc_old _ _ hi]
  have h1n : W1.heap[w1.heap.size]? = some (.cells #[.string ⟨⟨id⟩⟩] 9 (0, 0)) := by rw [hW1, heap_alloc_new]
  obtain ⟨i, hi, hsz, hby, hz⟩ := info_of tt_ok (t := 9) (ti := ⟨.str, .str, 16⟩) (by kernel_rfl)
  have hsub1 : W1.ownsRow N 9 1 (Q k) (X k).length (X k) := ownsRow_keep (hD.sub k hk) fun b hb => h1o b ((hD.sub k hk).lt b hb).2
  obtain ⟨v', w2, hrun, g1, g2, g3⟩ := append_own2 (P := Tryd.prog) W1 N 22 22 9 i (Ty.str.val Ty.str.zeroV) 1 16 Tryd.underlying22 hi hz hsz hby (by rfl) (by decide) (Q k) (X k).length (X k) hsub1 ⟨w1.heap.size, 0, none⟩ 1 1 [.string ⟨⟨id⟩⟩] rfl
    (fun j u hj => by
      have hj0 : j = 0 := by
        cases j with
        | zero => rfl
        | succ j => simp at hj
      subst hj0
      simp only [List.getElem?_cons_zero, Option.some.injEq] at hj
      subst hj
      rw [Addr.add_zero']
      simp [World.cell?, h1n])
    (fun u hu => by rw [List.mem_singleton.1 hu]; rfl)
    (by unfold maxLen; omega) (by omega) (by omega)
  obtain ⟨pa, pn, pc, rfl⟩ := slice_of_own g1
  have hgq : ∀ b, (Q k).ownBlock = some b → b ≠ g := fun b hb e => (hD.dis k hk b hb).1 (by rw [e]; rfl)
  have hblk : w2.heap[g]? = w1.heap[g]? := by
    rw [g2.block g (by omega) (fun e => hgq g e.symm rfl), h1o g hg]
  have hown2 : w2.ownsRow N 25 5 (.slice (some ⟨g, 0, none⟩) n cv) n _ := ownsRow_keep hD.own fun b hb => by
    have : b = g := by simp [Value.ownBlock] at hb; exact hb.symm
    rw [this]; exact hblk
  have hset := ownsRow_set hown2 (j := k * 5 + 3) (by omega) (.slice pa pn pc)
  rw [flat_set hF hk] at hset
  refine ⟨_, w2, by rw [← hq]; exact hrun, pa, pn, pc, rfl, ?_, ?_, ⟨⟨fun i => if i = k then .slice pa pn pc else Q i, hset, fun i hi => ?_, fun i hi b hb => ?_⟩, ?_⟩⟩
  · rw [← hge]; exact World.cell?_of_block (w := w1) hblk
  · have hfr : w2.frozen? ⟨g, k * 5 + 3, none⟩ = w1.frozen? ⟨g, k * 5 + 3, none⟩ := World.frozen?_of_block (w := w1) hblk
    rw [hfr]
    rcases hD.own.2 with ⟨h0, _⟩ | ⟨g', cap, cur, hv, _, hg', _⟩
    · cases h0
    · cases hv
      exact frozen_of_row _ _ _ _ _ hg'
  · by_cases e : i = k
    · subst e
      simp only [↓reduceIte]
      rw [List.length_append]
      refine ownsRow_setCell_other g1 ?_ _
      intro h
      rcases g3 g h with h1 | h1
      · exact hgq g h1 rfl
      · omega
    · simp only [if_neg e]
      refine ownsRow_setCell_other (ownsRow_keep (hD.sub i hi) fun b hb => ?_) (fun h => (hD.dis i hi g h).1 rfl) _
      have hlt := ((hD.sub i hi).lt b hb).2
      rw [g2.block b (by omega) (fun h => (hD.dis i hi b hb).2 k hk (by omega) h.symm), h1o b hlt]
  · have hw2s := g2.size
    by_cases e : i = k
    · subst e
      simp only [↓reduceIte] at hb
      refine ⟨fun h => ?_, fun j hj hne => ?_⟩
      · have : g = b := by simpa [Value.ownBlock] using h
        subst this
        rcases g3 g hb with h1 | h1
        · exact hgq g h1 rfl
        · omega
      · simp only [if_neg hne]
        intro h
        rcases g3 b hb with h1 | h1
        · exact (hD.dis i hi b h1).2 j hj hne h
        · have := ((hD.sub j hj).lt b h).2; omega
    · simp only [if_neg e] at hb
      refine ⟨(hD.dis i hi b hb).1, fun j hj hne => ?_⟩
      by_cases e2 : j = k
      · subst e2
        simp only [↓reduceIte]
        intro h
        rcases g3 b h with h1 | h1
        · exact (hD.dis i hi b hb).2 j hj hne h1
        · have := ((hD.sub i hi).lt b hb).2; omega
      · simp only [if_neg e2]
        exact (hD.dis i hi b hb).2 j hj hne
  · have b1 : Below N w1 W1 := by rw [hW1]; exact (Below.refl N w1).alloc hN _
    exact (b1.grown g2 (by omega) (fun b hb => (hsub1.lt b hb).1)).setCell (p := ⟨g, k * 5 + 3, none⟩) hNg _
end Go.Proofs.YtafpahkcjdfpiaaDoor
