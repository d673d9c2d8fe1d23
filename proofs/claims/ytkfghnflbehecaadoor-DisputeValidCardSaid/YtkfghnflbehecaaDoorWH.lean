/- Part of the proof of the laws of this seat: contracts of its functions, for every input. -/
import Derived.Test.YtkfghnflbehecaaDoorWJ
import Derived.WalkKit
import Derived.LoopTactic
set_option linter.all false
namespace Go.Proofs.YtkfghnflbehecaaDoor
open Go Go.RX Go.Proofs Go.RowKit
set_option linter.all false
set_option maxRecDepth 1000000
def vInt : Value → Int
  | .int _ n => n
  | _ => 0
/-- A fact that the walk shall not use. -/
structure Keep (p : Prop) : Prop where
  out : p
def ls : Ty := .slice .str
def disT : Ty := .pair .str (.pair i64 (.pair i64 (.pair i64 (.pair ls .unit))))
def ldi : Ty := .slice disT
/-- An append whose run is known. -/
theorem wpList_app (w : World) {ops : Array Oper} {rest : List Oper} {o : Oper} {a : Act} {Q : Exit → Act → World → Prop} (hgd : o.guard = none) (s x : Operand) (t t' : TypeId)
    (ho : o.op = .call { callee := .builtin .append, args := #[s, x], argTypes := #[t, t'] }) (v u : Value) (hs : a.eval s = v) (hx : a.eval x = u)
    (R : Value → World → Prop) (hr : ∃ v' w', (Builtin.append_ #[t, t'] o.type #[v, u]).run Tryd.prog w = .ok v' w' ∧ R v' w')
    (h : ∀ v' w', R v' w' → wpList Tryd.prog ops Q rest (a.put o.dst v') w') : wpList Tryd.prog ops Q (o :: rest) a w := by
  obtain ⟨v', w', hrun, hR⟩ := hr
  refine wpList_plain hgd fun _ hK => ?_
  refine wp_value (w' := w') (v := v') ?_ (hK _ _ (h v' w' hR))
  simp only [execOp, ho, resolve, invoke, builtin, Sem.run_bind, Sem.run_pure, Result.andThen_ok, List.map_toArray, List.map_cons, List.map_nil, hs, hx, hrun]
/-- The source of an append, out of data. -/
theorem src_of {G : Addr → Prop} {w : World} {e : Ty} {P : Program} {u : TypeId} {v : Value} {d : D} (h : Rd G w (.slice e) [v] d) : ∃ E : Env, E.G = G ∧ Src E w e d.l P u v := by
  obtain ⟨a, xs, cap, h1, rfl, h2, h3, hel⟩ := h
  cases h1
  refine ⟨{ bm := fun _ => 0, hd := fun _ => undef, G := G, G0 := G }, rfl, ?_⟩
  cases a with
  | none =>
    cases xs with
    | nil => exact .inr (.inl ⟨cap, rfl, rfl⟩)
    | cons x xs => obtain ⟨b, _, hb, _⟩ := hel 0 x (by simp); cases hb
  | some a =>
    obtain ⟨cells, c1, c2⟩ := RdL.of_at (G := G) (w := w) (e := e) (G1 := fun _ => True) (a := a) (xs := xs) (k := 0) (fun i x hx => by
      obtain ⟨b, ys, hb, hat, hrd⟩ := hel i x hx
      cases hb
      exact ⟨ys, fun j u hu => ⟨trivial, by rw [Nat.zero_add]; exact (hat j u hu).2⟩, hrd⟩)
    refine .inl ⟨a, cap, cells, rfl, c1, fun j c hj => ?_⟩
    have := (c2 j c hj).2
    simpa [Addr.add_zero'] using this
/-- An append onto a row of the call's own: where the new row lies. -/
theorem append_own2 {P : Program} (w : World) (base : Nat) (u ty et : TypeId) (i : TypeInfo) (z : Value) (size bytes : Nat) (hut : P.underlying u = some (.slice et)) (hi : P.info? et = some i) (hz : i.zero = some z) (hsz : i.size = size) (hby : i.bytes = bytes) (hzs : z.cells.size = size) (h0 : 0 < size)
    (v : Value) (n : Nat) (cells : List Value) (hown : w.ownsRow base et size v n cells) (a : Addr) (m cap : Nat) (news : List Value) (hl : news.length = m * size) (hat : ∀ j u, news[j]? = some u → w.cell? (a.add j) = some u) (h1 : ∀ u ∈ news, u.oneCell' = true)
    (h63 : n + m ≤ maxLen) (hbytes : (n + m) * bytes ≤ 140737488355328) (hbase : base ≤ w.heap.size) :
    ∃ v' w', (Builtin.append_ #[u, u] ty #[v, .slice (some a) m cap]).run P w = .ok v' w' ∧ w'.ownsRow base et size v' (n + m) (cells ++ news) ∧ w.grownBy w' v.ownBlock ∧ (∀ g, v'.ownBlock = some g → v.ownBlock = some g ∨ w.heap.size ≤ g) := by
  obtain ⟨v', w', hrun, hh1, hh2, hh5⟩ := run_append_own (P := P) w base u ty et i z size bytes hut hi hz hsz hby hzs h0 v n cells hown a m cap news hl hat h1 h63 hbytes hbase
  refine ⟨v', w', hrun, hh1, hh2, fun g hg => ?_⟩
  rcases hown.2 with ⟨rfl, hx⟩ | ⟨g0, cap0, cur, rfl, hbg, hgh, hnc, hcm, hcs, htake⟩
  · by_cases hlt : g < w.heap.size
    · exfalso
      by_cases hm : m = 0
      · have := hh5.2 ⟨rfl, hm⟩
        subst this
        simp [Value.ownBlock] at hg
      · have hr2 := run_append_nil (P := P) w u ty et i z hut hi hz a m cap news (by rw [hsz]; exact hl) hat (by omega) (by simp [maxLen] at h63; omega) (by rw [hby]; rw [hx] at hbytes; simp at hbytes; omega)
        rw [hrun] at hr2
        cases hr2
        simp [Value.ownBlock] at hg
        omega
    · exact .inr (by omega)
  · by_cases hroom : n + m ≤ cap0
    · have hr2 := run_append_room (P := P) w u ty et i hut hi g0 n cap0 cur hgh a m cap news (by rw [hsz]; exact hl) hat h1 hroom (by rw [hsz, hl, hcs, ← Nat.add_mul]; exact Nat.mul_le_mul_right _ hroom)
      rw [hrun] at hr2
      cases hr2
      exact .inl hg
    · have holds : ∀ j u, cells[j]? = some u → w.cell? ((⟨g0, 0, none⟩ : Addr).add j) = some u := hown.cells (g := g0) rfl
      have hr2 := run_append_grow (P := P) w u ty et i z hut hi hz ⟨g0, 0, none⟩ n cap0 cells (by rw [hsz]; exact hown.1) holds a m cap news (by rw [hsz]; exact hl) hat (by omega) (by simp [maxLen] at h63; omega)
        (growslice_fits (by omega) (by rw [hby]; exact hbytes))
      rw [hrun] at hr2
      cases hr2
      simp [Value.ownBlock] at hg
      exact .inr (by omega)
/-- A list of structs whose last field is a slice that nobody else has. -/
structure DeepAt (w : World) (N : Nat) (v : Value) (k : Nat) (F : Nat → List Value) (Q : Nat → Value) (X : Nat → List Value) : Prop where
  own : w.ownsRow N 40 5 v k ((List.range k).flatMap fun i => F i ++ [Q i])
  sub : ∀ i, i < k → w.ownsRow N 9 1 (Q i) (X i).length (X i)
  dis : ∀ i, i < k → ∀ g, (Q i).ownBlock = some g → v.ownBlock ≠ some g ∧ ∀ j, j < k → j ≠ i → (Q j).ownBlock ≠ some g
theorem DeepAt.nil (w : World) (N : Nat) (F : Nat → List Value) (Q : Nat → Value) (X : Nat → List Value) : DeepAt w N (.slice none 0 0) 0 F Q X :=
  ⟨World.ownsRow_nil w _ _ _, fun i h => by omega, fun i h => by omega⟩
theorem ownsRow_keep {w w' : World} {base e size n : Nat} {v : Value} {xs : List Value} (h : w.ownsRow base e size v n xs) (hk : ∀ g, v.ownBlock = some g → w'.heap[g]? = w.heap[g]?) : w'.ownsRow base e size v n xs := by
  refine ⟨h.1, ?_⟩
  rcases h.2 with h1 | ⟨g, cap, cur, h1, h2, h3, h4⟩
  · exact .inl h1
  · exact .inr ⟨g, cap, cur, h1, h2, by rw [hk g (by rw [h1]; rfl)]; exact h3, h4⟩
theorem DeepAt.keep {w w' : World} {N k : Nat} {v : Value} {F : Nat → List Value} {Q : Nat → Value} {X : Nat → List Value} (h : DeepAt w N v k F Q X) (hk : ∀ g, g < w.heap.size → w'.heap[g]? = w.heap[g]?) : DeepAt w' N v k F Q X :=
  ⟨ownsRow_keep h.own fun g hg => hk g (h.own.lt g hg).2, fun i hi => ownsRow_keep (h.sub i hi) fun g hg => hk g ((h.sub i hi).lt g hg).2, h.dis⟩
theorem rangeMap_succ {k : Nat} {f : Nat → List Value} : (List.range (k + 1)).flatMap f = (List.range k).flatMap f ++ f k := by simp [List.range_succ, List.flatMap_append]
/-- One struct more. -/
theorem DeepAt.snoc {w w1 w2 : World} {N k : Nat} {v v' q : Value} {F : Nat → List Value} {Q : Nat → Value} {X : Nat → List Value} (h : DeepAt w N v k F Q X) (hk1 : ∀ g, g < w.heap.size → w1.heap[g]? = w.heap[g]?) (hs1 : w.heap.size ≤ w1.heap.size)
    (hQ : Q k = q) (hq : w1.ownsRow N 9 1 q (X k).length (X k)) (hqb : ∀ g, q.ownBlock = some g → w.heap.size ≤ g)
    (ho : w2.ownsRow N 40 5 v' (k + 1) ((List.range k).flatMap (fun i => F i ++ [Q i]) ++ (F k ++ [q]))) (hg : w1.grownBy w2 v.ownBlock) (hv : ∀ g, v'.ownBlock = some g → v.ownBlock = some g ∨ w1.heap.size ≤ g) :
    DeepAt w2 N v' (k + 1) F Q X := by
  have hvlt : ∀ g, v.ownBlock = some g → g < w.heap.size := fun g hh => (h.own.lt g hh).2
  have hq2 : ∀ g, q.ownBlock = some g → w1.heap.size > g := fun g hh => (hq.lt g hh).2
  have keepsub : ∀ i, i < k → w2.ownsRow N 9 1 (Q i) (X i).length (X i) := fun i hi => by
    refine ownsRow_keep (h.sub i hi) fun g hgg => ?_
    have hlt := ((h.sub i hi).lt g hgg).2
    rw [hg.block g (by omega) (fun e => (h.dis i hi g hgg).1 e.symm), hk1 g hlt]
  have keepq : w2.ownsRow N 9 1 q (X k).length (X k) := ownsRow_keep hq fun g hgg => by
    rw [hg.block g (hq2 g hgg) (fun e => by have := hvlt g e.symm; have := hqb g hgg; omega)]
  refine ⟨by rw [rangeMap_succ, hQ]; exact ho, fun i hi => ?_, fun i hi g hgg => ⟨fun e => ?_, fun j hj hne e => ?_⟩⟩
  · rcases Nat.lt_succ_iff_lt_or_eq.1 hi with h1 | rfl
    · exact keepsub i h1
    · rw [hQ]; exact keepq
  · rcases Nat.lt_succ_iff_lt_or_eq.1 hi with h1 | rfl
    · have hlt := ((h.sub i h1).lt g hgg).2
      rcases hv g e with h2 | h2
      · exact (h.dis i h1 g hgg).1 h2
      · omega
    · rw [hQ] at hgg
      rcases hv g e with h2 | h2
      · have := hvlt g h2; have := hqb g hgg; omega
      · have := hq2 g hgg; omega
  · rcases Nat.lt_succ_iff_lt_or_eq.1 hi with h1 | rfl <;> rcases Nat.lt_succ_iff_lt_or_eq.1 hj with h2 | rfl
    · exact (h.dis i h1 g hgg).2 j h2 hne e
    · rw [hQ] at e
      have := ((h.sub i h1).lt g hgg).2; have := hqb g e; omega
    · rw [hQ] at hgg
      have := ((h.sub j h2).lt g e).2; have := hqb g hgg; omega
    · exact hne rfl
theorem DeepAt.congr {w : World} {N k : Nat} {v : Value} {F : Nat → List Value} {Q Q' : Nat → Value} {X : Nat → List Value} (h : DeepAt w N v k F Q X) (hQ : ∀ i, i < k → Q' i = Q i) : DeepAt w N v k F Q' X := by
  have e : (List.range k).flatMap (fun i => F i ++ [Q' i]) = (List.range k).flatMap (fun i => F i ++ [Q i]) := by
    rw [List.flatMap_def, List.flatMap_def, List.map_congr_left fun i hi => by rw [hQ i (List.mem_range.1 hi)]]
  exact ⟨by rw [e]; exact h.own, fun i hi => by rw [hQ i hi]; exact h.sub i hi, fun i hi g hg => by
    rw [hQ i hi] at hg
    exact ⟨(h.dis i hi g hg).1, fun j hj hne => by rw [hQ j hj]; exact (h.dis i hi g hg).2 j hj hne⟩⟩
end Go.Proofs.YtkfghnflbehecaaDoor
