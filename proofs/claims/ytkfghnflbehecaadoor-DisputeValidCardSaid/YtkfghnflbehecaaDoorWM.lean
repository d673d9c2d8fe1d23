/- Part of the proof of the laws of this seat: contracts of its functions, for every input. -/
import Derived.Test.YtkfghnflbehecaaDoorWL
import Derived.Deep.AppendLies
set_option linter.all false
namespace Go.Proofs.YtkfghnflbehecaaDoor
open Go Go.RX Go.Proofs Go.RowKit
set_option linter.all false
set_option maxRecDepth 1000000
set_option maxHeartbeats 400000
theorem own_rd {G : Addr → Prop} {w : World} {N et : Nat} {e : Ty} {v : Value} {xs : List D} {cells : List Value} (h : w.ownsRow N et e.n v xs.length cells) (hr : RdL G w e cells xs) (hG : ∀ g, v.ownBlock = some g → ∀ a : Addr, a.block = g → G a) : Rd G w (.slice e) [v] (.list xs) := by
  have hown := h
  rcases h.2 with ⟨rfl, h0⟩ | ⟨g, cap, cur, rfl, _, _, hnc, hcm, _, _⟩
  · obtain rfl := List.length_eq_zero_iff.1 h0
    exact ⟨none, [], 0, rfl, rfl, Nat.le_refl _, Nat.zero_le _, fun i x hx => by simp at hx⟩
  · refine ⟨some ⟨g, 0, none⟩, xs, cap, rfl, rfl, hnc, hcm, fun i x hx => ?_⟩
    refine ⟨_, _, rfl, fun j v hj => ?_, hr.get hx⟩
    rw [List.getElem?_take] at hj
    split at hj
    · rw [List.getElem?_drop] at hj
      have := hown.cells (g := g) rfl (i * e.n + j) v hj
      refine ⟨hG g rfl _ (by rw [addr_block, addr_block]), ?_⟩
      have e1 : ((⟨g, 0, none⟩ : Addr).add (i * e.n)).add j = (⟨g, 0, none⟩ : Addr).add (i * e.n + j) := by
        unfold Addr.add
        repeat' split
        all_goals (first | (simp_all; done) | (simp_all; omega))
      rw [e1]; exact this
    · cases hj
theorem ownsRow_set {w : World} {N e size g n cv j : Nat} {cells : List Value} (h : w.ownsRow N e size (.slice (some ⟨g, 0, none⟩) n cv) n cells) (hj : j < n * size) (u : Value) : (w.setCell ⟨g, j, none⟩ u).ownsRow N e size (.slice (some ⟨g, 0, none⟩) n cv) n (cells.set j u) := by
  rcases h.2 with ⟨h0, _⟩ | ⟨g', cap, cur, hv, hb, hg, h1, h2, h3, h4⟩
  · cases h0
  · cases hv
    refine ⟨by rw [List.length_set]; exact h.1, .inr ⟨g, cv, cur.setIfInBounds j u, rfl, hb, heap_setCell_same _ _ _ _ _ _ hg, h1, h2, by simp [h3], ?_⟩⟩
    rw [Array.toList_setIfInBounds, List.take_set, h4]
theorem flat_len {F : Nat → List Value} {Q : Nat → Value} : ∀ {k : Nat}, (∀ i, i < k → (F i).length = 4) → ((List.range k).flatMap fun i => F i ++ [Q i]).length = k * 5
  | 0, _ => rfl
  | k + 1, h => by
    rw [rangeMap_succ, List.length_append, flat_len fun i hi => h i (by omega), List.length_append, h k (by omega)]
    simp; omega
theorem flat_set {F : Nat → List Value} {Q : Nat → Value} {q : Value} {j : Nat} : ∀ {k : Nat}, (∀ i, i < k → (F i).length = 4) → j < k → (((List.range k).flatMap fun i => F i ++ [Q i]).set (j * 5 + 4) q) = (List.range k).flatMap fun i => F i ++ [if i = j then q else Q i]
  | 0, _, h => by omega
  | k + 1, h, hj => by
    have hl := flat_len (Q := Q) (F := F) (k := k) fun i hi => h i (by omega)
    rw [rangeMap_succ, rangeMap_succ]
    by_cases e : j = k
    · subst e
      rw [List.set_append_right _ _ (by rw [hl]; omega), hl, if_pos rfl]
      congr 1
      · rw [List.flatMap_def, List.flatMap_def]
        exact congrArg _ (List.map_congr_left fun i hi => by rw [if_neg (by have := List.mem_range.1 hi; omega)])
      · rw [List.set_append_right _ _ (by rw [h j (by omega)]; omega), h j (by omega)]
        rw [show j * 5 + 4 - j * 5 - 4 = 0 by omega]; rfl
    · rw [List.set_append_left _ _ (by rw [hl]; omega), flat_set (fun i hi => h i (by omega)) (by omega), if_neg (by omega)]
theorem flat_get {F : Nat → List Value} {Q : Nat → Value} {j : Nat} : ∀ {k : Nat}, (∀ i, i < k → (F i).length = 4) → j < k → ((List.range k).flatMap fun i => F i ++ [Q i])[j * 5 + 4]? = some (Q j)
  | 0, _, h => by omega
  | k + 1, h, hj => by
    have hl := flat_len (Q := Q) (F := F) (k := k) fun i hi => h i (by omega)
    rw [rangeMap_succ]
    by_cases e : j = k
    · subst e
      rw [List.getElem?_append_right (by rw [hl]; omega), hl, List.getElem?_append_right (by rw [h j (by omega)]; omega), h j (by omega), show j * 5 + 4 - j * 5 - 4 = 0 by omega]
      rfl
    · rw [List.getElem?_append_left (by rw [hl]; omega), flat_get (fun i hi => h i (by omega)) (by omega)]
theorem slice_of_own {w : World} {N e size n : Nat} {v : Value} {xs : List Value} (h : w.ownsRow N e size v n xs) : ∃ a m c, v = .slice a m c := by
  rcases h.2 with ⟨e, _⟩ | ⟨_, _, _, e, _⟩
  · exact ⟨_, _, _, e⟩
  · exact ⟨_, _, _, e⟩
/-- The world's part of "out[k].Proofs = append(out[k].Proofs, id)". -/
theorem prove_tail {w1 : World} {N n k : Nat} {v : Value} {F X : Nat → List Value} {Q : Nat → Value} {id : List UInt8} (hD : DeepAt w1 N v n F Q X) (hF : ∀ i, i < n → (F i).length = 4) (hk : k < n) (hX : (X k).length ≤ 100000) (hN : N ≤ w1.heap.size) :
    ∃ g cv qa qn qc, v = .slice (some ⟨g, 0, none⟩) n cv ∧ w1.cell? ⟨g, k * 5 + 4, none⟩ = some (.slice qa qn qc) ∧ g < w1.heap.size ∧
      ∃ v' w2, (Builtin.append_ #[38, 38] 38 #[.slice qa qn qc, .slice (some ⟨w1.heap.size, 0, none⟩) 1 1]).run Tryd.prog (w1.alloc (.cells #[.string ⟨⟨id⟩⟩] 9 (0, 0))) = .ok v' w2 ∧
        ∃ pa pn pc, v' = .slice pa pn pc ∧ w2.cell? ⟨g, k * 5 + 4, none⟩ = some (.slice qa qn qc) ∧ w2.frozen? ⟨g, k * 5 + 4, none⟩ = false ∧
          Keep ((∃ Q', DeepAt (w2.setCell ⟨g, k * 5 + 4, none⟩ (.slice pa pn pc)) N v n F Q' (fun i => if i = k then X k ++ [.string ⟨⟨id⟩⟩] else X i)) ∧ Below N w1 (w2.setCell ⟨g, k * 5 + 4, none⟩ (.slice pa pn pc))) := by
  obtain ⟨g, cv, rfl, hNg, hg⟩ := hD.own.form (by omega)
  obtain ⟨qa, qn, qc, hq⟩ := slice_of_own (hD.sub k hk)
  have hge : w1.cell? ⟨g, k * 5 + 4, none⟩ = some (.slice qa qn qc) := by
    have := hD.own.cells (g := g) rfl (k * 5 + 4) (Q k) (flat_get hF hk)
    rw [Addr.add_lit, Nat.zero_add] at this
    rw [← hq]
    exact this
  refine ⟨g, cv, qa, qn, qc, rfl, hge, hg, ?_⟩
  obtain ⟨W1, hW1⟩ : ∃ W1, W1 = w1.alloc (.cells #[.string ⟨⟨id⟩⟩] 9 (0, 0)) := ⟨_, rfl⟩
  rw [← hW1]
  have hs1 : W1.heap.size = w1.heap.size + 1 := by rw [hW1]; simp
  have h1o : ∀ i, i < w1.heap.size → W1.heap[i]? = w1.heap[i]? := fun i hi => by rw [hW1, heap_alloc_old _ _ hi]
  have h1n : W1.heap[w1.heap.size]? = some (.cells #[.string ⟨⟨id⟩⟩] 9 (0, 0)) := by rw [hW1, heap_alloc_new]
  obtain ⟨i, hi, hsz, hby, hz⟩ := info_of tt_ok (t := 9) (ti := ⟨.str, .str, 16⟩) (by kernel_rfl)
  have hsub1 : W1.ownsRow N 9 1 (Q k) (X k).length (X k) := ownsRow_keep (hD.sub k hk) fun b hb => h1o b ((hD.sub k hk).lt b hb).2
  obtain ⟨v', w2, hrun, g1, g2, g3⟩ := append_own2 (P := Tryd.prog) W1 N 38 38 9 i (Ty.str.val Ty.str.zeroV) 1 16 Tryd.underlying38 hi hz hsz hby (by rfl) (by decide) (Q k) (X k).length (X k) hsub1 ⟨w1.heap.size, 0, none⟩ 1 1 [.string ⟨⟨id⟩⟩] rfl
    (fun j u hj => by
      have hj0 : j = 0 := by
        cases j with
        | zero => rfl
        | succ j => simp at hj
      subst hj0
      simp only [List.getElem?_cons_zero, Option.some.injEq] at hj
      subst hj
      rw [Addr.add_zero']
      simp [World.cell?, h1n])
    (fun u hu => by rw [List.mem_singleton.1 hu]; rfl)
    (by unfold maxLen; omega) (by omega) (by omega)
  obtain ⟨pa, pn, pc, rfl⟩ := slice_of_own g1
  have hgq : ∀ b, (Q k).ownBlock = some b → b ≠ g := fun b hb e => (hD.dis k hk b hb).1 (by rw [e]; rfl)
  have hblk : w2.heap[g]? = w1.heap[g]? := by
    rw [g2.block g (by omega) (fun e => hgq g e.symm rfl), h1o g hg]
  have hown2 : w2.ownsRow N 40 5 (.slice (some ⟨g, 0, none⟩) n cv) n _ := ownsRow_keep hD.own fun b hb => by
    have : b = g := by simp [Value.ownBlock] at hb; exact hb.symm
    rw [this]; exact hblk
  have hset := ownsRow_set hown2 (j := k * 5 + 4) (by omega) (.slice pa pn pc)
  rw [flat_set hF hk] at hset
  refine ⟨_, w2, by rw [← hq]; exact hrun, pa, pn, pc, rfl, ?_, ?_, ⟨⟨fun i => if i = k then .slice pa pn pc else Q i, hset, fun i hi => ?_, fun i hi b hb => ?_⟩, ?_⟩⟩
  · rw [← hge]; exact World.cell?_of_block (w := w1) hblk
  · have hfr : w2.frozen? ⟨g, k * 5 + 4, none⟩ = w1.frozen? ⟨g, k * 5 + 4, none⟩ := World.frozen?_of_block (w := w1) hblk
    rw [hfr]
    rcases hD.own.2 with ⟨h0, _⟩ | ⟨g', cap, cur, hv, _, hg', _⟩
    · cases h0
    · cases hv
      exact frozen_of_row _ _ _ _ _ hg'
  · by_cases e : i = k
    · subst e
      simp only [↓reduceIte]
      rw [List.length_append]
      refine ownsRow_setCell_other g1 ?_ _
      intro h
      rcases g3 g h with h1 | h1
      · exact hgq g h1 rfl
      · omega
    · simp only [if_neg e]
      refine ownsRow_setCell_other (ownsRow_keep (hD.sub i hi) fun b hb => ?_) (fun h => (hD.dis i hi g h).1 rfl) _
      have hlt := ((hD.sub i hi).lt b hb).2
      rw [g2.block b (by omega) (fun h => (hD.dis i hi b hb).2 k hk (by omega) h.symm), h1o b hlt]
  · have hw2s := g2.size
    by_cases e : i = k
    · subst e
      simp only [↓reduceIte] at hb
      refine ⟨fun h => ?_, fun j hj hne => ?_⟩
      · have : g = b := by simpa [Value.ownBlock] using h
        subst this
        rcases g3 g hb with h1 | h1
        · exact hgq g h1 rfl
        · omega
      · simp only [if_neg hne]
        intro h
        rcases g3 b hb with h1 | h1
        · exact (hD.dis i hi b h1).2 j hj hne h
        · have := ((hD.sub j hj).lt b h).2; omega
    · simp only [if_neg e] at hb
      refine ⟨(hD.dis i hi b hb).1, fun j hj hne => ?_⟩
      by_cases e2 : j = k
      · subst e2
        simp only [↓reduceIte]
        intro h
        rcases g3 b h with h1 | h1
        · exact (hD.dis i hi b hb).2 j hj hne h1
        · have := ((hD.sub i hi).lt b hb).2; omega
      · simp only [if_neg e2]
        exact (hD.dis i hi b hb).2 j hj hne
  · have b1 : Below N w1 W1 := by rw [hW1]; exact (Below.refl N w1).alloc hN _
    exact (b1.grown g2 (by omega) (fun b hb => (hsub1.lt b hb).1)).setCell (p := ⟨g, k * 5 + 4, none⟩) hNg _
end Go.Proofs.YtkfghnflbehecaaDoor
