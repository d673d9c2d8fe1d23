/- Part of the proof of the laws of this seat: contracts of its functions, for every input. -/
import Derived.Test.YtkfghnflbehecaaDoorWI
import Derived.Deep.RegionLaw
import Derived.Deep.DeepCutAuto
set_option linter.all false
namespace Go.Proofs.YtkfghnflbehecaaDoor
open Go Go.RX Go.Proofs Go.RowKit
set_option linter.all false
set_option maxRecDepth 1000000
set_option maxHeartbeats 400000
/-- An append whose run is known, as a step of a region that draws its order. -/
theorem step_app {w : World} {ops : Array Oper} {o : Oper} {a : Act} {K : Act → World → Prop} {Q : Exit → Act → World → Prop} {E : Prop} (hgd : o.guard = none) (s x : Operand) (t t' : TypeId)
    (ho : o.op = .call { callee := .builtin .append, args := #[s, x], argTypes := #[t, t'] }) (v u : Value) (hs : a.eval s = v) (hx : a.eval x = u)
    (R : Value → World → Prop) (hr : ∃ v' w', (Builtin.append_ #[t, t'] o.type #[v, u]).run Tryd.prog w = .ok v' w' ∧ R v' w')
    (hK : ∀ v' w', R v' w' → K (a.put o.dst v') w') :
    if Region.wanted o (yielded ops a.tmps) = true then Oper.wp Tryd.prog o a w K Q else E := by
  have hw : Region.wanted o (yielded ops a.tmps) = true := by simp [Region.wanted, hgd]
  rw [if_pos hw]
  obtain ⟨v', w', hrun, hR⟩ := hr
  refine wp_value (w' := w') (v := v') ?_ (hK _ _ hR)
  simp only [execOp, ho, resolve, invoke, builtin, Sem.run_bind, Sem.run_pure, Result.andThen_ok, List.map_toArray, List.map_cons, List.map_nil, hs, hx, hrun]
theorem walk42 (G : Addr → Prop) (a : Option Addr) (cap n : Nat) (xs : List D) (w : World) (hn : n ≤ 2000) (hG : ∀ a, G a → a.block < w.heap.size) (kb : Nat → List UInt8) (tt' cc ss : Nat → Int) (pa : Nat → Option Addr) (pn pc : Nat → Nat)
    (hP : ∀ j, j < n → pn j ≤ 100000)
    (hY : ∀ j, j < n → ∃ ad, a = some ad ∧ G (ad.add (j * 5)) ∧ w.cell? (ad.add (j * 5)) = some (.string ⟨⟨kb j⟩⟩) ∧ w.cell? ⟨(ad.add (j * 5)).block, (ad.add (j * 5)).off + 1, none⟩ = some (.int .i64 (tt' j)) ∧ w.cell? ⟨(ad.add (j * 5)).block, (ad.add (j * 5)).off + 2, none⟩ = some (.int .i64 (cc j)) ∧ w.cell? ⟨(ad.add (j * 5)).block, (ad.add (j * 5)).off + 3, none⟩ = some (.int .i64 (ss j)) ∧ w.cell? ⟨(ad.add (j * 5)).block, (ad.add (j * 5)).off + 4, none⟩ = some (.slice (pa j) (pn j) (pc j)) ∧ Rd G w ls [.slice (pa j) (pn j) (pc j)] ((elt xs (j : Int)).fld 4)) :
    Calls Tryd.prog 42 #[.slice a n cap] w fun e w' => ∃ v Q, e = .returned v ∧ DeepAt w' w.heap.size v n (fun i => [.string ⟨⟨kb i⟩⟩, .int .i64 (tt' i), .int .i64 (cc i), .int .i64 (ss i)]) Q (fun i => (elt xs (i : Int)).fld 4 |>.l.map fun d => .string ⟨⟨d.s⟩⟩) ∧ Below w.heap.size w w' := by
  go_enter Tryd.func42, Tryd.ntmps42
  go_wp2
  go_loopw [3, 4] (fun v3 v8 wr => ∃ k Q, k ≤ n ∧ v8 = .int .i64 k ∧ DeepAt wr w.heap.size v3 k (fun i => [.string ⟨⟨kb i⟩⟩, .int .i64 (tt' i), .int .i64 (cc i), .int .i64 (ss i)]) Q (fun i => (elt xs (i : Int)).fld 4 |>.l.map fun d => .string ⟨⟨d.s⟩⟩) ∧ Below w.heap.size w wr) (fun _ v8 _ => n - (vInt v8).toNat)
  case atStart => exact ⟨0, fun _ => undef, by omega, rfl, DeepAt.nil _ _ _ _ _, Below.refl _ w⟩
  case round =>
    obtain ⟨k, Q, hk, rfl, hD, BW⟩ := hrel
    by_cases hlt : k < n
    · have hltz : (k : Int) < (n : Int) := by omega
      obtain ⟨ad, rfl, hg, h0, h1, h2, h3, h4, hrd⟩ := hY k hlt
      have hab : (ad.add (k * 5)).block < w.heap.size := hG _ hg
      have l0 := (BW.cell hab).trans h0
      have l1 := (BW.cell (p := ⟨(ad.add (k * 5)).block, (ad.add (k * 5)).off + 1, none⟩) hab).trans h1
      have l2 := (BW.cell (p := ⟨(ad.add (k * 5)).block, (ad.add (k * 5)).off + 2, none⟩) hab).trans h2
      have l3 := (BW.cell (p := ⟨(ad.add (k * 5)).block, (ad.add (k * 5)).off + 3, none⟩) hab).trans h3
      have l4 := (BW.cell (p := ⟨(ad.add (k * 5)).block, (ad.add (k * 5)).off + 4, none⟩) hab).trans h4
      have hPk := hP k hlt
      clear hY h0 h1 h2 h3 h4 hP
      have hlen : pn k = ((elt xs (k : Int)).fld 4).l.length := by
        obtain ⟨a', ys, cap', e1, e2, _⟩ := hrd
        have e3 : pn k = ys.length := by injection e1 with e1; injection e1
        rw [e2, e3]; rfl
      have hXl : (((elt xs (k : Int)).fld 4).l.map fun d => Value.string ⟨⟨d.s⟩⟩).length = pn k := by rw [List.length_map, hlen]
      obtain ⟨C1, hC1⟩ : ∃ C1, C1 = Obj.cells #[.string ⟨⟨kb k⟩⟩, .int .i64 (tt' k), .int .i64 (cc k), .int .i64 (ss k), .slice none 0 0] 40 (0, 0) := ⟨_, rfl⟩
      have hW1 : Below w.heap.size w (wr.alloc C1).drew := (BW.alloc BW.size _).drew
      obtain ⟨E, hE, hsrc⟩ := src_of (P := Tryd.prog) (u := 38) (hrd.mono (fun _ h => h) (fun b hb => hW1.cell (hG b hb)))
      have hown0 : (wr.alloc C1).drew.ownsRow w.heap.size 9 1 (.slice none 0 0) ([] : List D).length [] := World.ownsRow_nil _ _ _ _
      have hds : (wr.alloc C1).drew.heap.size = wr.heap.size + 1 := by simp [World.drew]
      have hdh : ∀ g : Nat, (wr.alloc C1).drew.heap[g]? = (wr.alloc C1).heap[g]? := fun g => rfl
      obtain ⟨v1, w2, news, hrun, ho1, hgr1, hrdl, hnew1⟩ := run_append_src (P := Tryd.prog) tt_ok (t := 38) (u := 38) (et := 9) (ty := 38) (e := .str) (te := ⟨.str, .str, 16⟩) Tryd.underlying38 (by kernel_rfl) rfl (by decide) (base := w.heap.size) (by rw [hds]; have := BW.size; omega) hown0 hsrc (.inr rfl) (fun h => by cases h) (by simp only [List.length_nil]; omega) (by simp only [List.length_nil, maxLen]; omega)
      rw [List.length_nil, Nat.zero_add, List.nil_append, rdl_str hrdl] at ho1
      have hB1 : (wr.alloc C1).drew.heap[wr.heap.size]? = some C1 := by rw [hdh, heap_alloc_new]
      have hB2 : w2.heap[wr.heap.size]? = some C1 := by
        rw [hgr1.block wr.heap.size (by rw [hds]; omega) (fun e => by simp [Value.ownBlock] at e)]; exact hB1
      have hw2 : wr.heap.size + 1 ≤ w2.heap.size := by have := hgr1.size; rw [hds] at this; omega
      obtain ⟨qa, qn, qc, rfl⟩ : ∃ qa qn qc, v1 = .slice qa qn qc := by
        rcases ho1.2 with ⟨e, _⟩ | ⟨_, _, _, e, _⟩
        · exact ⟨_, _, _, e⟩
        · exact ⟨_, _, _, e⟩
      subst hC1
      have b0 : w2.cell? ⟨wr.heap.size, 0, none⟩ = some (.string ⟨⟨kb k⟩⟩) := by simp [World.cell?, hB2]
      have b1 : w2.cell? ⟨wr.heap.size, 1, none⟩ = some (.int .i64 (tt' k)) := by simp [World.cell?, hB2]
      have b2 : w2.cell? ⟨wr.heap.size, 2, none⟩ = some (.int .i64 (cc k)) := by simp [World.cell?, hB2]
      have b3 : w2.cell? ⟨wr.heap.size, 3, none⟩ = some (.int .i64 (ss k)) := by simp [World.cell?, hB2]
      have b4 : w2.cell? ⟨wr.heap.size, 4, none⟩ = some (.slice none 0 0) := by simp [World.cell?, hB2]
      have f4 : w2.frozen? ⟨wr.heap.size, 4, none⟩ = false := by simp [World.frozen?, hB2]
      clear hsrc hown0 hrdl hrd
      have hr1 : ∃ v' w', (Builtin.append_ #[38, 38] 38 #[.slice none 0 0, .slice (pa k) (pn k) (pc k)]).run Tryd.prog (wr.alloc (.cells #[.string ⟨⟨kb k⟩⟩, .int .i64 (tt' k), .int .i64 (cc k), .int .i64 (ss k), .slice none 0 0] 40 (0, 0))).drew = .ok v' w' ∧ (v' = .slice qa qn qc ∧ w' = w2) := ⟨_, _, hrun, rfl, rfl⟩
      have KK : Keep ((pn k = ((elt xs (k : Int)).fld 4).l.length) ∧ w2.ownsRow w.heap.size 9 1 (.slice qa qn qc) ((elt xs (k : Int)).fld 4).l.length (((elt xs (k : Int)).fld 4).l.map fun d => .string ⟨⟨d.s⟩⟩) ∧ (∀ g, g < wr.heap.size → w2.heap[g]? = wr.heap[g]?) ∧ wr.heap.size + 1 ≤ w2.heap.size ∧ (∀ g, (Value.slice qa qn qc).ownBlock = some g → wr.heap.size + 1 ≤ g) ∧ w2.heap[wr.heap.size]? = some (.cells #[.string ⟨⟨kb k⟩⟩, .int .i64 (tt' k), .int .i64 (cc k), .int .i64 (ss k), .slice none 0 0] 40 (0, 0)) ∧ DeepAt wr w.heap.size u3 k (fun i => [.string ⟨⟨kb i⟩⟩, .int .i64 (tt' i), .int .i64 (cc i), .int .i64 (ss i)]) Q (fun i => (elt xs (i : Int)).fld 4 |>.l.map fun d => .string ⟨⟨d.s⟩⟩) ∧ Below w.heap.size w wr ∧ Below w.heap.size w w2) := by
        refine ⟨hlen, ho1, fun g hg => ?_, hw2, fun g hg => ?_, hB2, hD, BW, hW1.grown hgr1 (by rw [hds]; have := BW.size; omega) (fun g hg => by simp [Value.ownBlock] at hg)⟩
        · rw [hgr1.block g (by rw [hds]; omega) (fun e => by simp [Value.ownBlock] at e), hdh, heap_alloc_old _ _ hg]
        · rcases hnew1 g hg with h | h
          · simp [Value.ownBlock] at h
          · rw [hds] at h; omega
      clear hrun hB1 hW1 hlen hXl ho1 hgr1 hnew1 hw2 hD hPk hg hB2 hds hdh
      obtain ⟨W3, hW3⟩ : ∃ W3, W3 = (w2.setCell ⟨wr.heap.size, 4, none⟩ (.slice qa qn qc)).alloc (.cells #[.string ⟨⟨kb k⟩⟩, .int .i64 (tt' k), .int .i64 (cc k), .int .i64 (ss k), .slice qa qn qc] 40 (0, 0)) := ⟨_, rfl⟩
      have hr2 : ∃ v' w', (Builtin.append_ #[22, 22] 22 #[u3, .slice (some ⟨w2.heap.size, 0, none⟩) 1 1]).run Tryd.prog W3 = .ok v' w' ∧ (∃ Q, DeepAt w' w.heap.size v' (k + 1) (fun i => [.string ⟨⟨kb i⟩⟩, .int .i64 (tt' i), .int .i64 (cc i), .int .i64 (ss i)]) Q (fun i => (elt xs (i : Int)).fld 4 |>.l.map fun d => .string ⟨⟨d.s⟩⟩)) ∧ Below w.heap.size w w' := by
        obtain ⟨hlenk, hoQ, hkeep, hw2s, hqb, hB2, hD, BW, BW2⟩ := KK.out
        have hN := BW.size
        have hsz2 : (w2.setCell ⟨wr.heap.size, 4, none⟩ (.slice qa qn qc)).heap.size = w2.heap.size := by simp
        have hset : ∀ g, g ≠ wr.heap.size → (w2.setCell ⟨wr.heap.size, 4, none⟩ (.slice qa qn qc)).heap[g]? = w2.heap[g]? := fun g hg => Below.heap_setCell _ _ _ _ hg
        have h3s : W3.heap.size = w2.heap.size + 1 := by rw [hW3]; simp
        have h3o : ∀ g, g < w2.heap.size → g ≠ wr.heap.size → W3.heap[g]? = w2.heap[g]? := fun g hg hne => by
          rw [hW3, heap_alloc_old _ _ (by rw [hsz2]; exact hg), hset g hne]
        have h3k : ∀ g, g < wr.heap.size → W3.heap[g]? = wr.heap[g]? := fun g hg => by rw [h3o g (by omega) (by omega), hkeep g hg]
        have h3n : W3.heap[w2.heap.size]? = some (.cells #[.string ⟨⟨kb k⟩⟩, .int .i64 (tt' k), .int .i64 (cc k), .int .i64 (ss k), .slice qa qn qc] 40 (0, 0)) := by
          have := heap_alloc_new (w2.setCell ⟨wr.heap.size, 4, none⟩ (.slice qa qn qc)) (.cells #[.string ⟨⟨kb k⟩⟩, .int .i64 (tt' k), .int .i64 (cc k), .int .i64 (ss k), .slice qa qn qc] 40 (0, 0))
          rw [hsz2] at this
          rw [hW3]; exact this
        obtain ⟨i, hi, hsz, hby, hz⟩ := info_of tt_ok (t := 40) (ti := ⟨.struct [(9, 0), (3, 1), (3, 2), (3, 3), (38, 4)], disT, 64⟩) (by kernel_rfl)
        have hown3 : W3.ownsRow w.heap.size 40 5 u3 k _ := ownsRow_keep hD.own fun g hg => h3k g (hD.own.lt g hg).2
        obtain ⟨v', w', hrun, g1, g2, g3⟩ := append_own2 (P := Tryd.prog) W3 w.heap.size 22 22 40 i (disT.val disT.zeroV) 5 64 Tryd.underlying22 hi hz hsz hby (by rfl) (by decide) u3 k _ hown3 ⟨w2.heap.size, 0, none⟩ 1 1 [.string ⟨⟨kb k⟩⟩, .int .i64 (tt' k), .int .i64 (cc k), .int .i64 (ss k), .slice qa qn qc] rfl
          (fun j u hj => by
            have : W3.cell? ⟨w2.heap.size, j, none⟩ = some u := by simp only [World.cell?, h3n]; simpa using hj
            cases j with
            | zero => exact this
            | succ j => simpa [Addr.add] using this)
          (fun u hu => by
            simp only [List.mem_cons, List.mem_nil_iff, or_false] at hu
            rcases hu with rfl | rfl | rfl | rfl | rfl <;> rfl)
          (by unfold maxLen; omega) (by omega) (by omega)
        have hq3 : W3.ownsRow w.heap.size 9 1 (.slice qa qn qc) _ _ := ownsRow_keep hoQ fun g hg => h3o g (hoQ.lt g hg).2 (by have := hqb g hg; omega)
        refine ⟨v', w', hrun, ⟨fun i => if i = k then .slice qa qn qc else Q i, ?_⟩, ?_⟩
        · refine DeepAt.snoc (q := .slice qa qn qc) (hD.congr fun i hi => if_neg (by omega)) h3k (by omega) (if_pos rfl) (by rw [List.length_map]; exact hq3) (fun g hg => by have := hqb g hg; omega) ?_ g2 g3
          have e : (List.range k).flatMap (fun i => [Value.string ⟨⟨kb i⟩⟩, .int .i64 (tt' i), .int .i64 (cc i), .int .i64 (ss i)] ++ [if i = k then Value.slice qa qn qc else Q i]) = (List.range k).flatMap (fun i => [Value.string ⟨⟨kb i⟩⟩, .int .i64 (tt' i), .int .i64 (cc i), .int .i64 (ss i)] ++ [Q i]) := by
            rw [List.flatMap_def, List.flatMap_def, List.map_congr_left fun i hi => by rw [if_neg (by have := List.mem_range.1 hi; omega)]]
          rw [e]; exact g1
        · have b3 : Below w.heap.size w W3 := by rw [hW3]; exact (BW2.setCell (p := ⟨wr.heap.size, 4, none⟩) (by simpa using hN) _).alloc (by rw [hsz2]; omega) _
          exact b3.grown g2 (by omega) (fun g hg => (hD.own.lt g hg).1)
      rw [hW3] at hr2
      clear hW3 KK
      have habr : (ad.add (k * 5)).block < wr.heap.size := by have := BW.size; omega
      have l4' : (wr.alloc (.cells #[.string ⟨⟨kb k⟩⟩, .int .i64 (tt' k), .int .i64 (cc k), .int .i64 (ss k), .slice none 0 0] 40 (0, 0))).drew.cell? ⟨(ad.add (k * 5)).block, (ad.add (k * 5)).off + 4, none⟩ = some (.slice (pa k) (pn k) (pc k)) := by
        rw [← l4]
        exact World.cell?_of_block (w := wr) (heap_alloc_old _ _ habr)
      clear BW hab
      go_upto_region 7 with (fail)
      go_region_law (refine step_app rfl (.tmp 18) (.tmp 23) 38 38 rfl (.slice none 0 0) (.slice (pa k) (pn k) (pc k)) (by simp [Act.eval, Act.put]) (by simp [Act.eval, Act.put]) (fun v' w' => v' = .slice qa qn qc ∧ w' = w2) hr1 ?_; intro v' w' hv'; obtain ⟨rfl, rfl⟩ := hv'; clear hr1)
      go_wp2_with (at_builtin; go_loud (refine wpList_app _ rfl (.tmp 26) (.tmp 28) 22 22 rfl _ _ rfl rfl _ hr2 ?_; intro v' w' hv'; obtain ⟨⟨Q2, hD2⟩, hb2⟩ := hv'; clear hr2))
      all_goals exact ⟨⟨k + 1, Q2, by omega, by go_num, hD2, hb2⟩, by simp [vInt]; omega⟩
    · have hltz : ¬ (k : Int) < (n : Int) := by omega
      obtain rfl : k = n := by omega
      clear hY
      go_wp2
      go_ret
      exact ⟨_, rfl, ⟨Q, hD⟩, BW⟩
end Go.Proofs.YtkfghnflbehecaaDoor
