/- Part of the proof of the laws of this seat: contracts of its functions, for every input. -/
import Derived.Test.YtafpahkcjdfpiaaDoorWTF
import Derived.Lib.SliceRun
set_option linter.all false
namespace Go.Proofs.YtafpahkcjdfpiaaDoor
open Go Go.RX Go.Proofs Go.RowKit
set_option linter.all false
set_option maxRecDepth 1000000
set_option maxHeartbeats 400000
theorem ownsRow_mono {w : World} {b b' e size n : Nat} {v : Value} {xs : List Value} (hb : b' ≤ b) (h : w.ownsRow b e size v n xs) : w.ownsRow b' e size v n xs := by
  refine ⟨h.1, ?_⟩
  rcases h.2 with h1 | ⟨g, cap, cur, h1, h2, h3, h4⟩
  · exact .inl h1
  · exact .inr ⟨g, cap, cur, h1, by omega, h3, h4⟩
theorem walk74 (G : Addr → Prop) (a : Option Addr) (n c : Nat) (ps : List D) (w : World) (hG : ∀ a, G a → a.block < w.heap.size) (hn : ps.length ≤ 100000) (h : Rd G w ls [.slice a n c] (.list ps)) :
    Calls Tryd.prog 74 #[.slice a n c] w fun e w' => ∃ q, e = .returned q ∧ w'.ownsRow w.heap.size 9 1 q ps.length (ps.map fun d => .string ⟨⟨d.s⟩⟩) ∧ Below w.heap.size w w' := by
  have qT : ∀ (w : World) (a : Option Addr) (n c n' c' : Nat), (binOp .eql 22 (.slice a n c) (.slice none n' c')).run Tryd.prog w = .ok (.bool a.isNone) w := fun w a n c n' c' => Lib.run_eql_slice_nil w _ _ a n c n' c' Tryd.underlying22
  have hlen : n = ps.length := by
    obtain ⟨a', ys, cap', e1, e2, _⟩ := h
    have e3 : n = ys.length := by injection e1 with e1; injection e1
    cases e2; exact e3
  cases a with
  | none =>
    have hps : ps = [] := by
      obtain ⟨a', ys, cap', e1, e2, _, _, hel⟩ := h
      cases e2
      cases ps with
      | nil => rfl
      | cons x xs =>
        obtain ⟨b, _, hb, _⟩ := hel 0 x (by simp)
        subst hb
        injection e1 with e1; injection e1 with e1; cases e1
    subst hps
    clear h
    simp only [List.length_nil] at hlen
    subst hlen
    go_enter Tryd.func74, Tryd.ntmps74
    go_wp2
    go_ret
    exact ⟨_, rfl, World.ownsRow_nil _ _ _ _, Below.refl _ w⟩
  | some a =>
    have hW1 : Below w.heap.size w (w.alloc (.cells #[] 9)) := (Below.refl _ w).alloc (Nat.le_refl _) _
    obtain ⟨E, hE, hsrc⟩ := src_of (P := Tryd.prog) (u := 22) (h.mono (fun _ h => h) (fun b hb => hW1.cell (hG b hb)))
    have hown0 : (w.alloc (.cells #[] 9)).ownsRow w.heap.size 9 1 (.slice (some ⟨w.heap.size, 0, none⟩) 0 0) ([] : List D).length [] := by
      refine ⟨rfl, .inr ⟨w.heap.size, 0, #[], rfl, Nat.le_refl _, ?_, by simp, by simp [maxLen], rfl, rfl⟩⟩
      rw [heap_alloc_new]
    obtain ⟨v1, w2, news, hrun, ho1, hgr1, hrdl, hnew1⟩ := run_append_src (P := Tryd.prog) tt_ok (t := 22) (u := 22) (et := 9) (ty := 22) (e := .str) (te := ⟨.str, .str, 16⟩) Tryd.underlying22 (by kernel_rfl) rfl (by decide) (base := w.heap.size) (by simp) hown0 hsrc (.inr rfl) (fun h => by cases h) (by simp only [List.length_nil, D.l]; omega) (by simp only [List.length_nil, maxLen, D.l]; omega)
    rw [List.length_nil, Nat.zero_add, List.nil_append, rdl_str hrdl] at ho1
    have hr1 : ∃ v' w', (Builtin.append_ #[22, 22] 22 #[.slice (some ⟨w.heap.size, 0, none⟩) 0 0, .slice (some a) n c]).run Tryd.prog (w.alloc (.cells #[] 9)) = .ok v' w' ∧ (v' = v1 ∧ w' = w2) := ⟨_, _, hrun, rfl, rfl⟩
    have KB : Keep (w2.ownsRow w.heap.size 9 1 v1 ps.length (ps.map fun d => .string ⟨⟨d.s⟩⟩) ∧ Below w.heap.size w w2) := ⟨ho1, hW1.grown hgr1 (by simp) (fun g hg => by simp [Value.ownBlock] at hg; omega)⟩
    clear hsrc hown0 hrun ho1 hgr1 hrdl hnew1 h hW1
    go_enter Tryd.func74, Tryd.ntmps74
    go_wp2_with (at_builtin; refine wpList_app _ rfl (.tmp 5) (.tmp 6) 22 22 rfl (.slice (some ⟨w.heap.size, 0, none⟩) 0 0) (.slice (some a) n c) rfl rfl (fun v' w' => v' = v1 ∧ w' = w2) hr1 ?_; intro v' w' hv'; obtain ⟨rfl, rfl⟩ := hv'; clear hr1)
    go_ret
    exact ⟨_, rfl, KB.out.1, KB.out.2⟩
theorem walk55 (G : Addr → Prop) (k : List UInt8) (t p g : Int) (a : Option Addr) (n c : Nat) (ps : List D) (w : World) (hG : ∀ a, G a → a.block < w.heap.size) (hn : ps.length ≤ 100000) (h : Rd G w ls [.slice a n c] (.list ps)) :
    Calls Tryd.prog 55 #[.agg #[.string ⟨⟨k⟩⟩, .int .i64 t, .int .i64 p, .slice a n c, .int .u64 g]] w fun e w' => ∃ qa qn qc, e = .returned (.agg #[.string ⟨⟨k⟩⟩, .int .i64 t, .int .i64 p, .slice qa qn qc, .int .u64 g]) ∧
      Keep (w'.ownsRow w.heap.size 9 1 (.slice qa qn qc) ps.length (ps.map fun d => .string ⟨⟨d.s⟩⟩) ∧ (∀ b, (Value.slice qa qn qc).ownBlock = some b → w.heap.size + 2 ≤ b) ∧ Below w.heap.size w w') := by
  obtain ⟨W2, hW2⟩ : ∃ W2, W2 = (w.alloc (.cells #[.string ⟨⟨k⟩⟩, .int .i64 t, .int .i64 p, .slice a n c, .int .u64 g] 25 (0, 0))).alloc (.cells #[.string ⟨⟨[]⟩⟩, .int .i64 0, .int .i64 0, .slice none 0 0, .int .u64 0] 25 (0, 0)) := ⟨_, rfl⟩
  have hB : Below w.heap.size w W2 := by rw [hW2]; exact ((Below.refl _ w).alloc (Nat.le_refl _) _).alloc (by simp) _
  have hs : W2.heap.size = w.heap.size + 2 := by rw [hW2]; simp
  have h1 : W2.heap[w.heap.size]? = some (.cells #[.string ⟨⟨k⟩⟩, .int .i64 t, .int .i64 p, .slice a n c, .int .u64 g] 25 (0, 0)) := by rw [hW2]; exact heap_alloc2_old w _ _
  have h2 : W2.heap[w.heap.size + 1]? = some (.cells #[.string ⟨⟨[]⟩⟩, .int .i64 0, .int .i64 0, .slice none 0 0, .int .u64 0] 25 (0, 0)) := by
    have := heap_alloc_new (w.alloc (.cells #[.string ⟨⟨k⟩⟩, .int .i64 t, .int .i64 p, .slice a n c, .int .u64 g] 25 (0, 0))) (.cells #[.string ⟨⟨[]⟩⟩, .int .i64 0, .int .i64 0, .slice none 0 0, .int .u64 0] 25 (0, 0))
    rw [hW2]
    simpa using this
  have hcall := (walk74 G a n c ps W2 (fun b hb => by have := hG b hb; omega) hn (h.mono (fun _ h => h) (fun b hb => hB.cell (hG b hb)))).mono (R' := fun e w' => ∃ qa qn qc, e = .returned (.slice qa qn qc) ∧ w'.heap[w.heap.size]? = some (.cells #[.string ⟨⟨k⟩⟩, .int .i64 t, .int .i64 p, .slice a n c, .int .u64 g] 25 (0, 0)) ∧ w'.heap[w.heap.size + 1]? = some (.cells #[.string ⟨⟨[]⟩⟩, .int .i64 0, .int .i64 0, .slice none 0 0, .int .u64 0] 25 (0, 0)) ∧
      Keep (w'.ownsRow (w.heap.size + 2) 9 1 (.slice qa qn qc) ps.length (ps.map fun d => .string ⟨⟨d.s⟩⟩) ∧ Below w.heap.size w w' ∧ w.heap.size + 2 ≤ w'.heap.size)) (by
    rintro e w' ⟨q, rfl, ho, hb⟩
    obtain ⟨qa, qn, qc, rfl⟩ := slice_of_own ho
    rw [hs] at ho hb
    exact ⟨qa, qn, qc, rfl, (hb.block _ (by omega)).trans h1, (hb.block _ (by omega)).trans h2, ⟨ho, hB.trans (hb.mono (by omega)), by have := hb.size; omega⟩⟩)
  rw [hW2] at hcall
  clear h h1 h2 hB hs hW2
  go_enter Tryd.func55, Tryd.ntmps55
  go_wp2_with (go_at_call 74; refine hcall.mono ?_; rintro e w' ⟨qa, qn, qc, rfl, hb1, hb2, hk⟩; have c0 : w'.cell? ⟨w.heap.size, 0, none⟩ = some (.string ⟨⟨k⟩⟩) := (by simp [World.cell?, hb1]); have e0 : w'.cell? ⟨w.heap.size + 1, 0, none⟩ = some (.string ⟨⟨[]⟩⟩) := (by simp [World.cell?, hb2]); have g0 : w'.frozen? ⟨w.heap.size + 1, 0, none⟩ = false := (by simp [World.frozen?, hb2]); have c1 : w'.cell? ⟨w.heap.size, 1, none⟩ = some (.int .i64 t) := (by simp [World.cell?, hb1]); have e1 : w'.cell? ⟨w.heap.size + 1, 1, none⟩ = some (.int .i64 0) := (by simp [World.cell?, hb2]); have g1 : w'.frozen? ⟨w.heap.size + 1, 1, none⟩ = false := (by simp [World.frozen?, hb2]); have c2 : w'.cell? ⟨w.heap.size, 2, none⟩ = some (.int .i64 p) := (by simp [World.cell?, hb1]); have e2 : w'.cell? ⟨w.heap.size + 1, 2, none⟩ = some (.int .i64 0) := (by simp [World.cell?, hb2]); have g2 : w'.frozen? ⟨w.heap.size + 1, 2, none⟩ = false := (by simp [World.frozen?, hb2]); have c3 : w'.cell? ⟨w.heap.size, 3, none⟩ = some (.slice a n c) := (by simp [World.cell?, hb1]); have e3 : w'.cell? ⟨w.heap.size + 1, 3, none⟩ = some (.slice none 0 0) := (by simp [World.cell?, hb2]); have g3 : w'.frozen? ⟨w.heap.size + 1, 3, none⟩ = false := (by simp [World.frozen?, hb2]); have c4 : w'.cell? ⟨w.heap.size, 4, none⟩ = some (.int .u64 g) := (by simp [World.cell?, hb1]); have e4 : w'.cell? ⟨w.heap.size + 1, 4, none⟩ = some (.int .u64 0) := (by simp [World.cell?, hb2]); have g4 : w'.frozen? ⟨w.heap.size + 1, 4, none⟩ = false := (by simp [World.frozen?, hb2]); have f3 : w'.frozen? ⟨w.heap.size, 3, none⟩ = false := (by simp [World.frozen?, hb1]))
  have q0 := (Below.heap_setCell w' ⟨w.heap.size, 3, none⟩ (.slice qa qn qc) (w.heap.size + 1) (by simp)).trans hb2
  have q1 := heap_setCell_same _ _ 0 _ _ (.string ⟨⟨k⟩⟩) q0
  have q2 := heap_setCell_same _ _ 1 _ _ (.int .i64 t) q1
  have q3 := heap_setCell_same _ _ 2 _ _ (.int .i64 p) q2
  have q4 := heap_setCell_same _ _ 3 _ _ (.slice qa qn qc) q3
  have q5 := heap_setCell_same _ _ 4 _ _ (.int .u64 g) q4
  refine bodyPost_ret (results_cell_row (P := Tryd.prog) rfl _ _ (w.heap.size + 1) 25 #[.string ⟨⟨k⟩⟩, .int .i64 t, .int .i64 p, .slice qa qn qc, .int .u64 g] (0, 0) _ rfl q5 Tryd.underlying25 rfl (by kernel_rfl)) rfl ?_
  obtain ⟨ho, hb, hsz⟩ := hk.out
  have hge : ∀ b, (Value.slice qa qn qc).ownBlock = some b → w.heap.size + 2 ≤ b := fun b hb => (ho.lt b hb).1
  have hne : ∀ j, j < w.heap.size + 2 → (Value.slice qa qn qc).ownBlock ≠ some j := fun j hj h => by have := hge j h; omega
  refine ⟨qa, qn, qc, rfl, ⟨ownsRow_mono (b := w.heap.size + 2) (by omega) ?_, hge, ?_⟩⟩
  · refine ownsRow_setCell_other (ownsRow_setCell_other (ownsRow_setCell_other (ownsRow_setCell_other (ownsRow_setCell_other (ownsRow_setCell_other ho ?_ _) ?_ _) ?_ _) ?_ _) ?_ _) ?_ _
    all_goals exact hne _ (by simp)
  · refine (((((hb.setCell (p := ⟨w.heap.size, 3, none⟩) ?_ _).setCell (p := ⟨w.heap.size + 1, 0, none⟩) ?_ _).setCell (p := ⟨w.heap.size + 1, 1, none⟩) ?_ _).setCell (p := ⟨w.heap.size + 1, 2, none⟩) ?_ _).setCell (p := ⟨w.heap.size + 1, 3, none⟩) ?_ _).setCell (p := ⟨w.heap.size + 1, 4, none⟩) ?_ _
    all_goals simp
end Go.Proofs.YtafpahkcjdfpiaaDoor
namespace Go.Proofs.YtafpahkcjdfpiaaDoor
open Go Go.RX Go.Proofs Go.RowKit
set_option linter.all false
set_option maxRecDepth 1000000
set_option maxHeartbeats 400000
def fF (kb : Nat → List UInt8) (tt' cc : Nat → Int) (i : Nat) : List Value := [.string ⟨⟨kb i⟩⟩, .int .i64 (tt' i), .int .i64 (cc i)]
def fH (gg : Nat → Int) (i : Nat) : Value := .int .u64 (gg i)
def fX (xs : List D) (i : Nat) : List Value := ((elt xs (i : Int)).fld 3).l.map fun d => .string ⟨⟨d.s⟩⟩
theorem walk59 (G : Addr → Prop) (a : Option Addr) (cap n : Nat) (xs : List D) (w : World) (hn : n ≤ 2000) (hG : ∀ a, G a → a.block < w.heap.size) (kb : Nat → List UInt8) (tt' cc gg : Nat → Int) (pa : Nat → Option Addr) (pn pc : Nat → Nat)
    (hP : ∀ j, j < n → pn j ≤ 100000)
    (hY : ∀ j, j < n → ∃ ad, a = some ad ∧ G (ad.add (j * 5)) ∧ w.cell? (ad.add (j * 5)) = some (.string ⟨⟨kb j⟩⟩) ∧ w.cell? ⟨(ad.add (j * 5)).block, (ad.add (j * 5)).off + 1, none⟩ = some (.int .i64 (tt' j)) ∧ w.cell? ⟨(ad.add (j * 5)).block, (ad.add (j * 5)).off + 2, none⟩ = some (.int .i64 (cc j)) ∧ w.cell? ⟨(ad.add (j * 5)).block, (ad.add (j * 5)).off + 3, none⟩ = some (.slice (pa j) (pn j) (pc j)) ∧ w.cell? ⟨(ad.add (j * 5)).block, (ad.add (j * 5)).off + 4, none⟩ = some (.int .u64 (gg j)) ∧ Rd G w ls [.slice (pa j) (pn j) (pc j)] ((elt xs (j : Int)).fld 3)) :
    Calls Tryd.prog 59 #[.slice a n cap] w fun e w' => ∃ v Q, e = .returned v ∧ DeepAt w' w.heap.size v n (fF kb tt' cc) Q (fH gg) (fX xs) ∧ Below w.heap.size w w' := by
  go_enter Tryd.func59, Tryd.ntmps59
  go_wp2
  go_loopw [3, 8] (fun v3 v8 wr => ∃ k Q, k ≤ n ∧ v8 = .int .i64 k ∧ DeepAt wr w.heap.size v3 k (fF kb tt' cc) Q (fH gg) (fX xs) ∧ Below w.heap.size w wr) (fun _ v8 _ => n - (vInt v8).toNat)
  case atStart => exact ⟨0, fun _ => undef, by omega, rfl, DeepAt.nil _ _ _ _ _ _, Below.refl _ w⟩
  case round =>
    obtain ⟨k, Q, hk, rfl, hD, BW⟩ := hrel
    by_cases hlt : k < n
    · have hltz : (k : Int) < (n : Int) := by omega
      obtain ⟨ad, rfl, hg, h0, h1, h2, h3, h4, hrd⟩ := hY k hlt
      have hab : (ad.add (k * 5)).block < w.heap.size := hG _ hg
      have l0 := (BW.cell hab).trans h0
      have l1 := (BW.cell (p := ⟨(ad.add (k * 5)).block, (ad.add (k * 5)).off + 1, none⟩) hab).trans h1
      have l2 := (BW.cell (p := ⟨(ad.add (k * 5)).block, (ad.add (k * 5)).off + 2, none⟩) hab).trans h2
      have l3 := (BW.cell (p := ⟨(ad.add (k * 5)).block, (ad.add (k * 5)).off + 3, none⟩) hab).trans h3
      have l4 := (BW.cell (p := ⟨(ad.add (k * 5)).block, (ad.add (k * 5)).off + 4, none⟩) hab).trans h4
      have hPk := hP k hlt
      clear hY h0 h1 h2 h3 h4 hP
      obtain ⟨ps, hps, hrd⟩ : ∃ ps, ((elt xs (k : Int)).fld 3).l = ps ∧ Rd G w ls [.slice (pa k) (pn k) (pc k)] (.list ps) := by
        obtain ⟨ps, q1, _⟩ := rd_strs hrd
        rw [q1] at hrd
        exact ⟨ps, by rw [q1]; rfl, hrd⟩
      have hlen : pn k = ps.length := by
        obtain ⟨a', ys, cap', e1, e2, _⟩ := hrd
        have e3 : pn k = ys.length := by injection e1 with e1; injection e1
        cases e2; exact e3
      obtain ⟨W1, hW1⟩ : ∃ W1, W1 = wr.alloc (.cells #[.string ⟨⟨kb k⟩⟩, .int .i64 (tt' k), .int .i64 (cc k), .slice (pa k) (pn k) (pc k), .int .u64 (gg k)] 25 (0, 0)) := ⟨_, rfl⟩
      have hBW1 : Below w.heap.size w W1 := by rw [hW1]; exact BW.alloc BW.size _
      have hs1 : W1.heap.size = wr.heap.size + 1 := by rw [hW1]; simp
      have h1k : ∀ g, g < wr.heap.size → W1.heap[g]? = wr.heap[g]? := fun g hg => by rw [hW1, heap_alloc_old _ _ hg]
      have hN := BW.size
      have hcall := (walk55 G (kb k) (tt' k) (cc k) (gg k) (pa k) (pn k) (pc k) ps W1 (fun b hb => by have := hG b hb; omega) (by omega) (hrd.mono (fun _ h => h) (fun b hb => hBW1.cell (hG b hb)))).mono (R' := fun e w2 => ∃ qa qn qc, e = .returned (.agg #[.string ⟨⟨kb k⟩⟩, .int .i64 (tt' k), .int .i64 (cc k), .slice qa qn qc, .int .u64 (gg k)]) ∧
          ∃ v' w4, (Builtin.append_ #[29, 29] 29 #[u3, .slice (some ⟨w2.heap.size, 0, none⟩) 1 1]).run Tryd.prog (w2.alloc (.cells #[.string ⟨⟨kb k⟩⟩, .int .i64 (tt' k), .int .i64 (cc k), .slice qa qn qc, .int .u64 (gg k)] 25 (0, 0))) = .ok v' w4 ∧
            Keep ((∃ Q, DeepAt w4 w.heap.size v' (k + 1) (fF kb tt' cc) Q (fH gg) (fX xs)) ∧ Below w.heap.size w w4)) (by
        rintro e w2 ⟨qa, qn, qc, rfl, ⟨ho, hqb, hb⟩⟩
        refine ⟨qa, qn, qc, rfl, ?_⟩
        have hw2 := hb.size
        have h2k : ∀ g, g < wr.heap.size → w2.heap[g]? = wr.heap[g]? := fun g hg => by rw [hb.block g (by omega), h1k g hg]
        obtain ⟨W3, hW3⟩ : ∃ W3, W3 = w2.alloc (.cells #[.string ⟨⟨kb k⟩⟩, .int .i64 (tt' k), .int .i64 (cc k), .slice qa qn qc, .int .u64 (gg k)] 25 (0, 0)) := ⟨_, rfl⟩
        have h3s : W3.heap.size = w2.heap.size + 1 := by rw [hW3]; simp
        have h3o : ∀ g, g < w2.heap.size → W3.heap[g]? = w2.heap[g]? := fun g hg => by rw [hW3, heap_alloc_old _ _ hg]
        have h3k : ∀ g, g < wr.heap.size → W3.heap[g]? = wr.heap[g]? := fun g hg => by rw [h3o g (by omega), h2k g hg]
        have h3n : W3.heap[w2.heap.size]? = some (.cells #[.string ⟨⟨kb k⟩⟩, .int .i64 (tt' k), .int .i64 (cc k), .slice qa qn qc, .int .u64 (gg k)] 25 (0, 0)) := by rw [hW3, heap_alloc_new]
        obtain ⟨i, hi, hsz, hby, hz⟩ := info_of tt_ok (t := 25) (ti := ⟨.struct [(9, 0), (3, 1), (3, 2), (22, 3), (23, 4)], imT, 64⟩) (by kernel_rfl)
        have hown3 : W3.ownsRow w.heap.size 25 5 u3 k _ := ownsRow_keep hD.own fun g hg => h3k g (hD.own.lt g hg).2
        obtain ⟨v', w', hrun, g1, g2, g3⟩ := append_own2 (P := Tryd.prog) W3 w.heap.size 29 29 25 i (imT.val imT.zeroV) 5 64 Tryd.underlying29 hi hz hsz hby (by rfl) (by decide) u3 k _ hown3 ⟨w2.heap.size, 0, none⟩ 1 1 [.string ⟨⟨kb k⟩⟩, .int .i64 (tt' k), .int .i64 (cc k), .slice qa qn qc, .int .u64 (gg k)] rfl
          (fun j u hj => by
            have : W3.cell? ⟨w2.heap.size, j, none⟩ = some u := by simp only [World.cell?, h3n]; simpa using hj
            cases j with
            | zero => exact this
            | succ j => simpa [Addr.add] using this)
          (fun u hu => by
            simp only [List.mem_cons, List.mem_nil_iff, or_false] at hu
            rcases hu with rfl | rfl | rfl | rfl | rfl <;> rfl)
          (by unfold maxLen; omega) (by omega) (by omega)
        have hq3 : W3.ownsRow w.heap.size 9 1 (.slice qa qn qc) _ _ := ownsRow_mono (b := W1.heap.size) (by omega) (ownsRow_keep ho fun g hg => h3o g (ho.lt g hg).2)
        have hXk : fX xs k = ps.map fun d => .string ⟨⟨d.s⟩⟩ := by unfold fX; rw [hps]
        refine ⟨v', w', by rw [← hW3]; exact hrun, ⟨⟨fun i => if i = k then .slice qa qn qc else Q i, ?_⟩, ?_⟩⟩
        · refine DeepAt.snoc (q := .slice qa qn qc) (hD.congr fun i hi => if_neg (by omega)) h3k (by omega) (if_pos rfl) (by rw [hXk, List.length_map]; exact hq3) (fun g hg => by have := hqb g hg; omega) ?_ g2 g3
          have e : (List.range k).flatMap (fun i => fF kb tt' cc i ++ [if i = k then Value.slice qa qn qc else Q i, fH gg i]) = (List.range k).flatMap (fun i => fF kb tt' cc i ++ [Q i, fH gg i]) := by
            rw [List.flatMap_def, List.flatMap_def, List.map_congr_left fun i hi => by rw [if_neg (by have := List.mem_range.1 hi; omega)]]
          rw [e]; exact g1
        · have b3 : Below w.heap.size w W3 := by rw [hW3]; exact (hBW1.trans (hb.mono (by omega))).alloc (by omega) _
          exact b3.grown g2 (by omega) (fun g hg => (hD.own.lt g hg).1))
      rw [hW1] at hcall
      clear hW1 hBW1 hs1 h1k hD BW hrd hps hlen hPk hg hab hN
      go_wp2_with (first
        | (go_at_call 55; refine hcall.mono ?_; rintro e w2 ⟨qa, qn, qc, rfl, v', w4, hrun, hkp⟩)
        | (at_builtin; go_loud (refine wpList_app _ rfl (.tmp 12) (.tmp 15) 29 29 rfl _ _ rfl rfl (fun v w => v = v' ∧ w = w4) ⟨_, _, hrun, rfl, rfl⟩ ?_; rintro v w ⟨rfl, rfl⟩; clear hrun)))
      go_roundw
      case rel =>
        obtain ⟨⟨Q2, hD2⟩, hb2⟩ := hkp.out
        exact ⟨k + 1, Q2, by omega, by go_num, hD2, hb2⟩
      case measure => simp [vInt]; omega
    · have hltz : ¬ (k : Int) < (n : Int) := by omega
      obtain rfl : k = n := by omega
      clear hY
      go_wp2
      go_ret
      exact ⟨_, rfl, ⟨Q, hD⟩, BW⟩
end Go.Proofs.YtafpahkcjdfpiaaDoor
