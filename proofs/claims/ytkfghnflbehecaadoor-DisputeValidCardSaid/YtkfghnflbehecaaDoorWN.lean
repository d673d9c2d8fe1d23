/- Part of the proof of the laws of this seat: contracts of its functions, for every input. -/
import Derived.Test.YtkfghnflbehecaaDoorWG
import Derived.Test.YtkfghnflbehecaaDoorWM
set_option linter.all false
namespace Go.Proofs.YtkfghnflbehecaaDoor
open Go Go.RX Go.Proofs Go.RowKit
set_option linter.all false
set_option maxRecDepth 1000000
set_option maxHeartbeats 400000
theorem prov_ok {l : List D} {k id : List UInt8} {t : Int} (h : provE l k id t = 0) : 0 ≤ opI l k ∧ opI l k < l.length ∧ ((elt l (opI l k)).fld 4).l.length < 16 := by
  unfold provE at h
  split at h
  · rename_i h1; exact absurd h h1
  rename_i h1
  split at h
  · rename_i h2; exact absurd h h2
  split at h
  · cases h
  split at h
  · cases h
  split at h
  · cases h
  rename_i h5
  have h1 : opE l k = 0 := Classical.not_not.1 h1
  have hlt := findZ_lt l k
  by_cases h6 : findZ l k < 0
  · rw [(op_none h6).2] at h1; cases h1
  by_cases h7 : ((elt l (findZ l k)).fld 3).i = 1
  · rw [(op_ok (by omega) h7).1] at h5 ⊢
    exact ⟨by omega, hlt, by omega⟩
  · rw [(op_state (by omega) h7).2] at h1; cases h1
theorem fin_ok {G : Addr → Prop} {w w' w3 : World} {E : Env} {xs : List D} {k g cv : Nat} {id : List UInt8} {F X : Nat → List Value} {Q : Nat → Value} (hG : ∀ b, G b → b.block < w.heap.size) (bw : Below w.heap.size w w') (hN : w.heap.size ≤ w'.heap.size)
    (hGE : ∀ a, G a → E.G a) (hEG : ∀ a, E.G a → G a ∨ w.heap.size ≤ a.block) (hin : ∀ a, E.G a → a.block < w'.heap.size) (hk : k < xs.length) (hid : id.length ≤ maxLen)
    (hx : ∀ i x, xs[i]? = some x → DisOK x (F i) (X i)) (hD : DeepAt w3 w'.heap.size (.slice (some ⟨g, 0, none⟩) xs.length cv) xs.length F Q (fun i => if i = k then X k ++ [.string ⟨⟨id⟩⟩] else X i)) (hb : Below w'.heap.size w' w3) :
    RetOK G w [vSl disT (addP xs (k : Int) id), vI 0] (.tuple #[.slice (some ⟨g, 0, none⟩) xs.length cv, .int .i64 0]) w3 := by
  have hlen : (addP xs (k : Int) id).length = xs.length := xset_len
  have hx' : ∀ i x, (addP xs (k : Int) id)[i]? = some x → DisOK x (F i) (if i = k then X k ++ [.string ⟨⟨id⟩⟩] else X i) := fun i x hi => by
    unfold addP xset at hi
    rw [Int.toNat_natCast, List.getElem?_set] at hi
    by_cases e : k = i
    · subst e
      rw [if_pos rfl, if_pos hk] at hi
      rw [if_pos rfl]
      obtain ⟨kk, t, c, s, ps, e1, e2, e3, h1, h2, h3, h4, h5⟩ := hx k xs[k] (List.getElem?_eq_getElem hk)
      rw [elt_get hk, e1] at hi
      cases hi
      refine ⟨kk, t, c, s, ps ++ [.str id], rfl, e2, by rw [e3, List.map_append]; rfl, h1, h2, h3, h4, fun p hp => ?_⟩
      rcases List.mem_append.1 hp with h | h
      · exact h5 p h
      · exact ⟨id, List.mem_singleton.1 h, hid⟩
    · rw [if_neg e] at hi
      rw [if_neg (fun h => e h.symm)]
      exact hx i x hi
  rw [← hlen] at hD
  let G' : Addr → Prop := fun a => subG E.G Q (addP xs (k : Int) id).length a ∨ a.block = g
  have hgl := hD.own.lt g rfl
  have hread : Rd G' w3 (.slice disT) [.slice (some ⟨g, 0, none⟩) (addP xs (k : Int) id).length cv] (.list (addP xs (k : Int) id)) :=
    own_rd hD.own (hD.rdl hx' fun i hi b hb a ha => .inl (.inr ⟨i, hi, by rw [ha]; exact hb⟩)) fun b hb a ha => .inr (by
      have : g = b := by simpa [Value.ownBlock] using hb
      rw [ha, this])
  rw [hlen] at hread
  refine ⟨bw.trans (hb.mono hN), G', fun a h => .inl (.inl (hGE a h)), fun a h => ?_, [_, _], rfl, hread, ⟨rfl, by decide, by decide⟩, trivial⟩
  rcases h with (h | ⟨i, hi, hq⟩) | h
  · rcases hEG a h with h1 | h1
    · exact .inl h1
    · exact .inr ⟨h1, Nat.lt_of_lt_of_le (hin a h) hb.size⟩
  · have := (hD.sub i hi).lt _ hq
    exact .inr ⟨by omega, this.2⟩
  · rw [h]; exact .inr ⟨by omega, hgl.2⟩
theorem tail16 (yy1 yy3 yy4 yy5 yy6 yy7 yy8 yy9 yy11 yy12 yy13 yy14 yy15 yy16 yy17 yy18 yy19 yy20 yy21 yy22 yy23 yy24 yy25 yy26 yy27 yy28 yy29 yy30 yy31 yy32 yy33 yy34 yy35 yy36 yy37 yy38 yy39 yy40 yy41 yy42 yy43 yy44 yy45 yy46 yy47 yy48 yy49 yy50 yy51 yy52 yy53 yy54 yy55 yy56 yy57 yy58 yy59 yy60 yy61 yy62 yy63 yy64 yy65 yy66 yy67 yy68 : Value) (a0 : Option Addr) (cap n k : Nat) (id : List UInt8) (W : World) (R : Value → World → Prop) (hk : (k : Int) < (n : Int)) (hn : n ≤ 2000)
    (hcall : Calls Tryd.prog 32 #[.slice a0 n cap] W fun e w1 => ∃ g cv qa qn qc, e = .returned (.slice (some ⟨g, 0, none⟩) n cv) ∧ w1.cell? ⟨g, k * 5 + 4, none⟩ = some (.slice qa qn qc) ∧ g < w1.heap.size ∧
      ∃ v' w2, (Builtin.append_ #[38, 38] 38 #[.slice qa qn qc, .slice (some ⟨w1.heap.size, 0, none⟩) 1 1]).run Tryd.prog (w1.alloc (.cells #[.string ⟨⟨id⟩⟩] 9 (0, 0))) = .ok v' w2 ∧
        ∃ pa pn pc, v' = .slice pa pn pc ∧ w2.cell? ⟨g, k * 5 + 4, none⟩ = some (.slice qa qn qc) ∧ w2.frozen? ⟨g, k * 5 + 4, none⟩ = false ∧ Keep (R (.tuple #[.slice (some ⟨g, 0, none⟩) n cv, .int .i64 0]) (w2.setCell ⟨g, k * 5 + 4, none⟩ (.slice pa pn pc)))) :
    (sufC cut16 (bodyOf Tryd.f16)).wp Tryd.prog (bodyPost Tryd.prog Tryd.f16 fun e w'' => ∃ v, e = .returned v ∧ R v w'')
      { tmps := #[.slice a0 n cap, yy1, .string ⟨⟨id⟩⟩, yy3, yy4, yy5, yy6, yy7, yy8, yy9, .int .i64 (k : Int), yy11, yy12, yy13, yy14, yy15, yy16, yy17, yy18, yy19, yy20, yy21, yy22, yy23, yy24, yy25, yy26, yy27, yy28, yy29, yy30, yy31, yy32, yy33, yy34, yy35, yy36, yy37, yy38, yy39, yy40, yy41, yy42, yy43, yy44, yy45, yy46, yy47, yy48, yy49, yy50, yy51, yy52, yy53, yy54, yy55, yy56, yy57, yy58, yy59, yy60, yy61, yy62, yy63, yy64, yy65, yy66, yy67, yy68], defers := [] } W := by
  obtain ⟨c, hc⟩ : ∃ c, c = sufC cut16 (bodyOf Tryd.f16) := ⟨_, rfl⟩
  rw [← hc]
  simp only [sufC, bodyOf, Tryd.f16, Option.getD_some, firstReg, cut16, Nat.reduceEqDiff, ↓reduceIte] at hc
  subst hc
  go_wp2_with (first
    | (go_at_call 32; refine hcall.mono ?_; rintro e w1 ⟨g, cv, qa, qn, qc, rfl, hcell, hg, v', w2, hrun, pa, pn, pc, rfl, hc2, hf2, hfin⟩)
    | (at_builtin; refine wpList_app _ rfl (.tmp 62) (.tmp 64) 38 38 rfl (.slice qa qn qc) (.slice (some ⟨w1.heap.size, 0, none⟩) 1 1) rfl rfl (fun v w => v = .slice pa pn pc ∧ w = w2) ⟨_, _, hrun, rfl, rfl⟩ ?_; rintro v w ⟨rfl, rfl⟩; clear hrun))
  go_ret2
  exact ⟨_, rfl, hfin.out⟩
theorem list69 (l : List Value) (h : l.length = 69) : ∃ yy0 yy1 yy2 yy3 yy4 yy5 yy6 yy7 yy8 yy9 yy10 yy11 yy12 yy13 yy14 yy15 yy16 yy17 yy18 yy19 yy20 yy21 yy22 yy23 yy24 yy25 yy26 yy27 yy28 yy29 yy30 yy31 yy32 yy33 yy34 yy35 yy36 yy37 yy38 yy39 yy40 yy41 yy42 yy43 yy44 yy45 yy46 yy47 yy48 yy49 yy50 yy51 yy52 yy53 yy54 yy55 yy56 yy57 yy58 yy59 yy60 yy61 yy62 yy63 yy64 yy65 yy66 yy67 yy68, l = [yy0, yy1, yy2, yy3, yy4, yy5, yy6, yy7, yy8, yy9, yy10, yy11, yy12, yy13, yy14, yy15, yy16, yy17, yy18, yy19, yy20, yy21, yy22, yy23, yy24, yy25, yy26, yy27, yy28, yy29, yy30, yy31, yy32, yy33, yy34, yy35, yy36, yy37, yy38, yy39, yy40, yy41, yy42, yy43, yy44, yy45, yy46, yy47, yy48, yy49, yy50, yy51, yy52, yy53, yy54, yy55, yy56, yy57, yy58, yy59, yy60, yy61, yy62, yy63, yy64, yy65, yy66, yy67, yy68] := by
  match l, h with
  | yy0 :: yy1 :: yy2 :: yy3 :: yy4 :: yy5 :: yy6 :: yy7 :: yy8 :: yy9 :: yy10 :: yy11 :: yy12 :: yy13 :: yy14 :: yy15 :: yy16 :: yy17 :: yy18 :: yy19 :: yy20 :: yy21 :: yy22 :: yy23 :: yy24 :: yy25 :: yy26 :: yy27 :: yy28 :: yy29 :: yy30 :: yy31 :: yy32 :: yy33 :: yy34 :: yy35 :: yy36 :: yy37 :: yy38 :: yy39 :: yy40 :: yy41 :: yy42 :: yy43 :: yy44 :: yy45 :: yy46 :: yy47 :: yy48 :: yy49 :: yy50 :: yy51 :: yy52 :: yy53 :: yy54 :: yy55 :: yy56 :: yy57 :: yy58 :: yy59 :: yy60 :: yy61 :: yy62 :: yy63 :: yy64 :: yy65 :: yy66 :: yy67 :: yy68 :: [], _ => exact ⟨yy0, yy1, yy2, yy3, yy4, yy5, yy6, yy7, yy8, yy9, yy10, yy11, yy12, yy13, yy14, yy15, yy16, yy17, yy18, yy19, yy20, yy21, yy22, yy23, yy24, yy25, yy26, yy27, yy28, yy29, yy30, yy31, yy32, yy33, yy34, yy35, yy36, yy37, yy38, yy39, yy40, yy41, yy42, yy43, yy44, yy45, yy46, yy47, yy48, yy49, yy50, yy51, yy52, yy53, yy54, yy55, yy56, yy57, yy58, yy59, yy60, yy61, yy62, yy63, yy64, yy65, yy66, yy67, yy68, rfl⟩
theorem suf16 : ∀ (dat : List D) (G : Addr → Prop) (w : World), (con16.run dat).pre → (∀ b, G b → b.block < w.heap.size) → ∀ E s a w', Rel Tryd.prog w.heap.size G w [] [] E s a w' → kc16 dat s →
    (sufC cut16 (bodyOf Tryd.f16)).wp Tryd.prog (bodyPost Tryd.prog Tryd.f16 fun e w'' => ∃ v, e = .returned v ∧ RetOK G w (con16.run dat).rets v w'') a w' := by
  intro dat G w hpre hG E s a w' r hk
  match dat, hk, hpre with
  | [l, k, id, t], hk, hpre =>
    unfold kc16 cutK at hk
    simp only at hk
    split at hk
    · rename_i hsl
      obtain ⟨hcl, hE0⟩ := hk
      obtain ⟨v0, i0, hv0⟩ := cutL_ok r hcl 0 (.one (.sl disT l.l)) (by simp)
      obtain ⟨v2, i2, rfl, hid⟩ := cutL_ok r hcl 2 (.one (.str id.s)) (by simp)
      obtain ⟨v10, i10, rfl, _⟩ := cutL_ok r hcl 10 (.one (.int .i64 (opI l.l k.s))) (by simp)
      obtain ⟨p1, p2, p3⟩ := prov_ok hE0
      obtain ⟨kk, hkk⟩ : ∃ kk : Nat, opI l.l k.s = (kk : Int) := ⟨(opI l.l k.s).toNat, by omega⟩
      have hres : (con16.run [l, k, id, t]).rets = [vSl disT (addP l.l (kk : Int) id.s), vI 0] := by
        show [vSl disT (provL l.l k.s id.s t.i), vI (provE l.l k.s id.s t.i)] = _
        unfold provL
        rw [hE0, if_pos rfl, hkk]
      rw [hres]
      rw [hkk] at p2 p3 i10
      have hfit : fit l.l := hpre
      obtain ⟨a0, cap, kb, tt', cc, ss, p, e, hP, hY, hO⟩ := copy_facts hv0 hfit
      subst e
      have hin : ∀ a, E.G a → a.block < w'.heap.size := r.hr.gin
      have hcall := walk32 E.G a0 cap l.l.length l.l w' hfit.1 hin kb tt' cc ss (fun j => (p j).1) (fun j => (p j).2.1) (fun j => (p j).2.2) hP hY
      have hcall2 := hcall.mono (R' := fun e w1 => ∃ g cv qa qn qc, e = .returned (.slice (some ⟨g, 0, none⟩) l.l.length cv) ∧ w1.cell? ⟨g, kk * 5 + 4, none⟩ = some (.slice qa qn qc) ∧ g < w1.heap.size ∧
        ∃ v' w2, (Builtin.append_ #[38, 38] 38 #[.slice qa qn qc, .slice (some ⟨w1.heap.size, 0, none⟩) 1 1]).run Tryd.prog (w1.alloc (.cells #[.string ⟨⟨id.s⟩⟩] 9 (0, 0))) = .ok v' w2 ∧
        ∃ pa pn pc, v' = .slice pa pn pc ∧ w2.cell? ⟨g, kk * 5 + 4, none⟩ = some (.slice qa qn qc) ∧ w2.frozen? ⟨g, kk * 5 + 4, none⟩ = false ∧ Keep (RetOK G w [vSl disT (addP l.l (kk : Int) id.s), vI 0] (.tuple #[.slice (some ⟨g, 0, none⟩) l.l.length cv, .int .i64 0]) (w2.setCell ⟨g, kk * 5 + 4, none⟩ (.slice pa pn pc)))) (by
          rintro e w1 ⟨v, Q, rfl, hD, hb⟩
          obtain ⟨g, cv, qa, qn, qc, rfl, hc, hg, v', w2, hrun, pa, pn, pc, rfl, h1, h2, ⟨⟨⟨Q', hD'⟩, hb'⟩⟩⟩ := prove_tail (id := id.s) hD (fun i _ => rfl) (k := kk) (by omega) (by simp only [List.length_map]; omega) hb.size
          exact ⟨g, cv, qa, qn, qc, rfl, hc, hg, _, w2, hrun, pa, pn, pc, rfl, h1, h2, ⟨fin_ok hG r.below r.base (fun a ha => r.hr.gz.1 a (by rw [r.g0]; exact ha)) (fun a ha => (r.hr.gz.2 a ha).imp (fun h => by rw [r.g0] at h; exact h) (fun h => h)) hin (by omega) hid hO hD' (hb.trans hb')⟩⟩)
      obtain ⟨⟨tl⟩, df⟩ := a
      have hdf : df = [] := r.defers
      subst hdf
      have hlen : tl.length = 69 := by rw [← hsl]; exact r.slots.len.symm
      obtain ⟨yy0, yy1, yy2, yy3, yy4, yy5, yy6, yy7, yy8, yy9, yy10, yy11, yy12, yy13, yy14, yy15, yy16, yy17, yy18, yy19, yy20, yy21, yy22, yy23, yy24, yy25, yy26, yy27, yy28, yy29, yy30, yy31, yy32, yy33, yy34, yy35, yy36, yy37, yy38, yy39, yy40, yy41, yy42, yy43, yy44, yy45, yy46, yy47, yy48, yy49, yy50, yy51, yy52, yy53, yy54, yy55, yy56, yy57, yy58, yy59, yy60, yy61, yy62, yy63, yy64, yy65, yy66, yy67, yy68, rfl⟩ := list69 tl hlen
      have j0 : yy0 = .slice a0 l.l.length cap := by simpa using i0
      have j2 : yy2 = .string ⟨⟨id.s⟩⟩ := by simpa using i2
      have j10 : yy10 = .int .i64 (kk : Int) := by simpa using i10
      subst j0; subst j2; subst j10
      exact tail16 yy1 yy3 yy4 yy5 yy6 yy7 yy8 yy9 yy11 yy12 yy13 yy14 yy15 yy16 yy17 yy18 yy19 yy20 yy21 yy22 yy23 yy24 yy25 yy26 yy27 yy28 yy29 yy30 yy31 yy32 yy33 yy34 yy35 yy36 yy37 yy38 yy39 yy40 yy41 yy42 yy43 yy44 yy45 yy46 yy47 yy48 yy49 yy50 yy51 yy52 yy53 yy54 yy55 yy56 yy57 yy58 yy59 yy60 yy61 yy62 yy63 yy64 yy65 yy66 yy67 yy68 a0 cap l.l.length kk id.s w' (fun v w'' => RetOK G w [vSl disT (addP l.l (kk : Int) id.s), vI 0] v w'') (by omega) hfit.1 hcall2
    · exact hk.elim
theorem tail27 (yy1 yy3 yy4 yy5 yy6 yy7 yy8 yy9 yy11 yy12 yy13 yy14 yy15 yy16 yy17 yy18 yy19 yy20 yy21 yy22 yy23 yy24 yy25 yy26 yy27 yy28 yy29 yy30 yy31 yy32 yy33 yy34 yy35 yy36 yy37 yy38 yy39 yy40 yy41 yy42 yy43 yy44 yy45 yy46 yy47 yy48 yy49 yy50 yy51 yy52 yy53 yy54 yy55 yy56 yy57 yy58 yy59 yy60 yy61 yy62 yy63 yy64 yy65 yy66 yy67 yy68 yy69 yy70 yy71 yy72 yy73 yy74 yy75 yy76 yy77 yy78 : Value) (a0 : Option Addr) (cap n k : Nat) (id : List UInt8) (W : World) (R : Value → World → Prop) (hk : (k : Int) < (n : Int)) (hn : n ≤ 2000)
    (hcall : Calls Tryd.prog 42 #[.slice a0 n cap] W fun e w1 => ∃ g cv qa qn qc, e = .returned (.slice (some ⟨g, 0, none⟩) n cv) ∧ w1.cell? ⟨g, k * 5 + 4, none⟩ = some (.slice qa qn qc) ∧ g < w1.heap.size ∧
      ∃ v' w2, (Builtin.append_ #[38, 38] 38 #[.slice qa qn qc, .slice (some ⟨w1.heap.size, 0, none⟩) 1 1]).run Tryd.prog (w1.alloc (.cells #[.string ⟨⟨id⟩⟩] 9 (0, 0))) = .ok v' w2 ∧
        ∃ pa pn pc, v' = .slice pa pn pc ∧ w2.cell? ⟨g, k * 5 + 4, none⟩ = some (.slice qa qn qc) ∧ w2.frozen? ⟨g, k * 5 + 4, none⟩ = false ∧ Keep (R (.tuple #[.slice (some ⟨g, 0, none⟩) n cv, .int .i64 0]) (w2.setCell ⟨g, k * 5 + 4, none⟩ (.slice pa pn pc)))) :
    (sufC cut27 (bodyOf Tryd.f27)).wp Tryd.prog (bodyPost Tryd.prog Tryd.f27 fun e w'' => ∃ v, e = .returned v ∧ R v w'')
      { tmps := #[.slice a0 n cap, yy1, .string ⟨⟨id⟩⟩, yy3, yy4, yy5, yy6, yy7, yy8, yy9, .int .i64 (k : Int), yy11, yy12, yy13, yy14, yy15, yy16, yy17, yy18, yy19, yy20, yy21, yy22, yy23, yy24, yy25, yy26, yy27, yy28, yy29, yy30, yy31, yy32, yy33, yy34, yy35, yy36, yy37, yy38, yy39, yy40, yy41, yy42, yy43, yy44, yy45, yy46, yy47, yy48, yy49, yy50, yy51, yy52, yy53, yy54, yy55, yy56, yy57, yy58, yy59, yy60, yy61, yy62, yy63, yy64, yy65, yy66, yy67, yy68, yy69, yy70, yy71, yy72, yy73, yy74, yy75, yy76, yy77, yy78], defers := [] } W := by
  obtain ⟨c, hc⟩ : ∃ c, c = sufC cut27 (bodyOf Tryd.f27) := ⟨_, rfl⟩
  rw [← hc]
  simp only [sufC, bodyOf, Tryd.f27, Option.getD_some, firstReg, cut27, Nat.reduceEqDiff, ↓reduceIte] at hc
  subst hc
  go_wp2_with (first
    | (go_at_call 42; refine hcall.mono ?_; rintro e w1 ⟨g, cv, qa, qn, qc, rfl, hcell, hg, v', w2, hrun, pa, pn, pc, rfl, hc2, hf2, hfin⟩)
    | (at_builtin; refine wpList_app _ rfl (.tmp 72) (.tmp 74) 38 38 rfl (.slice qa qn qc) (.slice (some ⟨w1.heap.size, 0, none⟩) 1 1) rfl rfl (fun v w => v = .slice pa pn pc ∧ w = w2) ⟨_, _, hrun, rfl, rfl⟩ ?_; rintro v w ⟨rfl, rfl⟩; clear hrun))
  go_ret2
  exact ⟨_, rfl, hfin.out⟩
theorem list79 (l : List Value) (h : l.length = 79) : ∃ yy0 yy1 yy2 yy3 yy4 yy5 yy6 yy7 yy8 yy9 yy10 yy11 yy12 yy13 yy14 yy15 yy16 yy17 yy18 yy19 yy20 yy21 yy22 yy23 yy24 yy25 yy26 yy27 yy28 yy29 yy30 yy31 yy32 yy33 yy34 yy35 yy36 yy37 yy38 yy39 yy40 yy41 yy42 yy43 yy44 yy45 yy46 yy47 yy48 yy49 yy50 yy51 yy52 yy53 yy54 yy55 yy56 yy57 yy58 yy59 yy60 yy61 yy62 yy63 yy64 yy65 yy66 yy67 yy68 yy69 yy70 yy71 yy72 yy73 yy74 yy75 yy76 yy77 yy78, l = [yy0, yy1, yy2, yy3, yy4, yy5, yy6, yy7, yy8, yy9, yy10, yy11, yy12, yy13, yy14, yy15, yy16, yy17, yy18, yy19, yy20, yy21, yy22, yy23, yy24, yy25, yy26, yy27, yy28, yy29, yy30, yy31, yy32, yy33, yy34, yy35, yy36, yy37, yy38, yy39, yy40, yy41, yy42, yy43, yy44, yy45, yy46, yy47, yy48, yy49, yy50, yy51, yy52, yy53, yy54, yy55, yy56, yy57, yy58, yy59, yy60, yy61, yy62, yy63, yy64, yy65, yy66, yy67, yy68, yy69, yy70, yy71, yy72, yy73, yy74, yy75, yy76, yy77, yy78] := by
  match l, h with
  | yy0 :: yy1 :: yy2 :: yy3 :: yy4 :: yy5 :: yy6 :: yy7 :: yy8 :: yy9 :: yy10 :: yy11 :: yy12 :: yy13 :: yy14 :: yy15 :: yy16 :: yy17 :: yy18 :: yy19 :: yy20 :: yy21 :: yy22 :: yy23 :: yy24 :: yy25 :: yy26 :: yy27 :: yy28 :: yy29 :: yy30 :: yy31 :: yy32 :: yy33 :: yy34 :: yy35 :: yy36 :: yy37 :: yy38 :: yy39 :: yy40 :: yy41 :: yy42 :: yy43 :: yy44 :: yy45 :: yy46 :: yy47 :: yy48 :: yy49 :: yy50 :: yy51 :: yy52 :: yy53 :: yy54 :: yy55 :: yy56 :: yy57 :: yy58 :: yy59 :: yy60 :: yy61 :: yy62 :: yy63 :: yy64 :: yy65 :: yy66 :: yy67 :: yy68 :: yy69 :: yy70 :: yy71 :: yy72 :: yy73 :: yy74 :: yy75 :: yy76 :: yy77 :: yy78 :: [], _ => exact ⟨yy0, yy1, yy2, yy3, yy4, yy5, yy6, yy7, yy8, yy9, yy10, yy11, yy12, yy13, yy14, yy15, yy16, yy17, yy18, yy19, yy20, yy21, yy22, yy23, yy24, yy25, yy26, yy27, yy28, yy29, yy30, yy31, yy32, yy33, yy34, yy35, yy36, yy37, yy38, yy39, yy40, yy41, yy42, yy43, yy44, yy45, yy46, yy47, yy48, yy49, yy50, yy51, yy52, yy53, yy54, yy55, yy56, yy57, yy58, yy59, yy60, yy61, yy62, yy63, yy64, yy65, yy66, yy67, yy68, yy69, yy70, yy71, yy72, yy73, yy74, yy75, yy76, yy77, yy78, rfl⟩
theorem suf27 : ∀ (dat : List D) (G : Addr → Prop) (w : World), (con27.run dat).pre → (∀ b, G b → b.block < w.heap.size) → ∀ E s a w', Rel Tryd.prog w.heap.size G w [] [] E s a w' → kc27 dat s →
    (sufC cut27 (bodyOf Tryd.f27)).wp Tryd.prog (bodyPost Tryd.prog Tryd.f27 fun e w'' => ∃ v, e = .returned v ∧ RetOK G w (con27.run dat).rets v w'') a w' := by
  intro dat G w hpre hG E s a w' r hk
  match dat, hk, hpre with
  | [l, k, id, t], hk, hpre =>
    unfold kc27 cutK at hk
    simp only at hk
    split at hk
    · rename_i hsl
      obtain ⟨hcl, hE0⟩ := hk
      obtain ⟨v0, i0, hv0⟩ := cutL_ok r hcl 0 (.one (.sl disT l.l)) (by simp)
      obtain ⟨v2, i2, rfl, hid⟩ := cutL_ok r hcl 2 (.one (.str id.s)) (by simp)
      obtain ⟨v10, i10, rfl, _⟩ := cutL_ok r hcl 10 (.one (.int .i64 (opI l.l k.s))) (by simp)
      obtain ⟨p1, p2, p3⟩ := prov_ok hE0
      obtain ⟨kk, hkk⟩ : ∃ kk : Nat, opI l.l k.s = (kk : Int) := ⟨(opI l.l k.s).toNat, by omega⟩
      have hres : (con27.run [l, k, id, t]).rets = [vSl disT (addP l.l (kk : Int) id.s), vI 0] := by
        show [vSl disT (provL l.l k.s id.s t.i), vI (provE l.l k.s id.s t.i)] = _
        unfold provL
        rw [hE0, if_pos rfl, hkk]
      rw [hres]
      rw [hkk] at p2 p3 i10
      have hfit : fit l.l := hpre
      obtain ⟨a0, cap, kb, tt', cc, ss, p, e, hP, hY, hO⟩ := copy_facts hv0 hfit
      subst e
      have hin : ∀ a, E.G a → a.block < w'.heap.size := r.hr.gin
      have hcall := walk42 E.G a0 cap l.l.length l.l w' hfit.1 hin kb tt' cc ss (fun j => (p j).1) (fun j => (p j).2.1) (fun j => (p j).2.2) hP hY
      have hcall2 := hcall.mono (R' := fun e w1 => ∃ g cv qa qn qc, e = .returned (.slice (some ⟨g, 0, none⟩) l.l.length cv) ∧ w1.cell? ⟨g, kk * 5 + 4, none⟩ = some (.slice qa qn qc) ∧ g < w1.heap.size ∧
        ∃ v' w2, (Builtin.append_ #[38, 38] 38 #[.slice qa qn qc, .slice (some ⟨w1.heap.size, 0, none⟩) 1 1]).run Tryd.prog (w1.alloc (.cells #[.string ⟨⟨id.s⟩⟩] 9 (0, 0))) = .ok v' w2 ∧
        ∃ pa pn pc, v' = .slice pa pn pc ∧ w2.cell? ⟨g, kk * 5 + 4, none⟩ = some (.slice qa qn qc) ∧ w2.frozen? ⟨g, kk * 5 + 4, none⟩ = false ∧ Keep (RetOK G w [vSl disT (addP l.l (kk : Int) id.s), vI 0] (.tuple #[.slice (some ⟨g, 0, none⟩) l.l.length cv, .int .i64 0]) (w2.setCell ⟨g, kk * 5 + 4, none⟩ (.slice pa pn pc)))) (by
          rintro e w1 ⟨v, Q, rfl, hD, hb⟩
          obtain ⟨g, cv, qa, qn, qc, rfl, hc, hg, v', w2, hrun, pa, pn, pc, rfl, h1, h2, ⟨⟨⟨Q', hD'⟩, hb'⟩⟩⟩ := prove_tail (id := id.s) hD (fun i _ => rfl) (k := kk) (by omega) (by simp only [List.length_map]; omega) hb.size
          exact ⟨g, cv, qa, qn, qc, rfl, hc, hg, _, w2, hrun, pa, pn, pc, rfl, h1, h2, ⟨fin_ok hG r.below r.base (fun a ha => r.hr.gz.1 a (by rw [r.g0]; exact ha)) (fun a ha => (r.hr.gz.2 a ha).imp (fun h => by rw [r.g0] at h; exact h) (fun h => h)) hin (by omega) hid hO hD' (hb.trans hb')⟩⟩)
      obtain ⟨⟨tl⟩, df⟩ := a
      have hdf : df = [] := r.defers
      subst hdf
      have hlen : tl.length = 79 := by rw [← hsl]; exact r.slots.len.symm
      obtain ⟨yy0, yy1, yy2, yy3, yy4, yy5, yy6, yy7, yy8, yy9, yy10, yy11, yy12, yy13, yy14, yy15, yy16, yy17, yy18, yy19, yy20, yy21, yy22, yy23, yy24, yy25, yy26, yy27, yy28, yy29, yy30, yy31, yy32, yy33, yy34, yy35, yy36, yy37, yy38, yy39, yy40, yy41, yy42, yy43, yy44, yy45, yy46, yy47, yy48, yy49, yy50, yy51, yy52, yy53, yy54, yy55, yy56, yy57, yy58, yy59, yy60, yy61, yy62, yy63, yy64, yy65, yy66, yy67, yy68, yy69, yy70, yy71, yy72, yy73, yy74, yy75, yy76, yy77, yy78, rfl⟩ := list79 tl hlen
      have j0 : yy0 = .slice a0 l.l.length cap := by simpa using i0
      have j2 : yy2 = .string ⟨⟨id.s⟩⟩ := by simpa using i2
      have j10 : yy10 = .int .i64 (kk : Int) := by simpa using i10
      subst j0; subst j2; subst j10
      exact tail27 yy1 yy3 yy4 yy5 yy6 yy7 yy8 yy9 yy11 yy12 yy13 yy14 yy15 yy16 yy17 yy18 yy19 yy20 yy21 yy22 yy23 yy24 yy25 yy26 yy27 yy28 yy29 yy30 yy31 yy32 yy33 yy34 yy35 yy36 yy37 yy38 yy39 yy40 yy41 yy42 yy43 yy44 yy45 yy46 yy47 yy48 yy49 yy50 yy51 yy52 yy53 yy54 yy55 yy56 yy57 yy58 yy59 yy60 yy61 yy62 yy63 yy64 yy65 yy66 yy67 yy68 yy69 yy70 yy71 yy72 yy73 yy74 yy75 yy76 yy77 yy78 a0 cap l.l.length kk id.s w' (fun v w'' => RetOK G w [vSl disT (addP l.l (kk : Int) id.s), vI 0] v w'') (by omega) hfit.1 hcall2
    · exact hk.elim
end Go.Proofs.YtkfghnflbehecaaDoor
