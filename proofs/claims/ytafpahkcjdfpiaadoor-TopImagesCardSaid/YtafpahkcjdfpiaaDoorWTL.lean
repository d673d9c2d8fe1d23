/- Part of the proof of the laws of this seat: contracts of its functions, for every input. -/
import Derived.Test.YtafpahkcjdfpiaaDoorWTG
import Derived.Test.YtafpahkcjdfpiaaDoorWTI
set_option linter.all false
namespace Go.Proofs.YtafpahkcjdfpiaaDoor
open Go Go.RX Go.Proofs Go.RowKit
set_option linter.all false
set_option maxRecDepth 1000000
set_option maxHeartbeats 400000
theorem fd_lt (l : List D) (s : List UInt8) : fdZ l s < l.length := by
  rcases fd_cases l s with ⟨g, h, h2, _⟩ | ⟨h, _⟩ <;> omega
theorem hd_ok {l : List D} {id r : List UInt8} (h : hdE l id r = 0) : 0 ≤ fdZ l id ∧ fdZ l id < l.length ∧ (rl (elt l (fdZ l id)) 3).length < 16 := by
  have hlt := fd_lt l id
  unfold hdE at h
  split at h
  · cases h
  rename_i h1
  split at h
  · cases h
  split at h
  · cases h
  rename_i h3
  exact ⟨by omega, hlt, by omega⟩
theorem re_ok {l : List D} {id r : List UInt8} (h : reE l id r = 0) : 0 ≤ fdZ l id ∧ fdZ l id < l.length ∧ 0 ≤ idxZ (rl (elt l (fdZ l id)) 3) r := by
  have hlt := fd_lt l id
  unfold reE at h
  split at h
  · cases h
  rename_i h1
  split at h
  · cases h
  rename_i h2
  exact ⟨by omega, hlt, by omega⟩
theorem put_x {xs : List D} {k : Nat} {F X : Nat → List Value} {H : Nat → Value} {h : List D} {Xk : List Value} (hk : k < xs.length) (hx : ∀ i x, xs[i]? = some x → ImOK x (F i) (H i) (X i)) (hX : Xk = h.map fun d => .string ⟨⟨d.s⟩⟩) (hs : ∀ p ∈ h, ∃ b, p = .str b ∧ b.length ≤ maxLen) :
    ∀ i x, (xset xs k (withH (elt xs (k : Int)) h))[i]? = some x → ImOK x (F i) (H i) (if i = k then Xk else X i) := fun i x hi => by
  unfold xset at hi
  rw [List.getElem?_set] at hi
  by_cases e : k = i
  · subst e
    rw [if_pos rfl, if_pos hk] at hi
    rw [if_pos rfl]
    obtain ⟨kk, t, c, ps, g, e1, e2, e0, e3, h1, h2, h3, h4, h5⟩ := hx k xs[k] (List.getElem?_eq_getElem hk)
    rw [elt_get hk, e1] at hi
    cases hi
    exact ⟨kk, t, c, h, g, rfl, e2, e0, hX, h1, h2, h3, h4, hs⟩
  · rw [if_neg e] at hi
    rw [if_neg (fun h => e h.symm)]
    exact hx i x hi
theorem strs_of {xs : List D} {k : Nat} {F X : Nat → List Value} {H : Nat → Value} (hx : ∀ i x, xs[i]? = some x → ImOK x (F i) (H i) (X i)) (hk : k < xs.length) : ∀ p ∈ rl (elt xs (k : Int)) 3, ∃ b, p = .str b ∧ b.length ≤ maxLen := by
  obtain ⟨kk, t, c, ps, g, e1, _, _, _, _, _, _, _, h5⟩ := hx k xs[k] (List.getElem?_eq_getElem hk)
  rw [elt_get hk, e1]
  exact h5
theorem fin_ok {G : Addr → Prop} {w w' w3 : World} {E : Env} {xs ys : List D} {g cv : Nat} {F X : Nat → List Value} {Q H : Nat → Value} (hG : ∀ b, G b → b.block < w.heap.size) (bw : Below w.heap.size w w') (hN : w.heap.size ≤ w'.heap.size)
    (hGE : ∀ a, G a → E.G a) (hEG : ∀ a, E.G a → G a ∨ w.heap.size ≤ a.block) (hin : ∀ a, E.G a → a.block < w'.heap.size) (hlen : ys.length = xs.length)
    (hx : ∀ i x, ys[i]? = some x → ImOK x (F i) (H i) (X i)) (hD : DeepAt w3 w'.heap.size (.slice (some ⟨g, 0, none⟩) xs.length cv) xs.length F Q H X) (hb : Below w'.heap.size w' w3) :
    RetOK G w [vSl imT ys, vI 0] (.tuple #[.slice (some ⟨g, 0, none⟩) xs.length cv, .int .i64 0]) w3 := by
  rw [← hlen] at hD
  let G' : Addr → Prop := fun a => subG E.G Q ys.length a ∨ a.block = g
  have hgl := hD.own.lt g rfl
  have hread : Rd G' w3 (.slice imT) [.slice (some ⟨g, 0, none⟩) ys.length cv] (.list ys) :=
    own_rd hD.own (hD.rdl hx fun i hi b hb a ha => .inl (.inr ⟨i, hi, by rw [ha]; exact hb⟩)) fun b hb a ha => .inr (by
      have : g = b := by simpa [Value.ownBlock] using hb
      rw [ha, this])
  rw [hlen] at hread
  refine ⟨bw.trans (hb.mono hN), G', fun a h => .inl (.inl (hGE a h)), fun a h => ?_, [_, _], rfl, hread, ⟨rfl, by decide, by decide⟩, trivial⟩
  rcases h with (h | ⟨i, hi, hq⟩) | h
  · rcases hEG a h with h1 | h1
    · exact .inl h1
    · exact .inr ⟨h1, Nat.lt_of_lt_of_le (hin a h) hb.size⟩
  · have := (hD.sub i hi).lt _ hq
    exact .inr ⟨by omega, this.2⟩
  · rw [h]; exact .inr ⟨by omega, hgl.2⟩
theorem tail32 (yy1 yy3 yy4 yy5 yy6 yy7 yy9 yy10 yy11 yy12 yy13 yy14 yy15 yy16 yy17 yy18 yy19 yy20 yy21 yy22 yy23 yy24 yy25 yy26 yy27 yy28 yy29 yy30 yy31 yy32 yy33 yy34 yy35 yy36 yy37 yy38 yy39 yy40 yy41 yy42 yy43 yy44 yy45 yy46 yy47 yy48 yy49 yy50 yy51 yy52 yy53 : Value) (a0 : Option Addr) (cap n k : Nat) (id : List UInt8) (W : World) (R : Value → World → Prop) (hk : (k : Int) < (n : Int)) (hn : n ≤ 2000)
    (hcall : Calls Tryd.prog 59 #[.slice a0 n cap] W fun e w1 => ∃ g cv qa qn qc, e = .returned (.slice (some ⟨g, 0, none⟩) n cv) ∧ w1.cell? ⟨g, k * 5 + 3, none⟩ = some (.slice qa qn qc) ∧ g < w1.heap.size ∧
      ∃ v' w2, (Builtin.append_ #[22, 22] 22 #[.slice qa qn qc, .slice (some ⟨w1.heap.size, 0, none⟩) 1 1]).run Tryd.prog (w1.alloc (.cells #[.string ⟨⟨id⟩⟩] 9 (0, 0))) = .ok v' w2 ∧
        ∃ pa pn pc, v' = .slice pa pn pc ∧ w2.cell? ⟨g, k * 5 + 3, none⟩ = some (.slice qa qn qc) ∧ w2.frozen? ⟨g, k * 5 + 3, none⟩ = false ∧ Keep ((R) (.tuple #[.slice (some ⟨g, 0, none⟩) n cv, .int .i64 0]) (w2.setCell ⟨g, k * 5 + 3, none⟩ (.slice pa pn pc)))) :
    (sufC cut32 (bodyOf Tryd.f32)).wp Tryd.prog (bodyPost Tryd.prog Tryd.f32 fun e w'' => ∃ v, e = .returned v ∧ R v w'')
      { tmps := #[.slice a0 n cap, yy1, .string ⟨⟨id⟩⟩, yy3, yy4, yy5, yy6, yy7, .int .i64 (k : Int), yy9, yy10, yy11, yy12, yy13, yy14, yy15, yy16, yy17, yy18, yy19, yy20, yy21, yy22, yy23, yy24, yy25, yy26, yy27, yy28, yy29, yy30, yy31, yy32, yy33, yy34, yy35, yy36, yy37, yy38, yy39, yy40, yy41, yy42, yy43, yy44, yy45, yy46, yy47, yy48, yy49, yy50, yy51, yy52, yy53], defers := [] } W := by
  obtain ⟨c, hc⟩ : ∃ c, c = sufC cut32 (bodyOf Tryd.f32) := ⟨_, rfl⟩
  rw [← hc]
  simp only [sufC, bodyOf, Tryd.f32, Option.getD_some, firstReg, cut32, Nat.reduceEqDiff, ↓reduceIte] at hc
  subst hc
  go_wp2_with (first
    | (go_at_call 59; refine hcall.mono ?_; rintro e w1 ⟨g, cv, qa, qn, qc, rfl, hcell, hg, v', w2, hrun, pa, pn, pc, rfl, hc2, hf2, hfin⟩)
    | (at_builtin; refine wpList_app _ rfl (.tmp 47) (.tmp 49) 22 22 rfl (.slice qa qn qc) (.slice (some ⟨w1.heap.size, 0, none⟩) 1 1) rfl rfl (fun v w => v = .slice pa pn pc ∧ w = w2) ⟨_, _, hrun, rfl, rfl⟩ ?_; rintro v w ⟨rfl, rfl⟩; clear hrun))
  go_ret2
  exact ⟨_, rfl, hfin.out⟩
theorem list54 (l : List Value) (h : l.length = 54) : ∃ yy0 yy1 yy2 yy3 yy4 yy5 yy6 yy7 yy8 yy9 yy10 yy11 yy12 yy13 yy14 yy15 yy16 yy17 yy18 yy19 yy20 yy21 yy22 yy23 yy24 yy25 yy26 yy27 yy28 yy29 yy30 yy31 yy32 yy33 yy34 yy35 yy36 yy37 yy38 yy39 yy40 yy41 yy42 yy43 yy44 yy45 yy46 yy47 yy48 yy49 yy50 yy51 yy52 yy53, l = [yy0, yy1, yy2, yy3, yy4, yy5, yy6, yy7, yy8, yy9, yy10, yy11, yy12, yy13, yy14, yy15, yy16, yy17, yy18, yy19, yy20, yy21, yy22, yy23, yy24, yy25, yy26, yy27, yy28, yy29, yy30, yy31, yy32, yy33, yy34, yy35, yy36, yy37, yy38, yy39, yy40, yy41, yy42, yy43, yy44, yy45, yy46, yy47, yy48, yy49, yy50, yy51, yy52, yy53] := by
  match l, h with
  | yy0 :: yy1 :: yy2 :: yy3 :: yy4 :: yy5 :: yy6 :: yy7 :: yy8 :: yy9 :: yy10 :: yy11 :: yy12 :: yy13 :: yy14 :: yy15 :: yy16 :: yy17 :: yy18 :: yy19 :: yy20 :: yy21 :: yy22 :: yy23 :: yy24 :: yy25 :: yy26 :: yy27 :: yy28 :: yy29 :: yy30 :: yy31 :: yy32 :: yy33 :: yy34 :: yy35 :: yy36 :: yy37 :: yy38 :: yy39 :: yy40 :: yy41 :: yy42 :: yy43 :: yy44 :: yy45 :: yy46 :: yy47 :: yy48 :: yy49 :: yy50 :: yy51 :: yy52 :: yy53 :: [], _ => exact ⟨yy0, yy1, yy2, yy3, yy4, yy5, yy6, yy7, yy8, yy9, yy10, yy11, yy12, yy13, yy14, yy15, yy16, yy17, yy18, yy19, yy20, yy21, yy22, yy23, yy24, yy25, yy26, yy27, yy28, yy29, yy30, yy31, yy32, yy33, yy34, yy35, yy36, yy37, yy38, yy39, yy40, yy41, yy42, yy43, yy44, yy45, yy46, yy47, yy48, yy49, yy50, yy51, yy52, yy53, rfl⟩
theorem suf32 : ∀ (dat : List D) (G : Addr → Prop) (w : World), (con32.run dat).pre → (∀ b, G b → b.block < w.heap.size) → ∀ E s a w', Rel Tryd.prog w.heap.size G w [] [] E s a w' → kc32 dat s →
    (sufC cut32 (bodyOf Tryd.f32)).wp Tryd.prog (bodyPost Tryd.prog Tryd.f32 fun e w'' => ∃ v, e = .returned v ∧ RetOK G w (con32.run dat).rets v w'') a w' := by
  intro dat G w hpre hG E s a w' r hk
  match dat, hk, hpre with
  | [l, id, t], hk, hpre =>
    unfold kc32 cutK at hk
    simp only at hk
    split at hk
    · rename_i hsl
      obtain ⟨hcl, hE0⟩ := hk
      obtain ⟨v0, i0, hv0⟩ := cutL_ok r hcl 0 (.one (.sl imT l.l)) (by simp)
      obtain ⟨v2, i2, rfl, hid⟩ := cutL_ok r hcl 2 (.one (.str t.s)) (by simp)
      obtain ⟨v8, i8, rfl, _⟩ := cutL_ok r hcl 8 (.one (.int .i64 (fdZ l.l id.s))) (by simp)
      obtain ⟨p1, p2, p3⟩ := hd_ok hE0
      obtain ⟨kk, hkk⟩ : ∃ kk : Nat, fdZ l.l id.s = (kk : Int) := ⟨(fdZ l.l id.s).toNat, by omega⟩
      rw [hkk] at p2 p3 i8
      obtain ⟨ys, hys⟩ : ∃ ys, ys = xset l.l kk (withH (elt l.l (kk : Int)) (rl (elt l.l (kk : Int)) 3 ++ [.str t.s])) := ⟨_, rfl⟩
      have hres : (con32.run [l, id, t]).rets = [vSl imT ys, vI 0] := by
        show [vSl imT (hdL l.l id.s t.s), vI (hdE l.l id.s t.s)] = _
        unfold hdL
        rw [hE0, if_pos rfl, hkk, Int.toNat_natCast, hys]
      rw [hres]
      have hfit : fit l.l := hpre.1
      obtain ⟨a0, cap, kb, tt', cc, gg, p, e, hP, hY, hO⟩ := copy_facts hv0 hfit
      subst e
      have hin : ∀ a, E.G a → a.block < w'.heap.size := r.hr.gin
      have hn := hfit.1
      have hcall := walk59 E.G a0 cap l.l.length l.l w' (by omega) hin kb tt' cc gg (fun j => (p j).1) (fun j => (p j).2.1) (fun j => (p j).2.2) hP hY
      have hcall2 := hcall.mono (R' := fun e w1 => ∃ g cv qa qn qc, e = .returned (.slice (some ⟨g, 0, none⟩) l.l.length cv) ∧ w1.cell? ⟨g, kk * 5 + 3, none⟩ = some (.slice qa qn qc) ∧ g < w1.heap.size ∧
      ∃ v' w2, (Builtin.append_ #[22, 22] 22 #[.slice qa qn qc, .slice (some ⟨w1.heap.size, 0, none⟩) 1 1]).run Tryd.prog (w1.alloc (.cells #[.string ⟨⟨t.s⟩⟩] 9 (0, 0))) = .ok v' w2 ∧
        ∃ pa pn pc, v' = .slice pa pn pc ∧ w2.cell? ⟨g, kk * 5 + 3, none⟩ = some (.slice qa qn qc) ∧ w2.frozen? ⟨g, kk * 5 + 3, none⟩ = false ∧ Keep ((fun v w2 => RetOK G w [vSl imT ys, vI 0] v w2) (.tuple #[.slice (some ⟨g, 0, none⟩) l.l.length cv, .int .i64 0]) (w2.setCell ⟨g, kk * 5 + 3, none⟩ (.slice pa pn pc)))) (by
          rintro e w1 ⟨v, Q, rfl, hD, hb⟩
          obtain ⟨g, cv, qa, qn, qc, rfl, hc, hg, v', w2, hrun, pa, pn, pc, rfl, h1, h2, ⟨⟨⟨Q', hD'⟩, hb'⟩⟩⟩ := prove_tail (id := t.s) hD (fun i _ => rfl) (k := kk) (by omega) (by unfold fX; rw [List.length_map]; unfold rl at p3; omega) hb.size
          exact ⟨g, cv, qa, qn, qc, rfl, hc, hg, _, w2, hrun, pa, pn, pc, rfl, h1, h2, ⟨fin_ok hG r.below r.base (fun a ha => r.hr.gz.1 a (by rw [r.g0]; exact ha)) (fun a ha => (r.hr.gz.2 a ha).imp (fun h => by rw [r.g0] at h; exact h) (fun h => h)) hin (by rw [hys]; exact xset_len)
            (by rw [hys]; exact put_x (by omega) hO (by unfold fX; rw [List.map_append]; rfl) fun q hq => by
                  rcases List.mem_append.1 hq with h | h
                  · exact strs_of hO (by omega) q h
                  · exact ⟨t.s, List.mem_singleton.1 h, hid⟩) hD' (hb.trans hb')⟩⟩)
      obtain ⟨⟨tl⟩, df⟩ := a
      have hdf : df = [] := r.defers
      subst hdf
      have hlen : tl.length = 54 := by rw [← hsl]; exact r.slots.len.symm
      obtain ⟨yy0, yy1, yy2, yy3, yy4, yy5, yy6, yy7, yy8, yy9, yy10, yy11, yy12, yy13, yy14, yy15, yy16, yy17, yy18, yy19, yy20, yy21, yy22, yy23, yy24, yy25, yy26, yy27, yy28, yy29, yy30, yy31, yy32, yy33, yy34, yy35, yy36, yy37, yy38, yy39, yy40, yy41, yy42, yy43, yy44, yy45, yy46, yy47, yy48, yy49, yy50, yy51, yy52, yy53, rfl⟩ := list54 tl hlen
      have j0 : yy0 = .slice a0 l.l.length cap := by simpa using i0
      have j2 : yy2 = .string ⟨⟨t.s⟩⟩ := by simpa using i2
      have j8 : yy8 = .int .i64 (kk : Int) := by simpa using i8
      subst j0; subst j2; subst j8
      exact tail32 yy1 yy3 yy4 yy5 yy6 yy7 yy9 yy10 yy11 yy12 yy13 yy14 yy15 yy16 yy17 yy18 yy19 yy20 yy21 yy22 yy23 yy24 yy25 yy26 yy27 yy28 yy29 yy30 yy31 yy32 yy33 yy34 yy35 yy36 yy37 yy38 yy39 yy40 yy41 yy42 yy43 yy44 yy45 yy46 yy47 yy48 yy49 yy50 yy51 yy52 yy53 a0 cap l.l.length kk t.s w' (fun v w'' => RetOK G w [vSl imT ys, vI 0] v w'') (by omega) (by omega) hcall2
    · exact hk.elim
theorem tail33 (yy1 yy2 yy3 yy4 yy5 yy6 yy7 yy10 yy11 yy12 yy13 yy14 yy15 yy16 yy17 yy18 yy19 yy20 yy21 yy22 yy23 yy24 yy25 yy26 yy27 yy28 yy29 yy30 yy31 yy32 yy33 yy34 yy35 yy36 yy37 yy38 yy39 yy40 yy41 yy42 : Value) (a0 : Option Addr) (cap n k m : Nat) (W : World) (R : Value → World → Prop) (hk : (k : Int) < (n : Int)) (hn : n ≤ 2000) (hm : (m : Int) ≤ 100000)
    (hcall : Calls Tryd.prog 59 #[.slice a0 n cap] W fun e w1 => ∃ g cv q qc, e = .returned (.slice (some ⟨g, 0, none⟩) n cv) ∧ w1.cell? ⟨g, k * 5 + 3, none⟩ = some (.slice (some ⟨q, 0, none⟩) (m + 1) qc) ∧ g < w1.heap.size ∧
      Calls Tryd.prog 61 #[.slice (some ⟨q, 0, none⟩) (m + 1) qc, .int .i64 (m : Int), .int .i64 ((m : Int) + 1)] w1 fun e w2 => e = .returned (.slice (some ⟨q, 0, none⟩) m qc) ∧
        w2.cell? ⟨g, k * 5 + 3, none⟩ = some (.slice (some ⟨q, 0, none⟩) (m + 1) qc) ∧ w2.frozen? ⟨g, k * 5 + 3, none⟩ = false ∧
        Keep ((R) (.tuple #[.slice (some ⟨g, 0, none⟩) n cv, .int .i64 0]) (w2.setCell ⟨g, k * 5 + 3, none⟩ (.slice (some ⟨q, 0, none⟩) m qc)))) :
    (sufC cut33 (bodyOf Tryd.f33)).wp Tryd.prog (bodyPost Tryd.prog Tryd.f33 fun e w'' => ∃ v, e = .returned v ∧ R v w'')
      { tmps := #[.slice a0 n cap, yy1, yy2, yy3, yy4, yy5, yy6, yy7, .int .i64 (k : Int), .int .i64 (m : Int), yy10, yy11, yy12, yy13, yy14, yy15, yy16, yy17, yy18, yy19, yy20, yy21, yy22, yy23, yy24, yy25, yy26, yy27, yy28, yy29, yy30, yy31, yy32, yy33, yy34, yy35, yy36, yy37, yy38, yy39, yy40, yy41, yy42], defers := [] } W := by
  have hm1 : wrap64 ((m : Int) + 1) = (m : Int) + 1 := by unfold wrap64; omega
  obtain ⟨c, hc⟩ : ∃ c, c = sufC cut33 (bodyOf Tryd.f33) := ⟨_, rfl⟩
  rw [← hc]
  simp only [sufC, bodyOf, Tryd.f33, Option.getD_some, firstReg, cut33, Nat.reduceEqDiff, ↓reduceIte] at hc
  subst hc
  go_wp2_with (first
    | (go_at_call 59; refine hcall.mono ?_; rintro e w1 ⟨g, cv, q, qc, rfl, hcell, hg, hdel⟩)
    | (go_at_call 61; refine hdel.mono ?_; rintro e w2 ⟨rfl, hc2, hf2, hfin⟩))
  go_ret2
  exact ⟨_, rfl, hfin.out⟩
theorem list43 (l : List Value) (h : l.length = 43) : ∃ yy0 yy1 yy2 yy3 yy4 yy5 yy6 yy7 yy8 yy9 yy10 yy11 yy12 yy13 yy14 yy15 yy16 yy17 yy18 yy19 yy20 yy21 yy22 yy23 yy24 yy25 yy26 yy27 yy28 yy29 yy30 yy31 yy32 yy33 yy34 yy35 yy36 yy37 yy38 yy39 yy40 yy41 yy42, l = [yy0, yy1, yy2, yy3, yy4, yy5, yy6, yy7, yy8, yy9, yy10, yy11, yy12, yy13, yy14, yy15, yy16, yy17, yy18, yy19, yy20, yy21, yy22, yy23, yy24, yy25, yy26, yy27, yy28, yy29, yy30, yy31, yy32, yy33, yy34, yy35, yy36, yy37, yy38, yy39, yy40, yy41, yy42] := by
  match l, h with
  | yy0 :: yy1 :: yy2 :: yy3 :: yy4 :: yy5 :: yy6 :: yy7 :: yy8 :: yy9 :: yy10 :: yy11 :: yy12 :: yy13 :: yy14 :: yy15 :: yy16 :: yy17 :: yy18 :: yy19 :: yy20 :: yy21 :: yy22 :: yy23 :: yy24 :: yy25 :: yy26 :: yy27 :: yy28 :: yy29 :: yy30 :: yy31 :: yy32 :: yy33 :: yy34 :: yy35 :: yy36 :: yy37 :: yy38 :: yy39 :: yy40 :: yy41 :: yy42 :: [], _ => exact ⟨yy0, yy1, yy2, yy3, yy4, yy5, yy6, yy7, yy8, yy9, yy10, yy11, yy12, yy13, yy14, yy15, yy16, yy17, yy18, yy19, yy20, yy21, yy22, yy23, yy24, yy25, yy26, yy27, yy28, yy29, yy30, yy31, yy32, yy33, yy34, yy35, yy36, yy37, yy38, yy39, yy40, yy41, yy42, rfl⟩
theorem suf33 : ∀ (dat : List D) (G : Addr → Prop) (w : World), (con33.run dat).pre → (∀ b, G b → b.block < w.heap.size) → ∀ E s a w', Rel Tryd.prog w.heap.size G w [] [] E s a w' → kc33 dat s →
    (sufC cut33 (bodyOf Tryd.f33)).wp Tryd.prog (bodyPost Tryd.prog Tryd.f33 fun e w'' => ∃ v, e = .returned v ∧ RetOK G w (con33.run dat).rets v w'') a w' := by
  intro dat G w hpre hG E s a w' r hk
  match dat, hk, hpre with
  | [l, id, t], hk, hpre =>
    unfold kc33 cutK at hk
    simp only at hk
    split at hk
    · rename_i hsl
      obtain ⟨hcl, hE0⟩ := hk
      obtain ⟨v0, i0, hv0⟩ := cutL_ok r hcl 0 (.one (.sl imT l.l)) (by simp)
      obtain ⟨v8, i8, rfl, _⟩ := cutL_ok r hcl 8 (.one (.int .i64 (fdZ l.l id.s))) (by simp)
      obtain ⟨v9, i9, rfl, _⟩ := cutL_ok r hcl 9 (.one (.int .i64 (idxZ (holdOf l.l (fdZ l.l id.s)) t.s))) (by simp)
      obtain ⟨p1, p2, p3⟩ := re_ok hE0
      have hlast : idxZ (rl (elt l.l (fdZ l.l id.s)) 3) t.s + 1 = (rl (elt l.l (fdZ l.l id.s)) 3).length := hpre.2 hE0
      obtain ⟨kk, hkk⟩ : ∃ kk : Nat, fdZ l.l id.s = (kk : Int) := ⟨(fdZ l.l id.s).toNat, by omega⟩
      unfold holdOf at i9
      rw [hkk] at p2 p3 i8 i9 hlast
      obtain ⟨m, hm⟩ : ∃ m : Nat, idxZ (rl (elt l.l (kk : Int)) 3) t.s = (m : Int) := ⟨(idxZ (rl (elt l.l (kk : Int)) 3) t.s).toNat, by omega⟩
      rw [hm] at i9 hlast
      have hlm : (rl (elt l.l (kk : Int)) 3).length = m + 1 := by omega
      obtain ⟨ys, hys⟩ : ∃ ys, ys = xset l.l kk (withH (elt l.l (kk : Int)) ((rl (elt l.l (kk : Int)) 3).take m)) := ⟨_, rfl⟩
      have hres : (con33.run [l, id, t]).rets = [vSl imT ys, vI 0] := by
        show [vSl imT (reL l.l id.s t.s), vI (reE l.l id.s t.s)] = _
        unfold reL
        rw [hE0, if_pos rfl, hkk, Int.toNat_natCast, hys, hlm, Nat.add_sub_cancel]
      rw [hres]
      have hfit : fit l.l := hpre.1
      obtain ⟨a0, cap, kb, tt', cc, gg, p, e, hP, hY, hO⟩ := copy_facts hv0 hfit
      subst e
      have hin : ∀ a, E.G a → a.block < w'.heap.size := r.hr.gin
      have hn := hfit.1
      have hm100 : m ≤ 100 := by
        have := hfit.2 (elt l.l (kk : Int)) (by rw [elt_get (by omega)]; exact List.getElem_mem _)
        omega
      have hXk : (fX l.l kk).length = m + 1 := by unfold fX; rw [List.length_map]; exact hlm
      have hcall := walk59 E.G a0 cap l.l.length l.l w' (by omega) hin kb tt' cc gg (fun j => (p j).1) (fun j => (p j).2.1) (fun j => (p j).2.2) hP hY
      have hcall2 := hcall.mono (R' := fun e w1 => ∃ g cv q qc, e = .returned (.slice (some ⟨g, 0, none⟩) l.l.length cv) ∧ w1.cell? ⟨g, kk * 5 + 3, none⟩ = some (.slice (some ⟨q, 0, none⟩) (m + 1) qc) ∧ g < w1.heap.size ∧
      Calls Tryd.prog 61 #[.slice (some ⟨q, 0, none⟩) (m + 1) qc, .int .i64 (m : Int), .int .i64 ((m : Int) + 1)] w1 fun e w2 => e = .returned (.slice (some ⟨q, 0, none⟩) m qc) ∧
        w2.cell? ⟨g, kk * 5 + 3, none⟩ = some (.slice (some ⟨q, 0, none⟩) (m + 1) qc) ∧ w2.frozen? ⟨g, kk * 5 + 3, none⟩ = false ∧
        Keep ((fun v w2 => RetOK G w [vSl imT ys, vI 0] v w2) (.tuple #[.slice (some ⟨g, 0, none⟩) l.l.length cv, .int .i64 0]) (w2.setCell ⟨g, kk * 5 + 3, none⟩ (.slice (some ⟨q, 0, none⟩) m qc)))) (by
          rintro e w1 ⟨v, Q, rfl, hD, hb⟩
          obtain ⟨g, cv, q, qc, rfl, hc, hg, hdel⟩ := free_tail hD (fun i _ => rfl) (k := kk) (by omega) hXk (by omega) hb.size
          refine ⟨g, cv, q, qc, rfl, hc, hg, hdel.mono fun e w2 he => ?_⟩
          obtain ⟨rfl, h1, h2, ⟨⟨⟨Q', hD'⟩, hb'⟩⟩⟩ := he
          exact ⟨rfl, h1, h2, ⟨fin_ok hG r.below r.base (fun a ha => r.hr.gz.1 a (by rw [r.g0]; exact ha)) (fun a ha => (r.hr.gz.2 a ha).imp (fun h => by rw [r.g0] at h; exact h) (fun h => h)) hin (by rw [hys]; exact xset_len)
            (by rw [hys]; exact put_x (by omega) hO (by unfold fX; rw [List.map_take]; rfl) fun q hq => strs_of hO (by omega) q (List.mem_of_mem_take hq)) hD' (hb.trans hb')⟩⟩)
      obtain ⟨⟨tl⟩, df⟩ := a
      have hdf : df = [] := r.defers
      subst hdf
      have hlen : tl.length = 43 := by rw [← hsl]; exact r.slots.len.symm
      obtain ⟨yy0, yy1, yy2, yy3, yy4, yy5, yy6, yy7, yy8, yy9, yy10, yy11, yy12, yy13, yy14, yy15, yy16, yy17, yy18, yy19, yy20, yy21, yy22, yy23, yy24, yy25, yy26, yy27, yy28, yy29, yy30, yy31, yy32, yy33, yy34, yy35, yy36, yy37, yy38, yy39, yy40, yy41, yy42, rfl⟩ := list43 tl hlen
      have j0 : yy0 = .slice a0 l.l.length cap := by simpa using i0
      have j8 : yy8 = .int .i64 (kk : Int) := by simpa using i8
      have j9 : yy9 = .int .i64 (m : Int) := by simpa using i9
      subst j0; subst j8; subst j9
      exact tail33 yy1 yy2 yy3 yy4 yy5 yy6 yy7 yy10 yy11 yy12 yy13 yy14 yy15 yy16 yy17 yy18 yy19 yy20 yy21 yy22 yy23 yy24 yy25 yy26 yy27 yy28 yy29 yy30 yy31 yy32 yy33 yy34 yy35 yy36 yy37 yy38 yy39 yy40 yy41 yy42 a0 cap l.l.length kk m w' (fun v w'' => RetOK G w [vSl imT ys, vI 0] v w'') (by omega) (by omega) (by omega) hcall2
    · exact hk.elim
end Go.Proofs.YtafpahkcjdfpiaaDoor
