/- Part of the proof of the laws of this seat: contracts of its functions, for every input. -/
import Derived.Test.YtjncolngfeglkaaWR
set_option linter.all false
namespace Go.Proofs.Ytjncolngfeglkaa
open Go Go.RX Go.Proofs Go.RowKit
set_option linter.all false
set_option maxRecDepth 1000000
set_option maxHeartbeats 400000
theorem lev_of {G : Addr → Prop} {w : World} {v : Value} {a : List D} (hG : ∀ b, G b → b.block < w.heap.size) (h1 : 1 ≤ a.length) (h : Rd G w (.slice lu) [v] (.list (levs a))) :
    ∃ aa P C ca, v = .slice (some aa) (hgt a + 1) ca ∧ hgt a + 1 ≤ ca ∧ Lev w.heap.size w aa P C (levs a) (hgt a) := by
  obtain ⟨a0, xs, cap, e1, e2, hlc, hcm, hel⟩ := h
  cases e2
  rw [levs_len] at e1 hlc
  have hx : ∀ h, h ≤ hgt a → (levs a)[h]? = some (.list (levN a h)) := fun h hh => by
    unfold levs mkL
    rw [List.getElem?_map, List.getElem?_range (by omega)]; rfl
  have key : ∀ h, ∃ p : Addr × Nat, h ≤ hgt a → ∃ aa, a0 = some aa ∧ aa.block < w.heap.size ∧ w.cell? (aa.add h) = some (.slice (some p.1) (levN a h).length p.2) ∧ p.1.block < w.heap.size ∧ ∀ i, i < (levN a h).length → w.cell? (p.1.add i) = some (.int .u64 (ei (levN a h) i)) := fun h => by
    by_cases hh : h ≤ hgt a
    · obtain ⟨aa, ys, rfl, hat, hr⟩ := hel h _ (hx h hh)
      obtain ⟨pa, xs', cap', rfl, e4, _, _, hel'⟩ := hr
      cases e4
      have hp : 0 < (levN a h).length := by rw [levN_len]; exact szN_pos h1
      obtain ⟨p, _, rfl, _⟩ := hel' 0 _ (List.getElem?_eq_getElem hp)
      have hcell := hat 0 _ rfl
      refine ⟨(p, cap'), fun _ => ⟨aa, rfl, ?_, ?_, ?_, fun i hi => ?_⟩⟩
      · have := hG _ hcell.1
        rwa [addr_block, addr_block] at this
      · have := hcell.2
        rw [Addr.add_zero'] at this
        have e9 : h * lu.n = h := Nat.mul_one h
        rw [e9] at this
        exact this
      · obtain ⟨p', ys', e5, hat', m, rfl, _⟩ := hel' 0 _ (List.getElem?_eq_getElem hp)
        cases e5
        have := hG _ (hat' 0 _ rfl).1
        rwa [addr_block, addr_block] at this
      · obtain ⟨p', ys', e5, hat', m, rfl, e6, _⟩ := hel' i _ (List.getElem?_eq_getElem hi)
        cases e5
        have := (hat' 0 _ rfl).2
        rw [Addr.add_zero'] at this
        have e7 : ei (levN a h) i = m := by unfold ei; rw [elt_get hi, e6]; rfl
        have e9 : i * u64.n = i := Nat.mul_one i
        rw [e9] at this
        rw [e7]
        exact this
    · exact ⟨(⟨0, 0, none⟩, 0), fun h => absurd h hh⟩
  obtain ⟨p, hp⟩ := Classical.skolem.1 key
  obtain ⟨aa, rfl, hab, _⟩ := hp 0 (Nat.zero_le _)
  injection e1 with e1
  subst e1
  refine ⟨aa, fun h => (p h).1, fun h => (p h).2, cap, rfl, hlc, hab, fun h hh => ?_, fun h hh => ?_, fun h i hh hi => ?_⟩
  · obtain ⟨aa', e, _, h2, _⟩ := hp h hh
    cases e
    rw [levT_levs hh]; exact h2
  · obtain ⟨aa', e, _, _, h3, _⟩ := hp h hh
    exact h3
  · obtain ⟨aa', e, _, _, _, h4⟩ := hp h hh
    rw [levT_levs hh] at hi ⊢
    exact h4 i hi
theorem tail24 (yy2 yy3 yy4 yy5 yy6 yy7 yy8 yy9 yy10 yy11 yy12 yy13 yy14 yy15 yy16 yy17 yy18 yy19 yy20 yy21 yy22 yy23 yy24 yy25 yy26 yy27 yy28 yy29 yy30 yy31 yy32 yy33 yy34 yy35 yy36 yy37 yy38 yy39 yy40 : Value) (x0 x1 : Option Addr) (m0 c0 m1 c1 n1 : Nat) (W : World) (R : Value → World → Prop)
    (hc1 : Calls Try.prog 34 #[.slice x0 m0 c0] W fun e w1 => ∃ aa ca, e = .returned (.slice (some aa) n1 ca) ∧ Calls Try.prog 34 #[.slice x1 m1 c1] w1 fun e w2 => ∃ bb cb, e = .returned (.slice (some bb) n1 cb) ∧
      Calls Try.prog 33 #[.slice (some aa) n1 ca, .slice (some bb) n1 cb, .int .i64 0, .agg #[.slice none 0 0, .int .i64 0]] w2 fun e w3 => ∃ pa pn pc N, e = .returned (.agg #[.slice pa pn pc, .int .i64 N]) ∧ Keep (R (.tuple #[.slice pa pn pc, .int .i64 N]) (w3.alloc (.cells #[.slice pa pn pc, .int .i64 N] 59 (0, 0))).drew)) :
    (sufC cutl24 (bodyOf Try.f24)).wp Try.prog (bodyPost Try.prog Try.f24 fun e w'' => ∃ v, e = .returned v ∧ R v w'')
      { tmps := #[.slice x0 m0 c0, .slice x1 m1 c1, yy2, yy3, yy4, yy5, yy6, yy7, yy8, yy9, yy10, yy11, yy12, yy13, yy14, yy15, yy16, yy17, yy18, yy19, yy20, yy21, yy22, yy23, yy24, yy25, yy26, yy27, yy28, yy29, yy30, yy31, yy32, yy33, yy34, yy35, yy36, yy37, yy38, yy39, yy40], defers := [] } W := by
  obtain ⟨c, hc⟩ : ∃ c, c = sufC cutl24 (bodyOf Try.f24) := ⟨_, rfl⟩
  rw [← hc]
  simp only [sufC, bodyOf, Try.f24, Option.getD_some, firstReg, cutl24, Nat.reduceEqDiff, ↓reduceIte] at hc
  subst hc
  go_wp2_with (first
    | (go_at_call 33; refine hc3.mono ?_; rintro e w3 ⟨pa, pn, pc, N, rfl, hfin⟩; clear hc3)
    | (go_at_call 34; refine hc1.mono ?_; rintro e w1 ⟨aa, ca, rfl, hc2⟩; clear hc1)
    | (go_at_call 34; refine hc2.mono ?_; rintro e w2 ⟨bb, cb, rfl, hc3⟩; clear hc2))
  go_region
  go_wp2
  go_ret2
  exact ⟨_, rfl, hfin.out⟩
theorem Lev.up {w1 w2 : World} {aa : Addr} {P : Nat → Addr} {C : Nat → Nat} {X : List D} {T : Nat} (h : Lev w1.heap.size w1 aa P C X T) (hb : Below w1.heap.size w1 w2) : Lev w2.heap.size w2 aa P C X T := by
  have hs := hb.size
  exact ⟨Nat.lt_of_lt_of_le h.blk hs, fun j hj => (hb.cell (by rw [addr_block]; exact h.blk)).trans (h.cell j hj), fun j hj => Nat.lt_of_lt_of_le (h.pb j hj) hs, fun j i hj hi => (hb.cell (by rw [addr_block]; exact h.pb j hj)).trans (h.val j i hj hi)⟩
theorem own_rd {G : Addr → Prop} {w : World} {N et : Nat} {e : Ty} {v : Value} {xs : List D} {cells : List Value} (h : w.ownsRow N et e.n v xs.length cells) (hr : RdL G w e cells xs) (hG : ∀ g, v.ownBlock = some g → ∀ a : Addr, a.block = g → G a) : Rd G w (.slice e) [v] (.list xs) := by
  have hown := h
  rcases h.2 with ⟨rfl, h0⟩ | ⟨g, cap, cur, rfl, _, _, hnc, hcm, _, _⟩
  · obtain rfl := List.length_eq_zero_iff.1 h0
    exact ⟨none, [], 0, rfl, rfl, Nat.le_refl _, Nat.zero_le _, fun i x hx => by simp at hx⟩
  · refine ⟨some ⟨g, 0, none⟩, xs, cap, rfl, rfl, hnc, hcm, fun i x hx => ?_⟩
    refine ⟨_, _, rfl, fun j v hj => ?_, hr.get hx⟩
    rw [List.getElem?_take] at hj
    split at hj
    · rw [List.getElem?_drop] at hj
      have := hown.cells (g := g) rfl (i * e.n + j) v hj
      refine ⟨hG g rfl _ (by rw [addr_block, addr_block]), ?_⟩
      have e1 : ((⟨g, 0, none⟩ : Addr).add (i * e.n)).add j = (⟨g, 0, none⟩ : Addr).add (i * e.n + j) := by
        unfold Addr.add
        repeat' split
        all_goals (first | (simp_all; done) | (simp_all; omega))
      rw [e1]; exact this
    · cases hj
theorem rdl_ints {G : Addr → Prop} {w : World} : ∀ {q : List Nat}, (∀ x ∈ q, x < 1000) → RdL G w i64 (q.map fun (i : Nat) => Value.int .i64 (i : Int)) (mapI q)
  | [], _ => rfl
  | x :: q, h => ⟨[.int .i64 (x : Int)], _, rfl, ⟨(x : Int), rfl, rfl, by
      have := h x List.mem_cons_self
      refine ⟨?_, ?_⟩
      · show (-9223372036854775808 : Int) ≤ _; omega
      · show _ ≤ (9223372036854775807 : Int); omega⟩, rdl_ints fun y hy => h y (List.mem_cons_of_mem _ hy)⟩
theorem fin24 {G : Addr → Prop} {w w2 w3 : World} {q : List Nat} {c : Nat} {pa : Option Addr} {pn pc : Nat} {N : Int} {l : List D} {c' : Int} (bw : Below w.heap.size w w2) (hN : w.heap.size ≤ w2.heap.size) (hG : ∀ a, G a → a.block < w.heap.size)
    (ho : w3.ownsRow w2.heap.size 3 1 (.slice pa pn pc) q.length (q.map fun (i : Nat) => Value.int .i64 (i : Int))) (hg : w2.grownBy w3 none) (hq : ∀ x ∈ q, x < 1000) (e1 : mapI q = l) (e2 : N = c') (hc : 0 ≤ N ∧ N ≤ 10000000) :
    RetOK G w [vSl i64 l, vI c'] (.tuple #[.slice pa pn pc, .int .i64 N]) (w3.alloc (.cells #[.slice pa pn pc, .int .i64 N] 59 (0, 0))).drew := by
  subst e1; subst e2
  have hb3 : Below w2.heap.size w2 w3 := (Below.refl _ w2).grown hg (Nat.le_refl _) (fun k h => by cases h)
  have hs3 := hb3.size
  have hlt := fun g hg => ho.lt g hg
  have ho' : ((w3.alloc (.cells #[.slice pa pn pc, .int .i64 N] 59 (0, 0))).drew).ownsRow w2.heap.size 3 1 (.slice pa pn pc) (mapI q).length (q.map fun (i : Nat) => Value.int .i64 (i : Int)) := by
    rw [mapI_len]
    exact ownsRow_keep ho fun g hg => by
      show (w3.alloc _).heap[g]? = _
      rw [heap_alloc_old _ _ (hlt g hg).2]
  refine ⟨(bw.trans (hb3.mono hN)).alloc (by omega) _ |>.drew, fun a => G a ∨ (Value.slice pa pn pc).ownBlock = some a.block, fun a h => .inl h, fun a h => h.imp id fun h => ?_, [_, _], rfl, own_rd (e := i64) ho' (rdl_ints hq) (fun g hg a ha => .inr (by rw [ha]; exact hg)), ⟨rfl, ?_, ?_⟩, trivial⟩
  · have := hlt _ h
    refine ⟨by omega, ?_⟩
    show _ < (w3.alloc _).heap.size
    simp; omega
  · show (-9223372036854775808 : Int) ≤ _; omega
  · show _ ≤ (9223372036854775807 : Int); omega
theorem rd_slice {G : Addr → Prop} {w : World} {e : Ty} {v : Value} {d : D} (h : Rd G w (.slice e) [v] d) : ∃ x m c, v = .slice x m c := by
  obtain ⟨a, xs, cap, e, _⟩ := h
  cases e; exact ⟨_, _, _, rfl⟩
theorem list41 (l : List Value) (h : l.length = 41) : ∃ yy0 yy1 yy2 yy3 yy4 yy5 yy6 yy7 yy8 yy9 yy10 yy11 yy12 yy13 yy14 yy15 yy16 yy17 yy18 yy19 yy20 yy21 yy22 yy23 yy24 yy25 yy26 yy27 yy28 yy29 yy30 yy31 yy32 yy33 yy34 yy35 yy36 yy37 yy38 yy39 yy40, l = [yy0, yy1, yy2, yy3, yy4, yy5, yy6, yy7, yy8, yy9, yy10, yy11, yy12, yy13, yy14, yy15, yy16, yy17, yy18, yy19, yy20, yy21, yy22, yy23, yy24, yy25, yy26, yy27, yy28, yy29, yy30, yy31, yy32, yy33, yy34, yy35, yy36, yy37, yy38, yy39, yy40] := by
  match l, h with
  | yy0 :: yy1 :: yy2 :: yy3 :: yy4 :: yy5 :: yy6 :: yy7 :: yy8 :: yy9 :: yy10 :: yy11 :: yy12 :: yy13 :: yy14 :: yy15 :: yy16 :: yy17 :: yy18 :: yy19 :: yy20 :: yy21 :: yy22 :: yy23 :: yy24 :: yy25 :: yy26 :: yy27 :: yy28 :: yy29 :: yy30 :: yy31 :: yy32 :: yy33 :: yy34 :: yy35 :: yy36 :: yy37 :: yy38 :: yy39 :: yy40 :: [], _ => exact ⟨yy0, yy1, yy2, yy3, yy4, yy5, yy6, yy7, yy8, yy9, yy10, yy11, yy12, yy13, yy14, yy15, yy16, yy17, yy18, yy19, yy20, yy21, yy22, yy23, yy24, yy25, yy26, yy27, yy28, yy29, yy30, yy31, yy32, yy33, yy34, yy35, yy36, yy37, yy38, yy39, yy40, rfl⟩
theorem suf24 : ∀ (dat : List D) (G : Addr → Prop) (w : World), (con24.run dat).pre → (∀ b, G b → b.block < w.heap.size) → VarsOK Try.prog w.heap.size w → ∀ E s a w', Rel Try.prog w.heap.size G w [] [] E s a w' → kc24 dat s →
    (sufC cutl24 (bodyOf Try.f24)).wp Try.prog (bodyPost Try.prog Try.f24 fun e w'' => ∃ v, e = .returned v ∧ RetOK G w (con24.run dat).rets v w'') a w' := by
  intro dat G w hpre hG hz E s a w' r hk
  match dat, hk, hpre with
  | [d0, d1], hk, hpre =>
    unfold kc24 cutK at hk
    simp only at hk
    split at hk
    · rename_i hsl
      obtain ⟨hcl, hn, h1⟩ := hk
      obtain ⟨hla, hlb⟩ : d0.l.length ≤ 1000 ∧ d1.l.length ≤ 1000 := hpre
      obtain ⟨v0, i0, hv0⟩ := cutL_ok r hcl 0 (.one (.sl u64 d0.l)) (by simp)
      obtain ⟨v1, i1, hv1⟩ := cutL_ok r hcl 1 (.one (.sl u64 d1.l)) (by simp)
      have hv0 : Rd E.G w' (.slice u64) [v0] (.list d0.l) := hv0
      have hv1 : Rd E.G w' (.slice u64) [v1] (.list d1.l) := hv1
      show (sufC cutl24 (bodyOf Try.f24)).wp Try.prog (bodyPost Try.prog Try.f24 fun e w'' => ∃ v, e = .returned v ∧ RetOK G w [vSl i64 (difZ d0.l d1.l).l, vI (difZ d0.l d1.l).c] v w'') a w'
      generalize d0.l = la at *
      generalize d1.l = lb at *
      have hin : ∀ b, E.G b → b.block < w'.heap.size := r.hr.gin
      have hz' : VarsOK Try.prog w'.heap.size w' := r.hr.vz.up r.base
      obtain ⟨x0, m0, c0, rfl⟩ := rd_slice hv0
      obtain ⟨x1, m1, c1, rfl⟩ := rd_slice hv1
      have hs := hgt_same hn
      have hh := @hgt_le la
      obtain ⟨bd1, bd2, bd3⟩ := bel_bound hn h1 hla
      obtain ⟨df1, df2⟩ := bel_dif hn h1
      have C1 := c34.2 E.G w' [.list la] [.slice x0 m0 c0] hin hz' ⟨⟨[.slice x0 m0 c0], rfl, hv0⟩, trivial⟩ (by show la.length ≤ 1000000; omega)
      have hc1 := C1.mono (R' := fun e w1 => ∃ aa ca, e = .returned (.slice (some aa) (hgt la + 1) ca) ∧ Calls Try.prog 34 #[.slice x1 m1 c1] w1 fun e w2 => ∃ bb cb, e = .returned (.slice (some bb) (hgt la + 1) cb) ∧
        Calls Try.prog 33 #[.slice (some aa) (hgt la + 1) ca, .slice (some bb) (hgt la + 1) cb, .int .i64 0, .agg #[.slice none 0 0, .int .i64 0]] w2 fun e w3 => ∃ pa pn pc N, e = .returned (.agg #[.slice pa pn pc, .int .i64 N]) ∧ Keep (RetOK G w [vSl i64 (difZ la lb).l, vI (difZ la lb).c] (.tuple #[.slice pa pn pc, .int .i64 N]) (w3.alloc (.cells #[.slice pa pn pc, .int .i64 N] 59 (0, 0))).drew)) (by
          rintro e w1 ⟨v, rfl, hb1, G1, hg1, hg1', vs, rfl, hall⟩
          match vs, hall with
          | [u], hall =>
            have hru : Rd G1 w1 (.slice lu) [u] (.list (levs la)) := hall.1
            have hin1 : ∀ b, G1 b → b.block < w1.heap.size := fun b hb => by
              rcases hg1' b hb with h | h
              · exact Nat.lt_of_lt_of_le (hin b h) hb1.size
              · exact h.2
            obtain ⟨aa, PA, CA, ca, rfl, hca, LA⟩ := lev_of hin1 h1 hru
            have hz1 : VarsOK Try.prog w1.heap.size w1 := (hz'.below hb1).up hb1.size
            have C2 := c34.2 G1 w1 [.list lb] [.slice x1 m1 c1] hin1 hz1 ⟨⟨[.slice x1 m1 c1], rfl, hv1.mono hg1 fun b hb => hb1.cell (hin b hb)⟩, trivial⟩ (by show lb.length ≤ 1000000; omega)
            refine ⟨aa, ca, rfl, C2.mono ?_⟩
            rintro e w2 ⟨v, rfl, hb2, G2, hg2, hg2', vs, rfl, hall⟩
            match vs, hall with
            | [u], hall =>
              have hru : Rd G2 w2 (.slice lu) [u] (.list (levs lb)) := hall.1
              have hin2 : ∀ b, G2 b → b.block < w2.heap.size := fun b hb => by
                rcases hg2' b hb with h | h
                · exact Nat.lt_of_lt_of_le (hin1 b h) hb2.size
                · exact h.2
              obtain ⟨bb, PB, CB, cb, hu, hcb, LB⟩ := lev_of hin2 (by omega) hru
              rw [hs] at hu hcb LB
              subst hu
              have LA2 := LA.up hb2
              have hp : 0 < (levT (levs la) (hgt la)).length := by rw [levT_levs (Nat.le_refl _), levN_len]; exact szN_pos h1
              have hmax : ∀ h, h ≤ hgt la → (levT (levs la) h).length ≤ 1000000 := fun h hh => by
                rw [levT_levs hh]; exact levN_le (by omega)
              have C3 := walk33 w2.heap.size w2 aa bb PA PB CA CB (levs la) (levs lb) (hgt la) LA2 LB
                (fun h hh => by rw [levT_levs (by omega), levT_levs hh]; exact (levN_same hn).symm)
                (fun h hh => by rw [levT_up h hh, upZ_len]) (hmax 0 (Nat.zero_le _)) hmax (by omega) (hgt la) (Nat.le_refl _) ca cb 0 0 hca hcb hp w2 none 0 0 [] 0 (Below.refl _ _) (Nat.le_refl _) (World.ownsRow_nil _ _ _ _) (by omega) (Int.le_refl _) (by omega)
              refine ⟨bb, cb, rfl, C3.mono ?_⟩
              rintro e w3 ⟨pa, pn, pc, rfl, g1, g2, g3⟩
              rw [Nat.zero_add, List.nil_append] at g1
              have bw2 : Below w.heap.size w w2 := r.below.trans ((hb1.mono r.base).trans (hb2.mono (Nat.le_trans r.base hb1.size)))
              exact ⟨pa, pn, pc, _, rfl, ⟨fin24 (c := 0) bw2 (Nat.le_trans r.base (Nat.le_trans hb1.size hb2.size)) hG g1 g2 bd3 df1 (by rw [Int.zero_add]; exact df2) (by omega)⟩⟩)
      obtain ⟨⟨tl⟩, df⟩ := a
      have hdf : df = [] := r.defers
      subst hdf
      have hlen : tl.length = 41 := by rw [← hsl]; exact r.slots.len.symm
      obtain ⟨yy0, yy1, yy2, yy3, yy4, yy5, yy6, yy7, yy8, yy9, yy10, yy11, yy12, yy13, yy14, yy15, yy16, yy17, yy18, yy19, yy20, yy21, yy22, yy23, yy24, yy25, yy26, yy27, yy28, yy29, yy30, yy31, yy32, yy33, yy34, yy35, yy36, yy37, yy38, yy39, yy40, rfl⟩ := list41 tl hlen
      have j0 : yy0 = .slice x0 m0 c0 := by simpa using i0
      have j1 : yy1 = .slice x1 m1 c1 := by simpa using i1
      subst j0; subst j1
      exact tail24 yy2 yy3 yy4 yy5 yy6 yy7 yy8 yy9 yy10 yy11 yy12 yy13 yy14 yy15 yy16 yy17 yy18 yy19 yy20 yy21 yy22 yy23 yy24 yy25 yy26 yy27 yy28 yy29 yy30 yy31 yy32 yy33 yy34 yy35 yy36 yy37 yy38 yy39 yy40 x0 x1 m0 c0 m1 c1 (hgt la + 1) w' (fun v w'' => RetOK G w [vSl i64 (difZ la lb).l, vI (difZ la lb).c] v w'') hc1
    · exact hk.elim
end Go.Proofs.Ytjncolngfeglkaa
