/- Part of the proof of the laws of this seat: contracts of its functions, for every input. -/
import Derived.Test.YtafpahkcjdfpiaaDoorWTN
set_option linter.all false
namespace Go.Proofs.YtafpahkcjdfpiaaDoor
open Go Go.RX Go.Proofs
set_option maxRecDepth 100000
set_option linter.all false
set_option maxHeartbeats 1000000
theorem tb10_ok : TabOK Tryd.prog tb10 := fun f con h => by
  unfold tb10 at h
  split at h
  · cases h; exact c16
  · cases h; exact c21
  · cases h; exact c29
  · cases h; exact c30
  · cases h; exact c31
  · cases h; exact c32
  · cases h; exact c33
  · cases h
/-! ### Small pictures -/
def Pic (l : List D) : Prop := l.length ≤ 10 ∧ ∀ k : Nat, k < l.length → (rs (elt l (k : Int)) 0).length ≤ 100 ∧ (rl (elt l (k : Int)) 3).length ≤ 4 ∧
  ∀ j : Nat, j < (rl (elt l (k : Int)) 3).length → (elt (rl (elt l (k : Int)) 3) (j : Int)).s.length ≤ 100 ∧ (elt (rl (elt l (k : Int)) 3) (j : Int)).s ≠ caseB
theorem pic_ok {l : List D} (h : picZ (ims l) = true) : Pic l := by
  unfold picZ at h
  rw [Bool.and_eq_true, List.all_eq_true, decide_eq_true_eq, ims_len] at h
  refine ⟨h.2, fun k hk => ?_⟩
  have := h.1 _ (ims_mem hk)
  rw [picI_t] at this
  have hh : (imOf (elt l (k : Int))).id = rs (elt l (k : Int)) 0 ∧ (imOf (elt l (k : Int))).h = txs (rl (elt l (k : Int)) 3) := ⟨rfl, rfl⟩
  rw [hh.1, hh.2, txs_len] at this
  exact ⟨this.1, this.2.1, fun j hj => this.2.2 _ (txs_mem hj)⟩
theorem addC_id {x : D} : rs (addC x) 0 = rs x 0 := rfl
theorem addC_t {x : D} : ri (addC x) 1 = ri x 1 := rfl
theorem addC_p {x : D} : ri (addC x) 2 = ri x 2 := rfl
theorem addC_h {x : D} : rl (addC x) 3 = rl x 3 ++ [.str caseB] := rfl
def Mix (l : List D) (X : Nat → D) : Prop := ∀ i : Nat, i < l.length → X i = elt l (i : Int) ∨ X i = addC (elt l (i : Int))
theorem mix_good {l : List D} {X : Nat → D} (hp : Pic l) (hX : Mix l X) : smL (ims (mkL l.length X)) ∧ fit (mkL l.length X) := by
  have hlen := hp.1
  have key : ∀ k : Nat, k < l.length → (rs (X k) 0).length ≤ 100 ∧ (rl (X k) 3).length ≤ 5 ∧ ∀ d ∈ rl (X k) 3, d.s.length ≤ 100 := fun k hk => by
    obtain ⟨h1, h2, h3⟩ := hp.2 k hk
    have h4 : ∀ d ∈ rl (elt l (k : Int)) 3, d.s.length ≤ 100 := fun d hd => by
      obtain ⟨j, hj, rfl⟩ := List.getElem_of_mem hd
      rw [← elt_get hj]
      exact (h3 j hj).1
    rcases hX k hk with e | e
    · rw [e]; exact ⟨h1, by omega, h4⟩
    · rw [e, addC_id, addC_h]
      refine ⟨h1, by simp; omega, fun d hd => ?_⟩
      rcases List.mem_append.1 hd with h | h
      · exact h4 d h
      · rw [List.mem_singleton.1 h]; decide
  have hmem : ∀ x ∈ mkL l.length X, ∃ k, k < l.length ∧ x = X k := fun x hx => by
    unfold mkL at hx
    obtain ⟨k, hk, rfl⟩ := List.mem_map.1 hx
    exact ⟨k, List.mem_range.1 hk, rfl⟩
  refine ⟨⟨by rw [ims_len, mkL_len]; omega, fun i hi => ?_⟩, ⟨by rw [mkL_len]; omega, fun x hx => ?_⟩⟩
  · obtain ⟨d, hd, rfl⟩ := List.mem_map.1 hi
    obtain ⟨k, hk, rfl⟩ := hmem d hd
    obtain ⟨h1, h2, h3⟩ := key k hk
    refine ⟨Nat.le_trans h1 (by decide), ?_, fun x hx => ?_⟩
    · show (txs (rl (X k) 3)).length ≤ 100
      rw [txs_len]; omega
    · obtain ⟨d, hd, rfl⟩ := List.mem_map.1 hx
      exact Nat.le_trans (h3 d hd) (by decide)
  · obtain ⟨k, hk, rfl⟩ := hmem x hx
    have := (key k hk).2.1
    omega
def Dist (l : List D) : Prop := ∀ k : Nat, k < l.length → ∀ j : Nat, j < k → rs (elt l (j : Int)) 0 ≠ rs (elt l (k : Int)) 0
theorem mix_id {l : List D} {X : Nat → D} (hX : Mix l X) {k : Nat} (hk : k < l.length) : rs (X k) 0 = rs (elt l (k : Int)) 0 := by
  rcases hX k hk with e | e <;> rw [e]
  rfl
theorem mix_fd {l : List D} {X : Nat → D} (hd : Dist l) (hX : Mix l X) {k : Nat} (hk : k < l.length) : fdZ (mkL l.length X) ((elt l (k : Int)).fld 0).s = k := by
  refine fd_some (by rw [mkL_len]; exact hk) (fun j hj => ?_) ?_
  · rw [elt_mkL (by omega)]
    show rs (X j) 0 ≠ rs (elt l (k : Int)) 0
    rw [mix_id hX (by omega)]
    exact hd k hk j hj
  · rw [elt_mkL hk]
    exact mix_id hX hk
theorem idxTo_none {l : List D} {s : List UInt8} : ∀ {k : Nat}, (∀ j : Nat, j < k → (elt l (j : Int)).s ≠ s) → idxTo l s k < 0
  | 0, _ => by show (-1 : Int) < 0; decide
  | k + 1, h => idx_miss (idxTo_none fun j hj => h j (by omega)) (h k (by omega))
theorem idx_none {l : List D} {s : List UInt8} (h : ∀ j : Nat, j < l.length → (elt l (j : Int)).s ≠ s) : idxZ l s < 0 := idxTo_none h
theorem elt_app_l {l m : List D} {i : Nat} (h : i < l.length) : elt (l ++ m) (i : Int) = elt l (i : Int) := by
  rw [elt_get (by rw [List.length_append]; omega), elt_get h, List.getElem_append_left h]
theorem idx_app {l : List D} {s : List UInt8} (h : ∀ j : Nat, j < l.length → (elt l (j : Int)).s ≠ s) : idxZ (l ++ [.str s]) s = l.length := by
  refine idx_hit (idxTo_none fun j hj => ?_) (by simp) ?_
  · rw [elt_app_l hj]; exact h j hj
  · rw [elt_get (by simp)]
    simp [D.s]
/-! ### Building a package -/
theorem chE_errTo {l : List Im} : ∀ k, chE l k = errTo (fun k => chkZ (l.take k) (l.getD k im0)) k
  | 0 => rfl
  | k + 1 => by rw [chE, errTo, chE_errTo k]
theorem has_take_f {l : List D} {k : Nat} {id : List UInt8} (hk : k ≤ l.length) : hasZ ((ims l).take k) id = false ↔ ∀ j : Nat, j < k → rs (elt l (j : Int)) 0 ≠ id := by
  unfold hasZ
  rw [List.any_eq_false]
  constructor
  · intro h j hj e
    refine h (imOf (elt l (j : Int))) (List.mem_of_getElem? (i := j) ?_) (decide_eq_true e)
    rw [List.getElem?_take_of_lt hj, ims_get (by omega)]
  · intro h x hx
    obtain ⟨j, hj⟩ := List.getElem?_of_mem hx
    have hjk : j < k := by
      have := (List.getElem?_eq_some_iff.1 hj).1
      rw [List.length_take] at this; omega
    rw [List.getElem?_take_of_lt hjk, ims_get (by omega)] at hj
    cases hj
    rw [decide_eq_true_eq]
    exact h j hjk
theorem chk_take_0 {l : List D} {k : Nat} (hk : k < l.length) : chkZ ((ims l).take k) ((ims l).getD k im0) = 0 ↔ rightZ (imOf (elt l (k : Int))) = 0 ∧ ∀ j : Nat, j < k → rs (elt l (j : Int)) 0 ≠ rs (elt l (k : Int)) 0 := by
  rw [ims_getD hk]
  unfold chkZ
  rw [← has_take_f (Nat.le_of_lt hk)]
  have e : (imOf (elt l (k : Int))).id = rs (elt l (k : Int)) 0 := rfl
  rw [e]
  by_cases h : rightZ (imOf (elt l (k : Int))) = 0
  · rw [if_neg (by simp [h])]
    cases hasZ ((ims l).take k) (rs (elt l (k : Int)) 0) <;> simp [h]
  · rw [if_pos h]
    exact ⟨fun h1 => absurd h1 h, fun h1 => absurd h1.1 h⟩
theorem one_v1 : oneZ v1B = true := by decide
theorem bld_0 {l : List D} (hl : l.length ≤ 1024) : bldE v1B (ims l) = 0 ↔ ∀ k : Nat, k < l.length → rightZ (imOf (elt l (k : Int))) = 0 ∧ ∀ j : Nat, j < k → rs (elt l (j : Int)) 0 ≠ rs (elt l (k : Int)) 0 := by
  unfold bldE
  rw [if_neg (by rw [one_v1]; decide), if_neg (by rw [ims_len]; omega), ims_len, chE_errTo]
  constructor
  · intro h k hk
    exact (chk_take_0 hk).1 (errTo_all h k hk)
  · intro h
    exact errTo_zero fun k hk => (chk_take_0 hk).2 (h k hk)
theorem bld_e {l : List D} {id : List UInt8} : (bldZ id l).e = bldE id (ims l) := by
  by_cases h : bldE id (ims l) = 0
  · rw [bld_ok h, h]
  · exact (bld_err rfl h).2.symm
theorem right_add {x : D} (h : (rl x 3).length ≤ 4) : rightZ (imOf (addC x)) = rightZ (imOf x) := by
  unfold rightZ
  have e1 : (imOf (addC x)).id = (imOf x).id := rfl
  have e2 : (imOf (addC x)).t = (imOf x).t := rfl
  have e3 : (imOf (addC x)).p = (imOf x).p := rfl
  have e4 : (imOf (addC x)).h.length = (rl x 3).length + 1 := by
    show (txs (rl x 3 ++ [.str caseB])).length = _
    rw [txs_len]; simp
  have e5 : (imOf x).h.length = (rl x 3).length := txs_len
  rw [e1, e2, e3, e4, e5]
  have q1 : ¬ 1024 < (rl x 3).length + 1 := by omega
  have q2 : ¬ 1024 < (rl x 3).length := by omega
  simp only [if_neg q1, if_neg q2]
/-! ### The walk's facts -/
theorem held_0 {l : List D} : l = heldTo l 0 := mkL_eq rfl fun i hi => by rw [if_neg (by omega)]
theorem held_n {l : List D} : heldTo l l.length = mkL l.length fun i => addC (elt l (i : Int)) := mkL_congr fun i hi => if_pos hi
theorem free_0 {l : List D} : freeTo l 0 = mkL l.length fun i => addC (elt l (i : Int)) := mkL_congr fun i hi => if_neg (by omega)
theorem free_n {l : List D} : freeTo l l.length = l := (mkL_eq rfl fun i hi => by rw [if_pos hi]).symm
theorem mix_held {l : List D} {k : Nat} : Mix l fun i => if i < k then addC (elt l (i : Int)) else elt l (i : Int) := fun i hi => by
  simp only
  split
  · exact .inr rfl
  · exact .inl rfl
theorem mix_free {l : List D} {k : Nat} : Mix l fun i => if i < k then elt l (i : Int) else addC (elt l (i : Int)) := fun i hi => by
  simp only
  split
  · exact .inl rfl
  · exact .inr rfl
theorem hold_round {l : List D} (hp : Pic l) (hd : Dist l) {g : Nat} (hg : g < l.length) : hdE (heldTo l g) ((elt l (g : Int)).fld 0).s caseB = 0 ∧ hdL (heldTo l g) ((elt l (g : Int)).fld 0).s caseB = heldTo l (g + 1) := by
  have hf : fdZ (heldTo l g) ((elt l (g : Int)).fld 0).s = g := mix_fd hd mix_held hg
  have he : elt (heldTo l g) (g : Int) = elt l (g : Int) := by
    unfold heldTo; rw [elt_mkL hg, if_neg (by omega)]
  obtain ⟨_, h4, hc⟩ := hp.2 g hg
  have hi := idx_none (s := caseB) fun j hj => (hc j hj).2
  have h0 : hdE (heldTo l g) ((elt l (g : Int)).fld 0).s caseB = 0 := by
    unfold hdE
    rw [hf, he, if_neg (by omega), if_neg (by omega), if_neg (by omega)]
  refine ⟨h0, ?_⟩
  unfold hdL
  rw [if_pos h0, hf, he, Int.toNat_natCast]
  unfold heldTo
  rw [xset_mkL]
  refine mkL_congr fun i hi => ?_
  by_cases e : g = i
  · subst e; rw [if_pos rfl, if_pos (by omega)]; rfl
  · rw [if_neg e]
    by_cases h : i < g
    · rw [if_pos h, if_pos (by omega)]
    · rw [if_neg h, if_neg (by omega)]
theorem free_at {l : List D} (hd : Dist l) {g : Nat} (hg : g < l.length) : fdZ (freeTo l g) ((elt l (g : Int)).fld 0).s = g ∧ elt (freeTo l g) (g : Int) = addC (elt l (g : Int)) :=
  ⟨mix_fd hd mix_free hg, by unfold freeTo; rw [elt_mkL hg, if_neg (by omega)]⟩
theorem free_idx {l : List D} (hp : Pic l) {g : Nat} (hg : g < l.length) : idxZ (rl (addC (elt l (g : Int))) 3) caseB = (rl (elt l (g : Int)) 3).length := by
  rw [addC_h]
  exact idx_app fun j hj => ((hp.2 g hg).2.2 j hj).2
theorem free_round {l : List D} (hp : Pic l) (hd : Dist l) (hw : ∀ k : Nat, k < l.length → imD (elt l (k : Int)) = elt l (k : Int)) {g : Nat} (hg : g < l.length) :
    reE (freeTo l g) ((elt l (g : Int)).fld 0).s caseB = 0 ∧ reL (freeTo l g) ((elt l (g : Int)).fld 0).s caseB = freeTo l (g + 1) := by
  obtain ⟨hf, he⟩ := free_at hd hg
  have hi := free_idx hp hg
  have h0 : reE (freeTo l g) ((elt l (g : Int)).fld 0).s caseB = 0 := by
    unfold reE
    rw [hf, he, hi, if_neg (by omega), if_neg (by omega)]
  refine ⟨h0, ?_⟩
  unfold reL
  rw [if_pos h0, hf, he, Int.toNat_natCast]
  have e2 : withH (addC (elt l (g : Int))) ((rl (addC (elt l (g : Int))) 3).take ((rl (addC (elt l (g : Int))) 3).length - 1)) = elt l (g : Int) := by
    rw [addC_h, List.length_append, List.length_singleton, Nat.add_sub_cancel, List.take_left]
    exact hw g hg
  rw [e2]
  unfold freeTo
  rw [xset_mkL]
  refine mkL_congr fun i hi => ?_
  by_cases e : g = i
  · subst e; rw [if_pos rfl, if_pos (by omega)]
  · rw [if_neg e]
    by_cases h : i < g
    · rw [if_pos h, if_pos (by omega)]
    · rw [if_neg h, if_neg (by omega)]
/-! ### Held images stay -/
theorem untE_add {m : List D} {x : D} {c : Int} (h : untE m x c = 0 ∨ untE m x c = 11 ∨ untE m x c = 32) : untE m (addC x) c = 32 := by
  unfold untE at h ⊢
  rw [addC_t, addC_p, addC_h]
  split at h
  · rcases h with h | h | h <;> cases h
  rename_i h1
  rw [if_neg h1]
  split at h
  · rcases h with h | h | h <;> cases h
  rename_i h2
  rw [if_neg h2, if_pos (by simp)]
theorem purF_cases {m L cl : List D} {t : Int} {i : Nat} (h : purF m L cl t i = 0) : untE m (elt L (i : Int)) (ei cl i) = 0 ∨ untE m (elt L (i : Int)) (ei cl i) = 11 ∨ untE m (elt L (i : Int)) (ei cl i) = 32 := by
  unfold purF at h
  split at h
  · rename_i hk
    rw [kpZ_t] at hk
    omega
  · exact .inl h
theorem kep_all {m L cl : List D} {t : Int} : ∀ {k : Nat}, (∀ i, i < k → kpZ m (elt L (i : Int)) (ei cl i) t = true) → (kepTo m L cl t k).length = k ∧ gonTo m L cl t k = []
  | 0, _ => ⟨rfl, rfl⟩
  | k + 1, h => by
    have hk := h k (by omega)
    obtain ⟨h1, h2⟩ := kep_all (k := k) fun i hi => h i (by omega)
    rw [kepTo, gonTo, if_pos hk, if_pos hk, h2]
    exact ⟨by simp [xcat, h1], rfl⟩
theorem pur_e {l L cl : List D} {t : Int} : (purZ l L cl t).e = purE l L cl t := by
  by_cases h : purE l L cl t = 0
  · rw [pur_ok h, h]
  · exact (pur_err rfl h).2.2.symm
theorem purE_0 {l L cl : List D} {t : Int} : purE l L cl t = 0 ↔ (ckZ l = 0 ∧ cl.length = L.length ∧ timeZ t = true) ∧ errTo (purF (rulTo l l.length) L cl t) L.length = 0 := by
  unfold purE
  by_cases h1 : ckZ l = 0
  · rw [if_neg (by simp [h1])]
    by_cases h2 : cl.length = L.length
    · rw [if_neg (by simp [h2])]
      cases h3 : timeZ t <;> simp [h1, h2]
    · rw [if_pos h2]; simp [h2]
  · rw [if_pos h1]; simp [h1]
theorem pur_held {l L cl : List D} {t : Int} (h : purE l L cl t = 0) : purE l (mkL L.length fun i => addC (elt L (i : Int))) cl t = 0 ∧
    (purZ l (mkL L.length fun i => addC (elt L (i : Int))) cl t).k.length = L.length ∧ (purZ l (mkL L.length fun i => addC (elt L (i : Int))) cl t).g = [] := by
  rw [purE_0] at h
  obtain ⟨⟨h1, h2, h3⟩, h4⟩ := h
  have hk : ∀ i, i < L.length → kpZ (rulTo l l.length) (elt (mkL L.length fun i => addC (elt L (i : Int))) (i : Int)) (ei cl i) t = true := fun i hi => by
    rw [elt_mkL hi, kpZ_t]
    exact .inl (untE_add (purF_cases (errTo_all h4 i hi)))
  have h0 : purE l (mkL L.length fun i => addC (elt L (i : Int))) cl t = 0 := by
    rw [purE_0, mkL_len]
    exact ⟨⟨h1, h2, h3⟩, errTo_zero fun i hi => by unfold purF; rw [if_pos (hk i hi)]⟩
  refine ⟨h0, ?_⟩
  rw [pur_ok h0, mkL_len]
  exact kep_all hk
theorem seq_self {s : List UInt8} : seq' s s = true := by simp [seq']
theorem c10 : ConOK Tryd.prog 10 con10 := by
  refine conOK_of_exec (inl := noInl) noInl_ok (lp := lp10) (tb := tb10) (c := bodyOf Tryd.f10) ⟨tt_ok, tb10_ok⟩ mixed Tryd.func10 (by kernel_rfl) (by kernel_rfl) ?_
  intro dat hpre hwt
  have hw0 := wts4 hwt
  obtain ⟨d0, d1, d2, d3, rfl, w0, w1, w2, w3⟩ := hw0
  refine Eq.mpr (vc10 d0 d1 d2 d3) ?_
  have hl0 := wt_len w0
  have hl1 := wt_len w1
  have hl2 := wt_len w2
  have hI : ∀ k : Nat, k < d1.l.length → imD (elt d1.l (k : Int)) = elt d1.l (k : Int) := fun k hk => im_eta ((wt_sl w1).2.2 _ (by rw [elt_get hk]; exact List.getElem_mem _))
  simp only [ile_t, ile_f, ilt_t, ilt_f, ieq_t, ieq_f, bnot_t, bnot_f, band_t, band_f, true_and, and_true, lenI, implies_true, imp_false, not_true_eq_false, not_false_eq_true, and_self, and_false, false_and, Int.not_lt, Int.not_le, Classical.not_not]
  have hcB : [99, 97, 115, 101] = caseB := rfl
  have hvB : [118, 49] = v1B := rfl
  rw [hcB, hvB]
  intro h8 hpic
  have hp := pic_ok hpic
  have hn := hp.1
  have hheld : ∀ k, smL (ims (heldTo d1.l k)) ∧ fit (heldTo d1.l k) := fun k => mix_good hp mix_held
  have hfree : ∀ k, smL (ims (freeTo d1.l k)) ∧ fit (freeTo d1.l k) := fun k => mix_good hp mix_free
  have hs0 : smL (ims d1.l) ∧ fit d1.l := by
    have := hheld 0
    rwa [← held_0] at this
  refine ⟨hs0.1, hs0.2, fun hb hpu => ⟨⟨0, by omega, held_0, rfl⟩, fun g hg => ⟨fun hlt => ?_, fun hge => ?_⟩⟩⟩
  all_goals
    rw [bld_e, bld_0 (by omega)] at hb
    have hd : Dist d1.l := fun k hk => (hb k hk).2
    rw [pur_e] at hpu
  · obtain ⟨r1, r2⟩ := hold_round hp hd (g := g) (by omega)
    exact ⟨by omega, ⟨(hheld g).2, rfl⟩, r1, fun _ => ⟨g + 1, by omega, by omega, r2, by rw [iadd_eq (by omega)]; rfl⟩⟩
  · obtain rfl : g = d1.l.length := by omega
    have hM := hheld d1.l.length
    rw [held_n] at hM ⊢
    obtain ⟨M, hMd⟩ : ∃ M, M = mkL d1.l.length fun i => addC (elt d1.l (i : Int)) := ⟨_, rfl⟩
    have hMl : M.length = d1.l.length := by rw [hMd, mkL_len]
    have hMe : ∀ k : Nat, k < d1.l.length → elt M (k : Int) = addC (elt d1.l (k : Int)) := fun k hk => by rw [hMd, elt_mkL hk]
    obtain ⟨q1, q2, q3⟩ := pur_held hpu
    rw [← hMd] at q1 q2 q3 hM ⊢
    have hbM : bldE v1B (ims M) = 0 := by
      rw [bld_0 (by omega), hMl]
      intro k hk
      obtain ⟨b1, b2⟩ := hb k hk
      refine ⟨by rw [hMe k hk, right_add (hp.2 k hk).2.1]; exact b1, fun j hj => ?_⟩
      rw [hMe k hk, hMe j (by omega), addC_id, addC_id]
      exact b2 j hj
    have hbz := bld_ok hbM
    rw [hbz]
    simp only
    refine ⟨hM.1, hM.2, trivial, fun _ => ⟨by rw [pur_e]; exact q1, fun _ => ⟨hM.1, ?_, fun _ => ⟨by rw [q3]; rfl, fun _ => ⟨by rw [q2], fun _ => ⟨⟨0, by omega, by rw [free_0, hMd], rfl⟩, fun g hg => ⟨fun hlt => ?_, fun hge => ?_⟩⟩⟩⟩⟩⟩⟩
    · have hv : verZ v1B (ims M) (chZ v1B (ims M)) = true := sameZ_self _
      rw [hv]; decide
    · have hlt' : g < d1.l.length := by omega
      obtain ⟨r1, r2⟩ := free_round hp hd hI hlt'
      obtain ⟨f1, f2⟩ := free_at hd hlt'
      refine ⟨by omega, ⟨(hfree g).2, fun _ => ?_⟩, r1, fun _ => ⟨g + 1, by omega, by omega, r2, by rw [iadd_eq (by omega)]; rfl⟩⟩
      rw [f1, f2]
      show idxZ (rl (addC (elt d1.l (g : Int))) 3) caseB + 1 = ((rl (addC (elt d1.l (g : Int))) 3).length : Int)
      rw [free_idx hp hlt', addC_h]
      simp
    · obtain rfl : g = d1.l.length := by omega
      rw [free_n]
      have hkg := kep_len (m := rulTo d0.l d0.l.length) (ims := d1.l) (cl := d2.l) (t := d3.i) d1.l.length
      have hk10 : (purZ d0.l d1.l d2.l d3.i).k.length ≤ 10 := by rw [pur_ok hpu]; exact Nat.le_trans hkg.1 hn
      have hg10 : (purZ d0.l d1.l d2.l d3.i).g.length ≤ 10 := by rw [pur_ok hpu]; exact Nat.le_trans hkg.2 hn
      have h0 : (purZ d0.l d1.l d2.l d3.i).e = 0 := by rw [pur_e]; exact hpu
      generalize purZ d0.l d1.l d2.l d3.i = Z at hk10 hg10 h0 ⊢
      exact ⟨hs0.2, h0, fun _ => ⟨rfl, fun _ => ⟨rfl, fun _ => ⟨⟨0, by omega, rfl⟩, fun g2 hg2 => ⟨fun hlt => ⟨by omega, by omega, by rw [seq_self]; decide, fun _ => ⟨g2 + 1, by omega, by omega, by rw [iadd_eq (by omega)]; rfl⟩⟩,
        fun _ => ⟨⟨0, by omega, rfl⟩, fun g3 hg3 hlt => ⟨by omega, by omega, by rw [seq_self]; decide, fun _ => ⟨g3 + 1, by omega, by omega, by rw [iadd_eq (by omega)]; rfl⟩⟩⟩⟩⟩⟩⟩⟩
end Go.Proofs.YtafpahkcjdfpiaaDoor
