/- Part of the proof of the laws of this seat: contracts of its functions, for every input. -/
import Derived.Test.YtkfghnflbehecaaDoorWT
set_option linter.all false
namespace Go.Proofs.YtkfghnflbehecaaDoor
open Go Go.RX Go.Proofs
set_option maxRecDepth 100000
set_option linter.all false
set_option maxHeartbeats 1000000
theorem elt_take {l : List D} {i j : Nat} (h : j < i) (hi : i ≤ l.length) : elt (l.take i) (j : Int) = elt l (j : Int) := by
  rw [elt_get (by rw [List.length_take]; omega), elt_get (by omega)]
  exact List.getElem_take
theorem find_take {l : List D} {i : Nat} {k : List UInt8} (hi : i ≤ l.length) : findZ (l.take i) k < 0 ↔ ∀ j : Nat, j < i → ((elt l (j : Int)).fld 0).s ≠ k := by
  have hlen : (l.take i).length = i := by rw [List.length_take]; omega
  rcases findZ_cases (l.take i) k with ⟨g, h1, h2, h3, h4⟩ | ⟨h1, h2⟩
  · rw [elt_take (by omega) hi] at h3
    exact ⟨fun h => by omega, fun h => absurd h3 (h g (by omega))⟩
  · refine ⟨fun _ j hj => ?_, fun _ => by omega⟩
    have := h2 j (by omega)
    rwa [elt_take hj hi] at this
theorem prfE_t {l : List D} : prfE l = 0 ↔ ∀ j : Nat, j < l.length → refZ (elt l (j : Int)).s = true ∧ hasZ (l.take j) (elt l (j : Int)).s = false := by
  unfold prfE
  have key : ∀ j, prfAt l j = 0 ↔ refZ (elt l (j : Int)).s = true ∧ hasZ (l.take j) (elt l (j : Int)).s = false := fun j => by
    unfold prfAt
    cases h1 : refZ (elt l (j : Int)).s with
    | false => simp
    | true =>
      cases h2 : hasZ (l.take j) (elt l (j : Int)).s with
      | false => simp
      | true => simp
  exact ⟨fun h j hj => (key j).1 (errTo_all h j hj), fun h => errTo_zero fun j hj => (key j).2 (h j hj)⟩
theorem oneE_t {d : D} : oneE d = 0 ↔ timeZ (d.fld 1).i = true ∧ centsZ (d.fld 2).i = true ∧ 1 ≤ (d.fld 3).i ∧ (d.fld 3).i ≤ 4 ∧ (d.fld 4).l.length ≤ 16 ∧ prfE (d.fld 4).l = 0 := by
  unfold oneE
  cases h1 : timeZ (d.fld 1).i with
  | false => simp
  | true =>
    rw [if_neg (by decide)]
    cases h2 : centsZ (d.fld 2).i with
    | false => simp
    | true =>
      rw [if_neg (by decide)]
      by_cases h3 : (d.fld 3).i < 1 ∨ 4 < (d.fld 3).i
      · rw [if_pos h3]; exact ⟨(fun h => nomatch h), fun h => by omega⟩
      · rw [if_neg h3]
        by_cases h4 : 16 < (d.fld 4).l.length
        · rw [if_pos h4]; exact ⟨(fun h => nomatch h), fun h => by omega⟩
        · rw [if_neg h4]
          exact ⟨fun h => ⟨rfl, rfl, by omega, by omega, by omega, h⟩, fun h => h.2.2.2.2.2⟩
theorem chkE_t {l : List D} : chkE l = 0 ↔ l.length ≤ 1024 ∧ ∀ i : Nat, i < l.length → refZ ((elt l (i : Int)).fld 0).s = true ∧ (∀ j : Nat, j < i → ((elt l (j : Int)).fld 0).s ≠ ((elt l (i : Int)).fld 0).s) ∧ oneE (elt l (i : Int)) = 0 := by
  have key : ∀ i : Nat, i < l.length → (chkAt l i = 0 ↔ refZ ((elt l (i : Int)).fld 0).s = true ∧ (∀ j : Nat, j < i → ((elt l (j : Int)).fld 0).s ≠ ((elt l (i : Int)).fld 0).s) ∧ oneE (elt l (i : Int)) = 0) := fun i hi => by
    rw [← find_take (l := l) (by omega : i ≤ l.length)]
    unfold chkAt
    cases h1 : refZ ((elt l (i : Int)).fld 0).s with
    | false => simp
    | true =>
      rw [if_neg (by decide)]
      by_cases h2 : 0 ≤ findZ (l.take i) ((elt l (i : Int)).fld 0).s
      · rw [if_pos h2]; exact ⟨(fun h => nomatch h), fun h => by omega⟩
      · rw [if_neg h2]; exact ⟨fun h => ⟨rfl, by omega, h⟩, fun h => h.2.2⟩
  unfold chkE
  by_cases h : 1024 < l.length
  · rw [if_pos h]; exact ⟨(fun h => nomatch h), fun h => by omega⟩
  · rw [if_neg h]
    exact ⟨fun h1 => ⟨by omega, fun i hi => (key i hi).1 (errTo_all h1 i hi)⟩, fun h1 => errTo_zero fun i hi => (key i hi).2 (h1.2 i hi)⟩
theorem prfE_snoc {l : List D} {id : List UInt8} (h : prfE l = 0) (h1 : refZ id = true) (h2 : hasZ l id = false) : prfE (xcat l [.str id]) = 0 := by
  rw [prfE_t] at h ⊢
  intro j hj
  rw [xcat_len] at hj
  have hj : j < l.length + 1 := by simpa using hj
  have ht : (xcat l [D.str id]).take j = l.take j := by
    unfold xcat; exact List.take_append_of_le_length (by omega)
  rw [ht]
  by_cases e : j = l.length
  · subst e
    rw [elt_cat_r, List.take_length]
    exact ⟨h1, h2⟩
  · rw [elt_cat_l (by omega)]
    exact h j (by omega)
theorem chk_step {l : List D} {d : Dd} (hc : chkE l = 0) (hw : ∀ i : Nat, i < l.length → wd (elt l (i : Int))) : chkE (doZ l d).l = 0 := by
  have S := step_of l d
  rw [chkE_t] at hc ⊢
  obtain ⟨hlen, hel⟩ := hc
  generalize (doZ l d).l = m at *
  have hge := S.ge
  have hle := S.le
  have key : ∀ i : Nat, i < l.length → (elt m (i : Int)).fld 0 = (elt l (i : Int)).fld 0 := fun i hi => by
    rcases S.old i hi with e | C
    · rw [e]
    · exact C.k0
  refine ⟨?_, fun i hi => ?_⟩
  · by_cases h : m.length = l.length + 1
    · have := (open_facts (S.new h).1).2.2.2.2; omega
    · omega
  · by_cases h : i < l.length
    · obtain ⟨h1, h2, h3⟩ := hel i h
      refine ⟨by rw [key i h]; exact h1, fun j hj => by rw [key i h, key j (by omega)]; exact h2 j hj, ?_⟩
      rcases S.old i h with e | C
      · rw [e]; exact h3
      · rw [oneE_t] at h3 ⊢
        rw [C.k1, C.k2]
        rcases C.how (hw i h) with ⟨q1, q2, q3⟩ | ⟨id, q1, q2, q3, q4, q5⟩
        · rw [q3]; exact ⟨h3.1, h3.2.1, q1, q2, h3.2.2.2.2⟩
        · rw [q1, q2]
          refine ⟨h3.1, h3.2.1, h3.2.2.1, h3.2.2.2.1, ?_, prfE_snoc h3.2.2.2.2.2 q3 q4⟩
          show (xcat _ [D.str id]).length ≤ 16
          rw [xcat_len]; simp; omega
    · obtain ⟨h0, e⟩ := S.new (by omega)
      obtain rfl : i = l.length := by omega
      obtain ⟨o1, o2, o3, o4, o5⟩ := open_facts h0
      rw [e]
      refine ⟨o1, fun j hj => ?_, oneE_t.2 ⟨o3, o2, (by show (1 : Int) ≤ 1; omega), (by show (1 : Int) ≤ 4; omega), (by show 0 ≤ 16; omega), rfl⟩⟩
      rw [key j hj]
      rcases findZ_cases l d.key with ⟨g, g1, _⟩ | ⟨_, g2⟩
      · omega
      · exact g2 j hj
theorem tb7_ok : TabOK Tryd.prog tb7 := fun f con h => by
  unfold tb7 at h
  split at h
  · cases h; exact c8
  · cases h; exact c9
  · cases h; exact c10
  · cases h; exact c12
  · cases h; exact c14
  · cases h
theorem c7 : ConOK Tryd.prog 7 con7 := by
  refine conOK_of_exec (inl := noInl) noInl_ok (lp := lp7) (tb := tb7) (c := bodyOf Tryd.f7) ⟨tt_ok, tb7_ok⟩ mixed Tryd.func7 (by kernel_rfl) (by kernel_rfl) ?_
  intro dat hpre hwt
  have hw0 := wts2 hwt
  obtain ⟨d0, d1, rfl, w0, w1⟩ := hw0
  refine Eq.mpr (vc7 d0 d1) ?_
  have hl := wt_len w0
  have hw : ∀ i : Nat, i < d0.l.length → wd (elt d0.l (i : Int)) := fun i hi => wt_wd ((wt_sl w0).2.2 _ (elt_mem hi))
  have hkind : (d1.fld 0).i = (ddOf d1).kind := rfl
  have hkey : (d1.fld 1).s = (ddOf d1).key := rfl
  simp only [ile_t, ile_f, ilt_t, ilt_f, ieq_t, ieq_f, bnot_t, bnot_f, band_t, band_f, true_and, and_true, lenI, seq_t, seq_f]
  rw [hkind, hkey]
  generalize ddOf d1 = d at *
  generalize d0.l = l at *
  refine ⟨fun _ => trivial, fun hg => ⟨fun _ => trivial, fun hc => ⟨fit_great hg, ?_⟩⟩⟩
  have hlen := (great_f hg).1
  have S := step_of l d
  have hm := chk_step (d := d) hc hw
  have hsame : (doZ l d).e ≠ 0 → (doZ l d).l = l := fun h => (err_same h).1
  generalize (doZ l d).l = m at *
  generalize (doZ l d).e = er at *
  have hge := S.ge
  have hle := S.le
  have e1 : iadd .i64 (l.length : Int) 1 = (l.length : Int) + 1 := iadd_eq (by omega)
  rw [e1]
  refine ⟨fun h => h hm, fun _ => ⟨fun h => by omega, fun _ => ⟨fun h => by omega, fun _ => ⟨fun he => ⟨(fun h => by rw [hsame he, sameL_self] at h; cases h), fun _ => ⟨⟨0, by omega, rfl⟩, fun g hg => ⟨fun hlt => ?_, fun _ => trivial⟩⟩⟩, fun he => ⟨⟨0, by omega, rfl⟩, fun g hg => ⟨fun hlt => ?_, fun _ => trivial⟩⟩⟩⟩⟩⟩
  · have nxt : ∃ g', g' ≤ l.length ∧ l.length - g' < l.length - g ∧ (g : Int) + 1 = (g' : Int) := ⟨g + 1, by omega, by omega, rfl⟩
    rw [iadd_eq (by omega)]
    refine ⟨by omega, by omega, fun _ => nxt, fun hn => ?_⟩
    have hC : Chg d (elt l (g : Int)) (elt m (g : Int)) := by
      rcases S.old g (by omega) with e | C
      · rw [xsub1 (by omega), xsub1 (by omega), e, sameL_self] at hn; cases hn
      · exact C
    exact ⟨by omega, fun h => h hC.st, fun _ => ⟨by omega, by omega, fun h => h (by rw [hC.k0]), fun _ => ⟨by omega, by omega, fun h => h (by rw [hC.k1]), fun _ => ⟨by omega, by omega, fun h => h (by rw [hC.k2]), fun _ => ⟨fun hk0 => ⟨fun hk3 => ⟨by omega, fun h => h (hC.key ⟨hk0, hk3⟩), fun _ => nxt⟩, fun _ => nxt⟩, fun _ => nxt⟩⟩⟩⟩⟩
  · have nxt : ∃ g', g' ≤ l.length ∧ l.length - g' < l.length - g ∧ (g : Int) + 1 = (g' : Int) := ⟨g + 1, by omega, by omega, rfl⟩
    rw [iadd_eq (by omega)]
    refine ⟨by omega, by omega, fun _ => nxt, fun hn => ?_⟩
    have hC : Chg d (elt l (g : Int)) (elt m (g : Int)) := by
      rcases S.old g (by omega) with e | C
      · rw [xsub1 (by omega), xsub1 (by omega), e, sameL_self] at hn; cases hn
      · exact C
    exact ⟨by omega, fun h => h hC.st, fun _ => ⟨by omega, by omega, fun h => h (by rw [hC.k0]), fun _ => ⟨by omega, by omega, fun h => h (by rw [hC.k1]), fun _ => ⟨by omega, by omega, fun h => h (by rw [hC.k2]), fun _ => ⟨fun hk0 => ⟨fun hk3 => ⟨by omega, fun h => h (hC.key ⟨hk0, hk3⟩), fun _ => nxt⟩, fun _ => nxt⟩, fun _ => nxt⟩⟩⟩⟩⟩
end Go.Proofs.YtkfghnflbehecaaDoor
