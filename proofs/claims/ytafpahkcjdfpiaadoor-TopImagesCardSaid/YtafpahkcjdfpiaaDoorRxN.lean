/- Part N: regions that draw their order: every order serves. -/
import Derived.Test.YtafpahkcjdfpiaaDoorRxM
set_option linter.all false
namespace Go.RX
open Go Go.RowKit

theorem ancs_old : ∀ (l : List Oper) (acc : List (List Nat)) (j : Nat), j < acc.length → (ancs l acc).getD j [] = acc.getD j []
  | [], _, _, _ => rfl
  | o :: l, acc, j, h => by
    simp only [ancs]
    rw [ancs_old l _ j (by simp; omega)]
    simp [List.getD, List.getElem?_append_left h]

theorem flatMap_congr' {α β : Type} {f g : α → List β} : ∀ {l : List α}, (∀ k ∈ l, f k = g k) → l.flatMap f = l.flatMap g
  | [], _ => rfl
  | x :: l, h => by
    simp only [List.flatMap_cons]
    rw [h x List.mem_cons_self, flatMap_congr' fun k hk => h k (List.mem_cons_of_mem _ hk)]

theorem ancs_get : ∀ (l : List Oper) (acc : List (List Nat)) (j : Nat) (o : Oper), l[j]? = some o → (∀ k ∈ afters o, k < acc.length + j) →
    (∀ i o', l[i]? = some o' → ∀ k ∈ afters o', k < acc.length + i) →
    (ancs l acc).getD (acc.length + j) [] = afters o ++ (afters o).flatMap fun k => (ancs l acc).getD k []
  | [], _, _, _, h, _, _ => by simp at h
  | x :: l, acc, 0, o, h, ha, hall => by
    simp at h; subst h
    simp only [ancs]
    rw [Nat.add_zero, ancs_old l _ acc.length (by simp)]
    have h1 : (acc ++ [afters x ++ (afters x).flatMap fun j => acc.getD j []]).getD acc.length [] = afters x ++ (afters x).flatMap fun j => acc.getD j [] := by simp [List.getD]
    rw [h1]
    congr 1
    have hpt : ∀ k ∈ afters x, acc.getD k [] = (ancs l (acc ++ [afters x ++ (afters x).flatMap fun j => acc.getD j []])).getD k [] := fun k hk => by
      have hk' := ha k hk
      rw [ancs_old l _ k (by simp; omega)]
      simp only [Nat.add_zero] at hk'
      simp [List.getD, List.getElem?_append_left hk']
    exact flatMap_congr' hpt
  | x :: l, acc, j + 1, o, h, ha, hall => by
    simp only [ancs]
    have := ancs_get l (acc ++ [afters x ++ (afters x).flatMap fun j => acc.getD j []]) j o (by simpa using h) (fun k hk => by have := ha k hk; simp; omega)
      (fun i o' hi k hk => by have := hall (i + 1) o' (by simpa using hi) k hk; simp; omega)
    rw [List.length_append, List.length_cons, List.length_nil] at this
    rw [show acc.length + (j + 1) = acc.length + (0 + 1) + j by omega]
    exact this

theorem aftersOK_get : ∀ {l : List Oper} {i : Nat}, aftersOK l i = true → ∀ {j : Nat} {o : Oper}, l[j]? = some o → ∀ k ∈ afters o, k < i + j
  | [], _, _, _, _, h => by simp at h
  | x :: l, i, h, j, o, ho => by
    simp only [aftersOK, Bool.and_eq_true] at h
    obtain ⟨⟨h1, _⟩, h2⟩ := h
    cases j with
    | zero =>
      simp at ho; subst ho
      intro k hk
      simpa using (List.all_eq_true.1 h1) k hk
    | succ j =>
      intro k hk
      have := aftersOK_get h2 (by simpa using ho) k hk
      omega

theorem apartFrom_get {ops : List Oper} {an : List (List Nat)} {x : Rec} {i : Nat} : ∀ {l : List Rec} {j : Nat}, apartFrom ops an x i l j = true → ∀ {k : Nat} {y : Rec}, l[k]? = some y → (an.getD (j + k) []).contains i = true ∨ apart ops x y = true
  | [], _, _, _, _, h => by simp at h
  | z :: l, j, h, k, y, hy => by
    simp only [apartFrom, Bool.and_eq_true, Bool.or_eq_true] at h
    obtain ⟨h1, h2⟩ := h
    cases k with
    | zero => simp at hy; subst hy; exact h1
    | succ k =>
      have := apartFrom_get h2 (k := k) (by simpa using hy)
      rwa [show j + 1 + k = j + (k + 1) by omega] at this

theorem apartAll_get {ops : List Oper} {an : List (List Nat)} : ∀ {l : List Rec} {b : Nat}, apartAll ops an l b = true → ∀ {i j : Nat} {x y : Rec}, l[i]? = some x → l[j]? = some y → i < j →
    (an.getD (b + j) []).contains (b + i) = true ∨ apart ops x y = true
  | [], _, _, _, _, _, _, h, _, _ => by simp at h
  | z :: l, b, h, i, j, x, y, hx, hy, hij => by
    simp only [apartAll, Bool.and_eq_true] at h
    obtain ⟨h1, h2⟩ := h
    cases i with
    | zero =>
      simp at hx; subst hx
      obtain ⟨j, rfl⟩ : ∃ k, j = k + 1 := ⟨j - 1, by omega⟩
      have := apartFrom_get h1 (k := j) (by simpa using hy)
      rwa [show b + 1 + j = b + (j + 1) by omega] at this
    | succ i =>
      obtain ⟨j, rfl⟩ : ∃ k, j = k + 1 := ⟨j - 1, by omega⟩
      have := apartAll_get h2 (i := i) (j := j) (by simpa using hx) (by simpa using hy) (by omega)
      rwa [show b + 1 + j = b + (j + 1) by omega, show b + 1 + i = b + (i + 1) by omega] at this

/-! ### Bits -/
def BitsOf (M : List Nat) (L : List (List Nat)) : Prop := M.length = L.length ∧ ∀ j i, (M.getD j 0).testBit i = true → i ∈ L.getD j []
theorem foldl_bits {acc : List Nat} {L : List (List Nat)} (h : ∀ j i, (acc.getD j 0).testBit i = true → i ∈ L.getD j []) : ∀ (l : List Nat) (m i : Nat), (l.foldl (fun m j => m ||| (2 ^ j ||| acc.getD j 0)) m).testBit i = true →
    m.testBit i = true ∨ i ∈ l ++ l.flatMap fun j => L.getD j []
  | [], m, i, hi => .inl hi
  | j :: l, m, i, hi => by
    simp only [List.foldl_cons] at hi
    rcases foldl_bits h l _ i hi with h1 | h1
    · rw [Nat.testBit_or, Nat.testBit_or, Bool.or_eq_true, Bool.or_eq_true] at h1
      rcases h1 with h1 | h1 | h1
      · exact .inl h1
      · refine .inr ?_
        rw [Nat.testBit_two_pow, decide_eq_true_eq] at h1
        subst h1
        simp
      · refine .inr ?_
        have := h _ _ h1
        simp only [List.mem_append, List.flatMap_cons]
        exact .inr (.inl this)
    · refine .inr ?_
      simp only [List.mem_append, List.flatMap_cons, List.mem_cons] at h1 ⊢
      rcases h1 with h1 | h1
      · exact .inl (.inr h1)
      · exact .inr (.inr h1)
theorem ancM_bits : ∀ (l : List Oper) (M : List Nat) (L : List (List Nat)), BitsOf M L → BitsOf (ancM l M) (ancs l L)
  | [], _, _, h => h
  | o :: l, M, L, h => by
    simp only [ancM, ancs]
    refine ancM_bits l _ _ ⟨by simp [h.1], fun j i hj => ?_⟩
    simp only [List.getD, List.getElem?_append] at hj ⊢
    by_cases hlt : j < M.length
    · rw [if_pos hlt] at hj
      rw [if_pos (by rw [← h.1]; exact hlt)]
      exact h.2 j i hj
    · rw [if_neg hlt] at hj
      rw [if_neg (by rw [← h.1]; exact hlt)]
      by_cases he : j = M.length
      · subst he
        rw [← h.1]
        simp only [Nat.sub_self, List.getElem?_cons_zero, Option.getD_some] at hj ⊢
        rcases foldl_bits h.2 (afters o) 0 i hj with h1 | h1
        · simp at h1
        · exact h1
      · obtain ⟨k, hk⟩ : ∃ k, j - M.length = k + 1 := ⟨j - M.length - 1, by omega⟩
        rw [hk] at hj
        simp at hj
theorem apartFromM_to {ops : List Oper} {M : List Nat} {L : List (List Nat)} (h : BitsOf M L) {x : Rec} {i : Nat} : ∀ {l : List Rec} {j : Nat}, apartFromM ops M x i l j = true → apartFrom ops L x i l j = true
  | [], _, _ => rfl
  | y :: l, j, hh => by
    simp only [apartFromM, apartFrom, Bool.and_eq_true, Bool.or_eq_true] at hh ⊢
    refine ⟨hh.1.imp (fun h1 => ?_) id, apartFromM_to h hh.2⟩
    simpa using h.2 j i h1
theorem apartAllM_to {ops : List Oper} {M : List Nat} {L : List (List Nat)} (h : BitsOf M L) : ∀ {l : List Rec} {b : Nat}, apartAllM ops M l b = true → apartAll ops L l b = true
  | [], _, _ => rfl
  | x :: l, b, hh => by
    simp only [apartAllM, apartAll, Bool.and_eq_true] at hh ⊢
    exact ⟨apartFromM_to h hh.1, apartAllM_to h hh.2⟩
theorem apartM_ok {ops : List Oper} {l : List Rec} (h : apartAllM ops (ancM ops []) l 0 = true) : apartAll ops (ancs ops []) l 0 = true :=
  apartAllM_to (ancM_bits ops [] [] ⟨rfl, fun j i h => by simp at h⟩) h

theorem meets_false {a b : List Nat} (h : meets a b = false) {x : Nat} (hx : x ∈ a) : x ∉ b := fun hb => by
  unfold meets at h
  rw [List.any_eq_false] at h
  exact h x hx (by simpa using hb)

structure Apart (ops : List Oper) (x y : Rec) : Prop where
  wr : ∀ t, x.o.dst = some t → t ∉ looksL ops y.o
  ww : ∀ t, x.o.dst = some t → y.o.dst ≠ some t
  rw : ∀ t, y.o.dst = some t → t ∉ looksL ops x.o
  hwr : ∀ k ∈ x.hW, k ∉ y.rd
  hww : ∀ k ∈ x.hW, k ∉ y.hW
  hrw : ∀ k ∈ y.hW, k ∉ x.rd

theorem apart_spec {ops : List Oper} {x y : Rec} (h : apart ops x y = true) : Apart ops x y := by
  simp only [apart, Bool.and_eq_true, Bool.not_eq_true'] at h
  obtain ⟨⟨⟨⟨⟨h1, h2⟩, h3⟩, h4⟩, h5⟩, h6⟩ := h
  refine ⟨fun t ht => meets_false h1 (by simp [Rec.slotsW, ht]), fun t ht hy => meets_false h2 (x := t) (by simp [Rec.slotsW, ht]) (by simp [Rec.slotsW, hy]), fun t ht => meets_false h3 (by simp [Rec.slotsW, ht]),
    fun k hk => meets_false h4 hk, fun k hk => meets_false h5 hk, fun k hk => meets_false h6 hk⟩

/-! ### What an operation looks at -/
theorem evs_congr {sl sl' : List SV} : ∀ {os : List Operand}, (∀ t, Operand.tmp t ∈ os → sl[t]? = sl'[t]?) → evs sl os = evs sl' os
  | [], _ => rfl
  | o :: os, h => by
    simp only [evs]
    rw [evs_congr (os := os) fun t ht => h t (List.mem_cons_of_mem _ ht)]
    have : evo sl o = evo sl' o := by
      cases o with
      | tmp t => exact h t List.mem_cons_self
      | const v => rfl
      | func f => rfl
      | global g => rfl
    rw [this]

theorem look_congr {H H' : Heap} {hs : List Nat} (h : ∀ k ∈ hs, H.get k = H'.get k) : look H hs = look H' hs := List.map_congr_left fun k hk => by rw [h k hk]

theorem mem_looks {ops : List Oper} {o : Oper} {t : Nat} (h : Operand.tmp t ∈ o.op.operands.toList) : t ∈ looksL ops o :=
  List.mem_append_left _ (List.mem_filterMap.2 ⟨_, h, rfl⟩)

theorem guardE_congr {ops : List Oper} {sl sl' : List SV} {o : Oper} (h : ∀ t ∈ looksL ops o, sl[t]? = sl'[t]?) : guardE ops sl o = guardE ops sl' o := by
  unfold guardE
  cases hg : o.guard with
  | none => rfl
  | some jw =>
    obtain ⟨j, want⟩ := jw
    simp only
    cases hp : ops[j]? with
    | none => rfl
    | some p =>
      simp only
      cases hd : p.dst with
      | none => rfl
      | some g =>
        simp only
        rw [h g (List.mem_append_right _ (by simp [hg, hp, hd]))]

theorem stepE_congr {tt : TT} {tb : Nat → Option Con} {base : Nat} {o : Oper} {s s' : St} {ops : List Oper} (h : ∀ t ∈ looksL ops o, s.slots[t]? = s'.slots[t]?) (hh : ∀ k ∈ readsE base o s', s.heap.get k = s'.heap.get k) :
    stepE tt tb base o s = stepE tt tb base o s' := by
  have he := evs_congr (sl := s.slots) (sl' := s'.slots) fun t ht => h t (mem_looks ht)
  unfold stepE
  unfold readsE at hh
  rw [he]
  cases hv : evs s'.slots o.op.operands.toList with
  | none => rfl
  | some vals =>
    simp only [hv] at hh
    simp only
    rw [look_congr hh]

/-! ### How many have yet to come -/
def cnt (L : Nat → Bool) : Nat → Nat
  | 0 => 0
  | n + 1 => cnt L n + (if L n = true then 0 else 1)
theorem cnt_add {L : Nat → Bool} {i : Nat} (hl : L i = false) : ∀ n, i < n → cnt (fun j => j == i || L j) n + 1 = cnt L n
  | 0, h => by omega
  | n + 1, h => by
    simp only [cnt]
    by_cases hi : n = i
    · subst hi
      have : cnt (fun j => j == n || L j) n = cnt L n := by
        have key : ∀ m, m ≤ n → cnt (fun j => j == n || L j) m = cnt L m := by
          intro m
          induction m with
          | zero => intro _; rfl
          | succ m ih =>
            intro hm
            have hne : (m == n) = false := by simp; omega
            simp only [cnt, ih (by omega), hne, Bool.false_or]
        exact key n (Nat.le_refl _)
      simp only [this, hl, beq_self_eq_true, Bool.true_or, if_true]
      simp
    · have := cnt_add hl n (by omega)
      have hne : (n == i) = false := by simpa using hi
      simp only [hne, Bool.false_or]
      omega
theorem cnt_zero {L : Nat → Bool} : ∀ n, cnt L n = 0 → ∀ i, i < n → L i = true
  | 0, _, i, hi => by omega
  | n + 1, h, i, hi => by
    simp only [cnt] at h
    by_cases hn : L n = true
    · rcases Nat.lt_succ_iff_lt_or_eq.1 hi with h1 | rfl
      · exact cnt_zero n (by omega) i h1
      · exact hn
    · simp [hn] at h
theorem cnt_pos {L : Nat → Bool} : ∀ n, 0 < cnt L n → ∃ i, i < n ∧ L i = false ∧ ∀ j, j < i → L j = true
  | 0, h => by simp [cnt] at h
  | n + 1, h => by
    by_cases h0 : 0 < cnt L n
    · obtain ⟨i, h1, h2⟩ := cnt_pos n h0
      exact ⟨i, by omega, h2⟩
    · simp only [cnt] at h
      refine ⟨n, by omega, ?_, cnt_zero n (by omega)⟩
      cases hn : L n with
      | false => rfl
      | true => simp [hn] at h; omega

section
variable {P : Program} {tt : TT} {tb : Nat → Option Con} {ops : Array Oper} {base N : Nat} {G0 : Addr → Prop} {w0 : World} {vs : List Value} {ds : List Deferred} {Q : Exit → Act → World → Prop}

def LB (listed : Array Bool) : Nat → Bool := fun i => listed.getD i false

theorem LB_set {listed : Array Bool} {i : Nat} (hi : i < listed.size) : ∀ j, LB (listed.setIfInBounds i true) j = (j == i || LB listed j) := by
  intro j
  unfold LB
  by_cases h : j = i
  · subst h; simp [hi]
  · have : (j == i) = false := by simpa using h
    rw [this, Bool.false_or]
    simp [Array.getElem?_setIfInBounds_ne (Ne.symm h)]

theorem drawn_any (cx : Ctx P tt tb) {R : List Rec} {s0 sn : St} (hR : R.map (·.o) = ops.toList) (hok : okDraw ops.toList s0.slots.length R = true)
    (hst : ∀ i r, R[i]? = some r → ∃ si, StateAt R s0 (fun j => decide (j < i)) si ∧ RecOK tt tb base ops.toList r si) (hsn : StateAt R s0 (fun _ => true) sn)
    (hQ : ∀ E a w, Rel P N G0 w0 vs ds E sn a w → Q .normal a w) :
    ∀ (fuel : Nat) (listed : Array Bool) (E : Env) (s : St) (a : Act) (w : World), listed.size = ops.size → cnt (LB listed) ops.size = fuel →
      (∀ j, LB listed j = true → ∀ k ∈ (ancs ops.toList []).getD j [], LB listed k = true) → StateAt R s0 (LB listed) s → Rel P N G0 w0 vs ds E s a w → wpAny P .any ops Q fuel listed a w := by
  simp only [okDraw, Bool.and_eq_true] at hok
  obtain ⟨⟨hao, hap⟩, hdst⟩ := hok
  have hRl : R.length = ops.size := by have := congrArg List.length hR; simpa using this
  have hop : ∀ (i : Nat) (r : Rec), R[i]? = some r → ops[i]? = some r.o := fun i r hi => by
    have : (R.map (·.o))[i]? = some r.o := by simp [hi]
    rw [hR] at this
    simpa using this
  have hdone : ∀ (E : Env) (s : St) (a : Act) (w : World) (L : Nat → Bool), (∀ i, i < ops.size → L i = true) → StateAt R s0 L s → Rel P N G0 w0 vs ds E s a w → Q .normal a w := by
    intro E s a w L hL hs hr
    refine hQ E a w (hr.congr ?_ ?_ ?_)
    · apply List.ext_getElem?
      intro t
      rw [hs.slots, hsn.slots]
      exact lastW_congr fun j r hj _ => by rw [Nat.zero_add, hL j (by rw [← hRl]; exact (List.getElem?_eq_some_iff.1 hj).1)]
    · rw [hs.susp, hsn.susp]
    · intro h
      rw [hs.heap, hsn.heap]
      exact lastW_congr fun j r hj _ => by rw [Nat.zero_add, hL j (by rw [← hRl]; exact (List.getElem?_eq_some_iff.1 hj).1)]
  intro fuel
  induction fuel with
  | zero =>
    intro listed E s a w hsz hc hcl hs hr
    have hall := cnt_zero _ hc
    refine ⟨?_, hdone E s a w _ hall hs hr⟩
    apply List.eq_nil_iff_forall_not_mem.2
    intro i hi
    obtain ⟨h1, o, h2, _⟩ := mem_ready.1 hi
    have hlt : i < ops.size := (Array.getElem?_eq_some_iff.1 h2).1
    have h3 := hall i hlt
    unfold LB at h3
    simp [hsz, hlt] at h1 h3
    rw [h1] at h3; cases h3
  | succ fuel ih =>
    intro listed E s a w hsz hc hcl hs hr
    refine ⟨fun hnil => ?_, fun i hi => ?_⟩
    · -- the first that has not come is ready
      exfalso
      obtain ⟨i, h1, h2, h3⟩ := cnt_pos ops.size (by rw [hc]; omega)
      have hmem : i ∈ Region.ready .any ops listed := by
        refine mem_ready.2 ⟨?_, ops[i], by simp [h1], fun e he hb => ?_⟩
        · unfold LB at h2
          simp [hsz, h1] at h2 ⊢
          exact h2
        · have hk : e.on ∈ afters ops[i] := List.mem_map.2 ⟨e, List.mem_filter.2 ⟨by simpa using he, hb⟩, rfl⟩
          have := aftersOK_get hao (j := i) (o := ops[i]) (by simp [h1]) _ hk
          exact h3 e.on (by omega)
      rw [hnil] at hmem
      cases hmem
    · obtain ⟨h1, o, h2, h3⟩ := mem_ready.1 hi
      have hlt : i < ops.size := (Array.getElem?_eq_some_iff.1 h2).1
      have hLi : LB listed i = false := by
        unfold LB
        simp [hsz, hlt] at h1 ⊢
        exact h1
      obtain ⟨r, hri⟩ : ∃ r, R[i]? = some r := by
        rw [← hRl] at hlt
        exact ⟨R[i], by simp [hlt]⟩
      have hro : r.o = o := by have := hop i r hri; rw [h2] at this; exact (Option.some.inj this).symm
      obtain ⟨si, hsi, hrec⟩ := hst i r hri
      -- what must have come before it has
      have haft : ∀ k ∈ afters o, LB listed k = true := by
        intro k hk
        obtain ⟨e, he, rfl⟩ := List.mem_map.1 hk
        obtain ⟨he1, he2⟩ := List.mem_filter.1 he
        exact h3 e (by simpa using he1) he2
      have hanc : ∀ k ∈ (ancs ops.toList []).getD i [], LB listed k = true := by
        intro k hk
        have hg := ancs_get ops.toList [] i o (by simpa using h2) (fun k hk => aftersOK_get hao (by simpa using h2) k hk) (fun j o' hj k hk => aftersOK_get hao hj k hk)
        simp only [List.length_nil, Nat.zero_add] at hg
        rw [hg] at hk
        rcases List.mem_append.1 hk with hk | hk
        · exact haft k hk
        · obtain ⟨m, hm, hk⟩ := List.mem_flatMap.1 hk
          exact hcl m (haft m hm) k hk
      have hpair : ∀ {x y : Nat} {rx ry : Rec}, R[x]? = some rx → R[y]? = some ry → x < y → ((ancs ops.toList []).getD y []).contains x = true ∨ Apart ops.toList rx ry := fun h1 h2 h3 => by
        have := apartAll_get (apartM_ok hap) h1 h2 h3
        simp only [Nat.zero_add] at this
        exact this.imp id apart_spec
      have hbefore : ∀ {j : Nat} {rj : Rec}, R[j]? = some rj → j < i → LB listed j = true ∨ Apart ops.toList rj r := fun hj hlt => by
        rcases hpair hj hri hlt with h | h
        · exact .inl (hanc _ (by simpa using h))
        · exact .inr h
      have hbehind : ∀ {j : Nat} {rj : Rec}, R[j]? = some rj → i < j → LB listed j = false ∨ Apart ops.toList r rj := fun {j rj} hj hlt => by
        rcases hpair hri hj hlt with h | h
        · left
          cases hL : LB listed j with
          | false => rfl
          | true =>
            have := hcl j hL i (by simpa using h)
            rw [hLi] at this; cases this
        · exact .inr h
      have hslots : ∀ t ∈ looksL ops.toList r.o, s.slots[t]? = si.slots[t]? := by
        intro t ht
        rw [hs.slots, hsi.slots]
        refine lastW_congr fun j rj hj hw => ?_
        rw [Nat.zero_add]
        have hdt : rj.o.dst = some t := by
          unfold slotW at hw
          split at hw
          · assumption
          · cases hw
        rcases Nat.lt_trichotomy j i with h | h | h
        · rw [decide_eq_true h]
          rcases hbefore hj h with h4 | h4
          · exact h4
          · exact absurd ht (h4.wr t hdt)
        · subst h; rw [hLi]; simp
        · have : decide (j < i) = false := by simp; omega
          rw [this]
          rcases hbehind hj h with h4 | h4
          · exact h4
          · exact absurd ht (h4.rw t hdt)
      have hheap : ∀ k ∈ r.rd, s.heap.get k = si.heap.get k := by
        intro t ht
        rw [hs.heap, hsi.heap]
        refine lastW_congr fun j rj hj hw => ?_
        rw [Nat.zero_add]
        have hdt : t ∈ rj.hW := heapW_mem hw
        rcases Nat.lt_trichotomy j i with h | h | h
        · rw [decide_eq_true h]
          rcases hbefore hj h with h4 | h4
          · exact h4
          · exact absurd ht (h4.hwr t hdt)
        · subst h; rw [hLi]; simp
        · have : decide (j < i) = false := by simp; omega
          rw [this]
          rcases hbehind hj h with h4 | h4
          · exact h4
          · exact absurd ht (h4.hrw t hdt)
      have hadd := hs.add hri hLi
        (fun d hd => by
          have hm : r.o ∈ ops.toList := by rw [← hR]; exact List.mem_map.2 ⟨r, List.mem_of_getElem? hri, rfl⟩
          have := (List.all_eq_true.1 hdst) _ hm
          simpa [hd] using this)
        (fun j rj hij hj hL d hd => by
          rcases hbehind hj hij with h4 | h4
          · rw [h4] at hL; cases hL
          · exact h4.ww d hd)
        (fun j rj hij hj hL k hk => by
          rcases hbehind hj hij with h4 | h4
          · rw [h4] at hL; cases hL
          · exact h4.hww k hk)
      have hilt : i < listed.size := by rw [hsz]; exact hlt
      have hnext : ∀ (E' : Env) (a' : Act) (w' : World), Rel P N G0 w0 vs ds E' (s.with r.o.dst r.v (putAll s.heap r.e)) a' w' → wpAny P .any ops Q fuel (listed.setIfInBounds i true) a' w' := by
        intro E' a' w' hr'
        refine ih (listed.setIfInBounds i true) E' _ a' w' (by simp [hsz]) ?_ ?_ (hadd.congr fun j _ => (LB_set hilt j).symm) hr'
        · have h4 := cnt_add hLi ops.size hlt
          have h5 : (LB (listed.setIfInBounds i true)) = fun j => j == i || LB listed j := funext (LB_set hilt)
          rw [h5]; omega
        · intro j hj k hk
          rw [LB_set hilt] at hj ⊢
          rcases Bool.or_eq_true_iff.1 hj with h4 | h4
          · have : j = i := by simpa using h4
            subst this
            rw [hanc k hk]; simp
          · rw [hcl j h4 k hk]; simp
      unfold wpOp
      simp only [h2]
      obtain ⟨g1, g2⟩ := guard_ok (P := P) (ops := ops) (o := o) hr
      have hgc : guardE ops.toList s.slots o = guardE ops.toList si.slots r.o := by rw [← hro]; exact guardE_congr hslots
      rcases hrec with ⟨hg, ⟨f, hf, hcs, hre, hlit⟩, hrd⟩ | ⟨hg, hrv, hre⟩
      · rw [if_pos (g1 (by rw [hgc]; exact hg))]
        refine .inl ?_
        have hf' : stepE tt tb base o s = some f := by
          rw [← hro, ← hf]
          exact stepE_congr hslots (by rw [← hrd]; exact hheap)
        refine stepE_wp cx hf' hcs hr (fun E' u w' r' => hnext E' _ w' ?_)
        rw [hro, hre]
        rcases hlit with h4 | ⟨e, x, h4, h5, h6⟩
        · rw [h4]; exact r'
        · rw [h5]
          rw [h4] at r'
          exact r'.lit h6
      · rw [if_neg (by rw [g2 (by rw [hgc]; exact hg)]; simp)]
        refine hnext E _ w ?_
        rw [hro, hrv, hre]
        exact hr.skip o.dst

/-- **A region that draws its order.** -/
theorem runOps_draw (cx : Ctx P tt tb) (hm : P.follows .mixedOrders = true) {K : St → List Rec → Prop} {E : Env} {s : St} {a : Act} {w : World} {id : Nat}
    (hK : ∀ E s' recs a w, Rel P N G0 w0 vs ds E s' a w → K s' recs → Q .normal a w) (hok : ∀ s' recs, K s' recs → okDraw ops.toList s.slots.length recs = true) (r : Rel P N G0 w0 vs ds E s a w)
    (h : runOps tt tb base ops.toList ops.toList 0 s [] K) : (Code.region id ops true).wp P Q a w := by
  obtain ⟨R, sn, ht, hk⟩ := runOps_trace _ _ _ _ h
  rw [List.nil_append] at hk
  have hR := ht.len
  have hokk := hok _ _ hk
  have hdst := hokk
  simp only [okDraw, Bool.and_eq_true] at hdst
  have hd : ∀ x ∈ R, ∀ d, x.o.dst = some d → d < s.slots.length := fun x hx d hxd => by
    have hmm : x.o ∈ ops.toList := by rw [← hR]; exact List.mem_map.2 ⟨x, hx, rfl⟩
    have := (List.all_eq_true.1 hdst.2) _ hmm
    simpa [hxd] using this
  have h0 : StateAt R s (fun j => decide (j < ([] : List Rec).length)) s := ⟨rfl, fun t => (lastW_none fun j x _ hL => by simp at hL).symm, fun t => (lastW_none fun j x _ hL => by simp at hL).symm, rfl⟩
  obtain ⟨hst, hsn⟩ := TraceOK.states hd (O := ops.toList) [] R ops.toList s rfl h0 ht
  simp only [List.length_nil, Nat.zero_add] at hst
  have hlb : LB (Array.replicate ops.size false) = fun _ => false := by
    funext j
    unfold LB
    by_cases h : j < ops.size <;> simp [h]
  refine wp_region_any hm (drawn_any cx hR hokk hst hsn (fun E a w hr => hK E sn R a w hr hk) ops.size (Array.replicate ops.size false) E s a _ (by simp) ?_ ?_ ?_ ?_)
  · rw [hlb]
    have : ∀ n, cnt (fun _ => false) n = n := by
      intro n
      induction n with
      | zero => rfl
      | succ n ih => simp [cnt, ih]
    exact this _
  · rw [hlb]; intro j hj; cases hj
  · rw [hlb]; exact h0.congr fun j _ => by simp
  · -- a draw moves nothing
    have hb : Below w.heap.size w { w with drawn := w.drawn + 1 } := (Below.refl w.heap.size w).drew
    obtain ⟨st, hr2⟩ := r.hr.below hb
    exact ⟨r.slots.mono fun _ _ => st.vrs, r.susp.mono fun _ _ => st.vrs, r.defers, r.below.trans (hb.mono r.base), r.base, hr2, st.g0.trans r.g0⟩

end
end Go.RX
