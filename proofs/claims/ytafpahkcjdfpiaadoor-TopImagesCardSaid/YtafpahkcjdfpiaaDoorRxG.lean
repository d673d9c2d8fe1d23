/- Part G: the operations do what the executor says: new memory, slices, strings. -/
import Derived.Test.YtafpahkcjdfpiaaDoorRxF
import Derived.Lib.AppendStr
import Derived.Laws.CopyOwn
import Derived.Deep.Slices
set_option linter.all false
namespace Go.RX
open Go Go.RowKit

section
variable {P : Program} {N : Nat} {E : Env} {H : Heap} {w : World}

theorem below_alloc (N : Nat) (w : World) (hN : N ≤ w.heap.size) (o : Obj) : Below N w (w.alloc o) := (Below.refl N w).alloc hN o
theorem below_alloc' (w : World) (o : Obj) : Below w.heap.size w (w.alloc o) := (Below.refl _ w).alloc (Nat.le_refl _) o

theorem zero_vr : ∀ (t : Ty), All2 (VR E H w) t.zeroS t.zeroV := by
  intro t
  induction t with
  | pair f r hf hr => exact hf.append hr
  | int k => refine ⟨⟨rfl, ?_⟩, trivial⟩; cases k <;> simp [inR, IntKind.min, IntKind.max, IntKind.bits, IntKind.signed]
  | bool => exact ⟨rfl, trivial⟩
  | str => exact ⟨⟨rfl, by simp⟩, trivial⟩
  | slice e _ => exact ⟨rfl, trivial⟩
  | unit => trivial

theorem zeroV_cells (t : Ty) : (t.val t.zeroV).cells.toList = t.zeroV := by
  cases t <;> rfl

theorem val_cells {t : Ty} {vs : List Value} (hl : vs.length = t.n) (h1 : ∀ v ∈ vs, v.oneCell' = true) : (t.val vs).cells.toList = vs := by
  by_cases ha : t.isAgg = true
  · rw [val_agg ha]; simp [Value.cells]
  · have ha' : t.isAgg = false := by simpa using ha
    rw [n_of_not_agg ha'] at hl
    obtain ⟨v, rfl⟩ := List.length_eq_one_iff.1 hl
    rw [val_one ha']
    have := h1 v (by simp)
    cases v <;> first | rfl | (simp [Value.oneCell'] at this)

theorem not_mem_G (hr : HR P N E H w) : ∀ a, E.G a → a.block ≠ w.heap.size := fun a ha => by have := hr.gin a ha; omega

/-- A new box. -/
theorem newBox (hr : HR P N E H w) (hN : N ≤ w.heap.size) {d et : Nat} {cells : List S1} {cs : Array Value} (hd : H.get d = none) (ha : All2 (VR E H w) cells cs.toList) {conds : List Prop} :
    Good P N E H w ⟨conds, .v (.one (.ptr d 0)), [(d, .box cells)]⟩ (.pointer (some ⟨w.heap.size, 0, none⟩)) (w.alloc (.cells cs et)) := by
  have hn := hr.new (w' := w.alloc (.cells cs et)) (b := w.heap.size) (v := undef) (G' := E.G) (x := .box cells) hN hd (below_alloc' w _) (fun _ h => h) (fun _ h => .inl h)
    ⟨Nat.le_refl _, .inl ⟨cs, et, heap_alloc_new w _, ha⟩, not_mem_G hr⟩
  refine ⟨_, hn.1, hn.2, below_alloc N w hN _, ⟨cells, by simp [putAll, Heap.get_put]⟩, ?_⟩
  show _ = Value.pointer (some ⟨(E.new d w.heap.size undef E.G).bm d, 0, none⟩)
  rw [show (E.new d w.heap.size undef E.G).bm d = w.heap.size from upd_same _ _ _]

/-- A new row. -/
theorem newRowG (hr : HR P N E H w) (hN : N ≤ w.heap.size) {d et : Nat} {e : Ty} {xs : List D} (hd : H.get d = none) {v : Value} {w' : World} {cells : List Value} (hb : Below w.heap.size w w')
    (hown : w'.ownsRow w.heap.size et e.n v xs.length cells) (hrd : RdL E.G w' e cells xs) {conds : List Prop} :
    Good P N E H w ⟨conds, .v (.one (.row d 0)), [(d, .row 0 et e xs)]⟩ v w' := by
  have hn := hr.new (w' := w') (b := v.ownBlock.getD 0) (v := v) (G' := E.G) (x := .row 0 et e xs) hN hd hb (fun _ h => h) (fun _ h => .inl h)
    ⟨cells, hown, hrd, fun g hg => by rw [hg]; rfl, fun hne a ha => by
      cases ho : v.ownBlock with
      | none => exact absurd ho hne
      | some g =>
        have := (hown.lt g ho).1
        have := hr.gin a ha
        show a.block ≠ g
        omega⟩
  refine ⟨_, hn.1, hn.2, hb.mono hN, ?_⟩
  have hsl : ∃ a n c, v = .slice a n c := by
    rcases hown.2 with ⟨h1, _⟩ | ⟨g, cap, cur, h1, _⟩
    · exact ⟨_, _, _, h1⟩
    · exact ⟨_, _, _, h1⟩
  refine ⟨hsl, ?_⟩
  simp only [putAll, Heap.get_put, if_true]
  exact ⟨Nat.le_refl _, fun _ => (upd_same _ _ _).symm⟩

/-! ### fields, indexes -/
theorem fieldAddrE_ok {P : Program} {tt : TT} (ht : TTok P tt) {t j : Nat} {p : S1} {f : Eff} (h : fieldAddrE tt t j p = some f)
    {v : Value} (hv : VR E H w p v) : ∃ u, (Instr.fieldAt t v j).run P w = .ok u w ∧ VRS E H w f.v u ∧ f.e = [] := by
  unfold fieldAddrE at h
  split at h
  · rename_i fs ty bytes hg
    have hk := (ht t _ hg).kind
    simp only at hk
    obtain ⟨fields, hu, hf, hs, _⟩ := hk
    split at h
    · rename_i ft off hj
      obtain ⟨fd, hfd, e1, e2, _⟩ := fieldsZ_get hf hj
      obtain ⟨tf, hgf, hft, hoff, hle⟩ := structOK_get hs hj
      simp only [Nat.zero_add] at hoff
      have hfa : fields[j]? = some fd := by simpa using hfd
      split at h
      · rename_i hnz
        have hz : tf.ty.n ≠ 0 := by simpa [bigTy, hgf] using hnz
        have run : ∀ (a : Addr), (Instr.fieldAt t (.pointer (some a)) j).run P w = .ok (.pointer (some (a.add off))) w := by
          intro a
          have hsz := run_sizeOf ht hgf w
          rw [← e1] at hsz
          simp only [Instr.fieldAt, Sem.run_bind, run_underlying hu, Result.andThen_ok, hfa, Instr.sureAddr, Sem.run_pure, fieldPlace, hsz, Sem.run_ite, if_neg hz, e2]
        split at h
        · rename_i k o
          cases h
          obtain ⟨h1, rfl⟩ := hv
          exact ⟨_, run _, ⟨h1, by rw [Addr.add_lit]⟩, rfl⟩
        · rename_i e x
          split at h
          · rename_i f0 hf0
            split at h
            · rename_i he
              subst he
              cases h
              obtain ⟨a, ys, rfl, hat, hrd⟩ := hv
              rw [hft] at hf0; cases hf0
              refine ⟨_, run a, ⟨a.add off, _, rfl, fun m v hm => ?_, hrd.fld' hft⟩, rfl⟩
              obtain ⟨hm1, _⟩ := getElem?_takedrop hm
              have := hat _ _ hm1
              rw [hoff, Go.Deep.add_add]
              exact this
            · cases h
          · cases h
        · rename_i k k0 e i
          split at h
          · rename_i he
            subst he
            cases h
            obtain ⟨⟨a, rfl⟩, h1⟩ := hv
            refine ⟨_, run a, ⟨⟨_, rfl⟩, ?_⟩, rfl⟩
            cases hb : H.get k with
            | none => simp [hb] at h1
            | some b =>
              cases b with
              | box cs => simp [hb] at h1
              | frozen ver e xs => simpa [hb] using h1
              | row ver et e' xs =>
                simp only [hb] at h1 ⊢
                refine ⟨h1.1, fun hkv => ?_⟩
                obtain ⟨a1, a2, a3⟩ := h1.2 hkv
                refine ⟨a1, a2, ?_⟩
                cases a3
                rw [Addr.add_lit]
                simp [subOff, hoff]
          · cases h
        · cases h
      · cases h
    · cases h
  · cases h

theorem fieldE_ok {P : Program} {tt : TT} (ht : TTok P tt) {t j : Nat} {x : V0} {f : Eff} (h : fieldE tt t j x = some f) {v : Value} (hv : VR0 E H w x v) :
    ∃ u, (Instr.field t v j).run P w = .ok u w ∧ VRS E H w f.v u ∧ f.e = [] := by
  unfold fieldE at h
  split at h
  · rename_i fs ty bytes cells hg
    have hk := (ht t _ hg).kind
    simp only at hk
    obtain ⟨fields, hu, hf, hs, _⟩ := hk
    obtain ⟨vs, rfl, ha⟩ := hv
    split at h
    · rename_i ft off hj
      obtain ⟨fd, hfd, e1, e2, _⟩ := fieldsZ_get hf hj
      have hfa : fields[j]? = some fd := by simpa using hfd
      split at h
      · rename_i ti hgf
        split at h
        · rename_i hfit
          cases h
          have hl := ha.len
          simp at hl
          have hp := run_part ht hgf vs off (fun hna => by have := n_of_not_agg hna; omega) w
          rw [← e1] at hp
          refine ⟨_, ?_, mkV_vr (by simp; omega) ((ha.drop off).take ti.ty.n), rfl⟩
          simp only [Instr.field, Sem.run_bind, run_underlying hu, Result.andThen_ok, hfa, asAgg, Sem.run_pure, hp, e2]
        · cases h
      · cases h
    · cases h
  · cases h

theorem lenI_nonneg (xs : List D) : 0 ≤ lenI xs := Int.natCast_nonneg _

/-- The slice behind what is read. -/
theorem elems_ok {lk : Look} (hr : HR P N E H w) {s : S1} {e : Ty} {xs : List D} (h : elems lk s = some (e, xs)) (hlk : ∀ k ∈ s.hs, lk.get k = H.get k) {v : Value} (hv : VR E H w s v) :
    ∃ a cap, v = .slice a xs.length cap ∧ xs.length ≤ cap ∧ cap ≤ maxLen ∧ ∀ i x, xs[i]? = some x → ∃ b ys, a = some b ∧ Rd E.G w e ys x ∧ (∀ j u, ys[j]? = some u → w.cell? ((b.add (i * e.n)).add j) = some u) := by
  unfold elems at h
  have ofRd : ∀ {e : Ty} {xs : List D} {v : Value}, Rd E.G w (.slice e) [v] (.list xs) → ∃ a cap, v = .slice a xs.length cap ∧ xs.length ≤ cap ∧ cap ≤ maxLen ∧
      ∀ i x, xs[i]? = some x → ∃ b ys, a = some b ∧ Rd E.G w e ys x ∧ (∀ j u, ys[j]? = some u → w.cell? ((b.add (i * e.n)).add j) = some u) := by
    intro e xs v hv
    obtain ⟨a, ys, cap, h1, h2, h3, h4, h5⟩ := hv
    cases h2
    have : v = .slice a xs.length cap := by simpa using h1
    refine ⟨a, cap, this, h3, h4, fun i x hx => ?_⟩
    obtain ⟨b, ys, hb, hat, hrd⟩ := h5 i x hx
    exact ⟨b, ys, hb, hrd, fun j u hu => (hat j u hu).2⟩
  split at h
  · cases h; exact ofRd hv
  · rename_i k k0
    replace hv := hv.2
    split at h
    · rename_i ver et e' xs' hb
      split at h
      · rename_i hkv
        cases h
        rw [hlk k (by simp [S1.hs])] at hb
        simp only [hb] at hv
        have hvv := hv.2 hkv
        have hrow := hr.row k _ _ _ _ hb
        by_cases hx : 0 < xs.length
        · obtain ⟨cap, cur, cells, a1, a2, a3, a4, a5, a6, a7, a8⟩ := hrow.block hx
          refine ⟨_, cap, by rw [hvv, a1], a3, a4, fun i x hi => ⟨_, _, rfl, a7.get hi, fun j u hu => ?_⟩⟩
          rw [Addr.add_lit, Addr.add_lit, Nat.zero_add, cell_row a2]
          have := (getElem?_takedrop hu).1
          rw [← a6, List.getElem?_take] at this
          split at this
          · exact this
          · cases this
        · have hx0 : xs = [] := List.eq_nil_of_length_eq_zero (by omega)
          subst hx0
          obtain ⟨cells, how, _⟩ := hrow
          rcases how.2 with ⟨h1, _⟩ | ⟨g, cap, cur, h1, _, _, h4, h5, _⟩
          · exact ⟨none, 0, by rw [hvv, h1]; rfl, by simp, by simp [maxLen], by simp⟩
          · exact ⟨_, cap, by rw [hvv, h1], h4, h5, by simp⟩
      · cases h
    · rename_i ver e' xs' hb
      split at h
      · rename_i hkv
        cases h
        rw [hlk k (by simp [S1.hs])] at hb
        simp only [hb] at hv
        exact ofRd (hv.2 hkv)
      · cases h
    · cases h
  · cases h

theorem lenE_ok {P : Program} {tt : TT} (ht : TTok P tt) (hr : HR P N E H w) {lk : Look} {t : Nat} {ti : TI} (hg : tt.get t = some ti) {x : S1} {f : Eff} (h : lenE lk x = some f) (hlk : ∀ k ∈ x.hs, lk.get k = H.get k)
    (hkind : match ti.k, x with | .str, .str _ => True | .slice _, .str _ => False | .slice _, _ => True | _, _ => False) {v : Value} (hv : VR E H w x v) (ty : TypeId) :
    ∃ u, (Builtin.len_ #[t] ty #[v]).run P w = .ok u w ∧ VRS E H w f.v u ∧ f.e = [] := by
  have hk := (ht t _ hg).kind
  have fin : ∀ (n : Nat), n ≤ maxLen → inR .i64 (n : Int) := fun n hn => by
    simp [inR, IntKind.min, IntKind.max, IntKind.bits, IntKind.signed]; simp [maxLen] at hn; omega
  unfold lenE at h
  split at h
  · rename_i s
    cases h
    obtain ⟨rfl, hl⟩ := vr_str hv
    cases hkd : ti.k <;> simp only [hkd] at hk hkind
    refine ⟨goInt s.length, ?_, ⟨rfl, fin _ hl⟩, rfl⟩
    simp [Builtin.len_, run_underlying hk.1]
    rfl
  · cases h
    cases hkd : ti.k <;> simp only [hkd] at hk hkind
    rw [show v = _ from hv]
    refine ⟨goInt 0, ?_, ⟨rfl, fin 0 (by simp)⟩, rfl⟩
    simp [Builtin.len_, run_underlying hk.1]
  · split at h
    · rename_i e xs hel
      cases h
      obtain ⟨a, cap, rfl, h1, h2, _⟩ := elems_ok hr hel hlk hv
      cases hkd : ti.k <;> simp only [hkd] at hk hkind
      · rename_i hns _
        exact absurd hkind (by cases x <;> simp_all)
      · refine ⟨goInt xs.length, ?_, ⟨rfl, fin _ (Nat.le_trans h1 h2)⟩, rfl⟩
        simp [Builtin.len_, run_underlying hk.1]
    · cases h

theorem elt_of {xs : List D} {n : Int} (h0 : 0 ≤ n) (h1 : n < lenI xs) : xs[n.toNat]? = some (elt xs n) := by
  have : n.toNat < xs.length := by simp only [lenI] at h1; omega
  simp [elt, List.getD, List.getElem?_eq_getElem this]

theorem indexAddrE_ok {P : Program} {tt : TT} (ht : TTok P tt) (hr : HR P N E H w) {t : Nat} {lk : Look} {x i : S1} {f : Eff} (h : indexAddrE tt t lk x i = some f) (hc : ∀ c ∈ f.cs, c)
    (hlk : ∀ k ∈ x.hs, lk.get k = H.get k) {vx vi : Value} (hx : VR E H w x vx) (hi : VR E H w i vi) : ∃ u, (Instr.indexAt t vx vi).run P w = .ok u w ∧ VRS E H w f.v u ∧ f.e = [] := by
  unfold indexAddrE at h
  split at h
  · rename_i et te bytes k n hg
    have hk := (ht t _ hg).kind
    simp only at hk
    obtain ⟨hu, tei, hge, hte⟩ := hk
    injection hte with hte
    obtain ⟨rfl, _⟩ := vr_int hi
    have run : ∀ (a : Addr) (len cap : Nat), 0 ≤ n → n < len → (Instr.indexAt t (.slice (some a) len cap) (.int k n)).run P w = .ok (.pointer (some (a.add (n.toNat * te.n)))) w := fun a len cap h0 h1 => by
      have he : P.elem t = et := by simp [Program.elem, hu]
      rw [run_indexAt_slice w t a len cap k n (by rw [he]; exact hu), if_pos ⟨h0, h1⟩, he, run_sizeOf ht hge, ← hte]
      rfl
    have ofRd : ∀ {e : Ty} {xs : List D}, e = te → Rd E.G w (.slice e) [vx] (.list xs) → 0 ≤ n ∧ n < lenI xs → ∃ u, (Instr.indexAt t vx (.int k n)).run P w = .ok u w ∧ VRS E H w (.v (.one (.pptr e (elt xs n)))) u := by
      intro e xs he hv hn
      subst he
      obtain ⟨a, ys, cap, h1, h2, h3, h4, h5⟩ := hv
      cases h2
      have hvx : vx = .slice a xs.length cap := by simpa using h1
      obtain ⟨b, ys, hb, hat, hrd⟩ := h5 _ _ (elt_of hn.1 hn.2)
      subst hb
      rw [hvx]
      exact ⟨_, run b _ cap hn.1 (by simpa [lenI] using hn.2), ⟨_, ys, rfl, hat, hrd⟩⟩
    split at h
    · rename_i e xs
      split at h
      · rename_i he
        cases h
        obtain ⟨u, h1, h2⟩ := ofRd he hx (hc _ (by simp))
        exact ⟨u, h1, h2, rfl⟩
      · cases h
    · rename_i j j0
      replace hx := hx.2
      split at h
      · rename_i ver et' e xs hb
        split at h
        · rename_i hcond
          obtain ⟨hkv, he⟩ := hcond
          subst he
          cases h
          have hn : 0 ≤ n ∧ n < lenI xs := hc _ (by simp)
          rw [hlk j (by simp [S1.hs])] at hb
          simp only [hb] at hx
          have hlt : n.toNat < xs.length := by simp only [lenI] at hn; omega
          obtain ⟨cap, cur, cells, a1, _⟩ := (hr.row j _ _ _ _ hb).block (by omega)
          rw [hx.2 hkv, a1]
          refine ⟨_, run _ _ cap hn.1 (by simpa [lenI] using hn.2), ⟨⟨_, rfl⟩, ?_⟩, rfl⟩
          simp only [hb]
          exact ⟨hx.1, fun _ => ⟨by trivial, hlt, by rw [Addr.add_lit]; simp [subOff]⟩⟩
        · cases h
      · rename_i ver e xs hb
        split at h
        · rename_i hcond
          obtain ⟨hkv, he⟩ := hcond
          cases h
          rw [hlk j (by simp [S1.hs])] at hb
          simp only [hb] at hx
          obtain ⟨u, h1, h2⟩ := ofRd he (hx.2 hkv) (hc _ (by simp))
          exact ⟨u, h1, h2, rfl⟩
        · cases h
      · cases h
    · cases h
  · cases h

end
end Go.RX
