/- Part J: the operations do what the executor says: made rows, literals, unary. -/
import Derived.Test.YtafpahkcjdfpiaaDoorRxI
import Derived.Great.BuildSlice
import Derived.Laws.MakeOwn
set_option linter.all false
namespace Go.RX
open Go Go.RowKit

section
variable {P : Program} {N : Nat} {E : Env} {H : Heap} {w : World}

theorem unE_ok {P : Program} (hr : HR P N E H w) {op : UnOp} {x : S1} {f : Eff} (h : unE op x = some f) {v : Value} (hv : VR E H w x v) :
    ∃ v', (Op.unary op v).run P w = .ok v' w ∧ Good P N E H w f v' w := by
  unfold unE at h
  split at h
  · cases h
    rw [vr_bool rfl hv]
    exact ⟨_, rfl, Good.pure hr rfl rfl⟩
  · cases h
    rw [vr_bool (b := .tt) rfl hv]
    exact ⟨_, rfl, Good.pure hr rfl rfl⟩
  · cases h
    rw [vr_bool (b := .ff) rfl hv]
    exact ⟨_, rfl, Good.pure hr rfl rfl⟩
  · rename_i k n
    cases h
    obtain ⟨rfl, hn⟩ := vr_int hv
    refine ⟨.int k (isub k 0 n), ?_, Good.pure hr rfl ⟨rfl, wrap_inR k _⟩⟩
    simp [Op.unary, Op.intArith, isub]
  · rename_i k n
    cases h
    obtain ⟨rfl, hn⟩ := vr_int hv
    refine ⟨_, ?_, Good.pure hr rfl ⟨rfl, bits_inR _ k _ _⟩⟩
    simp only [Op.unary, intBits_xor]
    rfl
  · cases h

/-! ### Zero rows -/
theorem rd_zero {G : Addr → Prop} : ∀ (t : Ty), t.wf = true → Rd G w t t.zeroV t.zeroD := by
  intro t
  induction t with
  | int k => exact fun _ => ⟨0, rfl, rfl, by cases k <;> simp [inR, IntKind.min, IntKind.max, IntKind.bits, IntKind.signed]⟩
  | bool => exact fun _ => ⟨false, rfl, rfl⟩
  | str => exact fun _ => ⟨[], rfl, rfl, by simp [maxLen]⟩
  | slice e _ => exact fun _ => ⟨none, [], 0, rfl, rfl, by simp, by simp [maxLen], by simp⟩
  | unit => exact fun _ => ⟨rfl, rfl⟩
  | pair f r hf hr =>
    intro hw
    simp only [Ty.wf, Bool.and_eq_true] at hw
    obtain ⟨⟨h1, h2⟩, h3⟩ := hw
    refine ⟨f.zeroV, r.zeroV, f.zeroD, r.zeroD.parts, rfl, rfl, hf h1, ?_⟩
    have := hr h2
    cases r with
    | unit => exact this
    | pair f2 r2 => exact this
    | int k => simp [Ty.isAgg] at h3
    | bool => simp [Ty.isAgg] at h3
    | str => simp [Ty.isAgg] at h3
    | slice e => simp [Ty.isAgg] at h3

def flatRep (z : List Value) : Nat → List Value
  | 0 => []
  | n + 1 => z ++ flatRep z n

theorem flatRep_len (z : List Value) : ∀ n, (flatRep z n).length = n * z.length
  | 0 => by simp [flatRep]
  | n + 1 => by simp [flatRep, flatRep_len z n, Nat.add_mul, Nat.add_comm]

theorem flatRep_get (z : List Value) : ∀ n i, i < n * z.length → (flatRep z n)[i]? = z[i % z.length]?
  | 0, i, h => by simp at h
  | n + 1, i, h => by
    simp only [flatRep, List.getElem?_append]
    split
    · rename_i hlt; rw [Nat.mod_eq_of_lt hlt]
    · rename_i hge
      rw [flatRep_get z n (i - z.length) (by rw [Nat.add_mul, Nat.one_mul] at h; omega)]
      congr 1
      exact (Nat.mod_eq_sub_mod (by omega)).symm

theorem flatRep_take (z : List Value) : ∀ n m, n ≤ m → (flatRep z m).take (n * z.length) = flatRep z n
  | 0, m, _ => by simp [flatRep]
  | n + 1, 0, h => by omega
  | n + 1, m + 1, h => by
    simp only [flatRep]
    rw [Nat.add_mul, Nat.one_mul, Nat.add_comm (n * z.length), List.take_append, List.take_of_length_le (by omega)]
    simp only [Nat.add_sub_cancel_left]
    rw [flatRep_take z n m (by omega)]

theorem cells_mod (z : Array Value) (n : Nat) : ((Array.range (n * z.size)).map (z[· % z.size]!)).toList = flatRep z.toList n := by
  apply List.ext_getElem?
  intro i
  simp only [Array.toList_map, Array.toList_range, List.getElem?_map]
  by_cases hi : i < n * z.size
  · rw [flatRep_get _ _ _ (by simpa using hi), List.getElem?_range hi]
    have hp : 0 < z.size := by
      rcases Nat.eq_zero_or_pos z.size with h | h
      · rw [h] at hi; simp at hi
      · exact h
    have hm := Nat.mod_lt i hp
    simp [hm]
  · rw [List.getElem?_eq_none (by simp; omega), List.getElem?_eq_none (by rw [flatRep_len]; simp; omega)]
    rfl

theorem rdL_zero {G : Addr → Prop} {e : Ty} (hw : e.wf = true) : ∀ n, RdL G w e (flatRep e.zeroV n) (List.replicate n e.zeroD)
  | 0 => rfl
  | n + 1 => ⟨e.zeroV, flatRep e.zeroV n, rfl, rd_zero e hw, rdL_zero hw n⟩

theorem makeSliceE_ok {P : Program} {tt : TT} (ht : TTok P tt) (hr : HR P N E H w) (hN : N ≤ w.heap.size) {d t : Nat} {lk : Look} {l c : S1} {f : Eff} (h : makeSliceE tt d lk t l c = some f) (hc : ∀ c ∈ f.cs, c)
    (hd : lk.get d = H.get d) {vl vc : Value} (hl : VR E H w l vl) (hcv : VR E H w c vc) :
    ∃ v w', (Instr.makeSlice t vl vc).run P w = .ok v w' ∧ Good P N E H w f v w' := by
  unfold makeSliceE at h
  split at h
  · rename_i et e by' k n k' m hg hdn
    rw [hd] at hdn
    have hk := (ht _ _ hg).kind
    simp only at hk
    obtain ⟨hut, te, hge, hte⟩ := hk
    injection hte with hte
    subst hte
    split at h
    · rename_i ti hg2
      obtain rfl : ti = te := Option.some.inj (hg2.symm.trans hge)
      split at h
      · rename_i hwf
        cases h
        obtain ⟨h0, h1, h2, h3⟩ := hc _ (List.Mem.head _)
        obtain ⟨i, hi, hsz, hby, hz⟩ := info_of ht hge
        obtain ⟨rfl, _⟩ := vr_int hl
        obtain ⟨rfl, _⟩ := vr_int hcv
        have hrun := run_make (P := P) w t et i _ hut hi hz k k' n m h0 h1 (by rw [hby]; exact h2) h3
        refine ⟨_, _, hrun, ?_⟩
        have hzc : (ti.ty.val ti.ty.zeroV).cells.toList = ti.ty.zeroV := zeroV_cells _
        have hzs : (ti.ty.val ti.ty.zeroV).cells.size = ti.ty.n := by rw [← Array.length_toList, hzc, zeroV_len]
        have hcells : (madeCells (ti.ty.val ti.ty.zeroV).cells (m.toNat * i.size)).toList = flatRep ti.ty.zeroV m.toNat := by
          unfold madeCells
          have h9 := cells_mod (ti.ty.val ti.ty.zeroV).cells m.toNat
          rw [hzs] at h9
          rw [hsz, hzs, h9, hzc]
        have hsize : (madeCells (ti.ty.val ti.ty.zeroV).cells (m.toNat * i.size)).size = m.toNat * ti.ty.n := by rw [size_madeCells, hsz]
        have hnm : n.toNat ≤ m.toNat := by omega
        refine newRowG hr hN hdn (cells := flatRep ti.ty.zeroV n.toNat) (below_alloc' w _) ⟨?_, .inr ⟨w.heap.size, m.toNat, _, ?_, Nat.le_refl _, heap_alloc_new w _, ?_, ?_, ?_, ?_⟩⟩ ?_
        · simp [xrep, flatRep_len, zeroV_len]
        · simp [xrep]
        · simpa [xrep] using hnm
        · simp only [maxLen]; omega
        · rw [hsize]
        · rw [hcells]
          have := flatRep_take ti.ty.zeroV n.toNat m.toNat hnm
          rw [zeroV_len] at this
          simpa [xrep] using this
        · exact rdL_zero hwf n.toNat
      · cases h
    · cases h
  · cases h


/-! ### Literals -/
theorem splice_foldl (cs : Array Value) (off : Nat) (l : Array Value) (h : off + l.size ≤ cs.size) :
    (l.zipIdx.foldl (fun cs (c, j) => cs.setIfInBounds (off + j) c) cs).toList = cs.toList.take off ++ l.toList ++ cs.toList.drop (off + l.size) := by
  have e1 : l.zipIdx.foldl (fun cs (c, j) => cs.setIfInBounds (off + j) c) cs = (l.toList.zipIdx 0).foldl (fun cs (x : Value × Nat) => cs.setIfInBounds (off + x.2) x.1) cs := by
    rw [← Array.foldl_toList, Array.toList_zipIdx]
  obtain ⟨h1, h2⟩ := Great.foldl_set off l.toList 0 cs
  rw [e1]
  apply List.ext_getElem?
  intro k
  have h3 := h2 k
  rw [← Array.getElem?_toList] at h3
  rw [h3]
  simp only [Nat.add_zero, Array.length_toList, List.getElem?_append, List.length_append, List.length_take, List.getElem?_take, List.getElem?_drop]
  have hm : min off cs.size = off := by omega
  rw [hm]
  by_cases c1 : k < off
  · rw [if_neg (by omega), if_pos (by omega), if_pos c1, if_pos c1]; simp
  · by_cases c2 : k < off + l.size
    · rw [if_pos ⟨by omega, c2, by omega⟩, if_pos c2, if_neg c1]
    · rw [if_neg (by omega), if_neg c2]
      rw [← Array.getElem?_toList]
      congr 1; omega

def PartsVR (E : Env) (H : Heap) (w : World) (p : Nat × V0) (q : Nat × Value) : Prop := p.1 = q.1 ∧ VR0 E H w p.2 q.2

theorem fill_vr {placeS place : Nat → Option (Nat × Nat)} (hp : ∀ i p, placeS i = some p → place i = some p) :
    ∀ {parts : List (Nat × V0)} {vs : List (Nat × Value)} {cells cells' : List S1} {cs : Array Value}, fillS placeS cells parts = some cells' → All2 (PartsVR E H w) parts vs → All2 (VR E H w) cells cs.toList →
      ∃ cs', Instr.fill place cs vs = some cs' ∧ All2 (VR E H w) cells' cs'.toList
  | [], [], cells, cells', cs, h, _, ha => by
    simp only [fillS] at h
    cases h
    exact ⟨cs, rfl, ha⟩
  | (i, x) :: r, (j, v) :: vs, cells, cells', cs, h, hps, ha => by
    obtain ⟨⟨rfl, hv⟩, hps⟩ := hps
    simp only [fillS] at h
    split at h
    · rename_i off size hpl
      split at h
      · rename_i hcond
        obtain ⟨hl, hfit, hok⟩ := hcond
        obtain ⟨hcv, _⟩ := cells_vr hok hv
        have hvs : v.cells.size = size := by rw [← hl, hcv.len]; simp
        have hcl : cells.length = cs.size := by rw [ha.len]; simp
        have hsp : All2 (VR E H w) (spliceS cells off x.cells) (v.cells.zipIdx.foldl (fun cs (c, j) => cs.setIfInBounds (off + j) c) cs).toList := by
          rw [splice_foldl _ _ _ (by omega)]
          unfold spliceS
          have := hcv.len
          rw [this, Array.length_toList]
          exact ((ha.take off).append hcv).append (ha.drop _)
        obtain ⟨cs', h1, h2⟩ := fill_vr hp h hps hsp
        refine ⟨cs', ?_, h2⟩
        simp only [Instr.fill, hp _ _ hpl]
        rw [if_neg (by simp [hvs]; omega)]
        exact h1
      · cases h
    · cases h
  | [], _ :: _, _, _, _, _, h, _ => h.elim
  | _ :: _, [], _, _, _, _, h, _ => h.elim

theorem places_ok {P : Program} {tt : TT} (ht : TTok P tt) : ∀ {fs : List (Nat × Nat)} {fields : List Field} {ty : Ty} {o : Nat}, fieldsZ fs fields = true → structOK tt ty fs o = true →
    ∃ places, fields.mapM (fun f => (P.info? f.type).map fun i => (f.offset, i.size)) = some places ∧
      ∀ i p, placeF tt fs i = some p → places[i]? = some p
  | [], [], ty, o, _, _ => ⟨[], rfl, fun i p h => by simp [placeF] at h⟩
  | (ft, off) :: fs, fd :: fields, ty, o, h1, h2 => by
    simp only [fieldsZ, Bool.and_eq_true, beq_iff_eq] at h1
    obtain ⟨⟨⟨e1, e2⟩, _⟩, h1⟩ := h1
    cases ty with
    | pair f r =>
      simp only [structOK, Bool.and_eq_true, beq_iff_eq] at h2
      obtain ⟨⟨e3, e4⟩, h2⟩ := h2
      cases hg : tt.get ft with
      | none => simp [hg] at e4
      | some ti =>
        obtain ⟨i, hi, hsz, _, _⟩ := info_of ht hg
        obtain ⟨places, h3, h4⟩ := places_ok ht h1 h2
        refine ⟨(off, ti.ty.n) :: places, ?_, fun j p hj => ?_⟩
        · simp only [List.mapM_cons, ← e1, hi, Option.map_some, Option.bind_eq_bind, Option.pure_def, Option.bind_some, h3, ← e2, hsz]
        · cases j with
          | zero =>
            simp only [placeF, List.getElem?_cons_zero, hg] at hj
            rw [List.getElem?_cons_zero]; exact hj
          | succ j =>
            rw [List.getElem?_cons_succ]
            exact h4 j p (by simpa only [placeF, List.getElem?_cons_succ] using hj)
    | int k => simp [structOK] at h2
    | bool => simp [structOK] at h2
    | str => simp [structOK] at h2
    | slice e => simp [structOK] at h2
    | unit => simp [structOK] at h2
  | [], _ :: _, _, _, h, _ => by simp [fieldsZ] at h
  | _ :: _, [], _, _, h, _ => by simp [fieldsZ] at h

theorem zeroV_vr (t : Ty) : All2 (VR E H w) t.zeroS (t.val t.zeroV).cells.toList := by rw [zeroV_cells]; exact zero_vr t

theorem buildE_ok {P : Program} {tt : TT} (ht : TTok P tt) (hr : HR P N E H w) {t : Nat} {parts : List (Nat × V0)} {f : Eff} (h : buildE tt t parts = some f) {vs : Array (Nat × Value)}
    (hv : All2 (PartsVR E H w) parts vs.toList) : ∃ v, (Instr.build t vs).run P w = .ok v w ∧ Good P N E H w f v w := by
  unfold buildE at h
  split at h
  · rename_i fs ty by' hg
    split at h
    · rename_i cells hfl
      cases h
      have hk := (ht _ _ hg).kind
      simp only at hk
      obtain ⟨fields, hu, hfz, hst, _, _⟩ := hk
      obtain ⟨i, hi, hsz, _, hz⟩ := info_of ht hg
      obtain ⟨places, hpl, hpp⟩ := places_ok ht hfz hst
      obtain ⟨cs', hf, ha⟩ := fill_vr (place := (places.toArray[·]?)) (fun i p hp => by have := hpp i p hp; simpa using this) hfl hv (zeroV_vr ty)
      refine ⟨.agg cs', run_build w t vs cs' ?_, Good.pure hr rfl ⟨cs', rfl, ha⟩⟩
      unfold Program.built
      simp only [hi, hu, hz, hpl]
      exact hf
    · cases h
  · cases h

theorem zeroRow_vr (e : Ty) : ∀ n, All2 (VR E H w) (zeroRow e n) (flatRep e.zeroV n)
  | 0 => trivial
  | n + 1 => (zero_vr e).append (zeroRow_vr e n)

theorem dTakes_rd {G : Addr → Prop} {e : Ty} : ∀ {n : Nat} {ss : List S1} {cs : List Value} {xs : List D}, dTakes e n ss = some xs → All2 (PR G w) ss cs → RdL G w e cs xs ∧ xs.length = n
  | 0, [], cs, xs, h, ha => by
    simp only [dTakes] at h; cases h
    exact ⟨List.eq_nil_of_length_eq_zero ha.len.symm, rfl⟩
  | 0, _ :: _, cs, xs, h, ha => by simp [dTakes] at h
  | n + 1, ss, cs, xs, h, ha => by
    simp only [dTakes] at h
    split at h
    · rename_i d r hd
      cases hr : dTakes e n r with
      | none => simp [hr] at h
      | some ys =>
        simp [hr] at h
        subst h
        obtain ⟨c1, c2, rfl, h1, h2⟩ := dTake_rd hd ha
        obtain ⟨h3, h4⟩ := dTakes_rd hr h2
        exact ⟨⟨c1, c2, rfl, h1, h3⟩, by simp [h4]⟩
    · cases h

theorem frozen_none {fz : List (Nat × SB)} {E1 : Env} (hf : Froze P N E H w fz E1) {d : Nat} (hd : H.get d = none) : (putAll H fz).get d = none := by
  rcases hf.only d with h1 | ⟨ver, et, e, xs, _, h2, _⟩
  · rw [h1]; exact hd
  · rw [hd] at h2; rcases h2 with h2 | h2 <;> cases h2

theorem run_buildSlice_none {P : Program} (t e : TypeId) (len : Nat) (parts : Array (Nat × Value)) (cells : Array Value) (ie : TypeInfo)
    (hu : P.underlying t = some (.slice e)) (hie : P.info? e = some ie) (hpos : len * ie.size = 0)
    (h : Instr.fill (fun i => some (i * ie.size, ie.size)) #[] parts.toList = some cells) :
    (Instr.buildSlice t len parts).run P w = .ok (.slice (some ⟨w.heap.size, 0, none⟩) len len) (w.alloc (.cells cells e)) := by
  simp [Instr.buildSlice, run_underlying hu, sizeOf, typeInfo, hie, hpos, h, newRow, Array.range_zero']

theorem V0.cells_hs (x : V0) : x.cells.flatMap S1.hs = x.hs := by cases x <;> simp [V0.cells, V0.hs]

theorem fillS_hs {placeS : Nat → Option (Nat × Nat)} : ∀ {parts : List (Nat × V0)} {cells cells' : List S1}, fillS placeS cells parts = some cells' → ∀ {k : Nat}, k ∈ cells'.flatMap S1.hs →
    k ∈ cells.flatMap S1.hs ∨ k ∈ parts.flatMap (fun p => p.2.hs)
  | [], cells, cells', h, k, hk => by simp only [fillS] at h; cases h; exact .inl hk
  | (i, x) :: r, cells, cells', h, k, hk => by
    simp only [fillS] at h
    split at h
    · split at h
      · rcases fillS_hs h hk with h1 | h1
        · simp only [spliceS, List.flatMap_append, List.mem_append] at h1
          rcases h1 with (h1 | h1) | h1
          · obtain ⟨s, hs, hk⟩ := List.mem_flatMap.1 h1
            exact .inl (List.mem_flatMap.2 ⟨s, List.mem_of_mem_take hs, hk⟩)
          · rw [V0.cells_hs] at h1
            exact .inr (by simp [h1])
          · obtain ⟨s, hs, hk⟩ := List.mem_flatMap.1 h1
            exact .inl (List.mem_flatMap.2 ⟨s, List.mem_of_mem_drop hs, hk⟩)
        · exact .inr (by simp only [List.flatMap_cons, List.mem_append]; exact .inr h1)
      · cases h
    · cases h

theorem zeroS_hs : ∀ (t : Ty), t.zeroS.flatMap S1.hs = []
  | .int _ | .bool | .str | .slice _ | .unit => rfl
  | .pair f r => by simp only [Ty.zeroS, List.flatMap_append, zeroS_hs f, zeroS_hs r, List.append_nil]
theorem zeroRow_hs (e : Ty) : ∀ n, (zeroRow e n).flatMap S1.hs = []
  | 0 => rfl
  | n + 1 => by simp only [zeroRow, List.flatMap_append, zeroS_hs, zeroRow_hs e n, List.append_nil]

theorem buildSliceE_ok {P : Program} {tt : TT} (ht : TTok P tt) (hr : HR P N E H w) (hN : N ≤ w.heap.size) {d t len : Nat} {lk : Look} {parts : List (Nat × V0)} {f : Eff} (h : buildSliceE tt d lk t len parts = some f)
    (hlk : ∀ k ∈ parts.flatMap (fun p => p.2.hs), lk.get k = H.get k) (hd : lk.get d = H.get d) {vs : Array (Nat × Value)} (hv : All2 (PartsVR E H w) parts vs.toList) :
    ∃ v w', (Instr.buildSlice t len vs).run P w = .ok v w' ∧ Good P N E H w f v w' := by
  unfold buildSliceE at h
  split at h
  · rename_i et e by' hg hdn
    rw [hd] at hdn
    have hk := (ht _ _ hg).kind
    simp only at hk
    obtain ⟨hut, te, hge, hte⟩ := hk
    injection hte with hte
    subst hte
    split at h
    · rename_i hbig
      split at h
      · rename_i cells hfl
        split at h
        · rename_i cells' fz hpl
          split at h
          · rename_i xs hdt
            cases h
            obtain ⟨i, hi, hsz, hby, hz⟩ := info_of ht hge
            have hzc : (te.ty.val te.ty.zeroV).cells.toList = te.ty.zeroV := zeroV_cells _
            have hzs : (te.ty.val te.ty.zeroV).cells.size = te.ty.n := by rw [← Array.length_toList, hzc, zeroV_len]
            have hz0 : All2 (VR E H w) (zeroRow te.ty len) ((Array.range (len * te.ty.n)).map ((te.ty.val te.ty.zeroV).cells[· % (te.ty.val te.ty.zeroV).cells.size]!)).toList := by
              have h9 := cells_mod (te.ty.val te.ty.zeroV).cells len
              rw [hzs] at h9
              rw [hzs, h9, hzc]
              exact zeroRow_vr _ _
            obtain ⟨cs', hf, ha⟩ := fill_vr (place := fun i => some (i * te.ty.n, te.ty.n)) (fun i p hp => hp) hfl hv hz0
            have hrun : (Instr.buildSlice t len vs).run P w = .ok (.slice (some ⟨w.heap.size, 0, none⟩) len len) (w.alloc (.cells cs' et)) := by
              by_cases h0 : len * te.ty.n = 0
              · refine run_buildSlice_none t et len vs cs' i hut hi (by rw [hsz]; exact h0) ?_
                rw [hsz]
                rw [h0, Array.range_zero'] at hf
                simpa using hf
              · exact run_buildSlice w t et len vs cs' i _ hut hi hz (by rw [hsz]; omega) (by rw [hsz]; exact h0) (by rw [hsz]; exact hf)
            refine ⟨_, _, hrun, ?_⟩
            have hcs' : ∀ k ∈ cells.flatMap S1.hs, lk.get k = H.get k := by
              intro k hk
              rcases fillS_hs hfl hk with h1 | h1
              · exact absurd h1 (by rw [zeroRow_hs]; simp)
              · exact hlk k h1
            obtain ⟨E1, hfr, hap⟩ := persL_ok hr hpl (LkF.of_eq hcs') ha
            refine Good.of_froze hfr rfl ?_
            obtain ⟨hrd, hxl⟩ := dTakes_rd hdt hap
            have hb := below_alloc' w (.cells cs' et)
            have hcsl := hrd.len
            refine newRowG hfr.hr hN (frozen_none hfr hdn) (cells := cs'.toList) hb ⟨?_, .inr ⟨w.heap.size, len, cs', ?_, Nat.le_refl _, heap_alloc_new w _, ?_, ?_, ?_, ?_⟩⟩ ?_
            · rw [hcsl]
            · rw [hxl]
            · omega
            · simp only [maxLen]; omega
            · rw [← Array.length_toList, hcsl, hxl]
            · rw [← hcsl]; exact List.take_of_length_le (Nat.le_refl _)
            · exact hrd.mono (fun _ h => h) (fun a ha => hb.cell (hfr.hr.gin a ha))
          · cases h
        · cases h
      · cases h
    · cases h
  · cases h

end
end Go.RX
