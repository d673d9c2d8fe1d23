/- Part H: the operations do what the executor says: slices, strings, appends. -/
import Derived.Test.YtafpahkcjdfpiaaDoorRxG
import Derived.Laws.BytesArg
import Derived.Laws.IdiomStrings
import Derived.Lib.Strings
set_option linter.all false
namespace Go.RX
open Go Go.RowKit

section
variable {P : Program} {N : Nat} {E : Env} {H : Heap} {w : World}

/-! ### slices of slices and strings -/
theorem Rd.sub {G : Addr → Prop} {e : Ty} {xs : List D} {a : Option Addr} {len cap l h : Nat} (hr : Rd G w (.slice e) [.slice a len cap] (.list xs)) (hl : l ≤ h) (hh : h ≤ xs.length) :
    Rd G w (.slice e) [sliced a l h cap e.n] (.list ((xs.take h).drop l)) := by
  obtain ⟨a', ys, cap', h1, h2, h3, h4, h5⟩ := hr
  cases h2
  simp only [List.cons.injEq, Value.slice.injEq, and_true] at h1
  obtain ⟨rfl, rfl, rfl⟩ := h1
  have hlen : ((xs.take h).drop l).length = h - l := by simp; omega
  refine ⟨if cap = l then a else a.map (·.add (l * e.n)), (xs.take h).drop l, cap - l, ?_, rfl, by omega, by omega, fun i x hx => ?_⟩
  · simp [sliced, hlen]
  · have hi : i < h - l := by
      have := (List.getElem?_eq_some_iff.1 hx).1; omega
    have hx' : xs[l + i]? = some x := by
      rw [List.getElem?_drop, List.getElem?_take] at hx
      split at hx
      · exact hx
      · cases hx
    obtain ⟨b, ys, hb, hat, hrd⟩ := h5 _ _ hx'
    subst hb
    refine ⟨b.add (l * e.n), ys, by rw [if_neg (by omega)]; rfl, ?_, hrd⟩
    rwa [Go.Deep.add_add, ← Nat.add_mul]

def optVR (E : Env) (H : Heap) (w : World) : Option S1 → Option Value → Prop
  | none, none => True
  | some s, some v => VR E H w s v
  | _, _ => False

theorem bndS_ok {o : Option S1} {v : Option Value} {n : Option Int} (h1 : bndS o = some n) (h2 : optVR E H w o v) : (n = none ∧ v = none) ∨ ∃ k m, n = some m ∧ v = some (.int k m) := by
  unfold bndS at h1
  split at h1
  · cases h1
    cases v with
    | none => exact .inl ⟨rfl, rfl⟩
    | some v => exact h2.elim
  · rename_i k m
    cases h1
    cases v with
    | none => exact h2.elim
    | some v =>
      obtain ⟨rfl, _⟩ := vr_int (show VR E H w (.int k m) v from h2)
      exact .inr ⟨k, m, rfl, rfl⟩
  · cases h1

theorem sliceBounds_run {P : Program} (isSlice : Bool) (len cap : Nat) {lo hi : Option S1} {vlo vhi : Option Value} {l h : Option Int} (h1 : bndS lo = some l) (h2 : bndS hi = some h)
    (hlo : optVR E H w lo vlo) (hhi : optVR E H w hi vhi) (hb : (0 : Int) ≤ orI l 0 ∧ orI l 0 ≤ orI h len ∧ orI h len ≤ len) (hc : len ≤ cap) :
    (Instr.sliceBounds isSlice len cap vlo vhi none).run P w = .ok ((orI l 0).toNat, (orI h len).toNat, cap) w := by
  rcases bndS_ok h1 hlo with ⟨rfl, rfl⟩ | ⟨k1, m1, rfl, rfl⟩ <;> rcases bndS_ok h2 hhi with ⟨rfl, rfl⟩ | ⟨k2, m2, rfl, rfl⟩ <;> simp only [orI] at hb ⊢
  · simp [Instr.sliceBounds]
  · have hh : (0 : Int) ≤ m2 ∧ m2 ≤ (cap : Int) := by omega
    simp [Instr.sliceBounds, run_sliceBound w k2 m2 cap _ hh.1 hh.2]
  · have hh : (0 : Int) ≤ m1 ∧ m1 ≤ (len : Int) := by omega
    simp [Instr.sliceBounds, run_sliceBound w k1 m1 len _ hh.1 hh.2]
  · have hh : (0 : Int) ≤ m2 ∧ m2 ≤ (cap : Int) := by omega
    have hh1 : (0 : Int) ≤ m1 ∧ m1 ≤ (m2.toNat : Int) := by omega
    simp [Instr.sliceBounds, run_sliceBound w k2 m2 cap _ hh.1 hh.2, run_sliceBound w k1 m1 m2.toNat _ hh1.1 hh1.2]

theorem Good.freeze {f : Eff} {fz : List (Nat × SB)} {E1 : Env} {u : Value} (hf : Froze P N E H w fz E1) (he : f.e = fz) (hv : VRS E1 (putAll H fz) w f.v u) : Good P N E H w f u w := by
  refine ⟨E1, ?_⟩
  rw [he]
  exact ⟨hf.st, hf.hr, Below.refl N w, hv⟩

theorem pers_elems {lk : Look} {x s' : S1} {e : Ty} {xs : List D} {fz : List (Nat × SB)} (h1 : elems lk x = some (e, xs)) (h2 : pers1 lk x = some (s', fz)) : s' = .sl e xs := by
  cases x with
  | sl e' xs' => simp [elems, pers1] at h1 h2; obtain ⟨rfl, rfl⟩ := h1; exact h2.1.symm
  | row h k =>
    simp only [elems, pers1] at h1 h2
    cases hb : lk.get h with
    | none => simp [hb] at h1
    | some b =>
      cases b with
      | box cs => simp [hb] at h1
      | row ver et e' xs' =>
        simp only [hb] at h1 h2
        split at h1
        · rename_i hk; rw [if_pos hk] at h2; cases h1; cases h2; rfl
        · cases h1
      | frozen ver e' xs' =>
        simp only [hb] at h1 h2
        split at h1
        · rename_i hk; rw [if_pos hk] at h2; cases h1; cases h2; rfl
        · cases h1
  | _ => simp [elems] at h1

theorem sliceE_ok {P : Program} {tt : TT} (ht : TTok P tt) (hr : HR P N E H w) {t : Nat} {lk : Look} {x : S1} {lo hi : Option S1} {mx : Bool} {f : Eff} (h : sliceE tt t lk x lo hi mx = some f) (hc : ∀ c ∈ f.cs, c)
    (hlk : ∀ k ∈ x.hs, lk.get k = H.get k) {vx : Value} {vlo vhi : Option Value} (hx : VR E H w x vx) (hlo : optVR E H w lo vlo) (hhi : optVR E H w hi vhi) :
    mx = false ∧ ∃ u, (Instr.sliceAt t vx vlo vhi none).run P w = .ok u w ∧ Good P N E H w f u w := by
  unfold sliceE at h
  split at h
  · rename_i l hh h1 h2
    refine ⟨rfl, ?_⟩
    split at h
    · rename_i s
      obtain ⟨rfl, hlen⟩ := vr_str hx
      unfold sliceStr at h
      split at h
      · rename_i hg
        cases h
        have hu := (ht _ _ hg).kind.1
        have hb := hc (0 ≤ orI l 0 ∧ orI l 0 ≤ orI hh (lenS s) ∧ orI hh (lenS s) ≤ lenS s) (by simp)
        have hrun := sliceBounds_run (P := P) false s.length s.length h1 h2 hlo hhi hb (Nat.le_refl _)
        refine ⟨.string ⟨⟨ssub s (orI l 0) (orI hh (lenS s))⟩⟩, ?_, Good.pure hr rfl ⟨rfl, ?_⟩⟩
        · rw [run_sliceAt_string w t _ vlo vhi none hu]
          have hs : (⟨⟨s⟩⟩ : ByteArray).size = s.length := rfl
          simp only [Instr.slice, Sem.run_bind, run_underlying hu, Result.andThen_ok, Option.isSome_none, Bool.false_eq_true, if_false, hs, hrun, Sem.run_pure]
          congr 2
          have : ∀ (b : ByteArray), b = ⟨⟨b.data.toList⟩⟩ := fun b => by obtain ⟨⟨l⟩⟩ := b; rfl
          rw [this (ByteArray.extract _ _ _), Lib.extract_data]
          simp only [ssub, lenS, List.drop_take]
        · simp only [ssub]
          rw [List.length_drop, List.length_take]
          omega
      · cases h
    · unfold sliceSl at h
      split at h
      · rename_i e xs s' fz et te bytes hel hps hg
        split at h
        · rename_i he
          subst he
          cases h
          have hk := (ht t _ hg).kind
          simp only at hk
          obtain ⟨hu, tei, hge, hte⟩ := hk
          injection hte with hte
          obtain ⟨E1, fz1, hp⟩ := pers1_ok hr hps (LkF.of_eq hlk) hx
          have hs' := pers_elems hel hps
          subst hs'
          have hrd : Rd E1.G w (.slice e) [vx] (.list xs) := hp
          obtain ⟨a, cap, hvx, hle, _, _⟩ := elems_ok hr hel hlk hx
          have hb := hc (0 ≤ orI l 0 ∧ orI l 0 ≤ orI hh (lenI xs) ∧ orI hh (lenI xs) ≤ lenI xs) (by simp)
          rw [hvx] at hrd
          have hrun := sliceBounds_run (P := P) true xs.length cap h1 h2 hlo hhi hb hle
          have he2 : P.elem t = et := by simp only [Program.elem, hu]
          simp only [lenI] at hb
          refine ⟨sliced a (orI l 0).toNat (orI hh xs.length).toNat cap e.n, ?_, Good.freeze fz1 rfl ?_⟩
          · rw [hvx, run_sliceAt_slice w t _ vlo vhi none (by rw [he2]; exact hu), run_slice_any w t a xs.length cap (by rw [he2]; exact hu), hrun, he2]
            simp only [Result.andThen_ok]
            rw [run_sizeOf ht hge, ← hte]
            rfl
          · exact hrd.sub (by omega) (by omega)
        · cases h
      · cases h
  · cases h

/-! ### conversions -/
theorem bytes_of_rd {G : Addr → Prop} {x : D} {ys : List Value} (h : Rd G w (.int .u8) ys x) : ys = [.int .u8 x.i] ∧ 0 ≤ x.i ∧ x.i ≤ 255 := by
  obtain ⟨n, rfl, rfl, hn⟩ := h
  refine ⟨rfl, ?_, ?_⟩
  · exact hn.1
  · have := hn.2
    simp [IntKind.max, IntKind.bits, IntKind.signed] at this
    show n ≤ 255
    omega

theorem all_same {w' : World} (hr : HR P N E H w) (hcell : ∀ a, w'.cell? a = w.cell? a) (hs : w'.heap.size = w.heap.size) (hblk : ∀ k, Solid E H k → w'.heap[E.bm k]? = w.heap[E.bm k]?) :
    Step E E H H w w' ∧ HR P N E H w' := by
  have st : Step E E H H w w' := { (Step.refl E H w) with
    c := fun a _ => hcell a
    row := fun _ ver et _ xs h => .inl ⟨ver, et, xs, h, Nat.le_refl _, fun _ => ⟨rfl, rfl, Nat.le_refl _⟩⟩ }
  refine ⟨st, ⟨fun h cells hx => ?_, fun h ver et e xs hx => ?_, hr.inj, hr.gout, fun a ha => by rw [hs]; exact hr.gin a ha, hr.gz, fun g k hp => (hr.vz g k hp).imp id fun ⟨m, h⟩ => ⟨m, (hcell _).trans h⟩⟩⟩
  · obtain ⟨h1, h2⟩ := hr.box h cells hx
    exact ⟨h1, by rw [hblk h (.inl ⟨cells, hx⟩)]; exact h2.mono fun _ _ => st.vr⟩
  · have r := hr.row h ver et e xs hx
    refine r.keep rfl rfl (fun _ h => h) (fun a _ => hcell a) (fun g hg => ?_)
    obtain ⟨_, _, _, hb⟩ := r
    have := hb g hg
    subst this
    exact hblk h (.inr ⟨ver, et, e, xs, hx, by rw [hg]; simp⟩)

theorem freeze_cell (w : World) (a : Addr) (n : Nat) (b : Addr) : (w.freeze a n).cell? b = w.cell? b := by
  unfold World.freeze
  split
  · rfl
  · simp only [World.cell?, Array.getElem?_modify]
    by_cases hb : a.block = b.block
    · simp only [hb, if_true]
      cases hh : w.heap[b.block]? with
      | none => simp
      | some x => cases x <;> simp
    · simp [hb]
theorem freeze_size (w : World) (a : Addr) (n : Nat) : (w.freeze a n).heap.size = w.heap.size := by
  unfold World.freeze; split <;> simp
theorem freeze_other (w : World) (a : Addr) (n : Nat) {k : Nat} (h : k ≠ a.block) : (w.freeze a n).heap[k]? = w.heap[k]? := by
  unfold World.freeze
  split
  · rfl
  · simp only [Array.getElem?_modify]
    rw [if_neg (fun e => h e.symm)]
theorem below_freeze (B : Nat) (w : World) (a : Addr) (n : Nat) (h : B ≤ a.block) : Below B w (w.freeze a n) := by
  refine ⟨?_, ?_, ?_, by rw [freeze_size]; exact Nat.le_refl _, fun k hk => freeze_other w a n (by omega)⟩ <;> (unfold World.freeze; split <;> rfl)

theorem convE_ok {P : Program} {tt : TT} (ht : TTok P tt) (hr : HR P N E H w) (hN : N ≤ w.heap.size) {src dst : Nat} {lk : Look} {x : S1} {f : Eff} (h : convE tt src dst lk x = some f) (hc : ∀ c ∈ f.cs, c)
    (hlk : ∀ k ∈ x.hs, lk.get k = H.get k) {v : Value} (hv : VR E H w x v) : ∃ u w', (convert src dst v).run P w = .ok u w' ∧ Good P N E H w f u w' := by
  unfold convE at h
  split at h
  · rename_i tis k _ _ k' n hgs hgd
    cases h
    obtain ⟨rfl, _⟩ := vr_int hv
    have hu := (ht _ _ hgd).kind.1
    have hs : (P.underlying src).isSome = true := by
      have := (ht _ _ hgs).of_ty
      cases hty : tis.ty <;> simp only [hty] at this
      · rw [this]; rfl
      · rw [this]; rfl
      · rw [this]; rfl
      · obtain ⟨_, _, h, _⟩ := this; rw [h]; rfl
      · obtain ⟨_, _, _, h, _⟩ := this; rw [h]; rfl
      · obtain ⟨_, _, _, h, _⟩ := this; rw [h]; rfl
    have hk : P.intKind dst = k := by simp [Program.intKind, hu]
    have := run_convert_int (P := P) w src dst k' n hs (by rw [hk]; exact hu)
    rw [hk] at this
    exact ⟨_, w, this, Good.pure hr rfl ⟨rfl, wrap_inR k n⟩⟩
  · rename_i _ _ _ _ s hgs hgd
    cases h
    have hus := (ht _ _ hgs).kind.1
    have hud := (ht _ _ hgd).kind.1
    obtain ⟨rfl, hl⟩ := vr_str hv
    exact ⟨.string ⟨⟨s⟩⟩, w, by simp [convert, run_underlying hus, run_underlying hud], Good.pure hr rfl ⟨rfl, hl⟩⟩
  · rename_i _ _ et _ s hgs hgd
    cases h
    have hus := (ht _ _ hgs).kind.1
    have hkd := (ht _ _ hgd).kind
    simp only at hkd
    obtain ⟨hud, tei, hge, hte⟩ := hkd
    injection hte with hte
    have hue : P.underlying et = some (.int .u8) := by
      have := (ht _ _ hge).of_ty
      rw [← hte] at this
      exact this
    obtain ⟨rfl, hl⟩ := vr_str hv
    have hrun := run_bytes_of_string (P := P) w src dst et ⟨⟨s⟩⟩ hus hud hue
    refine ⟨_, _, hrun, ?_⟩
    generalize hcap : grownCap w (⟨⟨s⟩⟩ : ByteArray).size 0 et = cap
    have hcs : (bytesRow ⟨⟨s⟩⟩ cap).toList = (s.map fun b => Value.int .u8 b.toNat) ++ List.replicate (cap - s.length) (.int .u8 0) := by
      simp [bytesRow]; rfl
    have hcaple : s.length ≤ cap := by rw [← hcap]; exact grownCap_ge w _ 0 et
    have hcapm : cap ≤ maxLen := by rw [← hcap]; exact grownCap_le_maxLen w _ 0 et hl
    -- what is protected besides: the new block
    have hb : Below w.heap.size w (w.drew.alloc (.cells (bytesRow ⟨⟨s⟩⟩ cap) et ((bytesRow ⟨⟨s⟩⟩ cap).size, (bytesRow ⟨⟨s⟩⟩ cap).size + 1))) :=
      ((Below.refl _ w).drew).alloc (Nat.le_refl _) _
    obtain ⟨st, hr'⟩ := hr.more (G' := fun a => E.G a ∨ a.block = w.heap.size) hN hb (fun _ h => .inl h) (fun a ha => by
      rcases ha with h1 | h1
      · exact .inl h1
      · exact .inr ⟨by omega, by rw [h1]; simp⟩)
    refine ⟨_, st, hr', hb.mono hN, ?_⟩
    refine ⟨some ⟨w.heap.size, 0, none⟩, bytesD s, cap, by simp [bytesD]; rfl, rfl, by simpa [bytesD] using hcaple, hcapm, fun i x hi => ?_⟩
    have hi2 : i < s.length := by
      have := (List.getElem?_eq_some_iff.1 hi).1
      simpa [bytesD] using this
    have hx : x = .int (s[i].toNat : Int) := by
      simp [bytesD, hi2] at hi; exact hi.symm
    refine ⟨⟨w.heap.size, 0, none⟩, [.int .u8 (s[i].toNat : Int)], rfl, fun j u hj => ?_, ⟨_, rfl, hx, ?_⟩⟩
    · match j, hj with
      | 0, hj =>
        simp at hj; subst hj
        rw [Addr.add_zero', Addr.add_lit]
        refine ⟨.inr rfl, ?_⟩
        rw [cell_row (g := w.heap.size) (heap_alloc_new w.drew _), hcs]
        simp only [Ty.n, Nat.zero_add, Nat.mul_one]
        rw [List.getElem?_append_left (by simpa using hi2)]
        simp [hi2]
    · have := s[i].toNat_lt
      simp [inR, IntKind.min, IntKind.max, IntKind.bits, IntKind.signed]; omega
  · rename_i hgs hgd
    cases h
    have hud := (ht _ _ hgd).kind.1
    have hks := (ht _ _ hgs).kind
    simp only at hks
    obtain ⟨et, hus, tei, hge, hte⟩ : ∃ et, P.underlying src = some (.slice et) ∧ ∃ tei, tt.get et = some tei ∧ Ty.slice (.int .u8) = .slice tei.ty := ⟨_, hks⟩
    injection hte with hte
    have hue : P.underlying et = some (.int .u8) := by
      have := (ht _ _ hge).of_ty
      rw [← hte] at this
      exact this
    rw [show v = _ from hv]
    exact ⟨_, w, run_convert_bytes_nil w src et hus hue 0 0 dst hud, Good.pure hr rfl ⟨rfl, by simp⟩⟩
  · rename_i hgs hgd _
    split at h
    · rename_i xs hel
      cases h
      have hud := (ht _ _ hgd).kind.1
      have hks := (ht _ _ hgs).kind
      simp only at hks
      obtain ⟨et, hus, tei, hge, hte⟩ : ∃ et, P.underlying src = some (.slice et) ∧ ∃ tei, tt.get et = some tei ∧ Ty.slice (.int .u8) = .slice tei.ty := ⟨_, hks⟩
      injection hte with hte
      have hue : P.underlying et = some (.int .u8) := by
        have := (ht _ _ hge).of_ty
        rw [← hte] at this
        exact this
      obtain ⟨a, cap, rfl, h1, h2, h3⟩ := elems_ok hr hel hlk hv
      have hlen : (strD xs).length ≤ maxLen := by simp only [strD, List.length_map]; omega
      refine ⟨.string ⟨⟨strD xs⟩⟩, w, ?_, Good.pure hr rfl ⟨rfl, hlen⟩⟩
      cases a with
      | none =>
        have hx : xs = [] := by
          cases xs with
          | nil => rfl
          | cons x xs => obtain ⟨b, _, hb, _⟩ := h3 0 x (by simp); cases hb
        subst hx
        exact run_convert_bytes_nil w src et hus hue _ cap dst hud
      | some b =>
        have hl : (loadCells b xs.length).run P w = .ok ((xs.map D.i).map (Value.int .u8)).toArray w := by
          have := run_loadCells_list (P := P) w b ((xs.map D.i).map (Value.int .u8)) (fun j u hj => by
            have hjl : j < xs.length := by
              have := (List.getElem?_eq_some_iff.1 hj).1; simpa using this
            obtain ⟨b', ys, hb, hrd, hat⟩ := h3 j xs[j] (List.getElem?_eq_getElem hjl)
            cases hb
            obtain ⟨hy, _⟩ := bytes_of_rd hrd
            have := hat 0 _ (by rw [hy]; rfl)
            simp only [Ty.n, Nat.mul_one, Addr.add_zero'] at this
            rw [this]
            simp [hjl] at hj
            rw [hj])
          simpa using this
        rw [run_convert_bytes_string w src dst et _ _ cap hus hue hud, run_bytesToString w _ _ cap _ hl, foldl_push_bytes]
        simp [strD, ByteArray.empty, ByteArray.emptyWithCapacity]
        rfl
    · cases h
  · rename_i hh k hgs hgd
    split at h
    · rename_i ver et' xs hb
      split at h
      · rename_i hcond
        obtain ⟨hkv, hsd⟩ := hcond
        subst hsd
        cases h
        have hpos := hc (0 < lenI xs) (by simp)
        have hks := (ht _ _ hgs).kind
        simp only at hks
        obtain ⟨et, hus, tei, hge, hte⟩ : ∃ et, P.underlying src = some (.slice et) ∧ ∃ tei, tt.get et = some tei ∧ Ty.slice (.int .u8) = .slice tei.ty := ⟨_, hks⟩
        injection hte with hte
        have hue : P.underlying et = some (.int .u8) := by
          have := (ht _ _ hge).of_ty
          rw [← hte] at this
          exact this
        rw [hlk hh (by simp [S1.hs])] at hb
        have hv2 := hv.2
        simp only [hb] at hv2
        have hvv := hv2.2 hkv
        have hrow := hr.row hh _ _ _ _ hb
        obtain ⟨cap, cur, cells, a1, a2, a3, a4, a5, a6, a7, a8⟩ := hrow.block (by simp only [lenI] at hpos; omega)
        obtain ⟨G', st, hr', hrd⟩ := hr.freeze hb
        have hsolb : ∀ j, Solid { E with G := G' } (H.put hh (.frozen ver (.int .u8) xs)) j → E.bm j ≠ E.bm hh := by
          intro j hj e1
          have hne : j ≠ hh := fun e2 => by
            subst e2
            rcases hj with ⟨c, h1⟩ | ⟨_, _, _, _, h1, _⟩ <;> rw [Heap.get_put, if_pos rfl] at h1 <;> cases h1
          have hs0 : Solid E H j := by
            rcases hj with ⟨c, h1⟩ | ⟨v1, t1, e3, x1, h1, h2⟩
            · rw [Heap.get_put, if_neg hne] at h1; exact .inl ⟨c, h1⟩
            · rw [Heap.get_put, if_neg hne] at h1; exact .inr ⟨v1, t1, e3, x1, h1, h2⟩
          exact hne (hr.inj j hh hs0 (.inr ⟨ver, et', _, xs, hb, by rw [a1]; simp [Value.ownBlock]⟩) e1)
        obtain ⟨st2, hr2⟩ := all_same (w' := w.freeze ⟨E.bm hh, cur.size, none⟩ 1) hr' (freeze_cell w _ _) (freeze_size w _ _) (fun j hj => freeze_other w _ _ (hsolb j hj))
        refine ⟨v, _, ?_, { E with G := G' }, st.trans st2, hr2, below_freeze N w _ _ a8, ?_⟩
        · rw [hvv, a1]
          have hsh : w.shape? (E.bm hh) = some (et', cur.size) := by simp [World.shape?, a2]
          simp [convert, run_underlying hus, run_underlying hue, markStringish, hsh]
        · rw [hvv]
          exact hrd.mono st2.g st2.c
      · cases h
    · cases h
  · cases h

theorem index_str {P : Program} {tt : TT} (ht : TTok P tt) {t : Nat} {ty : Ty} {by' : Nat} (hg : tt.get t = some ⟨.str, ty, by'⟩) {s : List UInt8} {n : Int} {k : IntKind} (h0 : 0 ≤ n ∧ n < lenS s) :
    (Instr.index t (.string ⟨⟨s⟩⟩) (.int k n)).run P w = .ok (.int .u8 (sget s n)) w ∧ inR .u8 (sget s n) := by
  have hu := (ht _ _ hg).kind.1
  have hn : n.toNat < s.length := by simp only [lenS] at h0; omega
  refine ⟨?_, ?_⟩
  · have hget : (⟨⟨s⟩⟩ : ByteArray)[n.toNat]? = some (s[n.toNat]) := by
      have : n.toNat < (⟨⟨s⟩⟩ : ByteArray).size := hn
      exact getElem?_pos (⟨⟨s⟩⟩ : ByteArray) n.toNat this
    simp only [Instr.index, asIntOf, Sem.run_bind, Sem.run_pure, Result.andThen_ok, run_underlying hu, if_pos h0.1, hget]
    simp [sget, List.getD, hn]
  · have := (s[n.toNat]).toNat_lt
    simp [sget, List.getD, hn, inR, IntKind.min, IntKind.max, IntKind.bits, IntKind.signed]; omega

end
end Go.RX
