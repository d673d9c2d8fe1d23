/- Part Z: maps that the call makes: keyed by int, of elements that need no memory. -/
import Derived.Test.YtafpahkcjdfpiaaDoorRxJ
import Derived.MapKept
set_option linter.all false
namespace Go.RX
open Go Go.RowKit Go.MapKept

theorem Rd.flat {G G' : Addr → Prop} {w w' : World} : ∀ {t : Ty} {cs : List Value} {d : D}, t.flat = true → Rd G w t cs d → Rd G' w' t cs d := by
  intro t
  induction t with
  | slice e _ => intro _ _ h; cases h
  | pair f r hf hr =>
    rintro cs d h ⟨c1, c2, d1, ds, h1, h2, h3, h4⟩
    simp only [Ty.flat, Bool.and_eq_true] at h
    exact ⟨c1, c2, d1, ds, h1, h2, hf h.1 h3, hr h.2 h4⟩
  | _ => exact fun _ h => h

section
variable {P : Program} {N : Nat} {E : Env} {H : Heap} {w : World}

theorem mapIs_nil (e : Ty) : MapIs e [] [] :=
  ⟨fun x h => (nomatch h), fun i j x y h => by simp at h, fun k => ⟨fun d h => (nomatch h), fun _ x h => (nomatch h)⟩⟩

theorem makeMapE_ok {tt : TT} (hr : HR P N E H w) (hN : N ≤ w.heap.size) {d t : Nat} {lk : Look} {f : Eff} (h : makeMapE tt d lk t = some f) (hdn : lk.get d = H.get d) :
    Good P N E H w f (.map (some w.heap.size)) (w.alloc (.map #[] 0)) := by
  unfold makeMapE at h
  split at h
  · rename_i k e _ hd
    rw [hdn] at hd
    split at h
    · rename_i ti hg
      split at h
      · cases h
        have hb : Below w.heap.size w (w.alloc (.map #[] 0)) := (Below.refl _ w).alloc (Nat.le_refl _) _
        have hn := hr.new (w' := w.alloc (.map #[] 0)) (b := w.heap.size) (v := undef) (G' := E.G) (x := .box [.mapc ti.ty []]) hN hd hb (fun _ h => h) (fun _ h => .inl h)
          ⟨Nat.le_refl _, .inr ⟨ti.ty, [], #[], 0, rfl, heap_alloc_new w _, mapIs_nil _⟩, fun a ha => by have := hr.gin a ha; omega⟩
        refine ⟨_, hn.1, hn.2, (Below.refl N w).alloc hN _, ⟨[.mapc ti.ty []], by simp [putAll, Heap.get_put]⟩, ?_⟩
        rw [show (E.new d w.heap.size undef E.G).bm d = w.heap.size from upd_same _ _ _]
      · cases h
    · cases h
  · cases h

theorem run_mkMap (t : TypeId) : (Instr.makeMap t none).run P w = .ok (.map (some w.heap.size)) (w.alloc (.map #[] 0)) := rfl
theorem isKey_ik (k : Int) : IsKey (.int .i64) (ik k) := by simp [IsKey, ik]

theorem run_lookup {tt : TT} {T K X : Nat} (hm : P.underlying T = some (.map K X)) (hk : P.underlying K = some (.int .i64)) {z : Value} (hz : (zeroValue X).run P w = .ok z w) {b : Nat} {es : Array MapEntry} {clock : Nat} (hb : w.heap[b]? = some (.map es clock)) {e : Ty} {xs : List D} (hi : MapIs e es.toList xs) (n : Int) (ok : Bool) (hzv : MapV e z e.zeroD) :
    ∃ v, MapV e v (mgetD e xs n) ∧ (Instr.lookup T (.map (some b)) (ik n) ok).run P w = .ok (if ok then .tuple #[v, .bool (mhas xs n)] else v) w := by
  have hks : ∀ x ∈ es.toList, IsKey (.int .i64) x.key := fun x hx => by
    obtain ⟨k, hk⟩ := hi.1 x hx
    rw [hk]; exact isKey_ik k
  rcases findNow_spec (isKey_ik n) es.toList 0 hks with ⟨h1, h2⟩ | ⟨j, x, h1, h2, h3⟩
  · have hn : mget xs n = none := by
      cases hg : mget xs n with
      | none => rfl
      | some d =>
        obtain ⟨x, hx, hxk, _⟩ := (hi.2.2 n).1 d hg
        exact absurd hxk (h2 x hx)
    refine ⟨z, by unfold mgetD; rw [hn]; exact hzv, ?_⟩
    unfold mhas
    rw [hn]
    cases ok <;> simp [Instr.lookup, run_underlying hm, MapKept.run_getObj_map hb, run_checkKey hk (isKey_ik n), run_findKey hk h1, hz, Result.andThen]
  · have hxm : x ∈ es.toList := List.mem_of_getElem? h2
    cases hg : mget xs n with
    | none => exact absurd h3 ((hi.2.2 n).2 hg x hxm)
    | some d =>
      obtain ⟨y, hy, hyk, hv⟩ := (hi.2.2 n).1 d hg
      obtain ⟨i, hyi⟩ := List.getElem?_of_mem hy
      have hij := hi.2.1 i j y x hyi h2 (hyk.trans h3.symm)
      subst hij
      rw [h2] at hyi
      cases hyi
      refine ⟨x.val, by unfold mgetD; rw [hg]; exact hv, ?_⟩
      unfold mhas
      rw [hg]
      cases ok <;> simp [Instr.lookup, run_underlying hm, MapKept.run_getObj_map hb, run_checkKey hk (isKey_ik n), run_findKey hk h1, Result.andThen]

theorem mget_put {xs : List D} {k j : Int} {d : D} : mget (mput xs k d) j = if k = j then some d else mget xs j := rfl

theorem run_update {T K X : Nat} (hm : P.underlying T = some (.map K X)) (hk : P.underlying K = some (.int .i64)) {b : Nat} {es : Array MapEntry} {clock : Nat} (hb : w.heap[b]? = some (.map es clock)) {e : Ty} {xs : List D} (hi : MapIs e es.toList xs) (n : Int) {v : Value} {d : D} (hv : MapV e v d) :
    ∃ es' clock', (Instr.mapUpdate T (.map (some b)) (ik n) v).run P w = .ok () { w with heap := w.heap.setIfInBounds b (.map es' clock') } ∧ MapIs e es'.toList (mput xs n d) := by
  have hks : ∀ x ∈ es.toList, IsKey (.int .i64) x.key := fun x hx => by
    obtain ⟨k, hk⟩ := hi.1 x hx
    rw [hk]; exact isKey_ik k
  have ikinj : ∀ {a c : Int}, ik a = ik c → a = c := fun h => by simpa [ik] using h
  rcases findNow_spec (isKey_ik n) es.toList 0 hks with ⟨h1, h2⟩ | ⟨j, x, h1, h2, h3⟩
  · refine ⟨es.push { key := ik n, val := v, born := clock }, clock + 1, ?_, fun x hx => ?_, fun i j x y hx hy he => ?_, fun k => ⟨fun d' hd => ?_, fun hd x hx => ?_⟩⟩
    · simp [Instr.mapUpdate, run_underlying hm, MapKept.run_getObj_map hb, run_checkKey hk (isKey_ik n), run_findKey hk h1, MapKept.run_setObj_map _ hb, Result.andThen]
    · simp only [Array.toList_push, List.mem_append, List.mem_singleton] at hx
      rcases hx with hx | rfl
      · exact hi.1 x hx
      · exact ⟨n, rfl⟩
    · rw [Array.toList_push, List.getElem?_append] at hx hy
      have last : ∀ {i : Nat} {x : MapEntry}, ¬ i < es.toList.length → [({ key := ik n, val := v, born := clock } : MapEntry)][i - es.toList.length]? = some x → i = es.toList.length ∧ x.key = ik n := fun {i x} hn hx => by
        have : i - es.toList.length = 0 := by
          cases hq : i - es.toList.length with
          | zero => rfl
          | succ q => rw [hq] at hx; simp at hx
        rw [this] at hx
        simp at hx
        exact ⟨by omega, by rw [← hx]⟩
      split at hx <;> split at hy
      · exact hi.2.1 i j x y hx hy he
      · obtain ⟨_, e2⟩ := last (by assumption) hy
        exact absurd (he.trans e2) (h2 x (List.mem_of_getElem? hx))
      · obtain ⟨_, e2⟩ := last (by assumption) hx
        exact absurd (he.symm.trans e2) (h2 y (List.mem_of_getElem? hy))
      · rw [(last (by assumption) hx).1, (last (by assumption) hy).1]
    · rw [mget_put] at hd
      simp only [Array.toList_push, List.mem_append, List.mem_singleton]
      split at hd
      · rename_i e; subst e; cases hd
        exact ⟨_, .inr rfl, rfl, hv⟩
      · obtain ⟨x, hx, a, b⟩ := (hi.2.2 k).1 d' hd
        exact ⟨x, .inl hx, a, b⟩
    · rw [mget_put] at hd
      simp only [Array.toList_push, List.mem_append, List.mem_singleton] at hx
      split at hd
      · cases hd
      · rename_i hne
        rcases hx with hx | rfl
        · exact (hi.2.2 k).2 hd x hx
        · exact fun h => hne (ikinj h)
  · have hj : es[j]? = some x := by simpa using h2
    have hx0 : es.toList[j]? = some x := h2
    refine ⟨es.modify j fun e => { e with key := ik n, val := v }, clock, ?_, ?_⟩
    · simp [Instr.mapUpdate, run_underlying hm, MapKept.run_getObj_map hb, run_checkKey hk (isKey_ik n), run_findKey hk h1, hj, h3, run_keyThatStays (isKey_ik n), MapKept.run_setObj_map _ hb, Result.andThen]
    have hget : ∀ i y, (es.modify j fun e => { e with key := ik n, val := v }).toList[i]? = some y → ∃ y0, es.toList[i]? = some y0 ∧ y.key = y0.key ∧ (i ≠ j → y = y0) ∧ (i = j → y.val = v) := fun i y hy => by
      rw [Array.getElem?_toList, Array.getElem?_modify] at hy
      split at hy
      · rename_i e; subst e
        rw [hj] at hy
        simp at hy
        exact ⟨x, hx0, by rw [← hy, h3], fun h => absurd rfl h, fun _ => by rw [← hy]⟩
      · rename_i hne
        exact ⟨y, by rw [Array.getElem?_toList]; exact hy, rfl, fun _ => rfl, fun h => absurd h.symm hne⟩
    have hback : ∀ i y0, es.toList[i]? = some y0 → ∃ y, (es.modify j fun e => { e with key := ik n, val := v }).toList[i]? = some y ∧ y.key = y0.key ∧ (i ≠ j → y = y0) ∧ (i = j → y.val = v) := fun i y0 hy => by
      rw [Array.getElem?_toList] at hy
      simp only [Array.getElem?_toList, Array.getElem?_modify]
      by_cases e : j = i
      · subst e
        rw [hj] at hy
        cases hy
        exact ⟨{ x with key := ik n, val := v }, by simp [hj], h3.symm, fun h => absurd rfl h, fun _ => rfl⟩
      · exact ⟨y0, by rw [if_neg e]; exact hy, rfl, fun _ => rfl, fun h => absurd h.symm e⟩
    refine ⟨fun y hy => ?_, fun a c y z hy hz he => ?_, fun k => ⟨fun d' hd => ?_, fun hd y hy => ?_⟩⟩
    · obtain ⟨i, hi'⟩ := List.getElem?_of_mem hy
      obtain ⟨y0, h4, h5, _⟩ := hget i y hi'
      rw [h5]; exact hi.1 y0 (List.mem_of_getElem? h4)
    · obtain ⟨y0, h4, h5, _⟩ := hget a y hy
      obtain ⟨z0, h6, h7, _⟩ := hget c z hz
      exact hi.2.1 a c y0 z0 h4 h6 (by rw [← h5, ← h7]; exact he)
    · rw [mget_put] at hd
      split at hd
      · rename_i e; subst e; cases hd
        obtain ⟨y, h4, h5, _, h7⟩ := hback j x hx0
        exact ⟨y, List.mem_of_getElem? h4, h5.trans h3, by rw [h7 rfl]; exact hv⟩
      · rename_i hne
        obtain ⟨y0, hy, a, b⟩ := (hi.2.2 k).1 d' hd
        obtain ⟨i, hi'⟩ := List.getElem?_of_mem hy
        obtain ⟨y, h4, h5, h6, _⟩ := hback i y0 hi'
        have hij : i ≠ j := fun e => by
          subst e
          rw [hx0] at hi'; cases hi'
          exact hne (ikinj (h3.symm.trans a))
        rw [h6 hij] at h4
        exact ⟨y0, List.mem_of_getElem? h4, a, b⟩
    · rw [mget_put] at hd
      split at hd
      · cases hd
      · rename_i hne
        obtain ⟨i, hi'⟩ := List.getElem?_of_mem hy
        obtain ⟨y0, h4, h5, _⟩ := hget i y hi'
        rw [h5]; exact (hi.2.2 k).2 hd y0 (List.mem_of_getElem? h4)

theorem mapV_val {e : Ty} {v : Value} {d : D} (h : MapV e v d) : ∃ cs, v = e.val cs ∧ ∀ (G : Addr → Prop) (w : World), Rd G w e cs d := h

theorem lookE_ok {tt : TT} (ht : TTok P tt) (hr : HR P N E H w) {t h : Nat} {k : IntKind} {n : Int} {ok : Bool} {lk : Look} {f : Eff} (hf : lookE tt t lk h k n ok = some f) (hlk : lk.get h = H.get h) {vm vk : Value} (hm : VR E H w (.mp h) vm) (hk : VR E H w (.int k n) vk) :
    ∃ u, (Instr.lookup t vm vk ok).run P w = .ok u w ∧ VRS E H w f.v u ∧ f.e = [] := by
  unfold lookE at hf
  split at hf
  · rename_i key e ty xs hgm hb
    rw [hlk] at hb
    split at hf
    · rename_i ti hg
      split at hf
      · rename_i hc
        obtain ⟨rfl, hw⟩ := hc
        obtain ⟨h1, h2⟩ := (ht _ _ hg).maps _ _ _ hgm
        obtain ⟨_, hbox⟩ := hr.box h _ hb
        obtain ⟨es, clock, hh, hi⟩ := hbox.map
        obtain ⟨_, rfl⟩ := hm
        obtain ⟨rfl, _⟩ := hk
        obtain ⟨v, hv, hrun⟩ := run_lookup (tt := tt) h1 h2 (run_zeroValue ht hg w) hh hi n ok ⟨ti.ty.zeroV, rfl, fun G w => rd_zero _ hw⟩
        obtain ⟨cs, rfl, hrd⟩ := mapV_val hv
        cases ok with
        | true => cases hf; exact ⟨_, hrun, ⟨_, rfl, svOf_vr (hrd _ _), rfl, trivial⟩, rfl⟩
        | false => cases hf; exact ⟨_, hrun, svOf_vr (hrd _ _), rfl⟩
      · cases hf
    · cases hf
  · cases hf

theorem mapUpdE_ok {tt : TT} (ht : TTok P tt) (hr : HR P N E H w) {t h : Nat} {k : IntKind} {n : Int} {x : V0} {lk : Look} {f : Eff} (hf : mapUpdE tt t lk h k n x = some f) (hlk : lk.get h = H.get h) {vm vk vx : Value} (hm : VR E H w (.mp h) vm) (hk : VR E H w (.int k n) vk) (hx : VR0 E H w x vx) :
    ∃ w', (Instr.mapUpdate t vm vk vx).run P w = .ok () w' ∧ Good P N E H w f undef w' := by
  unfold mapUpdE at hf
  split at hf
  · rename_i key e ty xs hgm hb
    rw [hlk] at hb
    split at hf
    · rename_i ti d hg hd
      split at hf
      · rename_i hc
        obtain ⟨rfl, hfl, hagg⟩ := hc
        cases hf
        obtain ⟨h1, h2⟩ := (ht _ _ hg).maps _ _ _ hgm
        obtain ⟨hN, hbox⟩ := hr.box h _ hb
        obtain ⟨es, clock, hh, hi⟩ := hbox.map
        obtain ⟨_, rfl⟩ := hm
        obtain ⟨rfl, _⟩ := hk
        have hv : MapV ti.ty vx d := by
          have flatPR : ∀ {t : Ty} {ss rs : List S1} {d : D} {cs : List Value}, t.flat = true → dTake t ss = some (d, rs) → All2 (VR E H w) ss cs → ∃ c1 c2, cs = c1 ++ c2 ∧ (∀ (G : Addr → Prop) (w : World), Rd G w t c1 d) ∧ All2 (VR E H w) rs c2 := by
            intro t
            induction t with
            | int k =>
              intro ss rs d cs _ h ha
              match ss, cs, h, ha with
              | .int k' n :: r, v :: cs, h, ha =>
                simp only [dTake] at h
                split at h
                · rename_i hk; subst hk; simp at h; obtain ⟨rfl, rfl⟩ := h
                  exact ⟨[v], cs, rfl, fun _ _ => ⟨n, by rw [(vr_int ha.1).1], rfl, (vr_int ha.1).2⟩, ha.2⟩
                · cases h
            | bool =>
              intro ss rs d cs _ h ha
              match ss, cs, h, ha with
              | .bool b :: r, v :: cs, h, ha =>
                simp [dTake] at h; obtain ⟨rfl, rfl⟩ := h
                exact ⟨[v], cs, rfl, fun _ _ => ⟨b, by rw [vr_bool rfl ha.1], rfl⟩, ha.2⟩
              | .tt :: r, v :: cs, h, ha =>
                simp [dTake] at h; obtain ⟨rfl, rfl⟩ := h
                exact ⟨[v], cs, rfl, fun _ _ => ⟨true, by rw [vr_bool (b := .tt) rfl ha.1], rfl⟩, ha.2⟩
              | .ff :: r, v :: cs, h, ha =>
                simp [dTake] at h; obtain ⟨rfl, rfl⟩ := h
                exact ⟨[v], cs, rfl, fun _ _ => ⟨false, by rw [vr_bool (b := .ff) rfl ha.1], rfl⟩, ha.2⟩
            | str =>
              intro ss rs d cs _ h ha
              match ss, cs, h, ha with
              | .str b :: r, v :: cs, h, ha =>
                simp [dTake] at h; obtain ⟨rfl, rfl⟩ := h
                exact ⟨[v], cs, rfl, fun _ _ => ⟨b, by rw [(vr_str ha.1).1], rfl, (vr_str ha.1).2⟩, ha.2⟩
            | slice e _ => intro _ _ _ _ h; cases h
            | unit =>
              intro ss rs d cs _ h ha
              simp [dTake] at h
              obtain ⟨rfl, rfl⟩ := h
              exact ⟨[], cs, rfl, fun _ _ => ⟨rfl, rfl⟩, ha⟩
            | pair f r hf hr =>
              intro ss rs d cs hfl h ha
              simp only [Ty.flat, Bool.and_eq_true] at hfl
              simp only [dTake] at h
              split at h
              · rename_i d1 cs' h1
                split at h
                · rename_i ds cs'' h2
                  simp at h
                  obtain ⟨rfl, rfl⟩ := h
                  obtain ⟨c1, c2, rfl, r1, a1⟩ := hf hfl.1 h1 ha
                  obtain ⟨c3, c4, rfl, r2, a2⟩ := hr hfl.2 h2 a1
                  exact ⟨c1 ++ c3, c4, by simp, fun G w => ⟨c1, c3, d1, ds, rfl, rfl, r1 G w, r2 G w⟩, a2⟩
                · cases h
              · cases h
          have all : ∀ {ss : List S1} {cs : List Value}, dOf ti.ty ss = some d → All2 (VR E H w) ss cs → ∀ (G : Addr → Prop) (w : World), Rd G w ti.ty cs d := by
            intro ss cs h ha
            unfold dOf at h
            split at h
            · rename_i d' hd'
              simp at h; subst h
              obtain ⟨c1, c2, rfl, hr', ha2⟩ := flatPR hfl hd' ha
              have : c2 = [] := List.eq_nil_of_length_eq_zero (by simpa using ha2.len.symm)
              subst this
              simpa using hr'
            · cases h
          cases x with
          | one s =>
            refine ⟨[vx], ?_, all hd ⟨hx, trivial⟩⟩
            rw [if_neg (by rw [← hagg]; simp [V0.isAgg])]; rfl
          | agg cs =>
            obtain ⟨vs, rfl, ha⟩ := hx
            refine ⟨vs.toList, ?_, all hd ha⟩
            rw [if_pos (by rw [← hagg]; rfl)]
        obtain ⟨es', clock', hrun, hi'⟩ := run_update h1 h2 hh hi n hv
        have hlt : E.bm h < w.heap.size := (Array.getElem?_eq_some_iff.1 hh).1
        have hbs := hr.boxSet (w' := { w with heap := w.heap.setIfInBounds (E.bm h) (.map es' clock') }) hb (cells' := [.mapc ti.ty (mput xs n d)]) (.inr ⟨_, _, es', clock', rfl, (heap_set hh).1, hi'⟩) (fun j hj => (heap_set hh).2 j hj) (by simp)
        refine ⟨_, hrun, E, hbs.1, hbs.2, ?_, rfl⟩
        exact ⟨rfl, rfl, rfl, by simp, fun j hj => (heap_set hh).2 j (by omega)⟩
      · cases hf
    · cases hf
  · cases hf
end
end Go.RX
