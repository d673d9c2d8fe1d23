/- Part R: a law's arguments, and its row. -/
import Derived.Test.YtafpahkcjdfpiaaDoorRxW
import Derived.ChangeArms
import Derived.Carry
import Derived.ChangeSame
set_option linter.all false
namespace Go.RX
open Go Go.RowKit Go.ChangeShapes Go.WideShapes Go.ChangeAt

section
variable {H : Type} {enc : TypeId × Value → H} {P : Program} {tt : TT} {W : World}

/-- Every cell that there is. -/
def allG (W : World) : Addr → Prop := fun a => a.block < W.heap.size

theorem cell_block {a : Addr} {v : Value} (h : W.cell? a = some v) : a.block < W.heap.size := by
  unfold World.cell? at h
  split at h
  · rename_i hh; exact (Array.getElem?_eq_some_iff.1 hh).1
  · cases h

theorem cellsOf_eq (ht : TTok P tt) {t : Nat} {ti : TI} (hg : tt.get t = some ti) : P.cellsOf t = ti.ty.n := by
  obtain ⟨i, hi, hs, _⟩ := info_of ht hg
  simp [Program.cellsOf, hi, hs]

theorem choice {α : Type} {p : Nat → α → Prop} : ∀ (n : Nat), (∀ i, i < n → ∃ x, p i x) → ∃ xs : List α, xs.length = n ∧ ∀ i x, xs[i]? = some x → p i x
  | 0, _ => ⟨[], rfl, by simp⟩
  | n + 1, h => by
    obtain ⟨xs, h1, h2⟩ := choice n (fun i hi => h i (by omega))
    obtain ⟨x, hx⟩ := h n (by omega)
    refine ⟨xs ++ [x], by simp [h1], fun i y hy => ?_⟩
    rw [List.getElem?_append] at hy
    split at hy
    · exact h2 i y hy
    · rename_i hge
      have : i = n := by
        have := (List.getElem?_eq_some_iff.1 hy).1
        simp at this; omega
      subst this
      simp [h1] at hy
      subst hy; exact hx

theorem trod_rd (ht : TTok P tt) : ∀ (fuel : Nat) {t : Nat} {ti : TI} {cs : List Value} {x : DataW H × List MemPlace} {base : Nat} {sp : Nat → Bool} {hd : Bool}, tt.get t = some ti → DataW.trod enc P W base sp hd fuel t cs = some x →
    ∃ d, Rd (allG W) W ti.ty cs d := by
  intro fuel
  induction fuel with
  | zero => intro t ti cs x base sp hd _ h; simp [DataW.trod] at h
  | succ n ih =>
    intro t ti cs x base sp hd hg h
    have hk := (ht _ _ hg).kind
    cases hti : ti.k with
    | int k =>
      simp only [hti] at hk
      obtain ⟨m, rfl, _, hw⟩ := DataW.trod_int hk.1 h
      rw [hk.2]
      simp only [Lit.wf, Bool.and_eq_true, decide_eq_true_eq] at hw
      exact ⟨.int m, m, rfl, rfl, hw⟩
    | bool =>
      simp only [hti] at hk
      obtain ⟨b, rfl, _⟩ := DataW.trod_bool hk.1 h
      rw [hk.2]
      exact ⟨.bool b, b, rfl, rfl⟩
    | str =>
      simp only [hti] at hk
      obtain ⟨s, rfl, _, hl⟩ := DataW.trod_string hk.1 h
      rw [hk.2]
      obtain ⟨⟨l⟩⟩ := s
      exact ⟨.str l, l, rfl, rfl, hl⟩
    | slice e =>
      simp only [hti] at hk
      obtain ⟨hu, te, hge, hty⟩ := hk
      rw [hty]
      rcases DataW.trod_slice hu h with ⟨rfl, _⟩ | ⟨a, len, cap, elems, rest, m, hfm, rfl, _, hb, hl, hm, hlen, hel, _, _⟩
      · exact ⟨.list [], none, [], 0, rfl, rfl, by simp, by simp [maxLen], by simp⟩
      · obtain rfl : m = n := by omega
        obtain ⟨xs, hx1, hx2⟩ := choice (p := fun i d => ∃ ys, At (allG W) W (a.add (i * te.ty.n)) ys ∧ Rd (allG W) W te.ty ys d) len (fun i hi => by
          have h1 := hel i hi
          rw [List.getElem?_eq_getElem (by omega), Option.bind_eq_some_iff] at h1
          obtain ⟨cs', hcs, hy⟩ := h1
          obtain ⟨d, hd'⟩ := ih hge hy
          rw [cellsOf_eq ht hge] at hcs
          obtain ⟨_, c2, c3⟩ := World.cells?_some hcs
          refine ⟨d, cs', fun j v hj => ?_, hd'⟩
          have hjl : j < te.ty.n := by rw [← c2]; exact (List.getElem?_eq_some_iff.1 hj).1
          have hc := (c3 j hjl).trans hj
          exact ⟨cell_block hc, hc⟩)
        refine ⟨.list xs, some a, xs, cap, by rw [hx1], rfl, by omega, hm, fun i x hi => ?_⟩
        obtain ⟨ys, h1, h2⟩ := hx2 i x hi
        exact ⟨a, ys, rfl, h1, h2⟩
    | struct fs =>
      simp only [hti] at hk
      obtain ⟨fields, hu, hfz, hst, _, _⟩ := hk
      obtain ⟨xs, m, hfm, _, hcl, hxl, hxs⟩ := DataW.trod_struct hu h
      obtain rfl : m = n := by omega
      have hcn : cs.length = ti.ty.n := by rw [hcl, cellsOf_eq ht hg]
      -- the fields, one behind the other
      have key : ∀ (ty : Ty) (fs : List (Nat × Nat)) (o : Nat), structOK tt ty fs o = true → (∀ (j ft off : Nat), fs[j]? = some (ft, off) → ∃ y, DataW.trod enc P W base sp hd m ft ((cs.drop off).take (P.cellsOf ft)) = some y) →
          o + ty.n ≤ cs.length → ∃ ds, Rd (allG W) W ty ((cs.drop o).take ty.n) (.agg ds) := by
        intro ty
        induction ty with
        | unit =>
          intro fs o _ _ _
          exact ⟨[], by simp [Ty.n], rfl⟩
        | pair f r _ ihr =>
          intro fs o hok hf hle
          cases fs with
          | nil => simp [structOK] at hok
          | cons fo fs =>
            obtain ⟨ft, off⟩ := fo
            simp only [structOK, Bool.and_eq_true, beq_iff_eq] at hok
            obtain ⟨⟨rfl, hft⟩, hok⟩ := hok
            cases hgf : tt.get ft with
            | none => simp [hgf] at hft
            | some tf =>
              simp only [hgf, beq_iff_eq] at hft
              obtain ⟨y, hy⟩ := hf 0 ft off rfl
              obtain ⟨d1, hd1⟩ := ih hgf hy
              rw [cellsOf_eq ht hgf, hft] at hd1
              simp only [Ty.n] at hle
              obtain ⟨ds, hds⟩ := ihr fs (off + f.n) hok (fun j ft' off' hj => hf (j + 1) ft' off' (by simpa using hj)) (by omega)
              refine ⟨d1 :: ds, (cs.drop off).take f.n, (cs.drop (off + f.n)).take r.n, d1, ds, ?_, rfl, hd1, hds⟩
              simp only [Ty.n]
              rw [List.take_add, List.drop_drop]
        | int k => intro fs o hok; simp [structOK] at hok
        | bool => intro fs o hok; simp [structOK] at hok
        | str => intro fs o hok; simp [structOK] at hok
        | slice e _ => intro fs o hok; simp [structOK] at hok
      obtain ⟨ds, hds⟩ := key ti.ty fs 0 hst (fun j ft off hj => by
        obtain ⟨f, hf1, hf2, hf3⟩ : ∃ f, fields[j]? = some f ∧ f.type = ft ∧ f.offset = off := by
          obtain ⟨f, h1, h2, h3, _⟩ := fieldsZ_get hfz hj
          exact ⟨f, by simpa using h1, h2, h3⟩
        have h1 := hxs j f hf1
        rw [hf2, hf3] at h1
        have hjx : j < xs.length := by
          rw [hxl]; exact (Array.getElem?_eq_some_iff.1 hf1).1
        exact ⟨xs[j], by rw [h1]; simp [hjx]⟩) (by omega)
      refine ⟨.agg ds, ?_⟩
      rw [List.drop_zero, ← hcn, List.take_length] at hds
      exact hds
    | other =>
      simp only [hti] at hk
    | map k e =>
      simp only [hti] at hk

/-- A value of a type that the table knows is its cells. -/
theorem val_of_ok (ht : TTok P tt) {t : Nat} {ti : TI} (hg : tt.get t = some ti) {r : Reach} {b : Nat} {v : Value} (hv : Value.okWide P W r b t v) : v = ti.ty.val v.cells.toList := by
  have hk := (ht _ _ hg).kind
  have hone : ∀ u : TypeDesc, P.underlying t = some u → (∀ fs, u ≠ .struct fs) → (∀ n e, u ≠ .array n e) → Cell.okWide P W r b t v := by
    intro u hu h1 h2
    unfold Value.okWide at hv
    rw [hu] at hv
    cases u <;> first | exact hv | exact absurd rfl (h1 _) | exact absurd rfl (h2 _ _)
  cases hti : ti.k with
  | int k =>
    simp only [hti] at hk
    have h1 := hone _ hk.1 (fun _ h => by cases h) (fun _ _ h => by cases h)
    rw [hk.2]
    unfold Cell.okWide Cell.ok at h1
    rw [hk.1] at h1
    cases v <;> first | rfl | exact h1.elim
  | bool =>
    simp only [hti] at hk
    have h1 := hone _ hk.1 (fun _ h => by cases h) (fun _ _ h => by cases h)
    rw [hk.2]
    unfold Cell.okWide Cell.ok at h1
    rw [hk.1] at h1
    cases v <;> first | rfl | exact h1.elim
  | str =>
    simp only [hti] at hk
    have h1 := hone _ hk.1 (fun _ h => by cases h) (fun _ _ h => by cases h)
    rw [hk.2]
    unfold Cell.okWide Cell.ok at h1
    rw [hk.1] at h1
    cases v <;> first | rfl | exact h1.elim
  | slice e =>
    simp only [hti] at hk
    obtain ⟨hu, te, _, hty⟩ := hk
    have h1 := hone _ hu (fun _ h => by cases h) (fun _ _ h => by cases h)
    rw [hty]
    unfold Cell.okWide Cell.ok at h1
    rw [hu] at h1
    cases v <;> first | rfl | exact h1.elim
  | struct fs =>
    simp only [hti] at hk
    obtain ⟨fields, hu, _, hst, _⟩ := hk
    unfold Value.okWide at hv
    rw [hu] at hv
    obtain ⟨cs, rfl, _⟩ := hv
    have := structOK_agg hst
    simp [Ty.val, this, Value.cells]
  | other => simp only [hti] at hk
  | map k e => simp only [hti] at hk

theorem open_all (ht : TTok P tt) : ∀ {ts : List Nat} {tys : List Ty} {vs : List Value} {ds : List (DataW H)} {ps : List MemPlace} {r : Reach} {b : Nat}, ts.map (fun t => (tt.get t).map (·.ty)) = tys.map some →
    DataW.TrodAll enc P W 0 (fun _ => true) true ts vs ds ps → (∀ (j : Nat) t v, ts[j]? = some t → vs[j]? = some v → Value.okWide P W r b t v) →
    ∃ xs, ArgsR (allG W) W tys xs vs
  | [], [], [], _, _, _, _, _, _, _ => ⟨[], trivial⟩
  | t :: ts, ty :: tys, vs, ds, ps, r, b, hty, h, hv => by
    obtain ⟨v, vs1, d, ds1, p, q, rfl, rfl, rfl, ⟨fuel, h1⟩, h2⟩ := trodAll_cons h
    simp only [List.map_cons, List.cons.injEq] at hty
    obtain ⟨e1, e2⟩ := hty
    cases hg : tt.get t with
    | none => simp [hg] at e1
    | some ti =>
      simp only [hg, Option.map_some, Option.some.injEq] at e1
      subst e1
      obtain ⟨x, hx⟩ := trod_rd ht fuel hg h1
      obtain ⟨xs, h3⟩ := open_all ht (ts := ts) (tys := tys) (r := r) (b := b) e2 h2 (fun j t v h1 h2 => hv (j + 1) t v (by simpa using h1) (by simpa using h2))
      exact ⟨x :: xs, ⟨_, val_of_ok ht hg (hv 0 t v rfl rfl), hx⟩, h3⟩
  | [], _ :: _, _, _, _, _, _, h, _, _ => by simp at h
  | _ :: _, [], _, _, _, _, _, h, _, _ => by simp at h
  | [], [], _ :: _, _, _, _, _, _, h, _ => by cases ‹List (DataW H)› <;> exact h.elim

/-- The contract of a law: whatever its arguments, true. -/
def lawCon (tys : List Ty) : Con := ⟨tys, fun _ => ⟨True, [.sv (.one .tt)]⟩⟩

theorem below_trodAll (hl : laidOutB P = true) {W' : World} (hb : Below W.heap.size W W') : ∀ {ts : List Nat} {vs : List Value} {ds : List (DataW H)} {ps : List MemPlace}, ts.all (fun t => P.readableRec t && decide (t < P.types.size)) = true →
    (∀ x ∈ ps, x.block < W.heap.size) → DataW.TrodAll enc P W 0 (fun _ => true) true ts vs ds ps → DataW.TrodAll enc P W' 0 (fun b => decide (b < W.heap.size)) true ts vs ds ps
  | [], _, _, _, _, _, h => by obtain ⟨rfl, rfl, rfl⟩ := trodAll_nil h; exact rfl
  | t :: ts, vs, ds, ps, hr, hlt, h => by
    obtain ⟨v, vs1, d, ds1, p, q, rfl, rfl, rfl, h1, h2⟩ := trodAll_cons h
    simp only [List.all_cons, Bool.and_eq_true, decide_eq_true_eq] at hr
    exact ⟨p, q, Below.trod hl hr.1.1 hr.1.2 h1 hb (fun x hx => hlt x (by simp [hx])), below_trodAll hl hb hr.2 (fun x hx => hlt x (by simp [hx])) h2, rfl⟩

/-- **A law's row.** -/
theorem law_calls (ht : TTok P tt) {f : FuncId} {fn : Func} {tys : List Ty} (hcon : ConOK P f (lawCon tys)) {s : ChangeSpec} (hl : laidOutB P = true) (hvars : s.vars = [])
    (htys : fn.params.toList.map (fun t => (tt.get t).map (·.ty)) = tys.map some) (hread : fn.params.toList.all (fun t => P.readableRec t && decide (t < P.types.size)) = true)
    {tb : Nat} (hres : fn.resultTypes = #[tb]) (hb : P.underlying tb = some .bool)
    {base : Nat} {args : Array Value} {ds gs : List (DataW H)} {before : List MemPlace} (hs : gs = [] → s.fn H (ds ++ gs) = { results := [.lit (.bool true)], args := ds })
    (hval : ∀ (j : Nat) t v, fn.params[j]? = some t → args[j]? = some v → Value.okWide P W .any base t v) (hsh : W.ShapedOpen P) (hW : DataW.Whole enc P fn.params.toList s.vars false W args.toList ds gs before) :
    Calls P f args W fun e W' => ∃ v, e = .returned v ∧ s.post enc P fn false true false false W args v W' := by
  have hW' := hW
  obtain ⟨p, q, hA, hV, rfl, hfz, hnd⟩ := hW
  rw [hvars] at hV
  have hgq : gs = [] ∧ q = [] := by
    cases gs with
    | nil => exact ⟨rfl, hV⟩
    | cons g gs => exact hV.elim
  obtain ⟨rfl, rfl⟩ := hgq
  obtain ⟨xs, hpr⟩ := open_all ht htys hA (fun j t v h1 h2 => hval j t v (by simpa using h1) (by simpa using h2))
  have hc := hcon.2 (allG W) W xs args.toList (fun _ h => h) (fun g k hp => let ⟨m, h⟩ := hp W hsh; ⟨cell_block h, m, h⟩) hpr trivial
  simp only [Array.toArray_toList] at hc
  refine hc.mono fun e W' he => ?_
  obtain ⟨v, rfl, hbel, G', _, _, us, rfl, hall⟩ := he
  match us, hall with
  | [u], hall =>
    have hu : u = .bool true := hall.1
    subst hu
    refine ⟨_, rfl, ds, [], p ++ [], [], p, [], hW', ?_, ?_, ?_, hbel.frame _, fun h => by cases h⟩
    · rw [hres, hs rfl]
      exact ⟨[], [], ⟨1, by simp [DataW.trod, hb, packVal, Value.cells]⟩, rfl, rfl⟩
    · rw [hs rfl]
      exact below_trodAll hl hbel hread (fun x hx => hW'.lt x (by simp [hx])) hA
    · rw [hvars, hs rfl]
      exact rfl

theorem trodAll_len {sp : Nat → Bool} {hd : Bool} : ∀ {ts : List Nat} {vs : List Value} {ds : List (DataW H)} {ps : List MemPlace}, DataW.TrodAll enc P W 0 sp hd ts vs ds ps → ds.length = ts.length
  | [], vs, ds, ps, h => by obtain ⟨rfl, rfl, rfl⟩ := trodAll_nil h; rfl
  | t :: ts, vs, ds, ps, h => by
    obtain ⟨v, vs1, d, ds1, p, q, rfl, rfl, rfl, _, h2⟩ := trodAll_cons h
    simp [trodAll_len h2]

/-- **A law's row, its arguments counted.** -/
theorem law_row (ht : TTok P tt) {f : FuncId} {fn : Func} {tys : List Ty} (hcon : ConOK P f (lawCon tys)) {s : ChangeSpec} (hl : laidOutB P = true) (hvars : s.vars = [])
    (htys : fn.params.toList.map (fun t => (tt.get t).map (·.ty)) = tys.map some) (hread : fn.params.toList.all (fun t => P.readableRec t && decide (t < P.types.size)) = true)
    {tb : Nat} (hres : fn.resultTypes = #[tb]) (hb : P.underlying tb = some .bool) (hs : ∀ ds : List (DataW H), ds.length = fn.params.toList.length → s.fn H ds = { results := [.lit (.bool true)], args := ds })
    {base : Nat} {args : Array Value} {ds gs : List (DataW H)} {before : List MemPlace}
    (hval : ∀ (j : Nat) t v, fn.params[j]? = some t → args[j]? = some v → Value.okWide P W .any base t v) (hsh : W.ShapedOpen P) (hW : DataW.Whole enc P fn.params.toList s.vars false W args.toList ds gs before) :
    Calls P f args W fun e W' => ∃ v, e = .returned v ∧ s.post enc P fn false true false false W args v W' := by
  refine law_calls ht hcon hl hvars htys hread hres hb (fun hg => ?_) hval hsh hW
  subst hg
  obtain ⟨p, q, hA, _⟩ := hW
  rw [List.append_nil]
  exact hs ds (trodAll_len hA)

end
end Go.RX
