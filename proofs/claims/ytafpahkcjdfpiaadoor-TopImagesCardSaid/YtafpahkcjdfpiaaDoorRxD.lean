/- Part D: the operations do what the executor says: types, operands, plain operations. -/
import Derived.Test.YtafpahkcjdfpiaaDoorRxC
set_option linter.all false
namespace Go.RX
open Go Go.RowKit

/-! ### The table of types, held against the program -/
def Ty.val (t : Ty) (cs : List Value) : Value := if t.isAgg then .agg cs.toArray else cs.headD undef

def structOK (tt : TT) : Ty → List (Nat × Nat) → Nat → Bool
  | .unit, [], _ => true
  | .pair f r, (ft, off) :: fs, o => off == o && (match tt.get ft with | some ti => ti.ty == f | none => false) && structOK tt r fs (o + f.n)
  | _, _, _ => false

def cellZ : S1 → Value → Bool
  | .int k n, .int k' n' => k == k' && n == n'
  | .ff, .bool b => b == false
  | .str l, .string s => l == s.data.toList
  | .nilsl, .slice none 0 0 => true
  | _, _ => false
def cellsZ : List S1 → List Value → Bool
  | [], [] => true
  | s :: ss, v :: vs => cellZ s v && cellsZ ss vs
  | _, _ => false

def fieldsZ (fs : List (Nat × Nat)) (fields : List Field) : Bool :=
  match fs, fields with
  | [], [] => true
  | (t, o) :: r, f :: fr => t == f.type && o == f.offset && !(f.name == "_") && fieldsZ r fr
  | _, _ => false

def kindZ (P : Program) (tt : TT) (t : Nat) (ti : TI) : Bool :=
  match ti.k, P.underlying t with
  | .int k, some (.int k') => k == k' && ti.ty == .int k
  | .bool, some .bool => ti.ty == .bool
  | .str, some .string => ti.ty == .str
  | .slice e, some (.slice e') => e == e' && (match tt.get e with | some te => ti.ty == .slice te.ty | none => false)
  | .struct fs, some (.struct fields) => fieldsZ fs fields.toList && structOK tt ti.ty fs 0 && !(P.stoodInHeld t) && !(P.eqGuardType P.depth t)
  | _, _ => false

def mapZ (P : Program) (x : Nat × TI) : Bool :=
  match x.2.k with
  | .map k e => (match P.underlying x.1, P.underlying k with
    | some (.map k' e'), some (.int .i64) => k == k' && e == e'
    | _, _ => false)
  | _ => false
def rowZ (P : Program) (tt : TT) (x : Nat × TI) : Bool := match x.2.k.isMap with
  | true => mapZ P x
  | false => (match P.info? x.1 with
    | some i => i.size == x.2.ty.n && i.bytes == x.2.bytes &&
      (match i.zero with
        | some z => (match x.2.ty.isAgg, z with
          | true, .agg cs => cellsZ x.2.ty.zeroS cs.toList
          | true, _ => false
          | false, v => cellsZ x.2.ty.zeroS [v])
        | none => false)
    | none => false) && kindZ P tt x.1 x.2

def TT.check (P : Program) (tt : TT) : Bool := tt.all (rowZ P tt)

structure TIok (P : Program) (tt : TT) (t : Nat) (ti : TI) : Prop where
  info : ∃ i, P.info? t = some i ∧ i.size = ti.ty.n ∧ i.bytes = ti.bytes ∧ i.zero = some (ti.ty.val ti.ty.zeroV)
  kind : match ti.k with
    | .int k => P.underlying t = some (.int k) ∧ ti.ty = .int k
    | .bool => P.underlying t = some .bool ∧ ti.ty = .bool
    | .str => P.underlying t = some .string ∧ ti.ty = .str
    | .slice e => P.underlying t = some (.slice e) ∧ ∃ te, tt.get e = some te ∧ ti.ty = .slice te.ty
    | .struct fs => ∃ fields, P.underlying t = some (.struct fields) ∧ fieldsZ fs fields.toList = true ∧ structOK tt ti.ty fs 0 = true ∧ P.stoodInHeld t = false ∧ P.eqGuardType P.depth t = false
    | .other => False
    | .map .. => False
  maps : ∀ u k e, tt.getM u = some (k, e) → P.underlying u = some (.map k e) ∧ P.underlying k = some (.int .i64)

def TTok (P : Program) (tt : TT) : Prop := ∀ t ti, tt.get t = some ti → TIok P tt t ti

theorem TT.mem_of_get {tt : TT} {t : Nat} {ti : TI} (h : tt.get t = some ti) : (t, ti) ∈ tt ∧ ti.k.isMap = false := by
  induction tt with
  | nil => simp [TT.get] at h
  | cons x r ih =>
    obtain ⟨u, i⟩ := x
    simp only [TT.get] at h
    split at h
    · rename_i hu
      split at h
      · cases h
      · rename_i hm; cases h; subst hu; exact ⟨List.mem_cons_self .., hm⟩
    · exact ⟨List.mem_cons_of_mem _ (ih h).1, (ih h).2⟩
theorem TT.mem_of_getM {tt : TT} {t k e : Nat} (h : tt.getM t = some (k, e)) : ∃ ti, (t, ti) ∈ tt ∧ ti.k = .map k e := by
  induction tt with
  | nil => simp [TT.getM] at h
  | cons x r ih =>
    obtain ⟨u, i⟩ := x
    simp only [TT.getM] at h
    split at h
    · rename_i hu
      split at h
      · rename_i k' e' hk; cases h; subst hu; exact ⟨i, List.mem_cons_self .., hk⟩
      · cases h
    · obtain ⟨ti, h1, h2⟩ := ih h
      exact ⟨ti, List.mem_cons_of_mem _ h1, h2⟩

theorem cellZ_eq {s : S1} {v v' : Value} (h : cellZ s v = true) (h' : cellZ s v' = true) : v = v' := by
  cases s with
  | int k n =>
    cases v <;> cases v' <;> simp [cellZ] at h h'
    obtain ⟨rfl, rfl⟩ := h; obtain ⟨rfl, rfl⟩ := h'; rfl
  | ff =>
    cases v <;> cases v' <;> simp [cellZ] at h h'
    rw [h, h']
  | str l =>
    cases v <;> cases v' <;> simp [cellZ] at h h'
    rename_i s s'
    obtain ⟨⟨a⟩⟩ := s; obtain ⟨⟨b⟩⟩ := s'
    simp at h h'
    rw [← h, ← h']
  | nilsl =>
    have aux : ∀ {u : Value}, cellZ .nilsl u = true → u = .slice none 0 0 := by
      intro u hu
      unfold cellZ at hu
      split at hu <;> first | rfl | (simp at hu; done) | skip
      all_goals simp_all
    rw [aux h, aux h']
  | _ => simp [cellZ] at h

theorem cellsZ_eq : ∀ {ss : List S1} {vs vs' : List Value}, cellsZ ss vs = true → cellsZ ss vs' = true → vs = vs'
  | [], [], [], _, _ => rfl
  | _ :: _, _ :: _, _ :: _, h, h' => by
    simp only [cellsZ, Bool.and_eq_true] at h h'
    rw [cellZ_eq h.1 h'.1, cellsZ_eq h.2 h'.2]
  | [], _ :: _, _, h, _ => by simp [cellsZ] at h
  | [], [], _ :: _, _, h => by simp [cellsZ] at h
  | _ :: _, [], _, h, _ => by simp [cellsZ] at h
  | _ :: _, _ :: _, [], _, h => by simp [cellsZ] at h

theorem cellsZ_append : ∀ {ss : List S1} {vs : List Value} {ss' vs'}, cellsZ ss vs = true → cellsZ ss' vs' = true → cellsZ (ss ++ ss') (vs ++ vs') = true
  | [], [], _, _, _, h => h
  | _ :: _, _ :: _, _, _, h, h' => by
    simp only [cellsZ, Bool.and_eq_true, List.cons_append] at h ⊢
    exact ⟨h.1, cellsZ_append h.2 h'⟩
  | [], _ :: _, _, _, h, _ => by simp [cellsZ] at h
  | _ :: _, [], _, _, h, _ => by simp [cellsZ] at h

theorem zero_cellsZ : ∀ (t : Ty), cellsZ t.zeroS t.zeroV = true := by
  intro t
  induction t with
  | pair f r hf hr => exact cellsZ_append hf hr
  | _ => simp [Ty.zeroS, Ty.zeroV, cellsZ, cellZ]

theorem zeroV_len : ∀ (t : Ty), t.zeroV.length = t.n := by
  intro t
  induction t with
  | pair f r hf hr => simp [Ty.zeroV, Ty.n, hf, hr]
  | _ => rfl
theorem zeroS_len : ∀ (t : Ty), t.zeroS.length = t.n := by
  intro t
  induction t with
  | pair f r hf hr => simp [Ty.zeroS, Ty.n, hf, hr]
  | _ => rfl

theorem TTok.of_check {P : Program} {tt : TT} (h : tt.check P = true) : TTok P tt := by
  intro t ti hg
  have hx := (List.all_eq_true.1 h) (t, ti) (TT.mem_of_get hg).1
  simp only [rowZ, (TT.mem_of_get hg).2, Bool.and_eq_true] at hx
  obtain ⟨h1, h2⟩ := hx
  refine ⟨?_, ?_, fun u k e hu => ?_⟩
  · cases hi : P.info? t with
    | none => simp [hi] at h1
    | some i =>
      simp only [hi, Bool.and_eq_true, beq_iff_eq] at h1
      refine ⟨i, rfl, h1.1.1, h1.1.2, ?_⟩
      have hz := h1.2
      cases hzz : i.zero with
      | none => simp [hzz] at hz
      | some z =>
        simp only [hzz] at hz
        by_cases ha : ti.ty.isAgg = true
        · simp only [ha] at hz
          cases z with
          | agg cs =>
            simp only at hz
            have := cellsZ_eq hz (zero_cellsZ ti.ty)
            simp [Ty.val, ha, ← this]
          | _ => simp at hz
        · have ha' : ti.ty.isAgg = false := by simpa using ha
          simp only [ha'] at hz
          have := cellsZ_eq hz (zero_cellsZ ti.ty)
          simp [Ty.val, ha', ← this]
  · unfold kindZ at h2
    split at h2
    · rename_i k k' hk hu
      simp only [hk, Bool.and_eq_true, beq_iff_eq] at h2 ⊢
      obtain ⟨rfl, h3⟩ := h2
      exact ⟨hu, h3⟩
    · rename_i hk hu; simp only [hk, beq_iff_eq] at h2 ⊢; exact ⟨hu, h2⟩
    · rename_i hk hu; simp only [hk, beq_iff_eq] at h2 ⊢; exact ⟨hu, h2⟩
    · rename_i e e' hk hu
      simp only [hk, Bool.and_eq_true, beq_iff_eq] at h2 ⊢
      obtain ⟨rfl, h3⟩ := h2
      refine ⟨hu, ?_⟩
      cases hte : tt.get e with
      | none => simp [hte] at h3
      | some te => simp only [hte, beq_iff_eq] at h3; exact ⟨te, rfl, h3⟩
    · rename_i fs fields hk hu
      simp only [hk, Bool.and_eq_true, Bool.not_eq_true'] at h2 ⊢
      exact ⟨fields, hu, h2.1.1.1, h2.1.1.2, h2.1.2, h2.2⟩
    · cases h2
  · obtain ⟨tm, hm, hk⟩ := TT.mem_of_getM hu
    have hx := (List.all_eq_true.1 h) (u, tm) hm
    simp only [rowZ, hk, TK.isMap, mapZ] at hx
    split at hx
    · rename_i h1 h2
      simp only [Bool.and_eq_true, beq_iff_eq] at hx
      obtain ⟨rfl, rfl⟩ := hx
      exact ⟨h1, h2⟩
    · cases hx

/-! ### Fields -/
theorem fieldsZ_get {fs : List (Nat × Nat)} {fields : List Field} (h : fieldsZ fs fields = true) {j t o : Nat} (hj : fs[j]? = some (t, o)) :
    ∃ f, fields[j]? = some f ∧ f.type = t ∧ f.offset = o ∧ f.name ≠ "_" := by
  induction fs generalizing fields j with
  | nil => simp at hj
  | cons x r ih =>
    obtain ⟨t', o'⟩ := x
    cases fields with
    | nil => simp [fieldsZ] at h
    | cons f fr =>
      simp only [fieldsZ, Bool.and_eq_true, beq_iff_eq, Bool.not_eq_true'] at h
      cases j with
      | zero =>
        simp at hj
        obtain ⟨rfl, rfl⟩ := hj
        exact ⟨f, by simp, h.1.1.1.symm, h.1.1.2.symm, by simpa using h.1.2⟩
      | succ j =>
        simp at hj
        obtain ⟨g, hg⟩ := ih h.2 hj
        exact ⟨g, by simpa using hg.1, hg.2⟩

theorem structOK_get {tt : TT} : ∀ {ty : Ty} {fs : List (Nat × Nat)} {o j ft off : Nat}, structOK tt ty fs o = true → fs[j]? = some (ft, off) →
    ∃ ti, tt.get ft = some ti ∧ fldTy ty j = some ti.ty ∧ off = o + fldOff ty j ∧ fldOff ty j + ti.ty.n ≤ ty.n := by
  intro ty
  induction ty with
  | pair f r _ hr =>
    intro fs o j ft off h hj
    cases fs with
    | nil => simp [structOK] at h
    | cons x fs =>
      obtain ⟨t', o'⟩ := x
      simp only [structOK, Bool.and_eq_true, beq_iff_eq] at h
      obtain ⟨⟨h1, h2⟩, h3⟩ := h
      cases j with
      | zero =>
        simp at hj
        obtain ⟨rfl, rfl⟩ := hj
        cases hg : tt.get t' with
        | none => simp [hg] at h2
        | some ti =>
          simp only [hg, beq_iff_eq] at h2
          subst h2
          exact ⟨ti, rfl, rfl, by simp [fldOff, h1], by simp [fldOff, Ty.n]⟩
      | succ j =>
        simp at hj
        obtain ⟨ti, a1, a2, a3, a4⟩ := hr h3 hj
        exact ⟨ti, a1, a2, by simp [fldOff, a3, Nat.add_assoc], by simp [fldOff, Ty.n]; omega⟩
  | unit =>
    intro fs o j ft off h hj
    cases fs with
    | nil => simp at hj
    | cons x fs => simp [structOK] at h
  | _ =>
    intro fs o j ft off h hj
    cases fs <;> simp [structOK] at h

/-! ### What a shape says of the type -/
section
variable {P : Program} {tt : TT} {t : Nat} {ti : TI}
theorem structOK_agg : ∀ {ty : Ty} {fs : List (Nat × Nat)} {o : Nat}, structOK tt ty fs o = true → ty.isAgg = true := by
  intro ty fs o h
  cases ty <;> cases fs <;> simp [structOK] at h <;> rfl
theorem TIok.of_ty (h : TIok P tt t ti) : match ti.ty with
    | .int k => P.underlying t = some (.int k)
    | .bool => P.underlying t = some .bool
    | .str => P.underlying t = some .string
    | .slice e => ∃ et te, P.underlying t = some (.slice et) ∧ tt.get et = some te ∧ te.ty = e
    | _ => ∃ fs fields, ti.k = .struct fs ∧ P.underlying t = some (.struct fields) ∧ fieldsZ fs fields.toList = true ∧ structOK tt ti.ty fs 0 = true ∧ P.stoodInHeld t = false ∧ P.eqGuardType P.depth t = false := by
  have hk := h.kind
  cases hkd : ti.k with
  | int k => simp only [hkd] at hk; simp only [hk.2]; exact hk.1
  | bool => simp only [hkd] at hk; simp only [hk.2]; exact hk.1
  | str => simp only [hkd] at hk; simp only [hk.2]; exact hk.1
  | slice e => simp only [hkd] at hk; obtain ⟨h1, te, h2, h3⟩ := hk; simp only [h3]; exact ⟨e, te, h1, h2, rfl⟩
  | struct fs =>
    simp only [hkd] at hk
    obtain ⟨fields, h1, h2, h3, h4⟩ := hk
    have ha := structOK_agg h3
    cases hty : ti.ty <;> simp [hty, Ty.isAgg] at ha
    · exact ⟨fs, fields, rfl, h1, h2, by rw [hty] at h3; exact h3, h4⟩
    · exact ⟨fs, fields, rfl, h1, h2, by rw [hty] at h3; exact h3, h4⟩
  | other => simp only [hkd] at hk
  | map k e => simp only [hkd] at hk
end

/-! ### Operands -/
section
variable {P : Program} {N : Nat} {E : Env} {H : Heap} {w : World}

theorem inRb_iff {k : IntKind} {n : Int} : inRb k n = true ↔ inR k n := by simp [inRb, inR]

theorem cst_vr {v : Value} {s : S1} (h : cst v = some s) : VR E H w s v := by
  unfold cst at h
  split at h
  · split at h
    · rename_i hr; cases h; exact ⟨rfl, inRb_iff.1 hr⟩
    · cases h
  · cases h; exact rfl
  · cases h; exact rfl
  · split at h
    · rename_i s hl
      cases h
      refine ⟨?_, Nat.le_trans hl (by simp [maxLen])⟩
      obtain ⟨⟨l⟩⟩ := s
      rfl
    · cases h
  · cases h; exact rfl
  · cases h; exact rfl
  · cases h; exact trivial
  · cases h; exact trivial
  · cases h

theorem evo_vr {slots : List SV} {a : Act} (hs : All2 (VRS E H w) slots a.tmps.toList) {o : Operand} {x : SV} (h : evo slots o = some x) : VRS E H w x (a.eval o) := by
  cases o with
  | tmp t =>
    simp only [evo] at h
    obtain ⟨v, hv, hr⟩ := hs.get h
    have : a.eval (.tmp t) = v := by
      simp only [Act.eval, Array.getD_eq_getD_getElem?]
      rw [← Array.getElem?_toList, hv]; rfl
    rw [this]; exact hr
  | const v =>
    simp only [evo, Option.map_eq_some_iff] at h
    obtain ⟨s, hs, rfl⟩ := h
    exact cst_vr hs
  | func f =>
    simp only [evo, Option.some.injEq] at h
    subst h
    exact ⟨by simp, by simp [Act.eval]⟩
  | global g => simp [evo] at h

theorem evs_vr {slots : List SV} {a : Act} (hs : All2 (VRS E H w) slots a.tmps.toList) : ∀ {os : List Operand} {xs : List SV}, evs slots os = some xs → All2 (VRS E H w) xs (os.map a.eval)
  | [], xs, h => by simp [evs] at h; subst h; trivial
  | o :: os, xs, h => by
    simp only [evs] at h
    split at h
    · rename_i v vs h1 h2
      cases h
      exact ⟨evo_vr hs h1, evs_vr hs h2⟩
    · cases h

theorem VR.oneCell {s : S1} {v : Value} (hk : s.ok = true) (h : VR E H w s v) : v.oneCell' = true ∧ v.cells = #[v] := by
  cases s with
  | junk => simp [S1.ok] at hk
  | undf => simp [S1.ok] at hk
  | mp k => simp [S1.ok] at hk
  | mapc e xs => simp [S1.ok] at hk
  | int k n => obtain ⟨rfl, _⟩ := h; exact ⟨rfl, rfl⟩
  | bool b => rw [show v = _ from h]; exact ⟨rfl, rfl⟩
  | tt => rw [show v = _ from h]; exact ⟨rfl, rfl⟩
  | ff => rw [show v = _ from h]; exact ⟨rfl, rfl⟩
  | str l => obtain ⟨rfl, _⟩ := h; exact ⟨rfl, rfl⟩
  | sl e xs =>
    obtain ⟨a, ys, cap, h1, _⟩ := h
    have : v = .slice a ys.length cap := by simpa using h1
    rw [this]; exact ⟨rfl, rfl⟩
  | nilsl => rw [show v = _ from h]; exact ⟨rfl, rfl⟩
  | ptr k off => obtain ⟨_, rfl⟩ := h; exact ⟨rfl, rfl⟩
  | row k ver => obtain ⟨⟨a, n, c, rfl⟩, _⟩ := h; exact ⟨rfl, rfl⟩
  | rptr k ver e i fld => obtain ⟨⟨a, rfl⟩, _⟩ := h; exact ⟨rfl, rfl⟩
  | pptr e x => obtain ⟨a, ys, rfl, _⟩ := h; exact ⟨rfl, rfl⟩
  | fn f caps => obtain ⟨_, rfl⟩ := h; exact ⟨rfl, rfl⟩
  | ifc t k n => obtain ⟨rfl, _⟩ := h; exact ⟨rfl, rfl⟩
  | nilifc => rw [show v = _ from h]; exact ⟨rfl, rfl⟩
end

end Go.RX
