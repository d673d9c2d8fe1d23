/- Part F: the operations do what the executor says: memory. -/
import Derived.Test.YtafpahkcjdfpiaaDoorRxE
set_option linter.all false
namespace Go.RX
open Go Go.RowKit

section
variable {P : Program} {N : Nat} {E : Env} {H : Heap} {w : World}

theorem VR.of_pr {s : S1} {v : Value} (h : PR E.G w s v) : VR E H w s v := by
  cases s with
  | ptr k off => exact h.elim
  | row k ver => exact h.elim
  | rptr k ver e i fld => exact h.elim
  | fn f caps => exact h.elim
  | mp k => exact h.elim
  | mapc e xs => exact h.elim
  | int k n => exact h
  | bool b => exact h
  | tt => exact h
  | ff => exact h
  | str l => exact h
  | sl e xs => exact h
  | nilsl => exact h
  | pptr e x => exact h
  | ifc t k n => exact h
  | nilifc => exact h
  | undf => exact h
  | junk => exact h

theorem run_loadVar' {P : Program} {tt : TT} (ht : TTok P tt) {t : Nat} {ti : TI} (hg : tt.get t = some ti) {a : Addr} {ys : List Value} (hl : ys.length = ti.ty.n)
    (hat : ∀ j v, ys[j]? = some v → w.cell? (a.add j) = some v) : (loadVar t a).run P w = .ok (ti.ty.val ys) w := by
  unfold loadVar
  rw [Sem.run_bind, run_isAgg ht hg]
  by_cases ha : ti.ty.isAgg = true
  · simp only [Result.andThen_ok, ha, if_true, Sem.run_bind, run_sizeOf ht hg, Sem.run_pure]
    rw [← hl, run_loadCells_list w a ys hat]
    simp [val_agg ha]
  · have ha' : ti.ty.isAgg = false := by simpa using ha
    have hn := n_of_not_agg ha'
    rw [hn] at hl
    obtain ⟨y, rfl⟩ := List.length_eq_one_iff.1 hl
    have := hat 0 y (by simp)
    rw [Addr.add_zero'] at this
    simp [ha', this, val_one ha']

theorem mkV_vr {ti : TI} {cs : List S1} {vs : List Value} (hl : cs.length = ti.ty.n) (h : All2 (VR E H w) cs vs) : VR0 E H w (mkV ti cs) (ti.ty.val vs) := by
  unfold mkV
  split
  · rename_i s ha
    match vs, h with
    | [v], h => rw [val_one ha]; exact h.1
  · rename_i hne
    have ha : ti.ty.isAgg = true := by
      by_cases ha : ti.ty.isAgg = true
      · exact ha
      · have ha' : ti.ty.isAgg = false := by simpa using ha
        rw [n_of_not_agg ha'] at hl
        obtain ⟨s, rfl⟩ := List.length_eq_one_iff.1 hl
        exact (hne s ha' rfl).elim
    rw [val_agg ha]
    exact ⟨_, rfl, by simpa using h⟩

theorem svAt_len : ∀ (t : Ty) (d : D) (o : Option Nat), (svAt t d o).length = t.n := by
  intro t
  induction t with
  | pair f r hf hr => intro d o; simp [svAt, Ty.n, hf, hr]
  | _ => intro d o; rfl

theorem svOf_vr {t : Ty} {x : D} {ys : List Value} (h : Rd E.G w t ys x) : VR0 E H w (svOf t x) (t.val ys) := by
  have h1 : All2 (VR E H w) (svAt t x none) ys := h.sv.mono fun _ _ => VR.of_pr
  unfold svOf
  split
  · rename_i s ha he
    rw [he] at h1
    match ys, h1 with
    | [v], h1 => rw [val_one ha]; exact h1.1
  · rename_i hne
    have ha : t.isAgg = true := by
      by_cases ha : t.isAgg = true
      · exact ha
      · have ha' : t.isAgg = false := by simpa using ha
        have hl := svAt_len t x none
        rw [n_of_not_agg ha'] at hl
        obtain ⟨s, hs⟩ := List.length_eq_one_iff.1 hl
        exact (hne s ha' hs).elim
    rw [val_agg ha]
    exact ⟨_, rfl, by simpa using h1⟩

/-- A field of what is read. -/
theorem Rd.fld {G : Addr → Prop} : ∀ {t : Ty} {cs : List Value} {ds : List D} {m j : Nat} {f : Ty}, Rd G w t cs (.agg (ds.drop m)) → fldTy t j = some f →
    Rd G w f ((cs.drop (fldOff t j)).take f.n) ((D.agg ds).fld (m + j)) := by
  intro t
  induction t with
  | pair f0 r _ hr =>
    intro cs ds m j f h hj
    obtain ⟨c1, c2, d1, rest, rfl, hd, h1, h2⟩ := h
    injection hd with hd
    obtain ⟨e1, e2⟩ := parts_drop_cons hd
    cases j with
    | zero =>
      simp [fldTy] at hj; subst hj
      simp only [fldOff, List.drop_zero, Nat.add_zero, e1]
      rw [← h1.len]; simpa using h1
    | succ j =>
      have := hr (ds := ds) (m := m + 1) (j := j) (by rw [e2]; exact h2) hj
      simp only [fldOff]
      rw [← List.drop_drop, ← h1.len]
      simp only [List.drop_left]
      rwa [show m + (j + 1) = m + 1 + j by omega]
  | _ => intro cs ds m j f h hj; simp [fldTy] at hj

theorem Rd.agg' {G : Addr → Prop} {t : Ty} {cs : List Value} {x : D} (h : Rd G w t cs x) (ha : t.isAgg = true) : ∃ ds, x = .agg ds := by
  cases t <;> simp [Ty.isAgg] at ha
  · exact ⟨_, h.2⟩
  · obtain ⟨_, _, _, _, _, h, _⟩ := h; exact ⟨_, h⟩

theorem fldTy_agg {t : Ty} {j : Nat} {f : Ty} (h : fldTy t j = some f) : t.isAgg = true := by cases t <;> first | rfl | (simp [fldTy] at h)

theorem Rd.fld' {G : Addr → Prop} {t : Ty} {cs : List Value} {x : D} {j : Nat} {f : Ty} (h : Rd G w t cs x) (hj : fldTy t j = some f) :
    Rd G w f ((cs.drop (fldOff t j)).take f.n) (x.fld j) := by
  obtain ⟨ds, rfl⟩ := h.agg' (fldTy_agg hj)
  have := Rd.fld (ds := ds) (m := 0) (j := j) (by simpa using h) hj
  simpa using this

theorem fld_fits : ∀ {t : Ty} {j : Nat} {f : Ty}, fldTy t j = some f → fldOff t j + f.n ≤ t.n := by
  intro t
  induction t with
  | pair f0 r _ hr =>
    intro j f h
    cases j with
    | zero => simp [fldTy] at h; subst h; simp [fldOff, Ty.n]
    | succ j => have := hr (j := j) h; simp [fldOff, Ty.n]; omega
  | _ => intro j f h; simp [fldTy] at h

/-- The block of a row that is not empty. -/
theorem RowR.block {h et : Nat} {e : Ty} {xs : List D} (r : RowR N E w h et e xs) (hx : 0 < xs.length) :
    ∃ cap cur cells, E.hd h = .slice (some ⟨E.bm h, 0, none⟩) xs.length cap ∧ w.heap[E.bm h]? = some (.cells cur et (0, 0)) ∧ xs.length ≤ cap ∧ cap ≤ maxLen ∧ cur.size = cap * e.n ∧
      cur.toList.take (xs.length * e.n) = cells ∧ RdL E.G w e cells xs ∧ N ≤ E.bm h := by
  obtain ⟨cells, how, hrd, hb⟩ := r
  rcases how.2 with ⟨h1, h2⟩ | ⟨g, cap, cur, h1, h2, h3, h4, h5, h6, h7⟩
  · omega
  · have hg : g = E.bm h := hb g (by rw [h1]; rfl)
    subst hg
    exact ⟨cap, cur, cells, h1, h3, h4, h5, h6, h7, hrd, h2⟩

theorem cell_row {g j : Nat} {cs : Array Value} {t : TypeId} {fr : Nat × Nat} (hg : w.heap[g]? = some (.cells cs t fr)) : w.cell? ⟨g, j, none⟩ = cs.toList[j]? := by
  rw [cell_of_row w g j cs t fr hg]; simp

theorem mul_le_of_lt {i n k : Nat} (h : i < n) : i * k + k ≤ n * k := by
  have : (i + 1) * k ≤ n * k := Nat.mul_le_mul_right k h
  rwa [Nat.add_mul, Nat.one_mul] at this

theorem getElem?_takedrop {α : Type} {l : List α} {a n j : Nat} {v : α} (h : ((l.drop a).take n)[j]? = some v) : l[a + j]? = some v ∧ j < n := by
  rw [List.getElem?_take] at h
  split at h
  · rename_i hj; rw [List.getElem?_drop] at h; exact ⟨h, hj⟩
  · cases h

theorem loadE_ok {P : Program} {tt : TT} (ht : TTok P tt) (hr : HR P N E H w) {t : Nat} {lk : Look} {p : S1} {f : Eff} (h : loadE tt t lk p = some f) (hlk : ∀ k ∈ p.hs, lk.get k = H.get k) (hc : ∀ c ∈ f.cs, c)
    {v : Value} (hv : VR E H w p v) : ∃ u, (Instr.loadAt t v).run P w = .ok u w ∧ VRS E H w f.v u ∧ f.e = [] := by
  unfold loadE at h
  split at h
  · rename_i k off
    obtain ⟨_, rfl⟩ := hv
    split at h
    · rename_i ti cells hg hb
      rw [hlk k (by simp [S1.hs])] at hb
      split at h
      · rename_i hfit
        obtain ⟨hnm, hfit⟩ := hfit
        cases h
        obtain ⟨cs, et, hh, ha⟩ := (hr.box k cells hb).2.plain hnm
        refine ⟨_, ?_, mkV_vr (by simp; omega) ((ha.drop off).take ti.ty.n), rfl⟩
        simp only [Instr.loadAt, Instr.sureAddr, Sem.run_bind, Sem.run_pure, Result.andThen_ok]
        refine run_loadVar' ht hg (by have := ha.len; simp at this ⊢; omega) (fun j v hj => ?_)
        rw [Addr.add_lit, cell_row hh]
        exact (getElem?_takedrop hj).1
      · cases h
    · cases h
  · rename_i e x
    obtain ⟨a, ys, rfl, hat, hrd⟩ := hv
    split at h
    · rename_i ti hg
      split at h
      · rename_i hte
        cases h
        refine ⟨_, ?_, svOf_vr hrd, rfl⟩
        simp only [Instr.loadAt, Instr.sureAddr, Sem.run_bind, Sem.run_pure, Result.andThen_ok]
        have := run_loadVar' (P := P) (w := w) ht hg (a := a) (ys := ys) (by rw [hrd.len, hte]) (fun j v hj => (hat j v hj).2)
        rw [hte] at this
        exact this
      · cases h
    · cases h
  · rename_i k k0 e i fld
    replace hv := hv.2
    split at h
    · rename_i ti ver et e' xs hg hb
      rw [hlk k (by simp [S1.hs])] at hb
      simp only [hb] at hv
      split at h
      · rename_i hcond
        obtain ⟨hkv, he⟩ := hcond
        subst he
        obtain ⟨hi, rfl⟩ := (hv.2 hkv).2
        obtain ⟨cap, cur, cells, h1, h2, h3, h4, h5, h6, h7, h8⟩ := (hr.row k _ _ _ _ hb).block (by omega)
        have hx : xs[i]? = some xs[i] := List.getElem?_eq_getElem hi
        have hrd := h7.get hx
        have hel : elt xs i = xs[i] := by simp [elt, List.getD, hx]
        have hcell : ∀ j v, ((cells.drop (i * e.n)).take e.n)[j]? = some v → w.cell? ⟨E.bm k, i * e.n + j, none⟩ = some v := fun j v hj => by
          obtain ⟨hj1, hj2⟩ := getElem?_takedrop hj
          rw [cell_row h2]
          rw [← h6, List.getElem?_take] at hj1
          split at hj1
          · exact hj1
          · cases hj1
        split at h
        · split at h
          · rename_i hte
            cases h
            refine ⟨e.val ((cells.drop (i * e.n)).take e.n), ?_, by show VR0 _ _ _ _ _; rw [hel]; exact svOf_vr hrd, rfl⟩
            simp only [Instr.loadAt, Instr.sureAddr, Sem.run_bind, Sem.run_pure, Result.andThen_ok, subOff, Nat.add_zero]
            have := run_loadVar' (P := P) (w := w) ht hg (a := ⟨E.bm k, i * e.n, none⟩) (ys := (cells.drop (i * e.n)).take e.n) (by rw [hrd.len, hte]) (fun j v hj => by rw [Addr.add_lit]; exact hcell j v hj)
            rw [hte] at this
            exact this
          · cases h
        · rename_i j
          split at h
          · rename_i ft hft
            split at h
            · rename_i hte
              cases h
              have hrf := hrd.fld' hft
              refine ⟨ft.val ((((cells.drop (i * e.n)).take e.n).drop (fldOff e j)).take ft.n), ?_, by show VR0 _ _ _ _ _; rw [hel]; exact svOf_vr hrf, rfl⟩
              simp only [Instr.loadAt, Instr.sureAddr, Sem.run_bind, Sem.run_pure, Result.andThen_ok, subOff]
              have := run_loadVar' (P := P) (w := w) ht hg (a := ⟨E.bm k, i * e.n + fldOff e j, none⟩) (ys := (((cells.drop (i * e.n)).take e.n).drop (fldOff e j)).take ft.n) (by rw [hrf.len, hte]) (fun m v hj => by
                rw [Addr.add_lit, Nat.add_assoc]
                exact hcell _ _ (getElem?_takedrop hj).1)
              rw [hte] at this
              exact this
            · cases h
          · cases h
      · cases h
    · cases h
  · cases h


/-! ### Rows become data that is only read -/
/-- The snapshot fits the heap, but for rows that have become data since. -/
def LkF (lk : Look) (H : Heap) (hs : List Nat) : Prop :=
  ∀ h ∈ hs, lk.get h = H.get h ∨ ∃ ver et e xs, lk.get h = some (.row ver et e xs) ∧ H.get h = some (.frozen ver e xs)

def onlyFrozen (H H' : Heap) (fz : List (Nat × SB)) : Prop :=
  ∀ h, H'.get h = H.get h ∨ ∃ ver et e xs, (h, SB.frozen ver e xs) ∈ fz ∧ (H.get h = some (.row ver et e xs) ∨ H.get h = some (.frozen ver e xs)) ∧ H'.get h = some (.frozen ver e xs)

theorem LkF.next {lk : Look} {H H' : Heap} {fz : List (Nat × SB)} {hs : List Nat} (h : LkF lk H hs) (ho : onlyFrozen H H' fz) : LkF lk H' hs := by
  intro k hk
  rcases h k hk with h1 | ⟨ver, et, e, xs, h1, h2⟩
  · rcases ho k with h3 | ⟨ver, et, e, xs, _, h4, h5⟩
    · exact .inl (by rw [h1, h3])
    · rcases h4 with h4 | h4
      · exact .inr ⟨ver, et, e, xs, by rw [h1, h4], h5⟩
      · exact .inl (by rw [h1, h4, h5])
  · rcases ho k with h3 | ⟨ver', et', e', xs', _, h4, h5⟩
    · exact .inr ⟨ver, et, e, xs, h1, by rw [h3, h2]⟩
    · rcases h4 with h4 | h4
      · rw [h2] at h4; cases h4
      · rw [h2] at h4; cases h4; exact .inr ⟨ver, et, e, xs, h1, h5⟩

theorem putAll_append (H : Heap) (a b : List (Nat × SB)) : putAll H (a ++ b) = putAll (putAll H a) b := by
  induction a generalizing H with
  | nil => rfl
  | cons x r ih => obtain ⟨h, y⟩ := x; exact ih _

theorem onlyFrozen.trans {H H1 H2 : Heap} {a b : List (Nat × SB)} (h1 : onlyFrozen H H1 a) (h2 : onlyFrozen H1 H2 b) : onlyFrozen H H2 (a ++ b) := by
  intro k
  rcases h2 k with e2 | ⟨ver, et, e, xs, m2, g2, p2⟩
  · rcases h1 k with e1 | ⟨ver, et, e, xs, m1, g1, p1⟩
    · exact .inl (by rw [e2, e1])
    · exact .inr ⟨ver, et, e, xs, by simp [m1], g1, by rw [e2, p1]⟩
  · rcases h1 k with e1 | ⟨ver1, et1, e1, xs1, m1, g1, p1⟩
    · exact .inr ⟨ver, et, e, xs, by simp [m2], by rw [← e1]; exact g2, p2⟩
    · rcases g2 with g2 | g2
      · rw [p1] at g2; cases g2
      · rw [p1] at g2; cases g2
        exact .inr ⟨ver, et1, e, xs, by simp [m2], g1, p2⟩

/-- What freezing comes to. -/
structure Froze (P : Program) (N : Nat) (E : Env) (H : Heap) (w : World) (fz : List (Nat × SB)) (E' : Env) : Prop where
  st : Step E E' H (putAll H fz) w w
  hr : HR P N E' (putAll H fz) w
  only : onlyFrozen H (putAll H fz) fz
  hd : E'.hd = E.hd
  bm : E'.bm = E.bm

theorem Froze.nil (hr : HR P N E H w) : Froze P N E H w [] E := ⟨Step.refl E H w, hr, fun _ => .inl rfl, rfl, rfl⟩
theorem Froze.append {a b : List (Nat × SB)} {E1 E2 : Env} (h1 : Froze P N E H w a E1) (h2 : Froze P N E1 (putAll H a) w b E2) : Froze P N E H w (a ++ b) E2 where
  st := by rw [putAll_append]; exact h1.st.trans h2.st
  hr := by rw [putAll_append]; exact h2.hr
  only := by rw [putAll_append]; exact h1.only.trans h2.only
  hd := h2.hd.trans h1.hd
  bm := h2.bm.trans h1.bm

theorem pers1_ok (hr : HR P N E H w) {lk : Look} {s s' : S1} {fz : List (Nat × SB)} (h : pers1 lk s = some (s', fz)) (hlk : LkF lk H s.hs) {v : Value} (hv : VR E H w s v) :
    ∃ E', Froze P N E H w fz E' ∧ PR E'.G w s' v := by
  cases s with
  | row k k0 =>
    simp only [pers1] at h
    have hv2 := hv.2
    split at h
    · rename_i ver et e xs hb
      split at h
      · rename_i hkv
        cases h
        rcases hlk k (by simp [S1.hs]) with h1 | ⟨ver', et', e', xs', h1, h2⟩
        · rw [hb] at h1
          have h1 := h1.symm
          obtain ⟨G', st, hr', hrd⟩ := hr.freeze h1
          refine ⟨{ E with G := G' }, ⟨st, hr', ?_, rfl, rfl⟩, ?_⟩
          · intro j
            by_cases hj : j = k
            · subst hj
              exact .inr ⟨ver, et, e, xs, by simp, .inl h1, by simp [putAll, Heap.get_put]⟩
            · exact .inl (by simp [putAll, Heap.get_put, hj])
          · simp only [h1] at hv2
            rw [hv2.2 hkv]
            exact hrd
        · rw [hb] at h1; cases h1
          have hsame : ∀ j, (putAll H [(k, SB.frozen ver e xs)]).get j = H.get j := fun j => by
            simp only [putAll, Heap.get_put]
            split
            · rename_i hj; rw [hj, h2]
            · rfl
          refine ⟨E, ⟨(Step.refl E H w).congr hsame, hr.congr hsame, fun j => .inl (hsame j), rfl, rfl⟩, ?_⟩
          simp only [h2] at hv2
          exact hv2.2 hkv
      · cases h
    · rename_i ver e xs hb
      split at h
      · rename_i hkv
        cases h
        rcases hlk k (by simp [S1.hs]) with h1 | ⟨ver', et', e', xs', h1, h2⟩
        · rw [hb] at h1
          simp only [← h1] at hv2
          exact ⟨E, Froze.nil hr, hv2.2 hkv⟩
        · rw [hb] at h1; cases h1
      · cases h
    · cases h
  | ptr k off => simp [pers1] at h
  | rptr k ver e i fld => simp [pers1] at h
  | fn f caps => simp [pers1] at h
  | junk => simp [pers1] at h
  | undf => simp [pers1] at h
  | mp k => simp [pers1] at h
  | mapc e xs => simp [pers1] at h
  | int k n => simp [pers1] at h; obtain ⟨rfl, rfl⟩ := h; exact ⟨E, Froze.nil hr, hv⟩
  | bool b => simp [pers1] at h; obtain ⟨rfl, rfl⟩ := h; exact ⟨E, Froze.nil hr, hv⟩
  | tt => simp [pers1] at h; obtain ⟨rfl, rfl⟩ := h; exact ⟨E, Froze.nil hr, hv⟩
  | ff => simp [pers1] at h; obtain ⟨rfl, rfl⟩ := h; exact ⟨E, Froze.nil hr, hv⟩
  | str l => simp [pers1] at h; obtain ⟨rfl, rfl⟩ := h; exact ⟨E, Froze.nil hr, hv⟩
  | sl e xs => simp [pers1] at h; obtain ⟨rfl, rfl⟩ := h; exact ⟨E, Froze.nil hr, hv⟩
  | nilsl => simp [pers1] at h; obtain ⟨rfl, rfl⟩ := h; exact ⟨E, Froze.nil hr, hv⟩
  | pptr e x => simp [pers1] at h; obtain ⟨rfl, rfl⟩ := h; exact ⟨E, Froze.nil hr, hv⟩
  | ifc t k n => simp [pers1] at h; obtain ⟨rfl, rfl⟩ := h; exact ⟨E, Froze.nil hr, hv⟩
  | nilifc => simp [pers1] at h; obtain ⟨rfl, rfl⟩ := h; exact ⟨E, Froze.nil hr, hv⟩

theorem LkF.left {lk : Look} {a b : List Nat} (h : LkF lk H (a ++ b)) : LkF lk H a := fun k hk => h k (by simp [hk])
theorem LkF.right {lk : Look} {a b : List Nat} (h : LkF lk H (a ++ b)) : LkF lk H b := fun k hk => h k (by simp [hk])

theorem persL_ok : ∀ {ss ss' : List S1} {fz : List (Nat × SB)} {lk : Look} {E : Env} {H : Heap}, HR P N E H w → persL lk ss = some (ss', fz) → LkF lk H (ss.flatMap S1.hs) → ∀ {vs : List Value}, All2 (VR E H w) ss vs →
    ∃ E', Froze P N E H w fz E' ∧ All2 (PR E'.G w) ss' vs
  | [], ss', fz, lk, E, H, hr, h, hlk, [], _ => by
    simp [persL] at h; obtain ⟨rfl, rfl⟩ := h
    exact ⟨E, Froze.nil hr, trivial⟩
  | s :: r, ss', fz, lk, E, H, hr, h, hlk, v :: vs, ha => by
    simp only [persL] at h
    split at h
    · rename_i s' e r' e' h1 h2
      cases h
      simp only [List.flatMap_cons] at hlk
      obtain ⟨E1, f1, p1⟩ := pers1_ok hr h1 hlk.left ha.1
      obtain ⟨E2, f2, p2⟩ := persL_ok f1.hr h2 (hlk.right.next f1.only) (ha.2.mono fun _ _ => f1.st.vr)
      exact ⟨E2, f1.append f2, PR.mono f2.st.g f2.st.c p1, p2⟩
    · cases h

/-- Persistent values. -/
def PR0 (G : Addr → Prop) (w : World) : V0 → Value → Prop
  | .one s, v => PR G w s v
  | .agg cs, v => ∃ vs, v = .agg vs ∧ All2 (PR G w) cs vs.toList
theorem PR0.mono {G G' : Addr → Prop} {w' : World} (hg : ∀ a, G a → G' a) (hc : ∀ a, G a → w'.cell? a = w.cell? a) {x : V0} {v : Value} (h : PR0 G w x v) : PR0 G' w' x v := by
  cases x with
  | one s => exact PR.mono hg hc h
  | agg cs => obtain ⟨vs, h1, h2⟩ := h; exact ⟨vs, h1, h2.mono fun _ _ => PR.mono hg hc⟩
theorem VR0.of_pr {x : V0} {v : Value} (h : PR0 E.G w x v) : VR0 E H w x v := by
  cases x with
  | one s => exact VR.of_pr h
  | agg cs => obtain ⟨vs, h1, h2⟩ := h; exact ⟨vs, h1, h2.mono fun _ _ => VR.of_pr⟩

theorem persV_ok (hr : HR P N E H w) {lk : Look} {s s' : V0} {fz : List (Nat × SB)} (h : persV lk s = some (s', fz)) (hlk : LkF lk H s.hs) {v : Value} (hv : VR0 E H w s v) :
    ∃ E', Froze P N E H w fz E' ∧ PR0 E'.G w s' v := by
  cases s with
  | one s =>
    simp only [persV, Option.map_eq_some_iff] at h
    obtain ⟨⟨s1, f1⟩, h1, h2⟩ := h
    cases h2
    exact pers1_ok hr h1 hlk hv
  | agg cs =>
    simp only [persV, Option.map_eq_some_iff] at h
    obtain ⟨⟨s1, f1⟩, h1, h2⟩ := h
    cases h2
    obtain ⟨vs, rfl, ha⟩ := hv
    obtain ⟨E', f, p⟩ := persL_ok hr h1 hlk ha
    exact ⟨E', f, vs, rfl, p⟩

theorem persVs_ok : ∀ {ss ss' : List V0} {fz : List (Nat × SB)} {lk : Look} {E : Env} {H : Heap}, HR P N E H w → persVs lk ss = some (ss', fz) → LkF lk H (ss.flatMap V0.hs) → ∀ {vs : List Value}, All2 (VR0 E H w) ss vs →
    ∃ E', Froze P N E H w fz E' ∧ All2 (PR0 E'.G w) ss' vs
  | [], ss', fz, lk, E, H, hr, h, hlk, [], _ => by
    simp [persVs] at h; obtain ⟨rfl, rfl⟩ := h
    exact ⟨E, Froze.nil hr, trivial⟩
  | s :: r, ss', fz, lk, E, H, hr, h, hlk, v :: vs, ha => by
    simp only [persVs] at h
    split at h
    · rename_i s' e r' e' h1 h2
      cases h
      simp only [List.flatMap_cons] at hlk
      obtain ⟨E1, f1, p1⟩ := persV_ok hr h1 hlk.left ha.1
      obtain ⟨E2, f2, p2⟩ := persVs_ok f1.hr h2 (hlk.right.next f1.only) (ha.2.mono fun _ _ => f1.st.vr0)
      exact ⟨E2, f1.append f2, PR0.mono f2.st.g f2.st.c p1, p2⟩
    · cases h

/-! ### Stores -/
theorem cells_vr {x : V0} {v : Value} (hk : x.ok = true) (h : VR0 E H w x v) : All2 (VR E H w) x.cells v.cells.toList ∧ ∀ c ∈ v.cells.toList, c.oneCell' = true := by
  have one : ∀ {ss : List S1} {vs : List Value}, ss.all S1.ok = true → All2 (VR E H w) ss vs → ∀ c ∈ vs, c.oneCell' = true := by
    intro ss
    induction ss with
    | nil => intro vs _ ha; cases vs with
      | nil => simp
      | cons _ _ => exact ha.elim
    | cons s r ih =>
      intro vs ho ha
      cases vs with
      | nil => exact ha.elim
      | cons v vs =>
        simp only [List.all_cons, Bool.and_eq_true] at ho
        intro c hc
        rcases List.mem_cons.1 hc with rfl | hc
        · exact (VR.oneCell ho.1 ha.1).1
        · exact ih ho.2 ha.2 c hc
  cases x with
  | one s =>
    have hs : s.ok = true := by simpa [V0.ok, V0.cells] using hk
    obtain ⟨h1, h2⟩ := VR.oneCell hs h
    rw [h2]
    exact ⟨⟨h, trivial⟩, by intro c hc; have : c = v := by simpa using hc
                            rw [this]; exact h1⟩
  | agg cs =>
    obtain ⟨vs, rfl, ha⟩ := h
    exact ⟨ha, one (by simpa [V0.ok, V0.cells] using hk) ha⟩

theorem below_setRow' {B g : Nat} {w0 w : World} (hb : Below B w0 w) (hg : B ≤ g) (cs : Array Value) : Below B w0 (w.setRow g cs) :=
  hb.trans ⟨rfl, rfl, rfl, by simp, fun k hk => setRow_other w g k cs (by omega)⟩

theorem run_storeVar {P : Program} {tt : TT} (ht : TTok P tt) {t : Nat} {ti : TI} (hg : tt.get t = some ti) {g o : Nat} {cur : Array Value} {et : TypeId} (hh : w.heap[g]? = some (.cells cur et (0, 0)))
    {v : Value} (hl : v.cells.toList.length = ti.ty.n) (hfit : o + ti.ty.n ≤ cur.size) (h1 : ∀ c ∈ v.cells.toList, c.oneCell' = true) :
    (storeVar t ⟨g, o, none⟩ v).run P w = .ok () (w.setRow g (cur.toList.take o ++ v.cells.toList ++ cur.toList.drop (o + v.cells.toList.length)).toArray) := by
  unfold storeVar
  rw [Sem.run_bind, run_sizeOf ht hg]
  have hs : v.cells.size = ti.ty.n := by rw [← hl]; simp
  simp only [Result.andThen_ok, hs, ne_eq, not_true, if_false, Sem.run_ite]
  have := run_storeCells_at P g o et v.cells.toList 0 cur w hh (by omega) h1
  simpa using this

theorem list_upd {α : Type} (L : List α) (a m off k : Nat) (ys : List α) (h : off + k ≤ m) :
    L.take a ++ (((L.drop a).take m).take off ++ ys ++ ((L.drop a).take m).drop (off + k)) ++ L.drop (a + m) = L.take (a + off) ++ ys ++ L.drop (a + off + k) := by
  have e1 : ((L.drop a).take m).take off = (L.drop a).take off := by rw [List.take_take, Nat.min_eq_left (by omega)]
  have e2 : ((L.drop a).take m).drop (off + k) ++ L.drop (a + m) = L.drop (a + off + k) := by
    rw [List.drop_take]
    have : L.drop (a + m) = ((L.drop a).drop (off + k)).drop (m - (off + k)) := by
      rw [List.drop_drop, List.drop_drop]; congr 1; omega
    rw [this, List.take_append_drop, List.drop_drop, Nat.add_assoc]
  have e3 : L.take (a + off) = L.take a ++ (L.drop a).take off := List.take_add
  rw [e1, e3]
  simp only [List.append_assoc]
  rw [e2]

theorem RdL.upd {G : Addr → Prop} {e : Ty} {xs : List D} {cells : List Value} (h : RdL G w e cells xs) {i : Nat} (hi : i < xs.length) {x' : D} {off : Nat} {ys : List Value} (hoff : off + ys.length ≤ e.n)
    (hn : ∀ (c : List Value) (x : D), xs[i]? = some x → Rd G w e c x → Rd G w e (c.take off ++ ys ++ c.drop (off + ys.length)) x') :
    RdL G w e (cells.take (i * e.n + off) ++ ys ++ cells.drop (i * e.n + off + ys.length)) (xs.set i x') := by
  have hx : xs[i]? = some xs[i] := List.getElem?_eq_getElem hi
  have hrd := h.get hx
  have hn' := hn _ _ hx hrd
  have hs := h.set hi hn'
  have hlen := h.len
  have hle := mul_le_of_lt (k := e.n) hi
  have e1 : ((cells.drop (i * e.n)).take e.n).length = e.n := by rw [List.length_take, List.length_drop]; omega
  have e2 : (((cells.drop (i * e.n)).take e.n).take off ++ ys ++ ((cells.drop (i * e.n)).take e.n).drop (off + ys.length)).length = e.n := by
    rw [List.length_append, List.length_append, List.length_take, List.length_drop, e1]; omega
  rw [e2, list_upd cells (i * e.n) e.n off ys.length ys hoff] at hs
  exact hs

theorem Rd.fldSet {G : Addr → Prop} : ∀ {t : Ty} {cs : List Value} {ds : List D} {m j : Nat} {f : Ty} {ys : List Value} {x : D}, Rd G w t cs (.agg (ds.drop m)) → fldTy t j = some f → Rd G w f ys x →
    Rd G w t (cs.take (fldOff t j) ++ ys ++ cs.drop (fldOff t j + ys.length)) (.agg ((ds.set (m + j) x).drop m)) := by
  intro t
  induction t with
  | pair f0 r _ hr =>
    intro cs ds m j f ys x h hj hx
    obtain ⟨c1, c2, d1, rest, rfl, hd, h1, h2⟩ := h
    injection hd with hd
    obtain ⟨e1, e2⟩ := parts_drop_cons hd
    have hm : m < ds.length := by
      have := congrArg List.length hd
      simp at this; omega
    cases j with
    | zero =>
      simp [fldTy] at hj; subst hj
      refine ⟨ys, c2, x, rest, ?_, ?_, hx, h2⟩
      · simp only [fldOff, List.take_zero, List.nil_append, Nat.zero_add]
        rw [hx.len, ← h1.len]; simp
      · congr 1
        rw [Nat.add_zero, List.drop_set, if_neg (by omega), Nat.sub_self, hd]
        rfl
    | succ j =>
      have := hr (ds := ds) (m := m + 1) (j := j) (by rw [e2]; exact h2) hj hx
      refine ⟨c1, _, d1, _, ?_, ?_, h1, this⟩
      · simp only [fldOff]
        rw [← h1.len]
        simp [List.take_append, List.drop_append, Nat.add_assoc]
        have t2 : c1.take (c1.length + fldOff r j) = c1 := List.take_of_length_le (by omega)
        have t3 : c1.drop (c1.length + (fldOff r j + ys.length)) = [] := by simp
        simp [t2, t3]
      · congr 1
        rw [show m + (j + 1) = m + 1 + j by omega]
        have hd2 : ((ds.set (m + 1 + j) x).drop m) = (ds.set (m + 1 + j) x)[m]'(by simpa using hm) :: (ds.set (m + 1 + j) x).drop (m + 1) := List.drop_eq_getElem_cons (by simpa using hm)
        rw [hd2]
        congr 1
        rw [List.getElem_set_ne (by omega)]
        have := List.drop_eq_getElem_cons hm
        rw [hd] at this
        cases this; rfl
  | _ => intro cs ds m j f ys x h hj; simp [fldTy] at hj

theorem Rd.fldSet' {G : Addr → Prop} {t : Ty} {cs : List Value} {x : D} {j : Nat} {f : Ty} {ys : List Value} {y : D} (h : Rd G w t cs x) (hj : fldTy t j = some f) (hy : Rd G w f ys y) :
    Rd G w t (cs.take (fldOff t j) ++ ys ++ cs.drop (fldOff t j + ys.length)) (dset x j y) := by
  obtain ⟨ds, rfl⟩ := h.agg' (fldTy_agg hj)
  have := Rd.fldSet (ds := ds) (m := 0) (j := j) (by simpa using h) hj hy
  simpa [dset, D.parts] using this

theorem Good.of_froze {fz : List (Nat × SB)} {E1 : Env} {f : Eff} {e : List (Nat × SB)} {u : Value} {w' : World} (hf : Froze P N E H w fz E1) (he : f.e = fz ++ e)
    (hg : Good P N E1 (putAll H fz) w ⟨f.cs, f.v, e⟩ u w') : Good P N E H w f u w' := by
  obtain ⟨E', st, hr, hb, hv⟩ := hg
  refine ⟨E', ?_⟩
  rw [he, putAll_append]
  exact ⟨hf.st.trans st, hr, hb, hv⟩

theorem frozen_other {fz : List (Nat × SB)} {E1 : Env} (hf : Froze P N E H w fz E1) {h : Nat} (hh : (fz.all fun y => y.1 != h) = true) : (putAll H fz).get h = H.get h := by
  rcases hf.only h with h1 | ⟨ver, et, e, xs, hm, _, _⟩
  · exact h1
  · have := (List.all_eq_true.1 hh) _ hm
    simp at this

theorem LkF.of_eq {lk : Look} {hs : List Nat} (h : ∀ k ∈ hs, lk.get k = H.get k) : LkF lk H hs := fun k hk => .inl (h k hk)

/-- The row after an element has been written in place. -/
theorem rowSet {P : Program} {tt : TT} (ht : TTok P tt) (hr : HR P N E H w) {k ver et i : Nat} {e : Ty} {xs : List D} (hb : H.get k = some (.row ver et e xs)) (hi : i < xs.length)
    {t : Nat} {ti : TI} (hg : tt.get t = some ti) {off : Nat} (hoff : off + ti.ty.n ≤ e.n) {v : Value} (hl : v.cells.toList.length = ti.ty.n) (h1 : ∀ c ∈ v.cells.toList, c.oneCell' = true) {x' : D}
    (hn : ∀ (c : List Value) (x : D), xs[i]? = some x → Rd E.G w e c x → Rd E.G w e (c.take off ++ v.cells.toList ++ c.drop (off + v.cells.toList.length)) x') :
    ∃ w', (storeVar t ⟨E.bm k, i * e.n + off, none⟩ v).run P w = .ok () w' ∧ Good P N E H w ⟨[], .v (.one .undf), [(k, .row ver et e (xset xs i x'))]⟩ undef w' := by
  obtain ⟨cap, cur, cells, a1, a2, a3, a4, a5, a6, a7, a8⟩ := (hr.row k _ _ _ _ hb).block (by omega)
  have hle := mul_le_of_lt (k := e.n) hi
  have hle2 : xs.length * e.n ≤ cap * e.n := Nat.mul_le_mul_right _ a3
  have hcur : cur.toList.length = cap * e.n := by simpa using a5
  have hrun := run_storeVar ht hg a2 (o := i * e.n + off) hl (by omega) h1
  refine ⟨_, hrun, ?_⟩
  have hnew := a7.upd hi (off := off) (ys := v.cells.toList) (by omega) hn
  have hheap := setRow_heap w (E.bm k) cur (cur.toList.take (i * e.n + off) ++ v.cells.toList ++ cur.toList.drop (i * e.n + off + v.cells.toList.length)).toArray et _ a2
  have hlen : (cur.toList.take (i * e.n + off) ++ v.cells.toList ++ cur.toList.drop (i * e.n + off + v.cells.toList.length)).length = cap * e.n := by
    simp only [List.length_append, List.length_take, List.length_drop, hcur, hl]; omega
  have hcells : ∀ a, E.G a → (w.setRow (E.bm k) (cur.toList.take (i * e.n + off) ++ v.cells.toList ++ cur.toList.drop (i * e.n + off + v.cells.toList.length)).toArray).cell? a = w.cell? a := fun a ha =>
    World.cell?_of_block (setRow_other w _ _ _ (hr.gout a ha k (.inr ⟨ver, et, e, xs, hb, by rw [a1]; simp [Value.ownBlock]⟩)))
  have htake : (cur.toList.take (i * e.n + off) ++ v.cells.toList ++ cur.toList.drop (i * e.n + off + v.cells.toList.length)).take (xs.length * e.n) =
      cells.take (i * e.n + off) ++ v.cells.toList ++ cells.drop (i * e.n + off + v.cells.toList.length) := by
    rw [← a6]
    apply List.ext_getElem?
    intro j
    simp only [List.getElem?_take, List.getElem?_append, List.getElem?_drop, List.length_append, List.length_take, hcur, hl]
    repeat' split
    all_goals first | rfl | (exfalso; omega) | (congr 1; omega) | (simp; omega) | skip
  have hown : ∃ cells', (w.setRow (E.bm k) (cur.toList.take (i * e.n + off) ++ v.cells.toList ++ cur.toList.drop (i * e.n + off + v.cells.toList.length)).toArray).ownsRow N et e.n (E.hd k) (xset xs i x').length cells' ∧
      RdL E.G (w.setRow (E.bm k) (cur.toList.take (i * e.n + off) ++ v.cells.toList ++ cur.toList.drop (i * e.n + off + v.cells.toList.length)).toArray) e cells' (xset xs i x') := by
    have hxl : (xset xs i x').length = xs.length := by simp [xset]
    refine ⟨cells.take (i * e.n + off) ++ v.cells.toList ++ cells.drop (i * e.n + off + v.cells.toList.length), ⟨?_, .inr ⟨E.bm k, cap, _, by rw [a1, hxl], a8, hheap, by omega, a4, by simpa using hlen, ?_⟩⟩, hnew.mono (fun _ h => h) hcells⟩
    · rw [hxl]; exact hnew.len.trans (by simp)
    · rw [hxl]; simpa using htake
  have hup := hr.rowUpd (w' := w.setRow (E.bm k) (cur.toList.take (i * e.n + off) ++ v.cells.toList ++ cur.toList.drop (i * e.n + off + v.cells.toList.length)).toArray) hb ver (E.hd k) (xset xs i x') (Nat.le_refl _)
    (fun _ => ⟨rfl, by simp [xset]⟩) ⟨rfl, rfl, rfl, by simp, fun j _ hj => setRow_other w _ j _ (fun e1 => hj (by rw [a1, e1]; rfl))⟩ (fun g hg => .inl hg) hown
  exact ⟨_, hup.1, hup.2, below_setRow' (Below.refl N w) a8 _, rfl⟩

theorem storeE_ok {P : Program} {tt : TT} (ht : TTok P tt) (hr : HR P N E H w) {t : Nat} {lk : Look} {p : S1} {x : V0} {f : Eff} (h : storeE tt t lk p x = some f)
    (hlk : ∀ k ∈ p.hs ++ x.hs, lk.get k = H.get k) {vp vx : Value} (hp : VR E H w p vp) (hx : VR0 E H w x vx) : ∃ w', (Instr.storeAt t vp vx).run P w = .ok () w' ∧ Good P N E H w f undef w' := by
  unfold storeE at h
  split at h
  · rename_i k off
    obtain ⟨_, rfl⟩ := hp
    split at h
    · rename_i ti cells hg hb
      rw [hlk k (by simp [S1.hs])] at hb
      split at h
      · rename_i hcond
        obtain ⟨hnm, hfit, hxl, hok⟩ := hcond
        cases h
        have hNb := (hr.box k cells hb).1
        obtain ⟨cs, et, hh, ha⟩ := (hr.box k cells hb).2.plain hnm
        obtain ⟨hcv, hone⟩ := cells_vr hok hx
        have hvl : vx.cells.toList.length = ti.ty.n := by rw [← hcv.len, hxl]
        have hrun := run_storeVar ht hg hh (o := off) hvl (by have := ha.len; simp at this; omega) hone
        refine ⟨_, by simpa only [Instr.storeAt, Instr.sureAddr, Sem.run_bind, Sem.run_pure, Result.andThen_ok] using hrun, ?_⟩
        have hbs := hr.boxSet hb (cells' := spliceS cells off x.cells) (.inl ⟨_, _, setRow_heap w (E.bm k) cs _ et _ hh, (by
            rw [List.toList_toArray]
            unfold spliceS
            rw [hcv.len]
            exact ((ha.take off).append hcv).append (ha.drop _))⟩) (fun j hj => setRow_other w _ j _ hj) (by simp)
        exact ⟨E, hbs.1, hbs.2, below_setRow' (Below.refl N w) hNb _, rfl⟩
      · cases h
    · cases h
  · rename_i k k0 e i fld
    replace hp := hp.2
    split at h
    · rename_i ti ver et e' xs cells fz hg hb hps
      rw [hlk k (by simp [S1.hs])] at hb
      simp only [hb] at hp
      split at h
      · rename_i hcond
        obtain ⟨hkv, he, hfz⟩ := hcond
        subst he
        obtain ⟨hi, rfl⟩ := (hp.2 hkv).2
        -- the value, as cells
        have key : ∀ {ft : Ty} {d : D}, dOf ft cells = some d → ft = ti.ty → ∃ E1, Froze P N E H w fz E1 ∧ Rd E1.G w ft vx.cells.toList d ∧ (∀ c ∈ vx.cells.toList, c.oneCell' = true) ∧ (putAll H fz).get k = some (.row ver et e xs) := by
          intro ft d hd hft
          have hcells : ∀ {ss : List S1} {ss' : List S1} {fz' : List (Nat × SB)}, persL lk ss = some (ss', fz') → ss.all S1.ok = true := by
            intro ss
            induction ss with
            | nil => intro _ _ _; rfl
            | cons s r ih =>
              intro ss' fz' h
              simp only [persL] at h
              split at h
              · rename_i s' e1 r' e2 h1 h2
                simp only [List.all_cons, Bool.and_eq_true]
                refine ⟨?_, ih h2⟩
                cases s <;> simp [pers1] at h1 <;> rfl
              · cases h
          obtain ⟨hcv, hone⟩ := cells_vr (hcells hps) hx
          obtain ⟨E1, f1, p1⟩ := persL_ok hr hps (LkF.of_eq fun j hj => hlk j (by
            have : j ∈ x.hs := by
              cases x with
              | one s => simpa [V0.cells, V0.hs] using hj
              | agg cs => simpa [V0.cells, V0.hs] using hj
            simp [this])) hcv
          exact ⟨E1, f1, dOf_rd hd p1, hone, by rw [frozen_other f1 hfz]; exact hb⟩
        split at h
        · split at h
          · rename_i d hd
            split at h
            · rename_i hte
              cases h
              obtain ⟨E1, f1, hrd, hone, hget⟩ := key hd hte.symm
              obtain ⟨w', hrun, hgood⟩ := rowSet ht f1.hr hget hi hg (off := 0) (by rw [hte]; omega) (by rw [hrd.len, hte]) hone (x' := d) (fun c x _ hc => by
                have : c.drop (0 + vx.cells.toList.length) = [] := List.drop_eq_nil_of_le (by rw [hc.len, hrd.len]; omega)
                rw [this]; simpa using hrd)
              refine ⟨w', ?_, Good.of_froze f1 rfl hgood⟩
              rw [f1.bm] at hrun
              simpa only [Instr.storeAt, Instr.sureAddr, Sem.run_bind, Sem.run_pure, Result.andThen_ok, subOff] using hrun
            · cases h
          · cases h
        · rename_i j
          split at h
          · rename_i ft hft
            split at h
            · rename_i d hd
              split at h
              · rename_i hte
                cases h
                obtain ⟨E1, f1, hrd, hone, hget⟩ := key hd hte.symm
                obtain ⟨w', hrun, hgood⟩ := rowSet ht f1.hr hget hi hg (off := fldOff e j) (by rw [hte]; exact fld_fits hft) (by rw [hrd.len, hte]) hone (x' := dset (elt xs i) j d) (fun c x hxi hc => by
                  have hel : elt xs i = x := by simp [elt, List.getD, hxi]
                  rw [hel]
                  exact hc.fldSet' hft hrd)
                refine ⟨w', ?_, Good.of_froze f1 rfl hgood⟩
                rw [f1.bm] at hrun
                simpa only [Instr.storeAt, Instr.sureAddr, Sem.run_bind, Sem.run_pure, Result.andThen_ok, subOff] using hrun
              · cases h
            · cases h
          · cases h
      · cases h
    · cases h
  · cases h

end
end Go.RX
