/- Part I: the operations do what the executor says: append, copy, make, literals. -/
import Derived.Test.YtafpahkcjdfpiaaDoorRxH
set_option linter.all false
namespace Go.RX
open Go Go.RowKit

section
variable {P : Program} {N : Nat} {E : Env} {H : Heap} {w : World}

theorem Rd.one {G : Addr → Prop} : ∀ {t : Ty} {cs : List Value} {d : D}, Rd G w t cs d → ∀ c ∈ cs, c.oneCell' = true := by
  intro t
  induction t with
  | int k => rintro cs d ⟨n, rfl, _⟩ c hc; simp at hc; subst hc; rfl
  | bool => rintro cs d ⟨n, rfl, _⟩ c hc; simp at hc; subst hc; rfl
  | str => rintro cs d ⟨n, rfl, _⟩ c hc; simp at hc; subst hc; rfl
  | slice e _ => rintro cs d ⟨a, xs, cap, rfl, _⟩ c hc; simp at hc; subst hc; rfl
  | unit => rintro cs d ⟨rfl, _⟩ c hc; simp at hc
  | pair f r hf hr =>
    rintro cs d ⟨c1, c2, d1, ds, rfl, _, h1, h2⟩ c hc
    rcases List.mem_append.1 hc with h | h
    · exact hf h1 c h
    · exact hr h2 c h
theorem RdL.one' {G : Addr → Prop} {e : Ty} : ∀ {xs : List D} {cells : List Value}, RdL G w e cells xs → ∀ c ∈ cells, c.oneCell' = true
  | [], _, h, c, hc => by rw [show _ = [] from h] at hc; simp at hc
  | x :: xs, _, ⟨c1, c2, h1, h2, h3⟩, c, hc => by
    rw [h1] at hc
    rcases List.mem_append.1 hc with h | h
    · exact h2.one c h
    · exact RdL.one' h3 c h

/-- What a source of an append or a copy holds. -/
def Src (E : Env) (w : World) (e : Ty) (ys : List D) (P : Program) (u : TypeId) (v : Value) : Prop :=
  (∃ a cap cells, v = .slice (some a) ys.length cap ∧ RdL E.G w e cells ys ∧ ∀ j c, cells[j]? = some c → w.cell? (a.add j) = some c) ∨
  (∃ cap, v = .slice none 0 cap ∧ ys = []) ∨
  (∃ s, v = .string ⟨⟨s⟩⟩ ∧ e = .int .u8 ∧ ys = bytesD s ∧ P.underlying u = some .string ∧ s.length ≤ maxLen)

theorem srcE_ok {P : Program} {tt : TT} (ht : TTok P tt) (hr : HR P N E H w) {lk : Look} {u : Nat} {e : Ty} {x : S1} {ys : List D} (h : srcE tt lk u e x = some ys) (hlk : ∀ k ∈ x.hs, lk.get k = H.get k)
    {v : Value} (hv : VR E H w x v) : Src E w e ys P u v := by
  unfold srcE at h
  split at h
  · split at h
    · split at h
      · cases h
        exact .inr (.inl ⟨0, hv, rfl⟩)
      · cases h
    · cases h
  · rename_i s
    split at h
    · rename_i hg
      split at h
      · rename_i he
        cases h
        obtain ⟨rfl, hl⟩ := vr_str hv
        exact .inr (.inr ⟨s, rfl, he, rfl, (ht _ _ hg).kind.1, hl⟩)
      · cases h
    · cases h
  · split at h
    · rename_i e' xs _ _ _ hel hg
      split at h
      · rename_i he
        subst he
        cases h
        obtain ⟨a, cap, rfl, h1, h2, h3⟩ := elems_ok hr hel hlk hv
        cases a with
        | none =>
          cases ys with
          | nil => exact .inr (.inl ⟨cap, rfl, rfl⟩)
          | cons x xs => obtain ⟨b, _, hb, _⟩ := h3 0 x (by simp); cases hb
        | some a =>
          obtain ⟨cells, c1, c2⟩ := RdL.of_at (G := E.G) (w := w) (e := e) (G1 := fun _ => True) (a := a) (xs := ys) (k := 0) (fun i x hx => by
            obtain ⟨b, ys, hb, hrd, hat⟩ := h3 i x hx
            cases hb
            exact ⟨ys, fun j u hu => ⟨trivial, by rw [Nat.zero_add]; exact hat j u hu⟩, hrd⟩)
          refine .inl ⟨a, cap, cells, rfl, c1, fun j c hj => ?_⟩
          have := (c2 j c hj).2
          simpa [Addr.add_zero'] using this
      · cases h
    · cases h

theorem bytesD_len (s : List UInt8) : (bytesD s).length = s.length := by simp [bytesD]
theorem RdL_bytes {G : Addr → Prop} : ∀ (s : List UInt8), RdL G w (.int .u8) (s.map fun b => Value.int .u8 b.toNat) (bytesD s)
  | [] => rfl
  | b :: s => ⟨[.int .u8 b.toNat], s.map fun b => Value.int .u8 b.toNat, rfl, ⟨_, rfl, rfl, by
      have := b.toNat_lt
      simp [inR, IntKind.min, IntKind.max, IntKind.bits, IntKind.signed]; omega⟩, RdL_bytes s⟩

/-- append on what the call owns (or on nil), whatever the source. -/
theorem run_append_src {P : Program} {tt : TT} (ht : TTok P tt) {t u et ty : TypeId} {e : Ty} {te : TI} (hut : P.underlying t = some (.slice et)) (hge : tt.get et = some te) (hte : te.ty = e) (he0 : e.n ≠ 0)
    {base : Nat} (hbase : base ≤ w.heap.size) {v : Value} {xs ys : List D} {cells : List Value} (hown : w.ownsRow base et e.n v xs.length cells) {vx : Value} (hsrc : Src E w e ys P u vx)
    (hu : (∃ s, vx = .string s) ∨ u = t) (hb1 : e = .int .u8 → (∃ s, vx = .string s) → te.bytes = 1) (hbytes : (xs.length + ys.length) * te.bytes ≤ 140737488355328) (h63 : xs.length + ys.length ≤ maxLen) :
    ∃ v' w' news, (Builtin.append_ #[t, u] ty #[v, vx]).run P w = .ok v' w' ∧ w'.ownsRow base et e.n v' (xs.length + ys.length) (cells ++ news) ∧ w.grownBy w' v.ownBlock ∧ RdL E.G w e news ys ∧
      (∀ g, v'.ownBlock = some g → v.ownBlock = some g ∨ w.heap.size ≤ g) := by
  obtain ⟨i, hi, hsz, hby, hz⟩ := info_of ht hge
  rw [hte] at hsz hz
  rcases hsrc with ⟨a, cap, news, rfl, hrd, hat⟩ | ⟨cap, rfl, rfl⟩ | ⟨s, rfl, rfl, rfl, hus, hsl⟩
  · have hut' : u = t := by
      rcases hu with ⟨s, hs⟩ | hu
      · cases hs
      · exact hu
    subst hut'
    have hl : news.length = ys.length * e.n := hrd.len
    obtain ⟨v', w', hrun, h1, h2, h5⟩ := run_append_own (P := P) w base u ty et i (e.val e.zeroV) e.n i.bytes hut hi hz hsz rfl (by rw [← zeroV_len e]; have := congrArg List.length (zeroV_cells e); simpa using this) (Nat.pos_of_ne_zero he0)
      v xs.length cells hown a ys.length cap news hl hat hrd.one' h63 (by rw [hby]; exact hbytes) hbase
    refine ⟨v', w', news, hrun, h1, h2, hrd, fun g hg => ?_⟩
    -- where the new header lies
    rcases hown.2 with ⟨rfl, h0⟩ | ⟨g0, cap0, cur, rfl, hbg, hgh, hnc, hcm, hcs, htake⟩
    · by_cases hlt : g < w.heap.size
      · exfalso
        by_cases hm : ys.length = 0
        · have := h5.2 ⟨rfl, hm⟩
          subst this
          simp [Value.ownBlock] at hg
        · have hx0 : xs.length = 0 := h0
          have hr2 := run_append_nil (P := P) w u ty et i (e.val e.zeroV) hut hi hz a ys.length cap news (by rw [hsz]; exact hl) hat (by omega) (by simp [maxLen] at h63; omega) (by rw [hby]; rw [hx0] at hbytes; simp at hbytes; omega)
          rw [hrun] at hr2
          cases hr2
          simp [Value.ownBlock] at hg
          omega
      · exact .inr (by omega)
    · by_cases hroom : xs.length + ys.length ≤ cap0
      · have hr2 := run_append_room (P := P) w u ty et i hut hi g0 xs.length cap0 cur hgh a ys.length cap news (by rw [hsz]; exact hl) hat hrd.one' hroom (by rw [hsz, hl, hcs, ← Nat.add_mul]; exact Nat.mul_le_mul_right _ hroom)
        rw [hrun] at hr2
        cases hr2
        exact .inl hg
      · have holds : ∀ j u, cells[j]? = some u → w.cell? ((⟨g0, 0, none⟩ : Addr).add j) = some u := hown.cells (g := g0) rfl
        have hr2 := run_append_grow (P := P) w u ty et i (e.val e.zeroV) hut hi hz ⟨g0, 0, none⟩ xs.length cap0 cells (by rw [hsz]; exact hown.1) holds a ys.length cap news (by rw [hsz]; exact hl) hat (by omega) (by simp [maxLen] at h63; omega)
          (growslice_fits (by omega) (by rw [hby]; exact hbytes))
        rw [hrun] at hr2
        cases hr2
        simp [Value.ownBlock] at hg
        exact .inr (by omega)
  · have hut' : u = t := by
      rcases hu with ⟨s, hs⟩ | hu
      · cases hs
      · exact hu
    subst hut'
    refine ⟨v, w, [], ?_, by simpa using hown, ⟨rfl, rfl, rfl, Nat.le_refl _, fun _ _ _ => rfl⟩, rfl, fun g hg => .inl hg⟩
    rcases hown.2 with ⟨rfl, h0⟩ | ⟨g0, cap0, cur, rfl, _, _, hnc, _⟩
    · simp [Builtin.append_, run_underlying hut, sizeOf, typeInfo, hi, Builtin.lenOf, Builtin.firstCells]
    · simp [Builtin.append_, run_underlying hut, sizeOf, typeInfo, hi, Builtin.lenOf, Builtin.firstCells, hnc, storeCells]
  · have hb1' := hb1 rfl ⟨_, rfl⟩
    have hz' : i.zero = some (.int .u8 0) := hz
    have hs1 : i.size = 1 := hsz
    have hss : (⟨⟨s⟩⟩ : ByteArray).size = s.length := rfl
    rw [bytesD_len] at hbytes h63 ⊢
    obtain ⟨v', w', hrun, h1, h2, h5⟩ := Lib.run_append_own_string (P := P) w base t u ty et i hut hus hi hz' hs1 (by rw [hby, hb1']) v xs.length cells hown ⟨⟨s⟩⟩ (by rw [hss]; exact h63) (by rw [hss]; rw [hb1'] at hbytes; omega) hbase
    refine ⟨v', w', Lib.strCells ⟨⟨s⟩⟩, hrun, h1, h2, RdL_bytes s, fun g hg => ?_⟩
    rcases hown.2 with ⟨rfl, h0⟩ | ⟨g0, cap0, cur, rfl, hbg, hgh, hnc, hcm, hcs, htake⟩
    · by_cases hlt : g < w.heap.size
      · exfalso
        by_cases hm : s.length = 0
        · have := h5.2 ⟨rfl, hm⟩
          subst this
          simp [Value.ownBlock] at hg
        · have hr2 := run_append_nil_string (P := P) w t u ty et i (.int .u8 0) hut hus hi hz' ⟨⟨s⟩⟩ (by rw [hss]; omega) (by rw [hss]; simp [maxLen] at h63; omega) (by rw [hss, hby, hb1']; rw [hb1'] at hbytes; omega)
          rw [hrun] at hr2
          cases hr2
          simp [Value.ownBlock] at hg
          omega
      · exact .inr (by omega)
    · by_cases hroom : xs.length + s.length ≤ cap0
      · have hr2 := Lib.run_append_room_string (P := P) w t u ty et i hut hus hi hs1 g0 xs.length cap0 cur hgh ⟨⟨s⟩⟩ hroom (by rw [hcs]; simp [Ty.n]; omega)
        rw [hrun] at hr2
        cases hr2
        exact .inl hg
      · have holds : ∀ j u, cells[j]? = some u → w.cell? ((⟨g0, 0, none⟩ : Addr).add j) = some u := hown.cells (g := g0) rfl
        have hr2 := Lib.run_append_grow_string (P := P) w t u ty et i (.int .u8 0) hut hus hi hz' ⟨g0, 0, none⟩ xs.length cap0 cells (by rw [hs1]; exact hown.1) holds ⟨⟨s⟩⟩ (by rw [hss]; omega) (by rw [hss]; simp [maxLen] at h63; omega)
          (growslice_fits (by rw [hss]; omega) (by rw [hss, hby]; exact hbytes))
        rw [hrun] at hr2
        cases hr2
        simp [Value.ownBlock] at hg
        exact .inr (by omega)

theorem appendE_ok {P : Program} {tt : TT} (ht : TTok P tt) (hr : HR P N E H w) (hN : N ≤ w.heap.size) {d t u : Nat} {ty : TypeId} {lk : Look} {s x : S1} {f : Eff} (h : appendE tt d lk t u s x = some f) (hc : ∀ c ∈ f.cs, c)
    (hlk : ∀ k ∈ s.hs ++ x.hs, lk.get k = H.get k) (hd : lk.get d = H.get d) {vs vx : Value} (hs : VR E H w s vs) (hx : VR E H w x vx) :
    ∃ v w', (Builtin.append_ #[t, u] ty #[vs, vx]).run P w = .ok v w' ∧ Good P N E H w f v w' := by
  unfold appendE at h
  split at h
  · rename_i et e bytes hg
    have hk := (ht _ _ hg).kind
    simp only at hk
    obtain ⟨hut, te', hge', hte'⟩ := hk
    injection hte' with hte'
    split at h
    · rename_i te ys hge hsrc0
      have hsrc := srcE_ok ht hr hsrc0 (fun k hk => hlk k (by simp [hk])) hx
      obtain rfl : te = te' := Option.some.inj (hge.symm.trans hge')
      split at h
      · rename_i hcond
        obtain ⟨hu, hb1, hb0⟩ := hcond
        have hbig : ∀ {n : Nat}, n * te.bytes ≤ 140737488355328 → n ≤ maxLen := fun {n} h => by
          have := Nat.le_trans (Nat.le_mul_of_pos_right n (Nat.pos_of_ne_zero hb0)) h
          simp only [maxLen]; omega
        have hu' : (∃ s, vx = .string s) ∨ u = t := by
          rcases hu with hu | hu
          · exact .inr hu
          · cases x <;> simp [isStr] at hu
            obtain ⟨rfl, _⟩ := vr_str hx
            exact .inl ⟨_, rfl⟩
        have hb1' : e = .int .u8 → (∃ s, vx = .string s) → te.bytes = 1 := fun _ ⟨s, hs⟩ => by
          rcases hb1 with hb1 | hb1
          · exact hb1
          · exfalso
            subst hs
            cases x <;> simp [isStr] at hb1 <;> try (cases hx; done)
            all_goals first
              | (obtain ⟨_, h⟩ := hx; cases h; done)
              | (obtain ⟨h, _⟩ := hx; cases h; done)
              | (obtain ⟨⟨_, _, _, h⟩, _⟩ := hx; cases h; done)
              | (obtain ⟨⟨_, h⟩, _⟩ := hx; cases h; done)
              | (obtain ⟨_, _, _, h, _⟩ := hx; simp at h; done)
              | (obtain ⟨_, _, h, _⟩ := hx; cases h; done)
              | (unfold srcE at hsrc0; simp [elems] at hsrc0; done)
        split at h
        · split at h
          · rename_i hdn
            split at h
            · cases h
            · rename_i he0
              cases h
              rw [hd] at hdn
              have hby := hc (lenI ys * te.bytes ≤ 140737488355328) (by simp)
              simp only [lenI] at hby
              have hby' : ys.length * te.bytes ≤ 140737488355328 := Int.ofNat_le.1 (by rw [Int.natCast_mul]; exact hby)
              have hown := World.ownsRow_nil w w.heap.size et e.n
              obtain ⟨v', w', news, hrun, h1, h2, h3, _⟩ := run_append_src (P := P) (ty := ty) (xs := []) (cells := []) ht hut hge hte'.symm he0 (Nat.le_refl _) hown hsrc hu' hb1' (by simpa using hby') (by simpa using hbig hby')
              rw [show vs = _ from hs]
              refine ⟨v', w', hrun, ?_⟩
              have hbl : Below w.heap.size w w' := (Below.refl _ w).grown h2 (Nat.le_refl _) (by simp [Value.ownBlock])
              simp only [List.length_nil, Nat.zero_add, List.nil_append] at h1
              exact newRowG hr hN hdn hbl h1 (h3.mono (fun _ h => h) (fun a ha => hbl.cell (hr.gin a ha)))
          · cases h
        · rename_i k k0
          split at h
          · rename_i ver et' e' xs hb
            split at h
            · rename_i hcond2
              obtain ⟨hkv, he, het, hnc, he0⟩ := hcond2
              subst he; subst het
              cases h
              rw [hlk k (by simp [S1.hs])] at hb
              have hs2 := hs.2
              simp only [hb] at hs2
              have hvs := hs2.2 hkv
              obtain ⟨cells, how, hrd, hbk⟩ := hr.row k _ _ _ _ hb
              have hby := hc ((lenI xs + lenI ys) * te.bytes ≤ 140737488355328) (by simp)
              simp only [lenI] at hby
              have hby' : (xs.length + ys.length) * te.bytes ≤ 140737488355328 := Int.ofNat_le.1 (by rw [Int.natCast_mul, Int.natCast_add]; exact hby)
              obtain ⟨v', w', news, hrun, h1, h2, h3, h4⟩ := run_append_src (P := P) (ty := ty) ht hut hge hte'.symm he0 hN how hsrc hu' hb1' hby' (hbig hby')
              rw [hvs]
              refine ⟨v', w', hrun, ?_⟩
              have hcell : ∀ a, E.G a → w'.cell? a = w.cell? a := fun a ha => World.cell?_of_block (h2.block a.block (hr.gin a ha) (fun e1 => by
                cases ho : (E.hd k).ownBlock with
                | none => rw [ho] at e1; cases e1
                | some g =>
                  rw [ho] at e1; cases e1
                  exact hr.gout a ha k (.inr ⟨ver, et, e, xs, hb, by rw [ho]; simp⟩) (hbk _ ho)))
              have hup := hr.rowUpd (w' := w') hb (ver + 1) v' (xcat xs ys) (by omega) (fun h => by omega) h2 h4
                ⟨cells ++ news, by rw [show (xcat xs ys).length = xs.length + ys.length by simp [xcat]]; exact h1, (hrd.mono (fun _ h => h) hcell).append (h3.mono (fun _ h => h) hcell)⟩
              refine ⟨_, hup.1, hup.2, (Below.refl N w).grown h2 hN (fun g hg => ?_), ?_⟩
              · rw [hbk g hg]
                exact Solid.ge hr (.inr ⟨ver, et, e, xs, hb, by rw [hg]; simp⟩)
              · refine ⟨?_, ?_⟩
                · rcases h1.2 with ⟨h5, _⟩ | ⟨_, _, _, h5, _⟩
                  · exact ⟨_, _, _, h5⟩
                  · exact ⟨_, _, _, h5⟩
                · simp only [putAll, Heap.get_put, if_true]
                  exact ⟨Nat.le_refl _, fun _ => (upd_same _ _ _).symm⟩
            · cases h
          · cases h
        · cases h
      · cases h
    · cases h
  · cases h

/-! ### copy -/
theorem RdL.take' {G : Addr → Prop} {e : Ty} : ∀ {xs : List D} {cells : List Value}, RdL G w e cells xs → ∀ n, RdL G w e (cells.take (n * e.n)) (xs.take n)
  | [], _, h, n => by rw [show _ = [] from h]; simp [RdL]
  | x :: xs, _, _, 0 => by simp [RdL]
  | x :: xs, _, ⟨c1, c2, h1, h2, h3⟩, n + 1 => by
    refine ⟨c1, c2.take (n * e.n), ?_, h2, RdL.take' h3 n⟩
    rw [h1, List.take_append, List.take_of_length_le (by rw [h2.len, Nat.add_mul, Nat.one_mul]; omega), h2.len, show (n + 1) * e.n - e.n = n * e.n by rw [Nat.add_mul, Nat.one_mul]; omega]
theorem RdL.drop' {G : Addr → Prop} {e : Ty} : ∀ {xs : List D} {cells : List Value}, RdL G w e cells xs → ∀ n, RdL G w e (cells.drop (n * e.n)) (xs.drop n)
  | [], _, h, n => by rw [show _ = [] from h]; simp [RdL]
  | x :: xs, cells, h, 0 => by simpa using h
  | x :: xs, _, ⟨c1, c2, h1, h2, h3⟩, n + 1 => by
    have := RdL.drop' h3 n
    rw [h1, List.drop_append, List.drop_of_length_le (by rw [h2.len, Nat.add_mul, Nat.one_mul]; omega), h2.len, show (n + 1) * e.n - e.n = n * e.n by rw [Nat.add_mul, Nat.one_mul]; omega]
    simpa using this
theorem xcopy_len (xs ys : List D) : (xcopy xs ys).length = xs.length := by
  unfold xcopy; rw [List.length_append, List.length_take, List.length_drop]; omega
theorem rdl_copy {G : Addr → Prop} {e : Ty} {xs ys : List D} {c d : List Value} (h : RdL G w e c xs) (h2 : RdL G w e d ys) : RdL G w e (d.take (xs.length * e.n) ++ c.drop (ys.length * e.n)) (xcopy xs ys) :=
  (h2.take' xs.length).append (h.drop' ys.length)

theorem run_copy_src {P : Program} (w : World) (t u ty et : TypeId) (n : Nat) (dst : Value) (dLen : Nat) (src : Value) (sLen : Nat) (cs : List Value)
    (hut : P.underlying t = some (.slice et)) (hs : (P.info? et).map (·.size) = some n)
    (hsrc : (∃ a cap, src = .slice (some a) sLen cap ∧ cs.length = Nat.min sLen dLen * n ∧ ∀ j v, cs[j]? = some v → w.cell? (a.add j) = some v) ∨ (∃ cap, src = .slice none 0 cap ∧ sLen = 0 ∧ cs = []))
    (h1 : ∀ v ∈ cs, v.oneCell' = true) :
    (∀ cap, dst = .slice none 0 cap → dLen = 0 → (Builtin.copy_ #[t, u] ty #[dst, src]).run P w = .ok (goInt 0) w) ∧
    (∀ g cap cur e', dst = .slice (some ⟨g, 0, none⟩) dLen cap → w.heap[g]? = some (.cells cur e' (0, 0)) → cs.length ≤ cur.size →
      (Builtin.copy_ #[t, u] ty #[dst, src]).run P w = .ok (goInt (Nat.min sLen dLen)) (w.setRow g (cs ++ cur.toList.drop cs.length).toArray)) := by
  cases hq : P.info? et with
  | none => simp [hq] at hs
  | some i =>
    have hi : i.size = n := by simpa [hq] using hs
    refine ⟨fun cap hd h0 => ?_, fun g cap cur e' hd hg hfit => ?_⟩
    · subst hd
      rcases hsrc with ⟨a, cap', rfl, hl, hat⟩ | ⟨cap', rfl, h3, rfl⟩
      · have hc0 : cs = [] := by
          subst h0
          cases cs with
          | nil => rfl
          | cons _ _ => rw [show Nat.min sLen 0 = 0 from Nat.min_eq_right (Nat.zero_le _)] at hl; simp at hl
        have hld := run_loadCells_list (P := P) w a cs hat
        rw [hc0] at hld
        simp only [List.length_nil] at hld
        simp [Builtin.copy_, run_underlying hut, Builtin.lenOf, Builtin.firstCells, sizeOf, typeInfo, hq, hi, show Nat.min sLen 0 = 0 from Nat.min_eq_right (Nat.zero_le _), hld]
      · simp [Builtin.copy_, run_underlying hut, Builtin.lenOf, Builtin.firstCells, sizeOf, typeInfo, hq, hi, show Nat.min 0 0 = 0 from rfl]
    · subst hd
      have hst := run_storeCells_at P g 0 e' cs 0 cur w hg (by simpa using hfit) h1
      simp only [Nat.add_zero, Nat.zero_add, List.take_zero, List.nil_append] at hst
      rcases hsrc with ⟨a, cap', rfl, hl, hat⟩ | ⟨cap', rfl, h3, rfl⟩
      · have hld := run_loadCells_list (P := P) w a cs hat
        rw [hl] at hld
        simp [Builtin.copy_, run_underlying hut, Builtin.lenOf, Builtin.firstCells, sizeOf, typeInfo, hq, hi, hld, hst]
      · subst h3
        simp only [List.length_nil, List.drop_zero, List.nil_append] at hst ⊢
        simp [Builtin.copy_, run_underlying hut, Builtin.lenOf, Builtin.firstCells, sizeOf, typeInfo, hq, hi, show Nat.min 0 dLen = 0 from Nat.min_eq_left (Nat.zero_le _), storeCells, setRow_self w g cur e' (0, 0) hg]

theorem copyE_ok {P : Program} {tt : TT} (ht : TTok P tt) (hr : HR P N E H w) (hN : N ≤ w.heap.size) {t u : Nat} {ty : TypeId} {lk : Look} {s x : S1} {f : Eff} (h : copyE tt lk t u s x = some f)
    (hlk : ∀ k ∈ s.hs ++ x.hs, lk.get k = H.get k) {vs vx : Value} (hs : VR E H w s vs) (hx : VR E H w x vx) :
    ∃ v w', (Builtin.copy_ #[t, u] ty #[vs, vx]).run P w = .ok v w' ∧ Good P N E H w f v w' := by
  unfold copyE at h
  split at h
  · rename_i et e bytes k k0 hg
    have hk := (ht _ _ hg).kind
    simp only at hk
    obtain ⟨hut, te, hge, hte⟩ := hk
    injection hte with hte
    obtain ⟨i, hi, hsz, hby, hz⟩ := info_of ht hge
    rw [← hte] at hsz
    split at h
    · rename_i ys ver et' e' xs hsrc0 hb
      have hsrc := srcE_ok ht hr hsrc0 (fun k hk => hlk k (by simp [hk])) hx
      split at h
      · rename_i hcond
        obtain ⟨hkv, he, het, hnc, he0, hstr⟩ := hcond
        subst he; subst het
        cases h
        rw [hlk k (by simp [S1.hs])] at hb
        have hs2 := hs.2
        simp only [hb] at hs2
        have hvs := hs2.2 hkv
        rw [hvs]
        have hrow := hr.row k _ _ _ _ hb
        obtain ⟨cells, how, hrd, hbk⟩ := hrow
        -- the source
        obtain ⟨cs, hS, hcs⟩ : ∃ cs : List Value, ((∃ a cap, vx = .slice (some a) ys.length cap ∧ (cs.take (xs.length * e.n)).length = Nat.min ys.length xs.length * e.n ∧ ∀ j v, (cs.take (xs.length * e.n))[j]? = some v → w.cell? (a.add j) = some v) ∨ (∃ cap, vx = .slice none 0 cap ∧ ys.length = 0 ∧ cs.take (xs.length * e.n) = [])) ∧ RdL E.G w e cs ys := by
          rcases hsrc with ⟨a, cap, news, rfl, h1, h2⟩ | ⟨cap, rfl, rfl⟩ | ⟨s, rfl, _⟩
          · refine ⟨news, .inl ⟨a, cap, rfl, ?_, fun j v hj => h2 j v ?_⟩, h1⟩
            · rw [List.length_take, h1.len, show Nat.min ys.length xs.length = min ys.length xs.length from rfl]
              rcases Nat.le_total ys.length xs.length with h3 | h3
              · rw [Nat.min_eq_left h3, Nat.min_eq_right (Nat.mul_le_mul_right _ h3)]
              · rw [Nat.min_eq_right h3, Nat.min_eq_left (Nat.mul_le_mul_right _ h3)]
            · rw [List.getElem?_take] at hj
              split at hj
              · exact hj
              · cases hj
          · exact ⟨[], .inr ⟨cap, rfl, rfl, by simp⟩, rfl⟩
          · cases x <;> simp [isStr] at hstr <;> try (cases hx; done)
            all_goals exfalso
            all_goals first
              | (obtain ⟨_, h⟩ := hx; cases h; done)
              | (obtain ⟨h, _⟩ := hx; cases h; done)
              | (obtain ⟨⟨_, _, _, h⟩, _⟩ := hx; cases h; done)
              | (obtain ⟨⟨_, h⟩, _⟩ := hx; cases h; done)
              | (obtain ⟨_, _, _, h, _⟩ := hx; simp at h; done)
              | (obtain ⟨_, _, h, _⟩ := hx; cases h; done)
              | (unfold srcE at hsrc0; simp [elems] at hsrc0; done)
        have hrdn := rdl_copy hrd hcs
        have hone : ∀ c ∈ cs.take (xs.length * e.n), c.oneCell' = true := fun c hc => hcs.one' c (List.mem_of_mem_take hc)
        have hrun := run_copy_src (P := P) w t u ty et e.n (E.hd k) xs.length vx ys.length (cs.take (xs.length * e.n)) hut (by rw [hi]; simp [hsz]) hS hone
        have hmin : imin (lenI ys) (lenI xs) = ((Nat.min ys.length xs.length : Nat) : Int) := by
          unfold imin lenI
          show _ = ((min ys.length xs.length : Nat) : Int)
          omega
        have hmax : xs.length ≤ maxLen := by
          rcases how.2 with ⟨_, h2⟩ | ⟨g, cap, cur, h1, h2, h3, h4, h5, h6, h7⟩
          · omega
          · omega
        have hin : inR .i64 (imin (lenI ys) (lenI xs)) := by
          rw [hmin]
          have : Nat.min ys.length xs.length ≤ xs.length := Nat.min_le_right _ _
          simp only [maxLen] at hmax
          simp [inR, IntKind.min, IntKind.max, IntKind.bits, IntKind.signed]
          omega
        rcases how.2 with ⟨h1, h2⟩ | ⟨g, cap, cur, h1, h2, h3, h4, h5, h6, h7⟩
        · have hr2 := hrun.1 0 h1 h2
          have hxe : xs = [] := List.length_eq_zero_iff.1 h2
          subst hxe
          have hxc : xcopy [] ys = [] := by simp [xcopy]
          have hup := hr.rowUpd (w' := w) hb ver (E.hd k) (xcopy [] ys) (Nat.le_refl _) (fun _ => ⟨rfl, by simp⟩) ⟨rfl, rfl, rfl, Nat.le_refl _, fun _ _ _ => rfl⟩ (fun g hg => .inl hg)
            ⟨cells, by rw [hxc]; exact how, by rw [hxc]; exact hrd⟩
          refine ⟨_, w, hr2, _, hup.1, hup.2, Below.refl _ _, ?_⟩
          have hm0 : imin (lenI ys) (lenI ([] : List D)) = 0 := by rw [hmin]; show ((min ys.length 0 : Nat) : Int) = 0; omega
          exact ⟨by rw [hm0]; rfl, hin⟩
        · have hgk : g = E.bm k := hbk g (by rw [h1]; rfl)
          have hfit : (cs.take (xs.length * e.n)).length ≤ cur.size := by
            rw [List.length_take, h6]
            exact Nat.le_trans (Nat.min_le_left _ _) (Nat.mul_le_mul_right _ h4)
          have hr2 := hrun.2 g cap cur et h1 h3 hfit
          subst hgk
          have hcl : cells.length = xs.length * e.n := hrd.len
          have hcsl : cs.length = ys.length * e.n := hcs.len
          generalize hX : cs.take (xs.length * e.n) = c0 at *
          have hc0 : c0.length = min (xs.length * e.n) (ys.length * e.n) := by rw [← hX, List.length_take, hcsl]
          have hmulx : xs.length * e.n ≤ cap * e.n := Nat.mul_le_mul_right _ h4
          have hcur : cur.toList.length = cap * e.n := by simpa using h6
          have hlen : (c0 ++ cur.toList.drop c0.length).length = cap * e.n := by
            rw [List.length_append, List.length_drop, hcur]; omega
          have htake : (c0 ++ cur.toList.drop c0.length).take (xs.length * e.n) = c0 ++ cells.drop (ys.length * e.n) := by
            rw [List.take_append, List.take_of_length_le (by omega), ← h7]
            congr 1
            rw [List.drop_take]
            rcases Nat.le_total (ys.length * e.n) (xs.length * e.n) with h8 | h8
            · rw [show c0.length = ys.length * e.n by omega]
            · rw [show c0.length = xs.length * e.n by omega, Nat.sub_self, show xs.length * e.n - ys.length * e.n = 0 by omega, List.take_zero, List.take_zero]
          have hheap := setRow_heap w (E.bm k) cur (c0 ++ cur.toList.drop c0.length).toArray et _ h3
          have hcells : ∀ a, E.G a → (w.setRow (E.bm k) (c0 ++ cur.toList.drop c0.length).toArray).cell? a = w.cell? a := fun a ha =>
            World.cell?_of_block (setRow_other w _ _ _ (hr.gout a ha k (.inr ⟨ver, et, e, xs, hb, by rw [h1]; simp [Value.ownBlock]⟩)))
          have hxl := xcopy_len xs ys
          have hup := hr.rowUpd (w' := w.setRow (E.bm k) (c0 ++ cur.toList.drop c0.length).toArray) hb ver (E.hd k) (xcopy xs ys) (Nat.le_refl _) (fun _ => ⟨rfl, by omega⟩)
            ⟨rfl, rfl, rfl, by simp, fun j _ hj => setRow_other w _ j _ (fun e1 => hj (by rw [h1, e1]; rfl))⟩ (fun g hg => .inl hg)
            ⟨c0 ++ cells.drop (ys.length * e.n), ⟨by rw [hxl, List.length_append, List.length_drop, hcl]; omega, .inr ⟨E.bm k, cap, _, by rw [h1, hxl], h2, hheap, by omega, h5, by simpa using hlen, by rw [hxl]; simpa using htake⟩⟩, hrdn.mono (fun _ h => h) hcells⟩
          refine ⟨_, _, hr2, _, hup.1, hup.2, below_setRow' (Below.refl N w) h2 _, ?_⟩
          exact ⟨by rw [hmin]; rfl, hin⟩
      · cases h
    · cases h
  · cases h

end
end Go.RX
