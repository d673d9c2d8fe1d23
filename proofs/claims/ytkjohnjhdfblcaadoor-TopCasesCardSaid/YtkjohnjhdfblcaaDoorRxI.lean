/- Part I: the operations do what the executor says: append, copy, make, literals. -/
import Derived.Test.YtkjohnjhdfblcaaDoorRxH
set_option linter.all false
namespace Go.RX
open Go Go.RowKit

section
variable {P : Program} {N : Nat} {E : Env} {H : Heap} {w : World}

theorem Rd.one {G : Addr → Prop} : ∀ {t : Ty} {cs : List Value} {d : D}, Rd G w t cs d → ∀ c ∈ cs, c.oneCell' = true := by
  intro t
  induction t with
  | int k => rintro cs d ⟨n, rfl, _⟩ c hc; simp at hc; subst hc; rfl
  | bool => rintro cs d ⟨n, rfl, _⟩ c hc; simp at hc; subst hc; rfl
  | str => rintro cs d ⟨n, rfl, _⟩ c hc; simp at hc; subst hc; rfl
  | slice e _ => rintro cs d ⟨a, xs, cap, rfl, _⟩ c hc; simp at hc; subst hc; rfl
  | unit => rintro cs d ⟨rfl, _⟩ c hc; simp at hc
  | pair f r hf hr =>
    rintro cs d ⟨c1, c2, d1, ds, rfl, _, h1, h2⟩ c hc
    rcases List.mem_append.1 hc with h | h
    · exact hf h1 c h
    · exact hr h2 c h
theorem RdL.one' {G : Addr → Prop} {e : Ty} : ∀ {xs : List D} {cells : List Value}, RdL G w e cells xs → ∀ c ∈ cells, c.oneCell' = true
  | [], _, h, c, hc => by rw [show _ = [] from h] at hc; simp at hc
  | x :: xs, _, ⟨c1, c2, h1, h2, h3⟩, c, hc => by
    rw [h1] at hc
    rcases List.mem_append.1 hc with h | h
    · exact h2.one c h
    · exact RdL.one' h3 c h

/-- What a source of an append or a copy holds. -/
def Src (E : Env) (w : World) (e : Ty) (ys : List D) (P : Program) (u : TypeId) (v : Value) : Prop :=
  (∃ a cap cells, v = .slice (some a) ys.length cap ∧ RdL E.G w e cells ys ∧ ∀ j c, cells[j]? = some c → w.cell? (a.add j) = some c) ∨
  (∃ cap, v = .slice none 0 cap ∧ ys = []) ∨
  (∃ s, v = .string ⟨⟨s⟩⟩ ∧ e = .int .u8 ∧ ys = bytesD s ∧ P.underlying u = some .string ∧ s.length ≤ maxLen)

theorem srcE_ok {P : Program} {tt : TT} (ht : TTok P tt) (hr : HR P N E H w) {lk : Look} {u : Nat} {e : Ty} {x : S1} {ys : List D} (h : srcE tt lk u e x = some ys) (hlk : ∀ k ∈ x.hs, lk.get k = H.get k)
    {v : Value} (hv : VR E H w x v) : Src E w e ys P u v := by
  unfold srcE at h
  split at h
  · split at h
    · split at h
      · cases h
        exact .inr (.inl ⟨0, hv, rfl⟩)
      · cases h
    · cases h
  · rename_i s
    split at h
    · rename_i hg
      split at h
      · rename_i he
        cases h
        obtain ⟨rfl, hl⟩ := vr_str hv
        exact .inr (.inr ⟨s, rfl, he, rfl, (ht _ _ hg).kind.1, hl⟩)
      · cases h
    · cases h
  · split at h
    · rename_i e' xs _ _ _ hel hg
      split at h
      · rename_i he
        subst he
        cases h
        obtain ⟨a, cap, rfl, h1, h2, h3⟩ := elems_ok hr hel hlk hv
        cases a with
        | none =>
          cases ys with
          | nil => exact .inr (.inl ⟨cap, rfl, rfl⟩)
          | cons x xs => obtain ⟨b, _, hb, _⟩ := h3 0 x (by simp); cases hb
        | some a =>
          obtain ⟨cells, c1, c2⟩ := RdL.of_at (G := E.G) (w := w) (e := e) (G1 := fun _ => True) (a := a) (xs := ys) (k := 0) (fun i x hx => by
            obtain ⟨b, ys, hb, hrd, hat⟩ := h3 i x hx
            cases hb
            exact ⟨ys, fun j u hu => ⟨trivial, by rw [Nat.zero_add]; exact hat j u hu⟩, hrd⟩)
          refine .inl ⟨a, cap, cells, rfl, c1, fun j c hj => ?_⟩
          have := (c2 j c hj).2
          simpa [Addr.add_zero'] using this
      · cases h
    · cases h

theorem bytesD_len (s : List UInt8) : (bytesD s).length = s.length := by simp [bytesD]
theorem RdL_bytes {G : Addr → Prop} : ∀ (s : List UInt8), RdL G w (.int .u8) (s.map fun b => Value.int .u8 b.toNat) (bytesD s)
  | [] => rfl
  | b :: s => ⟨[.int .u8 b.toNat], s.map fun b => Value.int .u8 b.toNat, rfl, ⟨_, rfl, rfl, by
      have := b.toNat_lt
      simp [inR, IntKind.min, IntKind.max, IntKind.bits, IntKind.signed]; omega⟩, RdL_bytes s⟩

/-- append on what the call owns (or on nil), whatever the source. -/
theorem run_append_src {P : Program} {tt : TT} (ht : TTok P tt) {t u et ty : TypeId} {e : Ty} {te : TI} (hut : P.underlying t = some (.slice et)) (hge : tt.get et = some te) (hte : te.ty = e) (he0 : e.n ≠ 0)
    {base : Nat} (hbase : base ≤ w.heap.size) {v : Value} {xs ys : List D} {cells : List Value} (hown : w.ownsRow base et e.n v xs.length cells) {vx : Value} (hsrc : Src E w e ys P u vx)
    (hu : (∃ s, vx = .string s) ∨ u = t) (hb1 : e = .int .u8 → (∃ s, vx = .string s) → te.bytes = 1) (hbytes : (xs.length + ys.length) * te.bytes ≤ 140737488355328) (h63 : xs.length + ys.length ≤ maxLen) :
    ∃ v' w' news, (Builtin.append_ #[t, u] ty #[v, vx]).run P w = .ok v' w' ∧ w'.ownsRow base et e.n v' (xs.length + ys.length) (cells ++ news) ∧ w.grownBy w' v.ownBlock ∧ RdL E.G w e news ys ∧
      (∀ g, v'.ownBlock = some g → v.ownBlock = some g ∨ w.heap.size ≤ g) := by
  obtain ⟨i, hi, hsz, hby, hz⟩ := info_of ht hge
  rw [hte] at hsz hz
  rcases hsrc with ⟨a, cap, news, rfl, hrd, hat⟩ | ⟨cap, rfl, rfl⟩ | ⟨s, rfl, rfl, rfl, hus, hsl⟩
  · have hut' : u = t := by
      rcases hu with ⟨s, hs⟩ | hu
      · cases hs
      · exact hu
    subst hut'
    have hl : news.length = ys.length * e.n := hrd.len
    obtain ⟨v', w', hrun, h1, h2, h5⟩ := run_append_own (P := P) w base u ty et i (e.val e.zeroV) e.n i.bytes hut hi hz hsz rfl (by rw [← zeroV_len e]; have := congrArg List.length (zeroV_cells e); simpa using this) (Nat.pos_of_ne_zero he0)
      v xs.length cells hown a ys.length cap news hl hat hrd.one' h63 (by rw [hby]; exact hbytes) hbase
    refine ⟨v', w', news, hrun, h1, h2, hrd, fun g hg => ?_⟩
    -- where the new header lies
    rcases hown.2 with ⟨rfl, h0⟩ | ⟨g0, cap0, cur, rfl, hbg, hgh, hnc, hcm, hcs, htake⟩
    · by_cases hlt : g < w.heap.size
      · exfalso
        by_cases hm : ys.length = 0
        · have := h5.2 ⟨rfl, hm⟩
          subst this
          simp [Value.ownBlock] at hg
        · have hx0 : xs.length = 0 := h0
          have hr2 := run_append_nil (P := P) w u ty et i (e.val e.zeroV) hut hi hz a ys.length cap news (by rw [hsz]; exact hl) hat (by omega) (by simp [maxLen] at h63; omega) (by rw [hby]; rw [hx0] at hbytes; simp at hbytes; omega)
          rw [hrun] at hr2
          cases hr2
          simp [Value.ownBlock] at hg
          omega
      · exact .inr (by omega)
    · by_cases hroom : xs.length + ys.length ≤ cap0
      · have hr2 := run_append_room (P := P) w u ty et i hut hi g0 xs.length cap0 cur hgh a ys.length cap news (by rw [hsz]; exact hl) hat hrd.one' hroom (by rw [hsz, hl, hcs, ← Nat.add_mul]; exact Nat.mul_le_mul_right _ hroom)
        rw [hrun] at hr2
        cases hr2
        exact .inl hg
      · have holds : ∀ j u, cells[j]? = some u → w.cell? ((⟨g0, 0, none⟩ : Addr).add j) = some u := hown.cells (g := g0) rfl
        have hr2 := run_append_grow (P := P) w u ty et i (e.val e.zeroV) hut hi hz ⟨g0, 0, none⟩ xs.length cap0 cells (by rw [hsz]; exact hown.1) holds a ys.length cap news (by rw [hsz]; exact hl) hat (by omega) (by simp [maxLen] at h63; omega)
          (growslice_fits (by omega) (by rw [hby]; exact hbytes))
        rw [hrun] at hr2
        cases hr2
        simp [Value.ownBlock] at hg
        exact .inr (by omega)
  · have hut' : u = t := by
      rcases hu with ⟨s, hs⟩ | hu
      · cases hs
      · exact hu
    subst hut'
    refine ⟨v, w, [], ?_, by simpa using hown, ⟨rfl, rfl, rfl, Nat.le_refl _, fun _ _ _ => rfl⟩, rfl, fun g hg => .inl hg⟩
    rcases hown.2 with ⟨rfl, h0⟩ | ⟨g0, cap0, cur, rfl, _, _, hnc, _⟩
    · simp [Builtin.append_, run_underlying hut, sizeOf, typeInfo, hi, Builtin.lenOf, Builtin.firstCells]
    · simp [Builtin.append_, run_underlying hut, sizeOf, typeInfo, hi, Builtin.lenOf, Builtin.firstCells, hnc, storeCells]
  · have hb1' := hb1 rfl ⟨_, rfl⟩
    have hz' : i.zero = some (.int .u8 0) := hz
    have hs1 : i.size = 1 := hsz
    have hss : (⟨⟨s⟩⟩ : ByteArray).size = s.length := rfl
    rw [bytesD_len] at hbytes h63 ⊢
    obtain ⟨v', w', hrun, h1, h2, h5⟩ := Lib.run_append_own_string (P := P) w base t u ty et i hut hus hi hz' hs1 (by rw [hby, hb1']) v xs.length cells hown ⟨⟨s⟩⟩ (by rw [hss]; exact h63) (by rw [hss]; rw [hb1'] at hbytes; omega) hbase
    refine ⟨v', w', Lib.strCells ⟨⟨s⟩⟩, hrun, h1, h2, RdL_bytes s, fun g hg => ?_⟩
    rcases hown.2 with ⟨rfl, h0⟩ | ⟨g0, cap0, cur, rfl, hbg, hgh, hnc, hcm, hcs, htake⟩
    · by_cases hlt : g < w.heap.size
      · exfalso
        by_cases hm : s.length = 0
        · have := h5.2 ⟨rfl, hm⟩
          subst this
          simp [Value.ownBlock] at hg
        · have hr2 := run_append_nil_string (P := P) w t u ty et i (.int .u8 0) hut hus hi hz' ⟨⟨s⟩⟩ (by rw [hss]; omega) (by rw [hss]; simp [maxLen] at h63; omega) (by rw [hss, hby, hb1']; rw [hb1'] at hbytes; omega)
          rw [hrun] at hr2
          cases hr2
          simp [Value.ownBlock] at hg
          omega
      · exact .inr (by omega)
    · by_cases hroom : xs.length + s.length ≤ cap0
      · have hr2 := Lib.run_append_room_string (P := P) w t u ty et i hut hus hi hs1 g0 xs.length cap0 cur hgh ⟨⟨s⟩⟩ hroom (by rw [hcs]; simp [Ty.n]; omega)
        rw [hrun] at hr2
        cases hr2
        exact .inl hg
      · have holds : ∀ j u, cells[j]? = some u → w.cell? ((⟨g0, 0, none⟩ : Addr).add j) = some u := hown.cells (g := g0) rfl
        have hr2 := Lib.run_append_grow_string (P := P) w t u ty et i (.int .u8 0) hut hus hi hz' ⟨g0, 0, none⟩ xs.length cap0 cells (by rw [hs1]; exact hown.1) holds ⟨⟨s⟩⟩ (by rw [hss]; omega) (by rw [hss]; simp [maxLen] at h63; omega)
          (growslice_fits (by rw [hss]; omega) (by rw [hss, hby]; exact hbytes))
        rw [hrun] at hr2
        cases hr2
        simp [Value.ownBlock] at hg
        exact .inr (by omega)

theorem appendE_ok {P : Program} {tt : TT} (ht : TTok P tt) (hr : HR P N E H w) (hN : N ≤ w.heap.size) {d t u : Nat} {ty : TypeId} {lk : Look} {s x : S1} {f : Eff} (h : appendE tt d lk t u s x = some f) (hc : ∀ c ∈ f.cs, c)
    (hlk : ∀ k ∈ s.hs ++ x.hs, lk.get k = H.get k) (hd : lk.get d = H.get d) {vs vx : Value} (hs : VR E H w s vs) (hx : VR E H w x vx) :
    ∃ v w', (Builtin.append_ #[t, u] ty #[vs, vx]).run P w = .ok v w' ∧ Good P N E H w f v w' := by
  unfold appendE at h
  split at h
  · rename_i et e bytes hg
    have hk := (ht _ _ hg).kind
    simp only at hk
    obtain ⟨hut, te', hge', hte'⟩ := hk
    injection hte' with hte'
    split at h
    · rename_i te ys hge hsrc0
      have hsrc := srcE_ok ht hr hsrc0 (fun k hk => hlk k (by simp [hk])) hx
      obtain rfl : te = te' := Option.some.inj (hge.symm.trans hge')
      split at h
      · rename_i hcond
        obtain ⟨hu, hb1, hb0⟩ := hcond
        have hbig : ∀ {n : Nat}, n * te.bytes ≤ 140737488355328 → n ≤ maxLen := fun {n} h => by
          have := Nat.le_trans (Nat.le_mul_of_pos_right n (Nat.pos_of_ne_zero hb0)) h
          simp only [maxLen]; omega
        have hu' : (∃ s, vx = .string s) ∨ u = t := by
          rcases hu with hu | hu
          · exact .inr hu
          · cases x <;> simp [isStr] at hu
            obtain ⟨rfl, _⟩ := vr_str hx
            exact .inl ⟨_, rfl⟩
        have hb1' : e = .int .u8 → (∃ s, vx = .string s) → te.bytes = 1 := fun _ ⟨s, hs⟩ => by
          rcases hb1 with hb1 | hb1
          · exact hb1
          · exfalso
            subst hs
            cases x <;> simp [isStr] at hb1 <;> try (cases hx; done)
            all_goals first
              | (obtain ⟨_, h⟩ := hx; cases h; done)
              | (obtain ⟨h, _⟩ := hx; cases h; done)
              | (obtain ⟨⟨_, _, _, h⟩, _⟩ := hx; cases h; done)
              | (obtain ⟨⟨_, h⟩, _⟩ := hx; cases h; done)
              | (obtain ⟨_, _, _, h, _⟩ := hx; simp at h; done)
              | (obtain ⟨_, _, h, _⟩ := hx; cases h; done)
              | (unfold srcE at hsrc0; simp [elems] at hsrc0; done)
        split at h
        · split at h
          · rename_i hdn
            split at h
            · cases h
            · rename_i he0
              cases h
              rw [hd] at hdn
              have hby := hc (lenI ys * te.bytes ≤ 140737488355328) (by simp)
              simp only [lenI] at hby
              have hby' : ys.length * te.bytes ≤ 140737488355328 := Int.ofNat_le.1 (by rw [Int.natCast_mul]; exact hby)
              have hown := World.ownsRow_nil w w.heap.size et e.n
              obtain ⟨v', w', news, hrun, h1, h2, h3, _⟩ := run_append_src (P := P) (ty := ty) (xs := []) (cells := []) ht hut hge hte'.symm he0 (Nat.le_refl _) hown hsrc hu' hb1' (by simpa using hby') (by simpa using hbig hby')
              rw [show vs = _ from hs]
              refine ⟨v', w', hrun, ?_⟩
              have hbl : Below w.heap.size w w' := (Below.refl _ w).grown h2 (Nat.le_refl _) (by simp [Value.ownBlock])
              simp only [List.length_nil, Nat.zero_add, List.nil_append] at h1
              exact newRowG hr hN hdn hbl h1 (h3.mono (fun _ h => h) (fun a ha => hbl.cell (hr.gin a ha)))
          · cases h
        · rename_i k k0
          split at h
          · rename_i ver et' e' xs hb
            split at h
            · rename_i hcond2
              obtain ⟨hkv, he, het, hnc, he0⟩ := hcond2
              subst he; subst het
              cases h
              rw [hlk k (by simp [S1.hs])] at hb
              have hs2 := hs.2
              simp only [hb] at hs2
              have hvs := hs2.2 hkv
              obtain ⟨cells, how, hrd, hbk⟩ := hr.row k _ _ _ _ hb
              have hby := hc ((lenI xs + lenI ys) * te.bytes ≤ 140737488355328) (by simp)
              simp only [lenI] at hby
              have hby' : (xs.length + ys.length) * te.bytes ≤ 140737488355328 := Int.ofNat_le.1 (by rw [Int.natCast_mul, Int.natCast_add]; exact hby)
              obtain ⟨v', w', news, hrun, h1, h2, h3, h4⟩ := run_append_src (P := P) (ty := ty) ht hut hge hte'.symm he0 hN how hsrc hu' hb1' hby' (hbig hby')
              rw [hvs]
              refine ⟨v', w', hrun, ?_⟩
              have hcell : ∀ a, E.G a → w'.cell? a = w.cell? a := fun a ha => World.cell?_of_block (h2.block a.block (hr.gin a ha) (fun e1 => by
                cases ho : (E.hd k).ownBlock with
                | none => rw [ho] at e1; cases e1
                | some g =>
                  rw [ho] at e1; cases e1
                  exact hr.gout a ha k (.inr ⟨ver, et, e, xs, hb, by rw [ho]; simp⟩) (hbk _ ho)))
              have hup := hr.rowUpd (w' := w') hb (ver + 1) v' (xcat xs ys) (by omega) (fun h => by omega) h2 h4
                ⟨cells ++ news, by rw [show (xcat xs ys).length = xs.length + ys.length by simp [xcat]]; exact h1, (hrd.mono (fun _ h => h) hcell).append (h3.mono (fun _ h => h) hcell)⟩
              refine ⟨_, hup.1, hup.2, (Below.refl N w).grown h2 hN (fun g hg => ?_), ?_⟩
              · rw [hbk g hg]
                exact Solid.ge hr (.inr ⟨ver, et, e, xs, hb, by rw [hg]; simp⟩)
              · refine ⟨?_, ?_⟩
                · rcases h1.2 with ⟨h5, _⟩ | ⟨_, _, _, h5, _⟩
                  · exact ⟨_, _, _, h5⟩
                  · exact ⟨_, _, _, h5⟩
                · simp only [putAll, Heap.get_put, if_true]
                  exact ⟨Nat.le_refl _, fun _ => (upd_same _ _ _).symm⟩
            · cases h
          · cases h
        · cases h
      · cases h
    · cases h
  · cases h

end
end Go.RX
