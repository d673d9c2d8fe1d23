/- Part of the proof of the laws of this seat: contracts of its functions, for every input. -/
import Derived.Test.YtjncolngfeglkaaWQ
import Derived.WalkKit
import Derived.LoopTactic
import Derived.Deep.RegionLaw
import Derived.Deep.AppendLies
import Derived.StillTailTactics
set_option linter.all false
namespace Go.Proofs.Ytjncolngfeglkaa
open Go Go.RX Go.Proofs Go.RowKit
set_option linter.all false
set_option maxRecDepth 1000000
set_option maxHeartbeats 400000
structure Keep (p : Prop) : Prop where
  out : p
/-- An append whose run is known. -/
theorem wpList_app (w : World) {ops : Array Oper} {rest : List Oper} {o : Oper} {a : Act} {Q : Exit → Act → World → Prop} (hgd : o.guard = none) (s x : Operand) (t t' : TypeId)
    (ho : o.op = .call { callee := .builtin .append, args := #[s, x], argTypes := #[t, t'] }) (v u : Value) (hs : a.eval s = v) (hx : a.eval x = u)
    (R : Value → World → Prop) (hr : ∃ v' w', (Builtin.append_ #[t, t'] o.type #[v, u]).run Try.prog w = .ok v' w' ∧ R v' w')
    (h : ∀ v' w', R v' w' → wpList Try.prog ops Q rest (a.put o.dst v') w') : wpList Try.prog ops Q (o :: rest) a w := by
  obtain ⟨v', w', hrun, hR⟩ := hr
  refine wpList_plain hgd fun _ hK => ?_
  refine wp_value (w' := w') (v := v') ?_ (hK _ _ (h v' w' hR))
  simp only [execOp, ho, resolve, invoke, builtin, Sem.run_bind, Sem.run_pure, Result.andThen_ok, List.map_toArray, List.map_cons, List.map_nil, hs, hx, hrun]
/-- An append onto a row of the call's own: where the new row lies. -/
theorem append_own2 {P : Program} (w : World) (base : Nat) (u ty et : TypeId) (i : TypeInfo) (z : Value) (size bytes : Nat) (hut : P.underlying u = some (.slice et)) (hi : P.info? et = some i) (hz : i.zero = some z) (hsz : i.size = size) (hby : i.bytes = bytes) (hzs : z.cells.size = size) (h0 : 0 < size)
    (v : Value) (n : Nat) (cells : List Value) (hown : w.ownsRow base et size v n cells) (a : Addr) (m cap : Nat) (news : List Value) (hl : news.length = m * size) (hat : ∀ j u, news[j]? = some u → w.cell? (a.add j) = some u) (h1 : ∀ u ∈ news, u.oneCell' = true)
    (h63 : n + m ≤ maxLen) (hbytes : (n + m) * bytes ≤ 140737488355328) (hbase : base ≤ w.heap.size) :
    ∃ v' w', (Builtin.append_ #[u, u] ty #[v, .slice (some a) m cap]).run P w = .ok v' w' ∧ w'.ownsRow base et size v' (n + m) (cells ++ news) ∧ w.grownBy w' v.ownBlock ∧ (∀ g, v'.ownBlock = some g → v.ownBlock = some g ∨ w.heap.size ≤ g) := by
  obtain ⟨v', w', hrun, hh1, hh2, hh5⟩ := run_append_own (P := P) w base u ty et i z size bytes hut hi hz hsz hby hzs h0 v n cells hown a m cap news hl hat h1 h63 hbytes hbase
  refine ⟨v', w', hrun, hh1, hh2, fun g hg => ?_⟩
  rcases hown.2 with ⟨rfl, hx⟩ | ⟨g0, cap0, cur, rfl, hbg, hgh, hnc, hcm, hcs, htake⟩
  · by_cases hlt : g < w.heap.size
    · exfalso
      by_cases hm : m = 0
      · have := hh5.2 ⟨rfl, hm⟩
        subst this
        simp [Value.ownBlock] at hg
      · have hr2 := run_append_nil (P := P) w u ty et i z hut hi hz a m cap news (by rw [hsz]; exact hl) hat (by omega) (by simp [maxLen] at h63; omega) (by rw [hby]; rw [hx] at hbytes; simp at hbytes; omega)
        rw [hrun] at hr2
        cases hr2
        simp [Value.ownBlock] at hg
        omega
    · exact .inr (by omega)
  · by_cases hroom : n + m ≤ cap0
    · have hr2 := run_append_room (P := P) w u ty et i hut hi g0 n cap0 cur hgh a m cap news (by rw [hsz]; exact hl) hat h1 hroom (by rw [hsz, hl, hcs, ← Nat.add_mul]; exact Nat.mul_le_mul_right _ hroom)
      rw [hrun] at hr2
      cases hr2
      exact .inl hg
    · have holds : ∀ j u, cells[j]? = some u → w.cell? ((⟨g0, 0, none⟩ : Addr).add j) = some u := hown.cells (g := g0) rfl
      have hr2 := run_append_grow (P := P) w u ty et i z hut hi hz ⟨g0, 0, none⟩ n cap0 cells (by rw [hsz]; exact hown.1) holds a m cap news (by rw [hsz]; exact hl) hat (by omega) (by simp [maxLen] at h63; omega)
        (growslice_fits (by omega) (by rw [hby]; exact hbytes))
      rw [hrun] at hr2
      cases hr2
      simp [Value.ownBlock] at hg
      exact .inr (by omega)
theorem ownsRow_keep {w w' : World} {base e size n : Nat} {v : Value} {xs : List Value} (h : w.ownsRow base e size v n xs) (hk : ∀ g, v.ownBlock = some g → w'.heap[g]? = w.heap[g]?) : w'.ownsRow base e size v n xs := by
  refine ⟨h.1, ?_⟩
  rcases h.2 with h1 | ⟨g, cap, cur, h1, h2, h3, h4⟩
  · exact .inl h1
  · exact .inr ⟨g, cap, cur, h1, h2, by rw [hk g (by rw [h1]; rfl)]; exact h3, h4⟩
/-- What below hands back. -/
theorem ret33 {R : Ending → World → Prop} {a : Act} {w : World} {b : Nat} {x y : Value} (h8 : a.tmps.getD 8 undef = .pointer (some ⟨b, 0, none⟩)) (hd : a.defers = []) (hb : w.heap[b]? = some (.cells #[x, y] 59 (0, 0))) (hR : R (.returned (.agg #[x, y])) w) : bodyPost Try.prog Try.f33 R .ret a w :=
  bodyPost_ret (results_cell_row (P := Try.prog) rfl _ _ b 59 #[x, y] (0, 0) _ h8 hb Try.underlying59 rfl (by kernel_rfl)) hd hR
theorem two_set {w : World} {b : Nat} {x0 y0 x y : Value} (hb : w.heap[b]? = some (.cells #[x0, y0] 59 (0, 0))) : ((w.setCell ⟨b, 0, none⟩ x).setCell ⟨b, 1, none⟩ y).heap[b]? = some (.cells #[x, y] 59 (0, 0)) := by
  have h1 := heap_setCell_same w b 0 #[x0, y0] 59 x hb
  exact heap_setCell_same _ b 1 _ 59 y h1
theorem grown_trans {a b c : World} {r r' : Option Nat} (h : a.grownBy b r) (k : b.grownBy c r') (hr : ∀ j, r' = some j → r = some j ∨ a.heap.size ≤ j) : a.grownBy c r :=
  ⟨k.os.trans h.os, k.tape.trans h.tape, k.output.trans h.output, Nat.le_trans h.size k.size, fun i hi hne => (k.block i (Nat.lt_of_lt_of_le hi h.size) (fun e => by
    rcases hr i e.symm with h1 | h1
    · exact hne h1.symm
    · omega)).trans (h.block i hi hne)⟩
theorem grown_set {a b : World} {r : Option Nat} (h : a.grownBy b r) {p : Addr} (hp : a.heap.size ≤ p.block) (v : Value) : a.grownBy (b.setCell p v) r :=
  ⟨h.os, h.tape, h.output, by simpa [World.setCell] using h.size, fun i hi hne => (Below.heap_setCell b p v i (by omega)).trans (h.block i hi hne)⟩
theorem grown_alloc {a b : World} {r : Option Nat} (h : a.grownBy b r) (o : Obj) : a.grownBy (b.alloc o) r :=
  grown_trans h (World.grownBy_alloc b o none) fun j h => by cases h
theorem grown_drew {a b : World} {r : Option Nat} (h : a.grownBy b r) : a.grownBy b.drew r := ⟨h.os, h.tape, h.output, h.size, h.block⟩
theorem grown_refl (a : World) (r : Option Nat) : a.grownBy a r := ⟨rfl, rfl, rfl, Nat.le_refl _, fun _ _ _ => rfl⟩
def belN (X Y : List D) : Nat → Nat → List Nat
  | 0, k => if ei (levT X 0) k = ei (levT Y 0) k then [] else [k]
  | t + 1, k => if (levT X t).length ≤ 2 * k + 1 then belN X Y t (2 * k) else if ei (levT X (t + 1)) k = ei (levT Y (t + 1)) k then [] else belN X Y t (2 * k) ++ belN X Y t (2 * k + 1)
def belC (X Y : List D) : Nat → Nat → Nat
  | 0, _ => 1
  | t + 1, k => if (levT X t).length ≤ 2 * k + 1 then belC X Y t (2 * k) else if ei (levT X (t + 1)) k = ei (levT Y (t + 1)) k then 1 else 1 + belC X Y t (2 * k) + belC X Y t (2 * k + 1)
/-- The levels of a tree in memory. -/
structure Lev (B : Nat) (w0 : World) (aa : Addr) (P : Nat → Addr) (C : Nat → Nat) (X : List D) (T : Nat) : Prop where
  blk : aa.block < B
  cell : ∀ h, h ≤ T → w0.cell? (aa.add h) = some (.slice (some (P h)) (levT X h).length (C h))
  pb : ∀ h, h ≤ T → (P h).block < B
  val : ∀ h i, h ≤ T → i < (levT X h).length → w0.cell? ((P h).add i) = some (.int .u64 (ei (levT X h) i))
theorem addr_block (a : Addr) (j : Nat) : (a.add j).block = a.block := by unfold Addr.add; split <;> rfl
/-- What below leaves: the list has grown; nothing else has changed. -/
def Res33 (B : Nat) (X Y : List D) (t k n : Nat) (cells : List Value) (N : Int) (own : Option Nat) (w : World) (e : Ending) (w' : World) : Prop :=
  ∃ pa pn pc, e = .returned (.agg #[.slice pa pn pc, .int .i64 (N + belC X Y t k)]) ∧ w'.ownsRow B 3 1 (.slice pa pn pc) (n + (belN X Y t k).length) (cells ++ (belN X Y t k).map fun (i : Nat) => Value.int .i64 (i : Int)) ∧ w.grownBy w' own ∧ (∀ g, (Value.slice pa pn pc).ownBlock = some g → own = some g ∨ w.heap.size ≤ g)
theorem walk33_0 (B : Nat) (w0 : World) (aa bb : Addr) (PA PB : Nat → Addr) (CA CB : Nat → Nat) (X Y : List D) (T : Nat) (hA : Lev B w0 aa PA CA X T) (hB : Lev B w0 bb PB CB Y T) (ca cb k n : Nat) (hk : k < (levT X 0).length) (hy : (levT Y 0).length = (levT X 0).length) (hk9 : k ≤ 1000000)
    (w : World) (pa : Option Addr) (pn pc : Nat) (cells : List Value) (N : Int) (hb : Below B w0 w) (hBw : B ≤ w.heap.size) (ho : w.ownsRow B 3 1 (.slice pa pn pc) n cells) (hn : n ≤ 1000000) (hN : 0 ≤ N ∧ N ≤ 1000000000) :
    Calls Try.prog 33 #[.slice (some aa) 1 ca, .slice (some bb) 1 cb, .int .i64 (k : Int), .agg #[.slice pa pn pc, .int .i64 N]] w (Res33 B X Y 0 k n cells N (Value.slice pa pn pc).ownBlock w) := by
  obtain ⟨W, hW⟩ : ∃ W, W = ((w.alloc (.cells #[.slice pa pn pc, .int .i64 (N + 1)] 59 (0, 0))).alloc (.cells #[.slice none 0 0, .int .i64 0] 59 (0, 0))).drew := ⟨_, rfl⟩
  have hbW : Below B w0 W := by rw [hW]; exact ((hb.alloc hBw _).alloc (by simp; omega) _).drew
  have a0 := (hbW.cell (p := aa.add 0) (by rw [addr_block]; exact hA.blk)).trans (hA.cell 0 (Nat.zero_le _))
  have b0 := (hbW.cell (p := bb.add 0) (by rw [addr_block]; exact hB.blk)).trans (hB.cell 0 (Nat.zero_le _))
  have a1 := (hbW.cell (p := (PA 0).add k) (by rw [addr_block]; exact hA.pb 0 (Nat.zero_le _))).trans (hA.val 0 k (Nat.zero_le _) hk)
  have b1 := (hbW.cell (p := (PB 0).add k) (by rw [addr_block]; exact hB.pb 0 (Nat.zero_le _))).trans (hB.val 0 k (Nat.zero_le _) (by omega))
  rw [Addr.add_zero'] at a0 b0
  have kz : (k : Int) < ((levT X 0).length : Int) := by omega
  have ky : (k : Int) < ((levT Y 0).length : Int) := by omega
  rw [hW] at a0 b0 a1 b1
  have KK : Keep (w.ownsRow B 3 1 (.slice pa pn pc) n cells ∧ B ≤ w.heap.size ∧ n ≤ 1000000) := ⟨ho, hBw, hn⟩
  clear ho hBw hn hA hB hW hbW hb hk hy hk9
  by_cases hq : ei (levT X 0) k = ei (levT Y 0) k
  · rw [hq] at a1
    go_enter Try.func33, Try.ntmps33
    go_wp2
    go_region
    go_wp2
    obtain ⟨ho, hBw, hn⟩ := KK.out
    have hlt : ∀ g, (Value.slice pa pn pc).ownBlock = some g → g < w.heap.size := fun g hg => (ho.lt g hg).2
    refine ret33 (b := w.heap.size + 1) (x := .slice pa pn pc) (y := .int .i64 (N + 1)) rfl rfl ?_ ?_
    · have := heap_alloc_new (w.alloc (.cells #[.slice pa pn pc, .int .i64 (N + 1)] 59 (0, 0))) (.cells #[.slice pa pn pc, .int .i64 (N + 1)] 59 (0, 0))
      simpa [World.drew] using this
    · have e1 : belN X Y 0 k = [] := if_pos hq
      refine ⟨pa, pn, pc, rfl, ?_, grown_drew (grown_alloc (grown_alloc (grown_refl _ _) _) _), fun g hg => .inl hg⟩
      rw [e1]
      show World.ownsRow _ B 3 1 (.slice pa pn pc) n (cells ++ [])
      rw [List.append_nil]
      exact ownsRow_keep ho fun g hg => by
        have := hlt g hg
        show ((w.alloc _).alloc _).heap[g]? = _
        rw [heap_alloc_old _ _ (by simp; omega), heap_alloc_old _ _ this]
  · obtain ⟨W2, hW2⟩ : ∃ W2, W2 = ((w.alloc (.cells #[.slice pa pn pc, .int .i64 (N + 1)] 59 (0, 0))).alloc (.cells #[.slice none 0 0, .int .i64 0] 59 (0, 0))).drew.alloc (.cells #[.int .i64 (k : Int)] 3 (0, 0)) := ⟨_, rfl⟩
    have hpost : ∃ v' w', (Builtin.append_ #[41, 41] 41 #[.slice pa pn pc, .slice (some ⟨w.heap.size + 2, 0, none⟩) 1 1]).run Try.prog W2 = .ok v' w' ∧ ∃ qa qn qc, v' = .slice qa qn qc ∧ w'.cell? ⟨w.heap.size, 0, none⟩ = some (.slice pa pn pc) ∧ w'.cell? ⟨w.heap.size, 1, none⟩ = some (.int .i64 (N + 1)) ∧ w'.frozen? ⟨w.heap.size, 0, none⟩ = false ∧
        w'.cell? ⟨w.heap.size + 1, 0, none⟩ = some (.slice none 0 0) ∧ w'.cell? ⟨w.heap.size + 1, 1, none⟩ = some (.int .i64 0) ∧ w'.frozen? ⟨w.heap.size + 1, 0, none⟩ = false ∧ w'.frozen? ⟨w.heap.size + 1, 1, none⟩ = false ∧
        Keep (w'.heap[w.heap.size + 1]? = some (.cells #[.slice none 0 0, .int .i64 0] 59 (0, 0)) ∧ w'.ownsRow B 3 1 (.slice qa qn qc) (n + 1) (cells ++ [.int .i64 (k : Int)]) ∧ w.grownBy w' (Value.slice pa pn pc).ownBlock ∧ w.heap.size + 2 ≤ w'.heap.size ∧ ∀ g, (Value.slice qa qn qc).ownBlock = some g → ((Value.slice pa pn pc).ownBlock = some g ∨ w.heap.size + 2 < g)) := by
      obtain ⟨ho, hBw, hn⟩ := KK.out
      have hlt : ∀ g, (Value.slice pa pn pc).ownBlock = some g → g < w.heap.size := fun g hg => (ho.lt g hg).2
      have hs2 : W2.heap.size = w.heap.size + 3 := by rw [hW2]; simp [World.drew]
      have h2o : ∀ g, g < w.heap.size → W2.heap[g]? = w.heap[g]? := fun g hg => by
        rw [hW2, heap_alloc_old _ _ (by simp [World.drew]; omega)]
        show ((w.alloc _).alloc _).heap[g]? = _
        rw [heap_alloc_old _ _ (by simp; omega), heap_alloc_old _ _ hg]
      have h7 : W2.heap[w.heap.size]? = some (.cells #[.slice pa pn pc, .int .i64 (N + 1)] 59 (0, 0)) := by
        rw [hW2, heap_alloc_old _ _ (by simp [World.drew]; omega)]
        show ((w.alloc _).alloc _).heap[w.heap.size]? = _
        rw [heap_alloc_old _ _ (by simp), heap_alloc_new]
      have h8 : W2.heap[w.heap.size + 1]? = some (.cells #[.slice none 0 0, .int .i64 0] 59 (0, 0)) := by
        rw [hW2, heap_alloc_old _ _ (by simp [World.drew])]
        have := heap_alloc_new (w.alloc (.cells #[.slice pa pn pc, .int .i64 (N + 1)] 59 (0, 0))) (.cells #[.slice none 0 0, .int .i64 0] 59 (0, 0))
        simpa [World.drew] using this
      have h9 : W2.heap[w.heap.size + 2]? = some (.cells #[.int .i64 (k : Int)] 3 (0, 0)) := by
        have := heap_alloc_new ((w.alloc (.cells #[.slice pa pn pc, .int .i64 (N + 1)] 59 (0, 0))).alloc (.cells #[.slice none 0 0, .int .i64 0] 59 (0, 0))).drew (.cells #[.int .i64 (k : Int)] 3 (0, 0))
        rw [hW2]
        simpa [World.drew] using this
      obtain ⟨i, hi, hsz, hby, hz⟩ := info_of tt_ok (t := 3) (ti := ⟨.int .i64, i64, 8⟩) (by kernel_rfl)
      obtain ⟨v', w', hrun, g1, g2, g3⟩ := append_own2 (P := Try.prog) W2 B 41 41 3 i (i64.val i64.zeroV) 1 8 Try.underlying41 hi hz hsz hby (by rfl) (by decide) (.slice pa pn pc) n cells (ownsRow_keep ho fun g hg => h2o g (hlt g hg)) ⟨w.heap.size + 2, 0, none⟩ 1 1 [.int .i64 (k : Int)] rfl
        (fun j u hj => by
          have hj0 : j = 0 := by
            cases j with
            | zero => rfl
            | succ j => simp at hj
          subst hj0
          simp only [List.getElem?_cons_zero, Option.some.injEq] at hj
          subst hj
          rw [Addr.add_zero']
          simp [World.cell?, h9])
        (fun u hu => by rw [List.mem_singleton.1 hu]; rfl)
        (by unfold maxLen; omega) (by omega) (by omega)
      obtain ⟨qa, qn, qc, rfl⟩ : ∃ a m c, v' = .slice a m c := by
        rcases g1.2 with ⟨e, _⟩ | ⟨_, _, _, e, _⟩
        · exact ⟨_, _, _, e⟩
        · exact ⟨_, _, _, e⟩
      have no : ∀ b, w.heap.size ≤ b → ¬ some b = (Value.slice pa pn pc).ownBlock := fun b hb e => by have := hlt b e.symm; omega
      have k7 : w'.heap[w.heap.size]? = some (.cells #[.slice pa pn pc, .int .i64 (N + 1)] 59 (0, 0)) := by rw [g2.block _ (by omega) (no _ (by omega))]; exact h7
      have k8 : w'.heap[w.heap.size + 1]? = some (.cells #[.slice none 0 0, .int .i64 0] 59 (0, 0)) := by rw [g2.block _ (by omega) (no _ (by omega))]; exact h8
      have gW : w.grownBy W2 (Value.slice pa pn pc).ownBlock := by rw [hW2]; exact grown_alloc (grown_drew (grown_alloc (grown_alloc (grown_refl _ _) _) _)) _
      refine ⟨_, w', hrun, qa, qn, qc, rfl, by simp [World.cell?, k7], by simp [World.cell?, k7], by simp [World.frozen?, k7], by simp [World.cell?, k8], by simp [World.cell?, k8], by simp [World.frozen?, k8], by simp [World.frozen?, k8], ⟨k8, g1, grown_trans gW g2 fun j h => .inl h, by have := g2.size; omega, fun g hg => (g3 g hg).imp id fun h => by omega⟩⟩
    rw [hW2] at hpost
    have KL : Keep (∀ g, (Value.slice pa pn pc).ownBlock = some g → g < w.heap.size) := ⟨fun g hg => (KK.out.1.lt g hg).2⟩
    clear hW2 KK
    go_enter Try.func33, Try.ntmps33
    go_wp2
    go_region
    go_wp2_with (at_builtin; refine wpList_app _ rfl (.tmp 60) (.tmp 62) 41 41 rfl (.slice pa pn pc) (.slice (some ⟨w.heap.size + 2, 0, none⟩) 1 1) rfl rfl _ hpost ?_; rintro v' w' ⟨qa, qn, qc, rfl, c70, c71, f70, c80, c81, f80, f81, hK⟩; clear hpost)
    obtain ⟨k8, g1, gw, hsz, gq⟩ := hK.out
    refine ret33 (b := w.heap.size + 1) (x := .slice qa qn qc) (y := .int .i64 (N + 1)) rfl rfl (two_set (x0 := .slice none 0 0) (y0 := .int .i64 0) ?_) ?_
    · rw [Below.heap_setCell _ _ _ _ (by simp)]; exact k8
    · have e1 : belN X Y 0 k = [k] := if_neg hq
      refine ⟨qa, qn, qc, rfl, ?_, grown_set (grown_set (grown_set gw (by simp) _) (by simp) _) (by simp) _, fun g hg => (gq g hg).imp id fun h => by omega⟩
      rw [e1]
      exact ownsRow_keep g1 fun g hg => by
        have hne : g ≠ w.heap.size ∧ g ≠ w.heap.size + 1 := by
          rcases gq g hg with h | h
          · have := KL.out g h; omega
          · omega
        rw [Below.heap_setCell _ _ _ _ (by simpa using hne.2), Below.heap_setCell _ _ _ _ (by simpa using hne.2), Below.heap_setCell _ _ _ _ (by simpa using hne.1)]
/-- What a call of below leaves, as the walk wants it. -/
theorem pack33 {B : Nat} {X Y : List D} {t k n : Nat} {cells : List Value} {N : Int} {own : Option Nat} {w W w1 : World} {e : Ending} {x7 y7 x8 y8 : Value} (h : Res33 B X Y t k n cells N own W e w1)
    (b7 : W.heap[w.heap.size]? = some (.cells #[x7, y7] 59 (0, 0))) (b8 : W.heap[w.heap.size + 1]? = some (.cells #[x8, y8] 59 (0, 0))) (hown : ∀ g, own = some g → g ≠ w.heap.size ∧ g ≠ w.heap.size + 1) (hs : w.heap.size + 2 ≤ W.heap.size) :
    ∃ qa qn qc, e = .returned (.agg #[.slice qa qn qc, .int .i64 (N + belC X Y t k)]) ∧ w1.cell? ⟨w.heap.size, 0, none⟩ = some x7 ∧ w1.cell? ⟨w.heap.size, 1, none⟩ = some y7 ∧ w1.frozen? ⟨w.heap.size, 0, none⟩ = false ∧ w1.frozen? ⟨w.heap.size, 1, none⟩ = false ∧
      w1.cell? ⟨w.heap.size + 1, 0, none⟩ = some x8 ∧ w1.cell? ⟨w.heap.size + 1, 1, none⟩ = some y8 ∧ w1.frozen? ⟨w.heap.size + 1, 0, none⟩ = false ∧ w1.frozen? ⟨w.heap.size + 1, 1, none⟩ = false ∧
      Keep (w1.heap[w.heap.size]? = some (.cells #[x7, y7] 59 (0, 0)) ∧ w1.heap[w.heap.size + 1]? = some (.cells #[x8, y8] 59 (0, 0)) ∧ w1.ownsRow B 3 1 (.slice qa qn qc) (n + (belN X Y t k).length) (cells ++ (belN X Y t k).map fun (i : Nat) => Value.int .i64 (i : Int)) ∧ W.grownBy w1 own ∧
        (∀ g, (Value.slice qa qn qc).ownBlock = some g → own = some g ∨ w.heap.size + 2 ≤ g) ∧ w.heap.size + 2 ≤ w1.heap.size) := by
  obtain ⟨qa, qn, qc, rfl, g1, g2, g3⟩ := h
  have k7 : w1.heap[w.heap.size]? = some (.cells #[x7, y7] 59 (0, 0)) := by rw [g2.block _ (by omega) (fun e => (hown _ e.symm).1 rfl)]; exact b7
  have k8 : w1.heap[w.heap.size + 1]? = some (.cells #[x8, y8] 59 (0, 0)) := by rw [g2.block _ (by omega) (fun e => (hown _ e.symm).2 rfl)]; exact b8
  exact ⟨qa, qn, qc, rfl, by simp [World.cell?, k7], by simp [World.cell?, k7], by simp [World.frozen?, k7], by simp [World.frozen?, k7], by simp [World.cell?, k8], by simp [World.cell?, k8], by simp [World.frozen?, k8], by simp [World.frozen?, k8],
    ⟨k7, k8, g1, g2, fun g hg => (g3 g hg).imp id fun h => by omega, by have := g2.size; omega⟩⟩
theorem walk33 (B : Nat) (w0 : World) (aa bb : Addr) (PA PB : Nat → Addr) (CA CB : Nat → Nat) (X Y : List D) (T : Nat) (hA : Lev B w0 aa PA CA X T) (hB : Lev B w0 bb PB CB Y T)
    (hlen : ∀ h, h ≤ T → (levT Y h).length = (levT X h).length) (hup : ∀ h, h < T → (levT X (h + 1)).length = ((levT X h).length + 1) / 2) (h0 : (levT X 0).length ≤ 1000000) (hmax : ∀ h, h ≤ T → (levT X h).length ≤ 1000000) (hT : T ≤ 1000000) :
    ∀ t, t ≤ T → ∀ (ca cb k n : Nat), t + 1 ≤ ca → t + 1 ≤ cb → k < (levT X t).length → ∀ (w : World) (pa : Option Addr) (pn pc : Nat) (cells : List Value) (N : Int), Below B w0 w → B ≤ w.heap.size → w.ownsRow B 3 1 (.slice pa pn pc) n cells → n + (belN X Y t k).length ≤ 1000000 → 0 ≤ N → N + belC X Y t k ≤ 1000000000 →
    Calls Try.prog 33 #[.slice (some aa) (t + 1) ca, .slice (some bb) (t + 1) cb, .int .i64 (k : Int), .agg #[.slice pa pn pc, .int .i64 N]] w (Res33 B X Y t k n cells N (Value.slice pa pn pc).ownBlock w) := by
  intro t
  induction t with
  | zero =>
    intro ht ca cb k n hca hcb hk w pa pn pc cells N hb hBw ho hn hN hNC
    have := hmax 0 ht
    exact walk33_0 B w0 aa bb PA PB CA CB X Y T hA hB ca cb k n hk (hlen 0 ht) (by omega) w pa pn pc cells N hb hBw ho (by omega) ⟨hN, by omega⟩
  | succ t ih =>
    intro ht ca cb k n hca hcb hk w pa pn pc cells N hb hBw ho hn hN hNC
    have hu := hup t (by omega)
    have hl := hlen t (by omega)
    have hl1 := hlen (t + 1) ht
    have hm := hmax t (by omega)
    have a0 := (hb.cell (p := aa.add t) (by rw [addr_block]; exact hA.blk)).trans (hA.cell t (by omega))
    have tz : (t : Int) < ((t + 1 + 1 : Nat) : Int) := by omega
    by_cases hc : (levT X t).length ≤ 2 * k + 1
    · have eN : belN X Y (t + 1) k = belN X Y t (2 * k) := if_pos hc
      have eC : belC X Y (t + 1) k = belC X Y t (2 * k) := if_pos hc
      rw [eN] at hn
      rw [eC] at hNC
      have hcz : ((levT X t).length : Int) ≤ 2 * (k : Int) + 1 := by omega
      obtain ⟨W, hW⟩ : ∃ W, W = ((w.alloc (.cells #[.slice pa pn pc, .int .i64 N] 59 (0, 0))).alloc (.cells #[.slice none 0 0, .int .i64 0] 59 (0, 0))) := ⟨_, rfl⟩
      have hlt : ∀ g, (Value.slice pa pn pc).ownBlock = some g → g < w.heap.size := fun g hg => (ho.lt g hg).2
      have hbW : Below B w0 W := by rw [hW]; exact (hb.alloc hBw _).alloc (by simp; omega) _
      have hWs : W.heap.size = w.heap.size + 2 := by rw [hW]; simp
      have hWo : ∀ g, g < w.heap.size → W.heap[g]? = w.heap[g]? := fun g hg => by rw [hW, heap_alloc_old _ _ (by simp; omega), heap_alloc_old _ _ hg]
      have h8 : W.heap[w.heap.size + 1]? = some (.cells #[.slice none 0 0, .int .i64 0] 59 (0, 0)) := by
        have := heap_alloc_new (w.alloc (.cells #[.slice pa pn pc, .int .i64 N] 59 (0, 0))) (.cells #[.slice none 0 0, .int .i64 0] 59 (0, 0))
        rw [hW]; simpa using this
      have h7 : W.heap[w.heap.size]? = some (.cells #[.slice pa pn pc, .int .i64 N] 59 (0, 0)) := by rw [hW, heap_alloc_old _ _ (by simp), heap_alloc_new]
      have a0 := (hbW.cell (p := aa.add t) (by rw [addr_block]; exact hA.blk)).trans (hA.cell t (by omega))
      have hcall0 := ih (by omega) ca cb (2 * k) n (by omega) (by omega) (by omega) W.drew pa pn pc cells N hbW.drew (by show B ≤ W.heap.size; omega) (ownsRow_keep ho fun g hg => hWo g (hlt g hg)) hn hN hNC
      rw [show ((2 * k : Nat) : Int) = 2 * (k : Int) by omega] at hcall0
      have hcall := hcall0.mono fun e w1 h => pack33 h (w := w) h7 h8 (fun g hg => by have := hlt g hg; omega) (by show _ ≤ W.heap.size; omega)
      clear hcall0 h7
      have KK : Keep ((∀ g, (Value.slice pa pn pc).ownBlock = some g → g < w.heap.size) ∧ w.grownBy W.drew (Value.slice pa pn pc).ownBlock) := ⟨hlt, by rw [hW]; exact grown_drew (grown_alloc (grown_alloc (grown_refl _ _) _) _)⟩
      rw [hW] at a0 hcall KK
      have kb : (k : Int) ≤ 1000000 := by omega
      have caz : (t : Int) + 1 ≤ (ca : Int) := by omega
      have cbz : (t : Int) + 1 ≤ (cb : Int) := by omega
      have tz0 : 0 ≤ (t : Int) + 1 := by omega
      have tb : (t : Int) ≤ 1000000 := by omega
      have nb : N ≤ 1000000000 := by omega
      clear hW ih hb hA hB hlen hup h0 hmax ho hn hNC hbW hWs hWo h8 hlt hu hl hl1 hm hk hc hT hBw
      go_enter Try.func33, Try.ntmps33
      go_wp2
      refine wp_region_still_tail 9 (by kernel_rfl) (by kernel_rfl) ?_
      simp only [List.take_succ_cons, List.take_zero, List.drop_succ_cons, List.drop_zero]
      change wpStill _ _ (World.drew _) _ _ _
      repeat still_step
      refine wpStill_nil ?_
      go_wp2_with (go_at_call 33; refine hcall.mono ?_; rintro e w1 ⟨qa, qn, qc, rfl, c70, c71, f70, f71, c80, c81, f80, f81, hK⟩; clear hcall)
      obtain ⟨k7, k8, g1, g2, g3, hs1⟩ := hK.out
      refine ret33 (b := w.heap.size + 1) (x := .slice qa qn qc) (y := .int .i64 (N + belC X Y t (2 * k))) rfl rfl (two_set k8) ?_
      refine ⟨qa, qn, qc, by rw [eC], ?_, grown_set (grown_set (grown_trans KK.out.2 g2 fun j h => .inl h) (by simp) _) (by simp) _, fun g hg => (g3 g hg).imp id fun h => by omega⟩
      rw [eN]
      exact ownsRow_keep g1 fun g hg => by
        have hne : g ≠ w.heap.size + 1 := by
          rcases g3 g hg with h | h
          · have := KK.out.1 g h; omega
          · omega
        rw [Below.heap_setCell _ _ _ _ (by simpa using hne), Below.heap_setCell _ _ _ _ (by simpa using hne)]
    · have hcz : 2 * (k : Int) + 1 < ((levT X t).length : Int) := by omega
      obtain ⟨W, hW⟩ : ∃ W, W = ((w.alloc (.cells #[.slice pa pn pc, .int .i64 (N + 1)] 59 (0, 0))).alloc (.cells #[.slice none 0 0, .int .i64 0] 59 (0, 0))) := ⟨_, rfl⟩
      obtain ⟨W', hW'⟩ : ∃ W', W' = ((w.alloc (.cells #[.slice pa pn pc, .int .i64 N] 59 (0, 0))).alloc (.cells #[.slice none 0 0, .int .i64 0] 59 (0, 0))) := ⟨_, rfl⟩
      have hlt : ∀ g, (Value.slice pa pn pc).ownBlock = some g → g < w.heap.size := fun g hg => (ho.lt g hg).2
      have hbW : Below B w0 W := by rw [hW]; exact (hb.alloc hBw _).alloc (by simp; omega) _
      have hbW' : Below B w0 W' := by rw [hW']; exact (hb.alloc hBw _).alloc (by simp; omega) _
      have hWs : W.heap.size = w.heap.size + 2 := by rw [hW]; simp
      have hWo : ∀ g, g < w.heap.size → W.heap[g]? = w.heap[g]? := fun g hg => by rw [hW, heap_alloc_old _ _ (by simp; omega), heap_alloc_old _ _ hg]
      have h7 : W.heap[w.heap.size]? = some (.cells #[.slice pa pn pc, .int .i64 (N + 1)] 59 (0, 0)) := by rw [hW, heap_alloc_old _ _ (by simp), heap_alloc_new]
      have h8 : W.heap[w.heap.size + 1]? = some (.cells #[.slice none 0 0, .int .i64 0] 59 (0, 0)) := by
        have := heap_alloc_new (w.alloc (.cells #[.slice pa pn pc, .int .i64 (N + 1)] 59 (0, 0))) (.cells #[.slice none 0 0, .int .i64 0] 59 (0, 0))
        rw [hW]; simpa using this
      have a0 := (hbW'.cell (p := aa.add t) (by rw [addr_block]; exact hA.blk)).trans (hA.cell t (by omega))
      have a1 : W.drew.cell? ⟨aa.block, aa.off + (t + 1), none⟩ = some (.slice (some (PA (t + 1))) (levT X (t + 1)).length (CA (t + 1))) := (hbW.drew.cell (p := aa.add (t + 1)) (by rw [addr_block]; exact hA.blk)).trans (hA.cell (t + 1) ht)
      have a2 := (hbW.drew.cell (p := (PA (t + 1)).add k) (by rw [addr_block]; exact hA.pb (t + 1) ht)).trans (hA.val (t + 1) k ht hk)
      have b1 : W.drew.cell? ⟨bb.block, bb.off + (t + 1), none⟩ = some (.slice (some (PB (t + 1))) (levT Y (t + 1)).length (CB (t + 1))) := (hbW.drew.cell (p := bb.add (t + 1)) (by rw [addr_block]; exact hB.blk)).trans (hB.cell (t + 1) ht)
      have b2 := (hbW.drew.cell (p := (PB (t + 1)).add k) (by rw [addr_block]; exact hB.pb (t + 1) ht)).trans (hB.val (t + 1) k ht (by omega))
      have kb : (k : Int) ≤ 1000000 := by omega
      have tb : (t : Int) ≤ 1000000 := by omega
      have nb : N ≤ 1000000000 := by omega
      have caz : (t : Int) + 1 ≤ (ca : Int) := by omega
      have cbz : (t : Int) + 1 ≤ (cb : Int) := by omega
      have tz0 : 0 ≤ (t : Int) + 1 := by omega
      have tz1 : (t : Int) + 1 < ((t + 1 + 1 : Nat) : Int) := by omega
      have tz2 : ¬ (t : Int) + 1 = 0 := by omega
      have kx : (k : Int) < ((levT X (t + 1)).length : Int) := by omega
      have ky : (k : Int) < ((levT Y (t + 1)).length : Int) := by omega
      by_cases hq : ei (levT X (t + 1)) k = ei (levT Y (t + 1)) k
      · have eN : belN X Y (t + 1) k = [] := (if_neg hc).trans (if_pos hq)
        have eC : belC X Y (t + 1) k = 1 := (if_neg hc).trans (if_pos hq)
        have KE : Keep (w.ownsRow B 3 1 (.slice pa pn pc) n cells ∧ ∀ g, (Value.slice pa pn pc).ownBlock = some g → g < w.heap.size) := ⟨ho, hlt⟩
        rw [hq] at a2
        rw [hW'] at a0
        rw [hW] at a1 a2 b1 b2
        clear hW hW' ih hb hA hB hlen hup h0 hmax ho hn hNC hbW hbW' hWs hWo h8 h7 hlt hu hl hl1 hm hk hc hT hBw
        go_enter Try.func33, Try.ntmps33
        go_wp2
        go_region
        go_wp2
        obtain ⟨ho, hlt⟩ := KE.out
        refine ret33 (b := w.heap.size + 1) (x := .slice pa pn pc) (y := .int .i64 (N + 1)) rfl rfl ?_ ?_
        · have := heap_alloc_new (w.alloc (.cells #[.slice pa pn pc, .int .i64 (N + 1)] 59 (0, 0))) (.cells #[.slice pa pn pc, .int .i64 (N + 1)] 59 (0, 0))
          simpa [World.drew] using this
        · refine ⟨pa, pn, pc, by rw [eC]; rfl, ?_, grown_drew (grown_alloc (grown_alloc (grown_refl _ _) _) _), fun g hg => .inl hg⟩
          rw [eN]
          show World.ownsRow _ B 3 1 (.slice pa pn pc) n (cells ++ [])
          rw [List.append_nil]
          exact ownsRow_keep ho fun g hg => by
            have := hlt g hg
            show ((w.alloc _).alloc _).heap[g]? = _
            rw [heap_alloc_old _ _ (by simp; omega), heap_alloc_old _ _ this]
      · have eN : belN X Y (t + 1) k = belN X Y t (2 * k) ++ belN X Y t (2 * k + 1) := (if_neg hc).trans (if_neg hq)
        have eC : belC X Y (t + 1) k = 1 + belC X Y t (2 * k) + belC X Y t (2 * k + 1) := (if_neg hc).trans (if_neg hq)
        rw [eN, List.length_append] at hn
        rw [eC] at hNC
        have hlt' : ∀ g, (Value.slice pa pn pc).ownBlock = some g → g ≠ w.heap.size ∧ g ≠ w.heap.size + 1 := fun g hg => by have := hlt g hg; omega
        have hcall0 := ih (by omega) ca cb (2 * k) n (by omega) (by omega) (by omega) W.drew.drew pa pn pc cells (N + 1) hbW.drew.drew (by show B ≤ W.heap.size; omega) (ownsRow_keep ho fun g hg => hWo g (hlt g hg)) (by omega) (by omega) (by omega)
        rw [show ((2 * k : Nat) : Int) = 2 * (k : Int) by omega] at hcall0
        have hcall := hcall0.mono fun e w1 h => pack33 h (w := w) h7 h8 hlt' (by show _ ≤ W.heap.size; omega)
        have IH2 : Keep (∀ w1 qa qn qc, (w1.heap[w.heap.size]? = some (.cells #[.slice pa pn pc, .int .i64 (N + 1)] 59 (0, 0)) ∧ w1.heap[w.heap.size + 1]? = some (.cells #[.slice none 0 0, .int .i64 0] 59 (0, 0)) ∧ w1.ownsRow B 3 1 (.slice qa qn qc) (n + (belN X Y t (2 * k)).length) (cells ++ (belN X Y t (2 * k)).map fun (i : Nat) => Value.int .i64 (i : Int)) ∧ W.drew.drew.grownBy w1 (Value.slice pa pn pc).ownBlock ∧
            (∀ g, (Value.slice qa qn qc).ownBlock = some g → (Value.slice pa pn pc).ownBlock = some g ∨ w.heap.size + 2 ≤ g) ∧ w.heap.size + 2 ≤ w1.heap.size) →
            Calls Try.prog 33 #[.slice (some aa) (t + 1) ca, .slice (some bb) (t + 1) cb, .int .i64 (2 * (k : Int) + 1), .agg #[.slice qa qn qc, .int .i64 (N + 1 + belC X Y t (2 * k))]] ((w1.setCell ⟨w.heap.size, 0, none⟩ (.slice qa qn qc)).setCell ⟨w.heap.size, 1, none⟩ (.int .i64 (N + 1 + belC X Y t (2 * k)))).drew
              fun e w2 => ∃ ra rn rc, e = .returned (.agg #[.slice ra rn rc, .int .i64 (N + 1 + belC X Y t (2 * k) + belC X Y t (2 * k + 1))]) ∧ w2.cell? ⟨w.heap.size + 1, 0, none⟩ = some (.slice none 0 0) ∧ w2.cell? ⟨w.heap.size + 1, 1, none⟩ = some (.int .i64 0) ∧ w2.frozen? ⟨w.heap.size + 1, 0, none⟩ = false ∧ w2.frozen? ⟨w.heap.size + 1, 1, none⟩ = false ∧
                Keep (w2.heap[w.heap.size + 1]? = some (.cells #[.slice none 0 0, .int .i64 0] 59 (0, 0)) ∧ w2.ownsRow B 3 1 (.slice ra rn rc) (n + (belN X Y (t + 1) k).length) (cells ++ (belN X Y (t + 1) k).map fun (i : Nat) => Value.int .i64 (i : Int)) ∧ w.grownBy w2 (Value.slice pa pn pc).ownBlock ∧ (∀ g, (Value.slice ra rn rc).ownBlock = some g → (Value.slice pa pn pc).ownBlock = some g ∨ w.heap.size + 2 ≤ g))) := by
          refine ⟨fun w1 qa qn qc ⟨k7, k8, g1, g2, g3, hs1⟩ => ?_⟩
          obtain ⟨V, hV⟩ : ∃ V, V = (w1.setCell ⟨w.heap.size, 0, none⟩ (.slice qa qn qc)).setCell ⟨w.heap.size, 1, none⟩ (.int .i64 (N + 1 + belC X Y t (2 * k))) := ⟨_, rfl⟩
          have gq : ∀ g, (Value.slice qa qn qc).ownBlock = some g → g ≠ w.heap.size ∧ g ≠ w.heap.size + 1 := fun g hg => by
            rcases g3 g hg with h | h
            · exact hlt' g h
            · omega
          have hVs : V.heap.size = w1.heap.size := by rw [hV]; simp [World.setCell]
          have hVo : ∀ g, g ≠ w.heap.size → V.heap[g]? = w1.heap[g]? := fun g hg => by
            rw [hV, Below.heap_setCell _ _ _ _ (by simpa using hg), Below.heap_setCell _ _ _ _ (by simpa using hg)]
          have v7 : V.heap[w.heap.size]? = some (.cells #[.slice qa qn qc, .int .i64 (N + 1 + belC X Y t (2 * k))] 59 (0, 0)) := by rw [hV]; exact two_set k7
          have v8 : V.heap[w.heap.size + 1]? = some (.cells #[.slice none 0 0, .int .i64 0] 59 (0, 0)) := by rw [hVo _ (by omega)]; exact k8
          have hb1 : Below B w0 w1 := hbW.drew.drew.grown g2 (by show B ≤ W.heap.size; omega) (fun g hg => (ho.lt g hg).1)
          have hbV : Below B w0 V := by rw [hV]; exact (hb1.setCell (p := ⟨w.heap.size, 0, none⟩) hBw _).setCell (p := ⟨w.heap.size, 1, none⟩) hBw _
          have hc2 := ih (by omega) ca cb (2 * k + 1) (n + (belN X Y t (2 * k)).length) (by omega) (by omega) (by omega) V.drew qa qn qc _ (N + 1 + belC X Y t (2 * k)) hbV.drew (by show B ≤ V.heap.size; omega) (ownsRow_keep g1 fun g hg => hVo g (gq g hg).1) (by omega) (by omega) (by omega)
          rw [show ((2 * k + 1 : Nat) : Int) = 2 * (k : Int) + 1 by omega] at hc2
          rw [← hV]
          refine hc2.mono fun e w2 h => ?_
          obtain ⟨ra, rn, rc, rfl, _, _, _, _, d80, d81, e80, e81, ⟨m7, m8, r1, r2, r3, r4⟩⟩ := pack33 h (w := w) (W := V.drew) v7 v8 gq (by show _ ≤ V.heap.size; omega)
          refine ⟨ra, rn, rc, rfl, d80, d81, e80, e81, ⟨m8, ?_, ?_, fun g hg => ?_⟩⟩
          · rw [eN, List.length_append, List.map_append, ← List.append_assoc, ← Nat.add_assoc]; exact r1
          · have gW : w.grownBy W.drew.drew (Value.slice pa pn pc).ownBlock := by rw [hW]; exact grown_drew (grown_drew (grown_alloc (grown_alloc (grown_refl _ _) _) _))
            have gV : w.grownBy V.drew (Value.slice pa pn pc).ownBlock := by
              rw [hV]
              exact grown_drew (grown_set (grown_set (grown_trans gW g2 fun j h => .inl h) (by simp) _) (by simp) _)
            exact grown_trans gV r2 fun j h => (g3 j h).imp id fun h => by omega
          · rcases r3 g hg with h | h
            · exact g3 g h
            · exact .inr h
        have HL : Keep (∀ g, (Value.slice pa pn pc).ownBlock = some g → g < w.heap.size) := ⟨hlt⟩
        clear hcall0
        rw [hW'] at a0
        rw [hW] at a1 a2 b1 b2 hcall IH2
        have nb2 : N + 1 + belC X Y t (2 * k) ≤ 1000000000 := by omega
        clear hW hW' ih hb hA hB hlen hup h0 hmax ho hn hNC hbW hbW' hWs hWo h8 h7 hlt hlt' hu hl hl1 hm hk hc hT hBw
        go_enter Try.func33, Try.ntmps33
        go_wp2
        go_region
        go_wp2
        refine wp_region_still_tail 9 (by kernel_rfl) (by kernel_rfl) ?_
        simp only [List.take_succ_cons, List.take_zero, List.drop_succ_cons, List.drop_zero]
        change wpStill _ _ (World.drew _) _ _ _
        repeat still_step
        refine wpStill_nil ?_
        go_wp2_with (go_at_call 33; refine hcall.mono ?_; rintro e w1 ⟨qa, qn, qc, rfl, c70, c71, f70, f71, c80, c81, f80, f81, hK⟩; clear hcall)
        have hcall2 := IH2.out w1 qa qn qc hK.out
        clear IH2
        refine wp_region_still_tail 10 (by kernel_rfl) (by kernel_rfl) ?_
        simp only [List.take_succ_cons, List.take_zero, List.drop_succ_cons, List.drop_zero]
        change wpStill _ _ (World.drew _) _ _ _
        repeat still_step
        refine wpStill_nil ?_
        go_wp2_with (go_at_call 33; refine hcall2.mono ?_; rintro e w2 ⟨ra, rn, rc, rfl, d80, d81, e80, e81, hM⟩; clear hcall2)
        obtain ⟨m8, r1, r2, r3⟩ := hM.out
        refine ret33 (b := w.heap.size + 1) (x := .slice ra rn rc) (y := .int .i64 (N + 1 + belC X Y t (2 * k) + belC X Y t (2 * k + 1))) rfl rfl (two_set m8) ?_
        refine ⟨ra, rn, rc, by rw [eC, show N + ((1 + belC X Y t (2 * k) + belC X Y t (2 * k + 1) : Nat) : Int) = N + 1 + belC X Y t (2 * k) + belC X Y t (2 * k + 1) by omega], ?_, grown_set (grown_set r2 (by simp) _) (by simp) _, fun g hg => (r3 g hg).imp id fun h => by omega⟩
        exact ownsRow_keep r1 fun g hg => by
          have hne : g ≠ w.heap.size + 1 := by
            rcases r3 g hg with h | h
            · have := HL.out g h; omega
            · omega
          rw [Below.heap_setCell _ _ _ _ (by simpa using hne), Below.heap_setCell _ _ _ _ (by simpa using hne)]
end Go.Proofs.Ytjncolngfeglkaa
