/- Part of the proof of the laws of this seat: contracts of its functions, for every input. -/
import Derived.Test.YtafpahkcjdfpiaaDoorWTG
import Derived.Test.YtafpahkcjdfpiaaDoorWTI
set_option linter.all false
namespace Go.Proofs.YtafpahkcjdfpiaaDoor
open Go Go.RX Go.Proofs Go.RowKit
set_option linter.all false
set_option maxRecDepth 1000000
theorem c55 : ConOK Tryd.prog 55 con55 := by
  refine ⟨⟨Tryd.f55, bodyOf Tryd.f55, Tryd.func55, by kernel_rfl, by kernel_rfl⟩, fun G w ds args hG hz ha hpre => ?_⟩
  obtain ⟨i, v, rfl, rfl, cs, rfl, h1⟩ := argsR1 ha
  obtain ⟨k, t, c, a, n, cap, ps, g, rfl, rfl, rfl, hk, ht, hc, hg, hrd⟩ := rd_im h1
  have hps : ps.length ≤ 100000 := hpre
  refine (walk55 G k t c g a ps.length cap ps w hG hps hrd).mono fun e w' he => ?_
  obtain ⟨qa, qn, qc, rfl, ⟨ho, _, hb⟩⟩ := he
  refine ⟨_, rfl, hb, fun a => G a ∨ (Value.slice qa qn qc).ownBlock = some a.block, fun a h => .inl h, fun a h => ?_, [_], rfl, ?_, trivial⟩
  · rcases h with h | h
    · exact .inl h
    · exact .inr (ho.lt _ h)
  · have hss : ∀ p ∈ ps, ∃ b, p = .str b ∧ b.length ≤ maxLen := by
      obtain ⟨ps', q1, q2⟩ := rd_strs hrd
      cases q1; exact q2
    have hq := rd_own (G := fun a => G a ∨ (Value.slice qa qn qc).ownBlock = some a.block) ho hss (fun b hb a ha => .inr (by rw [ha]; exact hb))
    exact ⟨_, rfl, ⟨rfl, hk⟩, ⟨rfl, ht⟩, ⟨rfl, hc⟩, hq, ⟨rfl, hg⟩, trivial⟩
end Go.Proofs.YtafpahkcjdfpiaaDoor
