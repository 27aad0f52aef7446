/- The reference's reader of branching-time formulas: what is no tree. Conditions: those of each contract. -/
import Derived.Test.YthjhokifonjeaaaParseBS
namespace Go.Proofs.Ythjhokifonjeaaa
open Go.RowKit
namespace Branching

/-- no tree: the first operand ends the text, or no sign follows, or .. -/
theorem pair_none {rd : List UInt8 → Option (Tr × List UInt8)} {op : UInt8 → Option Int} {s r : List UInt8} {t : Tr} (h : rd s = none ∨ rd s = some (t, r) ∧ (r = [] ∨ ∃ o r1, r = o :: r1 ∧ (op o = none ∨ ∃ k, op o = some k ∧ (rd r1 = none ∨ ∃ t2 r2, rd r1 = some (t2, r2) ∧ (r2 = [] ∨ ∃ c r3, r2 = c :: r3 ∧ c ≠ 41))))) : pairWith rd op s = none := by
  unfold pairWith
  rcases h with h | ⟨h, h2⟩
  · rw [h]
  · rw [h]
    rcases h2 with rfl | ⟨o, r1, rfl, h3⟩
    · rfl
    · rcases h3 with h3 | ⟨k, h3, h4⟩
      · simp [h3]
      · simp only [h3]
        rcases h4 with h4 | ⟨t2, r2, h4, h5⟩
        · rw [h4]
        · rw [h4]
          rcases h5 with rfl | ⟨c, r3, rfl, h6⟩
          · rfl
          · simp [h6]


end Branching
end Go.Proofs.Ythjhokifonjeaaa
