/- The reference's reader of branching-time formulas: whole. Conditions: those of each contract. -/
import Derived.Test.YthjhokifonjeaaaParseBS3
import Derived.Test.YthjhokifonjeaaaParseBS4
import Derived.Test.YthjhokifonjeaaaParseBS5
namespace Go.Proofs.Ythjhokifonjeaaa
open Go.RowKit
namespace Branching


theorem ps_all : ∀ n, n ≤ 1000 → PsT n := by
  intro n
  induction n with
  | zero => intro _ w S i d hi hl hd; exact ps_none 0 S i d w (.inl (by omega)) (by omega) hl rfl
  | succ n ih =>
    intro hn w S i d hi hl hd
    have ih := ih (by omega)
    rcases Nat.lt_or_ge i S.length with hlt | hge
    · obtain ⟨c, hc⟩ : ∃ c, S[i]? = some c := ⟨_, List.getElem?_eq_getElem hlt⟩
      have hd1 : 1 ≤ d := by omega
      by_cases n1 : c = 84
      · subst n1; exact ps_true n S i d w hd1 hl hc
      by_cases n2 : 112 ≤ c ∧ c ≤ 114
      · rcases u8_pqr n2 with rfl | rfl | rfl
        · exact ps_atom n 112 0 (.inl ⟨rfl, rfl⟩) S i d w hd1 hl hc
        · exact ps_atom n 113 1 (.inr (.inl ⟨rfl, rfl⟩)) S i d w hd1 hl hc
        · exact ps_atom n 114 2 (.inr (.inr ⟨rfl, rfl⟩)) S i d w hd1 hl hc
      by_cases n3 : c = 33
      · subst n3
        exact ps_un n ih 33 3 1 (.inl rfl) (by omega) (by omega) S i d w hd1 hd hl hc (by omega) (un_not S i hc) (by rw [drop_at hc]; simp [rdB]) (by omega)
      have nope : ¬ (c = 69 ∨ c = 65) → Un S i 0 0 := fun h => by
        rcases Nat.lt_or_ge (i + 1) S.length with h1 | h1
        · obtain ⟨x, hx⟩ : ∃ x, S[i + 1]? = some x := ⟨_, List.getElem?_eq_getElem h1⟩
          exact un_none S i c x hl hc hx n3 (fun q => h q.1)
        · exact un_end S i c hl hc n3 h1
      by_cases n4 : c = 40
      · have hU := nope (by rw [n4]; decide)
        subst n4
        exact ps_and n ih S i d w hd1 hd hl hc hU (by omega)
      by_cases n5 : c = 69 ∨ c = 65
      · rcases Nat.lt_or_ge (i + 1) S.length with h1 | h1
        · obtain ⟨x, hx⟩ : ∃ x, S[i + 1]? = some x := ⟨_, List.getElem?_eq_getElem h1⟩
          by_cases x1 : x = 88
          · subst x1
            rcases n5 with rfl | rfl
            · exact ps_un n ih 69 6 2 (.inr (.inl rfl)) (by omega) (by omega) S i d w hd1 hd hl hc (by omega) (un_op S i 69 88 6 (.inl ⟨rfl, rfl, rfl⟩) hl hc hx) (by rw [drop_at hc, drop_at hx]; simp [rdB, rdB2]) (by omega)
            · exact ps_un n ih 65 9 2 (.inr (.inr rfl)) (by omega) (by omega) S i d w hd1 hd hl hc (by omega) (un_op S i 65 88 9 (.inr (.inr (.inl ⟨rfl, rfl, rfl⟩))) hl hc hx) (by rw [drop_at hc, drop_at hx]; simp [rdB, rdB2]) (by omega)
          by_cases x2 : x = 71
          · subst x2
            rcases n5 with rfl | rfl
            · exact ps_un n ih 69 8 2 (.inr (.inl rfl)) (by omega) (by omega) S i d w hd1 hd hl hc (by omega) (un_op S i 69 71 8 (.inr (.inl ⟨rfl, rfl, rfl⟩)) hl hc hx) (by rw [drop_at hc, drop_at hx]; simp [rdB, rdB2]) (by omega)
            · exact ps_un n ih 65 11 2 (.inr (.inr rfl)) (by omega) (by omega) S i d w hd1 hd hl hc (by omega) (un_op S i 65 71 11 (.inr (.inr (.inr ⟨rfl, rfl, rfl⟩))) hl hc hx) (by rw [drop_at hc, drop_at hx]; simp [rdB, rdB2]) (by omega)
          have hU := un_none S i c x hl hc hx n3 (fun q => by rcases q.2 with h | h; exact x1 h; exact x2 h)
          by_cases x3 : x = 40
          · subst x3
            rcases n5 with rfl | rfl
            · exact ps_some n ih S i d w hd1 hd hl hc hx hU (by omega)
            · exact ps_every n ih S i d w hd1 hd hl hc hx hU (by omega)
          · exact ps_hno n c x n5 S i d w hd1 hl hc hx x1 x2 x3 hU
        · exact ps_hend n c n5 S i d w hd1 hl hc h1 (un_end S i c hl hc n3 h1)
      · exact ps_else n c S i d w hd1 hl hc n1 n2 n3 n4 (fun e => n5 (.inl e)) (fun e => n5 (.inr e)) (nope n5)
    · exact ps_none (n + 1) S i d w (.inr hge) (by omega) hl (by rw [List.drop_of_length_le hge]; rfl)
end Branching
end Go.Proofs.Ythjhokifonjeaaa
