/- A row of nodes of one's own, as a value: 'NewRow'; the row of 'OwnRow' is one. Conditions: none. -/
import Derived.Test.YthjhokifonjeaaaOwnPlain
import Derived.Test.YthjhokifonjeaaaSubPlain
namespace Go.Proofs.Ythjhokifonjeaaa
open Go.RowKit

theorem RowOf.lt {w : World} {l : List Tr} {a : Option Addr} {bs : List Nat} (h : RowOf w l a bs) : ∀ b, b ∈ bs → b < w.heap.size := by
  intro b hb
  rcases h with ⟨rfl, rfl⟩ | ⟨R, f, r, rfl, rfl, h1, h2, h3⟩
  · simp at hb
  · rcases List.mem_cons.1 hb with rfl | hb
    · exact h2.1
    · exact TrOwn_lt.2 _ _ _ _ h3 b hb
theorem RowOf.frame {w w' : World} {l : List Tr} {a : Option Addr} {bs : List Nat} (h : RowOf w l a bs) (hs : w.heap.size ≤ w'.heap.size) (he : ∀ b, b ∈ bs → w'.heap[b]? = w.heap[b]?) : RowOf w' l a bs := by
  rcases h with ⟨rfl, rfl⟩ | ⟨R, f, r, rfl, rfl, h1, h2, h3⟩
  · exact .inl ⟨rfl, rfl⟩
  · exact .inr ⟨R, f, r, rfl, rfl, h1, h2.kept hs (he R (by simp)), (TrOwn_frame hs).2 _ _ _ _ h3 fun b hb => he b (by simp [hb])⟩
theorem RowOf.below {w w' : World} {l : List Tr} {a : Option Addr} {bs : List Nat} (h : RowOf w l a bs) (hb : Below w.heap.size w w') : RowOf w' l a bs := h.frame hb.size fun b h1 => hb.block b (h.lt b h1)
theorem RowOf.only {S : List Nat} {w w' : World} {l : List Tr} {a : Option Addr} {bs : List Nat} (h : RowOf w l a bs) (hb : Only S w w') (hd : ∀ b, b ∈ bs → b ∉ S) : RowOf w' l a bs := h.frame hb.size fun b h1 => hb.block b (h.lt b h1) (hd b h1)
theorem RowOf.any {w : World} {l : List Tr} {a : Option Addr} {bs : List Nat} (h : RowOf w l a bs) : TrsIn Any w l a := by
  rcases h with ⟨rfl, rfl⟩ | ⟨R, f, r, rfl, rfl, h1, h2, h3⟩
  · exact TrsIn_nil _ _ _
  · exact TrOwn_in.2 _ _ _ _ h3 (fun _ _ => trivial) R trivial (by simpa using h2)

/-- a row of trees of the call's own: in new blocks -/
def NewRow (B : Nat) (l : List Tr) (v : Value) (w : World) : Prop := ∃ a c bs, v = .slice a l.length c ∧ l.length ≤ c ∧ c ≤ maxLen ∧ RowOf w l a bs ∧ ∀ b, b ∈ bs → B ≤ b
theorem NewRow.below {B : Nat} {l : List Tr} {v : Value} {w w' : World} (h : NewRow B l v w) (hb : Below w.heap.size w w') : NewRow B l v w' := by
  obtain ⟨a, c, bs, h1, h2, h3, h4, h5⟩ := h
  exact ⟨a, c, bs, h1, h2, h3, h4.below hb, h5⟩
theorem NewRow.mono {B B' : Nat} {l : List Tr} {v : Value} {w : World} (h : NewRow B l v w) (hB : B' ≤ B) : NewRow B' l v w := by
  obtain ⟨a, c, bs, h1, h2, h3, h4, h5⟩ := h
  exact ⟨a, c, bs, h1, h2, h3, h4, fun b hb => Nat.le_trans hB (h5 b hb)⟩
theorem NewRow.nil (B : Nat) (a : Option Addr) (c : Nat) (hc : c ≤ maxLen) (w : World) : NewRow B [] (.slice a 0 c) w := ⟨a, c, [], rfl, by simp, hc, .inl ⟨rfl, rfl⟩, by simp⟩
theorem NewRow.clip {B : Nat} {l : List Tr} {a : Option Addr} {n c : Nat} {w : World} (h : NewRow B l (.slice a n c) w) : NewRow B l (.slice a n n) w ∧ n = l.length ∧ n ≤ c ∧ c ≤ maxLen := by
  obtain ⟨a', c', bs, h1, h2, h3, h4, h5⟩ := h
  simp only [Value.slice.injEq] at h1
  obtain ⟨rfl, rfl, rfl⟩ := h1
  exact ⟨⟨_, _, bs, rfl, Nat.le_refl _, by omega, h4, h5⟩, rfl, h2, h3⟩
theorem Formula.OwnRow.new {B : Nat} {e : TypeId} {v : Value} {l : List Tr} {w : World} (h : OwnRow B e v l w) : NewRow B l v w := by
  obtain ⟨xs, bs, h1, h2, h3⟩ := h
  have hl := h1.1
  rcases h1.2 with ⟨rfl, h⟩ | ⟨g, cap, cur, rfl, hb, hgg, h4, h5, _⟩
  · have : l = [] := List.eq_nil_of_length_eq_zero h
    subst this
    exact NewRow.nil _ _ _ (by simp) _
  · refine ⟨_, _, g :: bs, rfl, h4, h5, .inr ⟨g, _, bs, rfl, rfl, fun e => (h3 g e).2 rfl, ⟨?_, fun j hj => ?_, fun i => ?_⟩, h2⟩, fun b hb' => ?_⟩
    · exact (Array.getElem?_eq_some_iff.1 hgg).1
    · rw [h1.cellAt j (by omega)]
      simp only [List.getD_eq_getElem?_getD]
      rw [List.getElem?_eq_getElem (by omega)]
      rfl
    · simp [World.frozen?, hgg]
    · rcases List.mem_cons.1 hb' with rfl | hb'
      · exact hb
      · exact (h3 b hb').1
end Go.Proofs.Ythjhokifonjeaaa
