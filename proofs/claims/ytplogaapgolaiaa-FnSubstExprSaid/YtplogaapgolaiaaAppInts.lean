/- append([]int{}, numbers...): a copy in new memory, at the operation. Conditions: none. -/
import Derived.Test.YtplogaapgolaiaaExprClone
import Derived.Test.YtplogaapgolaiaaCellsOwn
import Derived.Test.YtplogaapgolaiaaRowsMade
namespace Go.Proofs.Ytplogaapgolaiaa
open Go.RowKit

theorem ownsRow_newV {B : Nat} {e : TypeId} {v : Value} {n : Nat} {xs : List Value} {w : World} (h : w.ownsRow B e 1 v n xs) : NewV B xs v w := by
  have hl : xs.length = n := by have := h.1; omega
  rcases h.2 with ⟨rfl, h0⟩ | ⟨g, cap, cur, rfl, hb, hgg, h4, h5, h6, h7⟩
  · have : xs = [] := List.eq_nil_of_length_eq_zero (by omega)
    subst this
    exact NewV.nil _ _ _ (by simp) _
  · have hcs := h.cells (g := g) rfl
    refine ⟨some ⟨g, 0, none⟩, cap, [g], by rw [hl], by omega, h5, .inr ⟨g, rfl, rfl, (Array.getElem?_eq_some_iff.1 hgg).1, fun i hi => ?_, fun i => by simp [World.frozen?, hgg]⟩, by simpa using hb⟩
    have hx : xs[i]? = some (xs.getD i undef) := by
      simp only [List.getD_eq_getElem?_getD]
      rw [List.getElem?_eq_getElem hi]; rfl
    have := hcs i _ hx
    rw [addr_add, Nat.zero_add] at this
    exact this

theorem wp_app_ints {ops : Array Oper} {rest : List Oper} {o : Oper} {a : Act} {Q : Exit → Act → World → Prop} {w : World} (hgd : o.guard = none) (s x : Operand)
    (ho : o.op = .call { callee := .builtin .append, args := #[s, x], argTypes := #[32, 32] }) (ad : Addr) (l : List Int) (c : Nat) (hs : a.eval s = .slice (some ⟨w.heap.size, 0, none⟩) 0 0) (hx : a.eval x = .slice (some ad) l.length c)
    (hl : IntsIn Any w (some ad) l) (hlen : l.length ≤ 1048576) (h : ∀ v' w', NewV w.heap.size (l.map (Value.int .i64)) v' w' → Below w.heap.size w w' → wpList Try.prog ops Q rest (a.put o.dst v') w') :
    wpList Try.prog ops Q (o :: rest) a (w.alloc (.cells #[] 3)) := by
  obtain ⟨ri, hi, hz, hs1, hs2⟩ := info_parts ints_info
  refine wpList_append_own_at _ hgd s x 32 ho w.heap.size 3 ri (.int .i64 0) 1 8 Try.underlying32 hi hz hs1 hs2 rfl (by omega) _ 0 [] hs (ownsRow_new w 3 1) ad l.length c (l.map (Value.int .i64)) hx (by simp) (fun j u hj => ?_) (fun u hu => ?_) (by simp only [maxLen]; omega) (by omega) (by simp) ?_
  · rcases hl.1 with h0 | ⟨b, o', h1, h2, h3, h4⟩
    · rw [h0] at hj; simp at hj
    · obtain rfl : ad = ⟨b, o', none⟩ := by simpa using h1
      have := h4 j u hj
      rw [addr_add, (below_alloc w _).cell (p := ⟨b, o' + j, none⟩) h3]
      exact this
  · simp at hu
    obtain ⟨n, _, rfl⟩ := hu
    rfl
  · intro v2 w3 hown hgrow _ _
    refine h v2 w3 (ownsRow_newV (by simpa using hown)) ⟨hgrow.os, hgrow.tape, hgrow.output, by have := hgrow.size; simp at this; omega, fun k hk => ?_⟩
    rw [hgrow.block k (by simp; omega) (fun e => by simp [Value.ownBlock] at e; omega), (below_alloc w _).block k hk]

end Go.Proofs.Ytplogaapgolaiaa
