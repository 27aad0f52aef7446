/- Plain: the negation normal form; two nodes of one's own in a row. No program here. -/
import Derived.Test.YtbeljjalfhogdaaBox
import Derived.Test.YtbeljjalfhogdaaTxtPlain
namespace Go.Proofs.Ytbeljjalfhogdaa
open Go.RowKit

def dualK (k : Int) : Int := if k = 4 then 5 else if k = 5 then 4 else if k = 7 then 8 else 7
def truT : Tr := .mk 1 0 []
def flsT : Tr := .mk 3 0 [truT]
def nfNode (neg : Bool) (k v : Int) (ks : List Tr) : Tr :=
  if k = 1 ∨ k = 2 then (if neg = true then .mk 3 0 [.mk k v []] else .mk k v [])
  else if k = 3 then ks.headD truT
  else if k = 6 then .mk 6 0 ks
  else if k = 9 ∨ k = 10 then (if ((k == 9) != neg) = true then .mk 7 0 (truT :: ks) else .mk 8 0 (flsT :: ks))
  else .mk (if neg = true then dualK k else k) 0 ks
mutual
/-- the normal form of a formula, or of its negation -/
def nfT : Tr → Bool → Tr | .mk k v kids, neg => nfNode neg k v (nfL kids (if k = 3 then !neg else neg))
def nfL : List Tr → Bool → List Tr | [], _ => [] | t :: ts, neg => nfT t neg :: nfL ts neg
end

theorem but_a {w W : World} {D : Nat} (h : But w D W) (o : Obj) : But w D (W.alloc o) := h.next (below_alloc _ _)
theorem but_d {w W : World} {D : Nat} (h : But w D W) : But w D W.drew := h.drew
theorem but_s {w W : World} {D i : Nat} (h : But w D W) (u : Value) : But w D (W.setCell ⟨D, i, none⟩ u) := h.trans (But.set W D i u)

/-- two trees of one's own, apart -/
def Two (B : Nat) (t u : Tr) (x y : Value) (w : World) : Prop := ∃ bs1 bs2, TrOwn w t x bs1 ∧ TrOwn w u y bs2 ∧ (∀ b, b ∈ bs1 → b ∉ bs2) ∧ (∀ b, b ∈ bs1 → B ≤ b) ∧ ∀ b, b ∈ bs2 → B ≤ b
theorem Two.mk {B N : Nat} {t u : Tr} {x y : Value} {w1 w2 : World} (h1 : NewTr B t x w1) (h2 : NewTr N u y w2) (hN : w1.heap.size ≤ N) (hb : Below w1.heap.size w1 w2) (hB : B ≤ N) : Two B t u x y w2 := by
  obtain ⟨bs1, g1, g2⟩ := h1
  obtain ⟨bs2, k1, k2⟩ := h2
  exact ⟨bs1, bs2, TrOwn_below hb g1, k1, fun b hb1 hb2 => by have := TrOwn_lt.1 _ _ _ g1 b hb1; have := k2 b hb2; omega, g2, fun b hb => by have := k2 b hb; omega⟩
theorem Two.mk2 {B N : Nat} {t u : Tr} {x y : Value} {w1 w2 : World} (h2 : NewTr B u y w1) (h1 : NewTr N t x w2) (hN : w1.heap.size ≤ N) (hb : Below w1.heap.size w1 w2) (hB : B ≤ N) : Two B t u x y w2 := by
  obtain ⟨bs2, g1, g2⟩ := h2
  obtain ⟨bs1, k1, k2⟩ := h1
  exact ⟨bs1, bs2, k1, TrOwn_below hb g1, fun b hb1 hb2 => by have := TrOwn_lt.1 _ _ _ g1 b hb2; have := k2 b hb1; omega, fun b hb => by have := k2 b hb; omega, g2⟩
theorem Two.set3 {B P : Nat} {t u : Tr} {x y : Value} {w : World} (h : Two B t u x y w) (hP : P < B) (u0 u1 u2 : Value) : Two B t u x y (((w.setCell ⟨P, 0, none⟩ u0).setCell ⟨P, 1, none⟩ u1).setCell ⟨P, 2, none⟩ u2) := by
  obtain ⟨bs1, bs2, h1, h2, h3, h4, h5⟩ := h
  have n1 : P ∉ bs1 := fun e => by have := h4 _ e; omega
  have n2 : P ∉ bs2 := fun e => by have := h5 _ e; omega
  exact ⟨bs1, bs2, TrOwn_set (TrOwn_set (TrOwn_set h1 n1 _) n1 _) n1 _, TrOwn_set (TrOwn_set (TrOwn_set h2 n2 _) n2 _) n2 _, h3, h4, h5⟩
theorem Two.rows {B b' : Nat} {w : World} {t u : Tr} {x y z x' y' z' : Value} {ty : TypeId} (h : Two B t u (.agg #[x, y, z]) (.agg #[x', y', z']) w) (hb : b' = w.heap.size) :
    ∃ f bs, Row (w.alloc (.cells #[x, y, z, x', y', z'] ty)) b' 6 f ∧ TrsOwn (w.alloc (.cells #[x, y, z, x', y', z'] ty)) f [t, u] 0 bs ∧ (∀ b, b ∈ bs → B ≤ b) ∧ b' ∉ bs := by
  subst hb
  obtain ⟨bs1, bs2, h1, h2, h3, h4, h5⟩ := h
  have l1 := TrOwn_lt.1 _ _ _ h1
  have l2 := TrOwn_lt.1 _ _ _ h2
  refine ⟨fun i => #[x, y, z, x', y', z'].getD i undef, bs1 ++ bs2, row_six w x y z x' y' z' ty, ?_, fun b hb => by rcases List.mem_append.1 hb with h | h; exact h4 b h; exact h5 b h, fun e => by
    rcases List.mem_append.1 e with h | h
    · have := l1 _ h; omega
    · have := l2 _ h; omega⟩
  rw [TrsOwn_cons]
  refine ⟨bs1, bs2, rfl, h3, by simpa using TrOwn_below (below_alloc _ _) h1, ?_⟩
  rw [TrsOwn_cons]
  exact ⟨bs2, [], by simp, by simp, by simpa using TrOwn_below (below_alloc _ _) h2, (TrsOwn_nil ..).2 rfl⟩
theorem Two.node {B b' : Nat} {k : Int} {w : World} {t u : Tr} {x y z x' y' z' : Value} {ty : TypeId} (hk : i64 k) (h : Two B t u (.agg #[x, y, z]) (.agg #[x', y', z']) w) (hB : B ≤ w.heap.size) (hb : b' = w.heap.size) :
    NewTr B (.mk k 0 [t, u]) (.agg #[.int .i64 k, .int .i64 0, .slice (some ⟨b', 0, none⟩) 2 2]) (w.alloc (.cells #[x, y, z, x', y', z'] ty)) := by
  obtain ⟨f, bs, h1, h2, h3, h4⟩ := h.rows (ty := ty) hb
  obtain ⟨bs', g1, g2⟩ := TrOwn_new (k := k) (v := 0) (c := 2) (kids := [t, u]) hk (show i64 0 by unfold i64; omega) (by simp) (by simp [maxLen]) h1 h2 h4
  exact ⟨bs', g1, fun b hb' => by rcases g2 b hb' with rfl | h; omega; exact h3 b h⟩

end Go.Proofs.Ytbeljjalfhogdaa
