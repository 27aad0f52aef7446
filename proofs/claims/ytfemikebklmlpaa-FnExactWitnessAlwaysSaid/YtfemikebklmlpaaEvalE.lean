/- What the reference's l1Eval and the program's eval return, for every valid expression and three numbers from 0 to 3. Conditions: those of each contract. -/
import Derived.Test.YtfemikebklmlpaaRows
import Derived.Test.YtfemikebklmlpaaEvalPlain
import Derived.Test.YtfemikebklmlpaaCells
import Derived.Test.YtfemikebklmlpaaMore
import Derived.WalkSpells
import Derived.WalkLawsBesides
namespace Go.Proofs.Ytfemikebklmlpaa
open Go.RowKit
namespace Expr

/-- three numbers from 0 to 3 lie there -/
def Vals (w : World) (a : Option Addr) (l : List Int) : Prop := IntsIn Any w a l ∧ l.length = 3 ∧ ∀ n, n ∈ l → 0 ≤ n ∧ n ≤ 3
theorem Vals.below {w w' : World} {a : Option Addr} {l : List Int} (h : Vals w a l) (hb : Below w.heap.size w w') : Vals w' a l := ⟨h.1.below hb, h.2⟩
theorem Vals.cells {w : World} {a : Option Addr} {l : List Int} (h : Vals w a l) : ∃ b o x y z, l = [x, y, z] ∧ a = some ⟨b, o, none⟩ ∧ b < w.heap.size ∧ w.cell? ⟨b, o, none⟩ = some (.int .i64 x) ∧ w.cell? ⟨b, o + 1, none⟩ = some (.int .i64 y) ∧ w.cell? ⟨b, o + 2, none⟩ = some (.int .i64 z) := by
  obtain ⟨h1, h2, h3⟩ := h
  obtain ⟨x, y, z, rfl⟩ : ∃ x y z, l = [x, y, z] := by
    match l, h2 with
    | [x, y, z], _ => exact ⟨x, y, z, rfl⟩
  obtain ⟨b, o, rfl, hb, _, e0, _⟩ := ints_at (k := 0) h1 (Below.refl _ _) (by simp)
  obtain ⟨b', o', hbo, _, _, e1, _⟩ := ints_at (k := 1) h1 (Below.refl _ _) (by simp)
  obtain ⟨b2, o2, hbo2, _, _, e2, _⟩ := ints_at (k := 2) h1 (Below.refl _ _) (by simp)
  simp only [Option.some.injEq, Addr.mk.injEq, and_true] at hbo hbo2
  obtain ⟨rfl, rfl⟩ := hbo
  obtain ⟨rfl, rfl⟩ := hbo2
  exact ⟨b, o, x, y, z, rfl, rfl, hb, e0, e1, e2⟩
def gOf (l : List Int) (v : Int) : Int := l.getD v.toNat 0
theorem Vals.bd {w : World} {a : Option Addr} {l : List Int} (h : Vals w a l) : ∀ v, 0 ≤ v → v ≤ 2 → 0 ≤ gOf l v ∧ gOf l v ≤ 3 := by
  obtain ⟨b, o, x, y, z, rfl, _⟩ := h.cells
  intro v h1 h2
  have := h.2.2
  have hv : v = 0 ∨ v = 1 ∨ v = 2 := by omega
  rcases hv with rfl | rfl | rfl
  · exact this x (by simp)
  · exact this y (by simp)
  · exact this z (by simp)

def EvT (F : Nat) (t : Tr) : Prop := ∀ (n : Nat) (w : World) (x : Value) (a : Option Addr) (l : List Int) (c : Nat), exprL.shape t n = true → TrIn Any w t x → Vals w a l → 3 ≤ c → c ≤ maxLen → Calls Try.prog F #[x, .slice a 3 c] w (Ret (.int .i64 (evalT (gOf l) t)) w)

theorem bool01 (b : Bool) (w : World) : Calls Try.prog 107 #[.bool b] w (RetW (.int .i64 (tr01 b)) w) := by
  cases b
  all_goals
    go_enter Try.func107, Try.ntmps107
    go_wp2_with fail
    go_ret
    exact ⟨rfl, rfl⟩
theorem two_cells {w : World} {t u : Tr} {a : Option Addr} (h : TrsIn Any w [t, u] a) : ∃ b o c0 c1 c2 d0 d1 d2, a = some ⟨b, o, none⟩ ∧ b < w.heap.size ∧ w.cell? ⟨b, o, none⟩ = some c0 ∧ w.cell? ⟨b, o + 1, none⟩ = some c1 ∧ w.cell? ⟨b, o + 2, none⟩ = some c2 ∧
    w.cell? ⟨b, o + 3, none⟩ = some d0 ∧ w.cell? ⟨b, o + 3 + 1, none⟩ = some d1 ∧ w.cell? ⟨b, o + 3 + 2, none⟩ = some d2 ∧ TrIn Any w t (.agg #[c0, c1, c2]) ∧ TrIn Any w u (.agg #[d0, d1, d2]) := by
  rw [TrsIn_cons] at h
  obtain ⟨b, o, c0, c1, c2, rfl, _, g0, g1, g2, hT, h⟩ := h
  rw [TrsIn_cons] at h
  obtain ⟨b', o', d0, d1, d2, hbo, _, f0, f1, f2, hU, _⟩ := h
  simp only [Option.some.injEq, Addr.mk.injEq, and_true] at hbo
  obtain ⟨rfl, rfl⟩ := hbo
  exact ⟨b, o, c0, c1, c2, d0, d1, d2, rfl, blt g0, g0, g1, g2, f0, f1, f2, hT, hU⟩


end Expr
end Go.Proofs.Ytfemikebklmlpaa
