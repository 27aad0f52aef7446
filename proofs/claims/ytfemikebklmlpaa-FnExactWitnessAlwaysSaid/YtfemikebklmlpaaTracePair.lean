/- The laws' own functions on pairs of rows of numbers: szTrace, toTrace, eqTrace. Conditions: those of each contract. -/
import Derived.Test.YtfemikebklmlpaaIntsA
import Derived.Test.YtfemikebklmlpaaGrow
import Derived.Test.YtfemikebklmlpaaStatePair
namespace Go.Proofs.Ytfemikebklmlpaa
open Go.RowKit
namespace Trace
/-- a variable of two cells -/
abbrev PBox (w : World) (B : Nat) (a b : Value) : Prop := B < w.heap.size ∧ w.cell? ⟨B, 0, none⟩ = some a ∧ w.cell? ⟨B, 1, none⟩ = some b ∧ w.frozen? ⟨B, 0, none⟩ = false ∧ w.frozen? ⟨B, 1, none⟩ = false
theorem pbox_next {w w' : World} (h : Below w.heap.size w w') {B : Nat} {a b : Value} (hb : PBox w B a b) : PBox w' B a b :=
  ⟨Nat.lt_of_lt_of_le hb.1 h.size, by rw [h.cell (p := ⟨B, 0, none⟩) hb.1]; exact hb.2.1, by rw [h.cell (p := ⟨B, 1, none⟩) hb.1]; exact hb.2.2.1,
    by rw [h.frozen (p := ⟨B, 0, none⟩) hb.1]; exact hb.2.2.2.1, by rw [h.frozen (p := ⟨B, 1, none⟩) hb.1]; exact hb.2.2.2.2⟩
theorem pbox_at {w : World} {B : Nat} {a b : Value} {t : TypeId} (h : B = w.heap.size) : PBox (w.alloc (.cells #[a, b] t)) B a b := by subst h; exact ⟨by simp, by simp, by simp, by simp, by simp⟩

theorem pbox_set0 {w : World} {B : Nat} {a b : Value} (h : PBox w B a b) (v : Value) : PBox (w.setCell ⟨B, 0, none⟩ v) B v b :=
  ⟨by simpa using h.1, World.cell?_setCell_same _ _ _ h.2.1, by rw [World.cell?_setCell_other _ _ _ _ (by simp)]; exact h.2.2.1, by simpa using h.2.2.2.1, by simpa using h.2.2.2.2⟩
theorem pbox_set1 {w : World} {B : Nat} {a b : Value} (h : PBox w B a b) (v : Value) : PBox (w.setCell ⟨B, 1, none⟩ v) B a v :=
  ⟨by simpa using h.1, by rw [World.cell?_setCell_other _ _ _ _ (by simp)]; exact h.2.1, World.cell?_setCell_same _ _ _ h.2.2.1, by simpa using h.2.2.2.1, by simpa using h.2.2.2.2⟩
theorem pbox_but {w w' : World} {D : Nat} (h : But w D w') {B : Nat} {a b : Value} (hd : B ≠ D) (hb : PBox w B a b) : PBox w' B a b :=
  ⟨Nat.lt_of_lt_of_le hb.1 h.size, by rw [h.cell hb.1 hd]; exact hb.2.1, by rw [h.cell hb.1 hd]; exact hb.2.2.1, by rw [h.frozen hb.1 hd]; exact hb.2.2.2.1, by rw [h.frozen hb.1 hd]; exact hb.2.2.2.2⟩
theorem pbox_set {w : World} {B D : Nat} {a b : Value} (h : PBox w B a b) (hd : B ≠ D) (i : Nat) (v : Value) : PBox (w.setCell ⟨D, i, none⟩ v) B a b := pbox_but (But.set w D i v) hd h

/-- two rows of numbers -/
def PairIn (p : Nat → Prop) (w : World) (l m : List Int) (v : Value) : Prop := ∃ a b c d, v = .agg #[.slice a l.length c, .slice b m.length d] ∧ IntsIn p w a l ∧ IntsIn p w b m ∧ l.length ≤ c ∧ c ≤ maxLen ∧ m.length ≤ d ∧ d ≤ maxLen
theorem PairIn.below {p : Nat → Prop} {w w' : World} {l m : List Int} {v : Value} (h : PairIn p w l m v) (hb : Below w.heap.size w w') : PairIn p w' l m v := by
  obtain ⟨a, b, c, d, rfl, h1, h2, h3⟩ := h
  exact ⟨a, b, c, d, rfl, h1.below hb, h2.below hb, h3⟩
/-- two rows of one's own -/
def NewPair (B : Nat) (l m : List Int) (v : Value) (w : World) : Prop := ∃ R1 R2, v = .agg #[.slice (some ⟨R1, 0, none⟩) l.length l.length, .slice (some ⟨R2, 0, none⟩) m.length m.length] ∧ B ≤ R1 ∧ R1 < R2 ∧ Row w R1 l.length (fun i => .int .i64 (l.getD i 0)) ∧ Row w R2 m.length (fun i => .int .i64 (m.getD i 0))
theorem NewPair.any {B : Nat} {l m : List Int} {v : Value} {w : World} (h : NewPair B l m v w) (hl : ∀ n, n ∈ l → i64 n) (hm : ∀ n, n ∈ m → i64 n) (h1 : l.length ≤ maxLen) (h2 : m.length ≤ maxLen) : PairIn Any w l m v := by
  obtain ⟨R1, R2, rfl, _, _, r1, r2⟩ := h
  exact ⟨_, _, _, _, rfl, r1.ints hl trivial, r2.ints hm trivial, Nat.le_refl _, h1, Nat.le_refl _, h2⟩

set_option maxHeartbeats 1000000 in
theorem eq_any (l m l' m' : List Int) (w : World) (x y : Value) (hx : PairIn Any w l m x) (hy : PairIn Any w l' m' y) : Calls Try.prog 25 #[x, y] w (Ret (.bool (l == l' && m == m')) w) := by
  obtain ⟨a, b, c, d, rfl, h1, h2, hc, hc2, hd, hd2⟩ := hx
  obtain ⟨a', b', c', d', rfl, h1', h2', hc', hc2', hd', hd2'⟩ := hy
  have HG := hid (fun w' (M : Below w.heap.size w w') => eqIntS_any l l' w' a a' c c' (h1.below M) (h1'.below M) hc hc2 hc' hc2')
  have HV := hid (fun w' (M : Below w.heap.size w w') => eqIntS_any m m' w' b b' d d' (h2.below M) (h2'.below M) hd hd2 hd' hd2')
  generalize (l == l') = g at *
  generalize (m == m') = v at *
  go_enter Try.func25, Try.ntmps25
  go_wp2_with fail
  refine (HG.out _ (by repeat (first | exact Below.refl _ _ | assumption | refine below_a ?_ _ | refine below_o ?_ _ | refine below_d ?_ | refine below_n ?_ _ | refine below_s ?_ (by first | (simp; done) | (simp; omega) | omega) _))).mono ?_
  rintro y w1 ⟨rfl, hb⟩
  obtain ⟨z, q0, q1, q2, q3⟩ := pbox_next hb (pbox_next (below_alloc _ _) (pbox_at rfl))
  obtain ⟨z', r0, r1, r2, r3⟩ := pbox_next hb (pbox_at (B := w.heap.size + 1) (by simp))
  have B := below_next (below_next (below_alloc _ _) (below_alloc _ _)) hb
  clear hb
  cases g
  · go_wp2_with fail
    go_ret
    exact Ret.mk rfl B
  · go_wp2_with fail
    refine (HV.out _ B).mono ?_
    rintro y w2 ⟨rfl, hb⟩
    cases v
    · go_wp2_with fail
      go_ret
      exact Ret.mk rfl (below_next B hb)
    · go_wp2_with fail
      go_ret
      exact Ret.mk rfl (below_next B hb)
end Trace
end Go.Proofs.Ytfemikebklmlpaa
