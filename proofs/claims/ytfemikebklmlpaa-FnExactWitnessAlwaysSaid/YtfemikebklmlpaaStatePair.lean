/- The laws' own functions on pairs of rows of numbers: szState, toState, eqState. Conditions: those of each contract. -/
import Derived.Test.YtfemikebklmlpaaIntsA
import Derived.Test.YtfemikebklmlpaaGrow
namespace Go.Proofs.Ytfemikebklmlpaa
open Go.RowKit
def szI (l : List Int) (left : Int) : Int := if left - l.length < 0 then -1 else left - l.length
theorem szI_bd {l : List Int} {left : Int} (h2 : left ≤ 1048576) : -1 ≤ szI l left ∧ szI l left ≤ 1048576 := by unfold szI; split <;> omega
theorem szI_len {l : List Int} {left : Int} (h2 : left ≤ 1048576) (h : 0 ≤ szI l left) : l.length ≤ 1048576 := by unfold szI at h; split at h <;> omega
set_option maxHeartbeats 400000 in
theorem szIntS_any (l : List Int) (w : World) (a : Option Addr) (c : Nat) (left : Int) (hl : l.length ≤ maxLen) (h1 : left ≤ 1048576) (h2 : -1 ≤ left) : Calls Try.prog 76 #[.slice a l.length c, .int .i64 left] w (Ret (.int .i64 (szI l left)) w) := by
  unfold maxLen at hl
  by_cases h : left - l.length < 0
  · have E := hid (show szI l left = -1 by rw [szI, if_pos h])
    have f1 : IntKind.i64.wrap (left - (l.length : Int)) = left - l.length := IntWalk.i64_in _ (by omega)
    go_enter Try.func76, Try.ntmps76
    go_wp2_with fail
    go_ret
    exact Ret.mk (int_val (by rw [E.out])) (Below.refl _ _)
  · have E := hid (show szI l left = left - l.length by rw [szI, if_neg h])
    have f1 : IntKind.i64.wrap (left - (l.length : Int)) = left - l.length := IntWalk.i64_in _ (by omega)
    go_enter Try.func76, Try.ntmps76
    go_wp2_with fail
    go_ret
    exact Ret.mk (int_val (by rw [E.out])) (Below.refl _ _)
namespace State
/-- a variable of two cells -/
abbrev PBox (w : World) (B : Nat) (a b : Value) : Prop := B < w.heap.size ∧ w.cell? ⟨B, 0, none⟩ = some a ∧ w.cell? ⟨B, 1, none⟩ = some b ∧ w.frozen? ⟨B, 0, none⟩ = false ∧ w.frozen? ⟨B, 1, none⟩ = false
theorem pbox_next {w w' : World} (h : Below w.heap.size w w') {B : Nat} {a b : Value} (hb : PBox w B a b) : PBox w' B a b :=
  ⟨Nat.lt_of_lt_of_le hb.1 h.size, by rw [h.cell (p := ⟨B, 0, none⟩) hb.1]; exact hb.2.1, by rw [h.cell (p := ⟨B, 1, none⟩) hb.1]; exact hb.2.2.1,
    by rw [h.frozen (p := ⟨B, 0, none⟩) hb.1]; exact hb.2.2.2.1, by rw [h.frozen (p := ⟨B, 1, none⟩) hb.1]; exact hb.2.2.2.2⟩
theorem pbox_at {w : World} {B : Nat} {a b : Value} {t : TypeId} (h : B = w.heap.size) : PBox (w.alloc (.cells #[a, b] t)) B a b := by subst h; exact ⟨by simp, by simp, by simp, by simp, by simp⟩

theorem pbox_set0 {w : World} {B : Nat} {a b : Value} (h : PBox w B a b) (v : Value) : PBox (w.setCell ⟨B, 0, none⟩ v) B v b :=
  ⟨by simpa using h.1, World.cell?_setCell_same _ _ _ h.2.1, by rw [World.cell?_setCell_other _ _ _ _ (by simp)]; exact h.2.2.1, by simpa using h.2.2.2.1, by simpa using h.2.2.2.2⟩
theorem pbox_set1 {w : World} {B : Nat} {a b : Value} (h : PBox w B a b) (v : Value) : PBox (w.setCell ⟨B, 1, none⟩ v) B a v :=
  ⟨by simpa using h.1, by rw [World.cell?_setCell_other _ _ _ _ (by simp)]; exact h.2.1, World.cell?_setCell_same _ _ _ h.2.2.1, by simpa using h.2.2.2.1, by simpa using h.2.2.2.2⟩
theorem pbox_but {w w' : World} {D : Nat} (h : But w D w') {B : Nat} {a b : Value} (hd : B ≠ D) (hb : PBox w B a b) : PBox w' B a b :=
  ⟨Nat.lt_of_lt_of_le hb.1 h.size, by rw [h.cell hb.1 hd]; exact hb.2.1, by rw [h.cell hb.1 hd]; exact hb.2.2.1, by rw [h.frozen hb.1 hd]; exact hb.2.2.2.1, by rw [h.frozen hb.1 hd]; exact hb.2.2.2.2⟩
theorem pbox_set {w : World} {B D : Nat} {a b : Value} (h : PBox w B a b) (hd : B ≠ D) (i : Nat) (v : Value) : PBox (w.setCell ⟨D, i, none⟩ v) B a b := pbox_but (But.set w D i v) hd h

/-- two rows of numbers -/
def PairIn (p : Nat → Prop) (w : World) (l m : List Int) (v : Value) : Prop := ∃ a b c d, v = .agg #[.slice a l.length c, .slice b m.length d] ∧ IntsIn p w a l ∧ IntsIn p w b m ∧ l.length ≤ c ∧ c ≤ maxLen ∧ m.length ≤ d ∧ d ≤ maxLen
theorem PairIn.below {p : Nat → Prop} {w w' : World} {l m : List Int} {v : Value} (h : PairIn p w l m v) (hb : Below w.heap.size w w') : PairIn p w' l m v := by
  obtain ⟨a, b, c, d, rfl, h1, h2, h3⟩ := h
  exact ⟨a, b, c, d, rfl, h1.below hb, h2.below hb, h3⟩
/-- two rows of one's own -/
def NewPair (B : Nat) (l m : List Int) (v : Value) (w : World) : Prop := ∃ R1 R2, v = .agg #[.slice (some ⟨R1, 0, none⟩) l.length l.length, .slice (some ⟨R2, 0, none⟩) m.length m.length] ∧ B ≤ R1 ∧ R1 < R2 ∧ Row w R1 l.length (fun i => .int .i64 (l.getD i 0)) ∧ Row w R2 m.length (fun i => .int .i64 (m.getD i 0))
theorem NewPair.any {B : Nat} {l m : List Int} {v : Value} {w : World} (h : NewPair B l m v w) (hl : ∀ n, n ∈ l → i64 n) (hm : ∀ n, n ∈ m → i64 n) (h1 : l.length ≤ maxLen) (h2 : m.length ≤ maxLen) : PairIn Any w l m v := by
  obtain ⟨R1, R2, rfl, _, _, r1, r2⟩ := h
  exact ⟨_, _, _, _, rfl, r1.ints hl trivial, r2.ints hm trivial, Nat.le_refl _, h1, Nat.le_refl _, h2⟩

def szP (l m : List Int) (left : Int) : Int := if szI l left < 0 then -1 else szI m (szI l left)
theorem szP_bd {l m : List Int} {left : Int} (h2 : left ≤ 1048576) : -1 ≤ szP l m left ∧ szP l m left ≤ 1048576 := by
  have h3 := szI_bd (l := l) h2
  unfold szP
  split
  · omega
  · exact szI_bd h3.2
theorem szP_len {l m : List Int} {left : Int} (h2 : left ≤ 1048576) (h : 0 ≤ szP l m left) : l.length ≤ 1048576 ∧ m.length ≤ 1048576 := by
  have h3 := szI_bd (l := l) h2
  unfold szP at h
  split at h
  · omega
  · exact ⟨szI_len h2 (by omega), szI_len h3.2 h⟩
set_option maxHeartbeats 1000000 in
theorem sz_any (l m : List Int) (w : World) (x : Value) (left : Int) (hx : PairIn Any w l m x) (h1 : left ≤ 1048576) (h2 : -1 ≤ left) : Calls Try.prog 75 #[x, .int .i64 left] w (Ret (.int .i64 (szP l m left)) w) := by
  obtain ⟨a, b, c, d, rfl, _, _, hc, hc2, hd, hd2⟩ := hx
  have hl := Nat.le_trans hc hc2
  have hm := Nat.le_trans hd hd2
  have h3 := szI_bd (l := l) h1
  have HG := hid (fun w' => szIntS_any l w' a c left hl h1 h2)
  have HV := hid (fun w' => szIntS_any m w' b d (szI l left) hm h3.2 h3.1)
  have h4 := szI_bd (l := m) h3.2
  have E := hid (show szP l m left = if szI l left < 0 then -1 else szI m (szI l left) from rfl)
  generalize szI l left = g at *
  generalize szI m g = v at *
  by_cases k1 : g < 0
  · have E2 := hid (show szP l m left = -1 by rw [E.out, if_pos k1])
    go_enter Try.func75, Try.ntmps75
    go_wp2_with fail
    refine (HG.out _).mono ?_
    rintro y w1 ⟨rfl, hb⟩
    go_wp2_with fail
    go_ret
    exact Ret.mk (int_val (by rw [E2.out])) (below_next (below_alloc _ _) hb)
  · have E2 := hid (show szP l m left = v by rw [E.out, if_neg k1])
    go_enter Try.func75, Try.ntmps75
    go_wp2_with fail
    refine (HG.out _).mono ?_
    rintro y w1 ⟨rfl, hb⟩
    obtain ⟨z, q0, q1, q2, q3⟩ := pbox_next hb (pbox_at rfl)
    have B := below_next (below_alloc _ _) hb
    clear hb
    go_wp2_with fail
    refine (HV.out _).mono ?_
    rintro y w2 ⟨rfl, hb⟩
    by_cases k2 : v < 0
    · go_wp2_with fail
      go_ret
      exact Ret.mk (int_val (by rw [E2.out]; omega)) (below_next B hb)
    · go_wp2_with fail
      go_ret
      exact Ret.mk (int_val (by rw [E2.out])) (below_next B hb)

set_option maxHeartbeats 2000000 in
theorem to_any (l m : List Int) (w : World) (x : Value) (hx : PairIn Any w l m x) (hl : l.length ≤ 1048576) (hm : m.length ≤ 1048576) : Calls Try.prog 77 #[x] w (RetP (NewPair w.heap.size l m) w) := by
  obtain ⟨a, b, c, d, rfl, h1, h2, hc, hc2, hd, hd2⟩ := hx
  have HG := hid (fun w' (M : Below w.heap.size w w') => toIntS_any l w' a c (h1.below M) hl hc hc2)
  have HV := hid (fun w' (M : Below w.heap.size w w') => toIntS_any m w' b d (h2.below M) hm hd hd2)
  go_enter Try.func77, Try.ntmps77
  go_wp2_with fail
  refine (HG.out _ (by repeat (first | exact Below.refl _ _ | assumption | refine below_a ?_ _ | refine below_o ?_ _ | refine below_d ?_ | refine below_n ?_ _ | refine below_s ?_ (by first | (simp; done) | (simp; omega) | omega) _))).mono ?_
  rintro y w1 ⟨v1, rfl, ⟨rfl, r1⟩, hb⟩
  have b1 := pbox_next hb (pbox_next (below_alloc _ _) (pbox_next (below_alloc _ _) (pbox_at (w := w) (a := .slice a l.length c) (b := .slice b m.length d) rfl)))
  have b2 := pbox_next hb (pbox_next (below_alloc _ _) (pbox_at (B := w.heap.size + 1) (by simp)))
  have b3 := pbox_next hb (pbox_at (B := w.heap.size + 1 + 1) (by simp))
  have B := below_next (show Below w.heap.size w _ from below_next (below_next (below_alloc _ _) (below_alloc _ _)) (below_alloc _ _)) hb
  clear hb
  simp only [World.size_alloc] at r1
  obtain ⟨x0, x1, x2, x3, x4⟩ := id b1
  obtain ⟨y0, y1, y2, y3, y4⟩ := id b3
  go_wp2_with fail
  have b1' := pbox_set b1 (show w.heap.size ≠ w.heap.size + 1 + 1 by omega) 0 (.slice (some ⟨w.heap.size + 1 + 1 + 1, 0, none⟩) l.length l.length)
  have b2' := pbox_set b2 (show w.heap.size + 1 ≠ w.heap.size + 1 + 1 by omega) 0 (.slice (some ⟨w.heap.size + 1 + 1 + 1, 0, none⟩) l.length l.length)
  have b3' := pbox_set0 b3 (.slice (some ⟨w.heap.size + 1 + 1 + 1, 0, none⟩) l.length l.length)
  have r1' := r1.setOther (a := ⟨w.heap.size + 1 + 1, 0, none⟩) (by simp) (.slice (some ⟨w.heap.size + 1 + 1 + 1, 0, none⟩) l.length l.length)
  have B' : Below w.heap.size w (w1.setCell ⟨w.heap.size + 1 + 1, 0, none⟩ (.slice (some ⟨w.heap.size + 1 + 1 + 1, 0, none⟩) l.length l.length)) := B.setCell (by simp; omega) _
  clear b1 b2 b3 r1 B x0 x1 x2 x3 x4 y0 y1 y2 y3 y4
  refine (HV.out _ B').mono ?_
  rintro y w2 ⟨v2, rfl, ⟨rfl, r2⟩, hb⟩
  have b2 := pbox_next hb b2'
  have b3 := pbox_next hb b3'
  have r1 := r1'.below hb
  have B := below_next B' hb
  have hlt := r1'.1
  clear b1' b2' b3' r1' B' hb
  simp only [World.size_setCell] at r2 hlt
  obtain ⟨x0, x1, x2, x3, x4⟩ := id b2
  obtain ⟨y0, y1, y2, y3, y4⟩ := id b3
  go_wp2_with fail
  have T := pbox_set1 (pbox_set0 (pbox_set b2 (show w.heap.size + 1 ≠ w.heap.size + 1 + 1 by omega) 1 (.slice (some ⟨w1.heap.size, 0, none⟩) m.length m.length)) (.slice (some ⟨w.heap.size + 1 + 1 + 1, 0, none⟩) l.length l.length)) (.slice (some ⟨w1.heap.size, 0, none⟩) m.length m.length)
  obtain ⟨_, t0, t1, _, _⟩ := T
  refine bodyPost_ret (v := .agg #[.slice (some ⟨w.heap.size + 1 + 1 + 1, 0, none⟩) l.length l.length, .slice (some ⟨w1.heap.size, 0, none⟩) m.length m.length]) (by simp [results, Try.results77, go_sem, t0, t1]) rfl ?_
  exact RetP.mk ⟨_, _, rfl, by omega, by omega, ((r1.setOther (by simp <;> omega) _).setOther (by simp <;> omega) _).setOther (by simp <;> omega) _, ((r2.setOther (by simp; omega) _).setOther (by simp; omega) _).setOther (by simp; omega) _⟩ (((B.setCell (by simp; omega) _).setCell (by simp) _).setCell (by simp) _)

set_option maxHeartbeats 1000000 in
theorem eq_any (l m l' m' : List Int) (w : World) (x y : Value) (hx : PairIn Any w l m x) (hy : PairIn Any w l' m' y) : Calls Try.prog 79 #[x, y] w (Ret (.bool (l == l' && m == m')) w) := by
  obtain ⟨a, b, c, d, rfl, h1, h2, hc, hc2, hd, hd2⟩ := hx
  obtain ⟨a', b', c', d', rfl, h1', h2', hc', hc2', hd', hd2'⟩ := hy
  have HG := hid (fun w' (M : Below w.heap.size w w') => eqIntS_any l l' w' a a' c c' (h1.below M) (h1'.below M) hc hc2 hc' hc2')
  have HV := hid (fun w' (M : Below w.heap.size w w') => eqIntS_any m m' w' b b' d d' (h2.below M) (h2'.below M) hd hd2 hd' hd2')
  generalize (l == l') = g at *
  generalize (m == m') = v at *
  go_enter Try.func79, Try.ntmps79
  go_wp2_with fail
  refine (HG.out _ (by repeat (first | exact Below.refl _ _ | assumption | refine below_a ?_ _ | refine below_o ?_ _ | refine below_d ?_ | refine below_n ?_ _ | refine below_s ?_ (by first | (simp; done) | (simp; omega) | omega) _))).mono ?_
  rintro y w1 ⟨rfl, hb⟩
  obtain ⟨z, q0, q1, q2, q3⟩ := pbox_next hb (pbox_next (below_alloc _ _) (pbox_at rfl))
  obtain ⟨z', r0, r1, r2, r3⟩ := pbox_next hb (pbox_at (B := w.heap.size + 1) (by simp))
  have B := below_next (below_next (below_alloc _ _) (below_alloc _ _)) hb
  clear hb
  cases g
  · go_wp2_with fail
    go_ret
    exact Ret.mk rfl B
  · go_wp2_with fail
    refine (HV.out _ B).mono ?_
    rintro y w2 ⟨rfl, hb⟩
    cases v
    · go_wp2_with fail
      go_ret
      exact Ret.mk rfl (below_next B hb)
    · go_wp2_with fail
      go_ret
      exact Ret.mk rfl (below_next B hb)
end State
end Go.Proofs.Ytfemikebklmlpaa
