/- Joined texts (StatePair, StateV, ReachP, EvalSpec, EvalImpl, ReadyV, OwnPlain): contracts and plain laws. Conditions: those of each theorem. -/
import Derived.Test.YtdmieedfddgmjaaJE2
import Derived.Test.YtdmieedfddgmjaaJE1
import Derived.Test.YtdmieedfddgmjaaJE4
import Derived.Test.YtdmieedfddgmjaaJE0
import Derived.Test.YtdmieedfddgmjaaJE3
set_option linter.unusedVariables false
set_option linter.unusedSimpArgs false
namespace Go.Proofs.Ytdmieedfddgmjaa
open Go.RowKit
def szI (l : List Int) (left : Int) : Int := if left - l.length < 0 then -1 else left - l.length
theorem szI_bd {l : List Int} {left : Int} (h2 : left ≤ 1048576) : -1 ≤ szI l left ∧ szI l left ≤ 1048576 := by unfold szI; split <;> omega
theorem szI_len {l : List Int} {left : Int} (h2 : left ≤ 1048576) (h : 0 ≤ szI l left) : l.length ≤ 1048576 := by unfold szI at h; split at h <;> omega
set_option maxHeartbeats 400000 in
theorem szIntS_any (l : List Int) (w : World) (a : Option Addr) (c : Nat) (left : Int) (hl : l.length ≤ maxLen) (h1 : left ≤ 1048576) (h2 : -1 ≤ left) : Calls Try.prog 17 #[.slice a l.length c, .int .i64 left] w (Ret (.int .i64 (szI l left)) w) := by
  unfold maxLen at hl
  by_cases h : left - l.length < 0
  · have E := hid (show szI l left = -1 by rw [szI, if_pos h])
    have f1 : IntKind.i64.wrap (left - (l.length : Int)) = left - l.length := IntWalk.i64_in _ (by omega)
    go_enter Try.func17, Try.ntmps17
    go_wp2_with fail
    go_ret
    exact Ret.mk (int_val (by rw [E.out])) (Below.refl _ _)
  · have E := hid (show szI l left = left - l.length by rw [szI, if_neg h])
    have f1 : IntKind.i64.wrap (left - (l.length : Int)) = left - l.length := IntWalk.i64_in _ (by omega)
    go_enter Try.func17, Try.ntmps17
    go_wp2_with fail
    go_ret
    exact Ret.mk (int_val (by rw [E.out])) (Below.refl _ _)
namespace State
/-- a variable of two cells -/
abbrev PBox (w : World) (B : Nat) (a b : Value) : Prop := B < w.heap.size ∧ w.cell? ⟨B, 0, none⟩ = some a ∧ w.cell? ⟨B, 1, none⟩ = some b ∧ w.frozen? ⟨B, 0, none⟩ = false ∧ w.frozen? ⟨B, 1, none⟩ = false
theorem pbox_next {w w' : World} (h : Below w.heap.size w w') {B : Nat} {a b : Value} (hb : PBox w B a b) : PBox w' B a b :=
  ⟨Nat.lt_of_lt_of_le hb.1 h.size, by rw [h.cell (p := ⟨B, 0, none⟩) hb.1]; exact hb.2.1, by rw [h.cell (p := ⟨B, 1, none⟩) hb.1]; exact hb.2.2.1,
    by rw [h.frozen (p := ⟨B, 0, none⟩) hb.1]; exact hb.2.2.2.1, by rw [h.frozen (p := ⟨B, 1, none⟩) hb.1]; exact hb.2.2.2.2⟩
theorem pbox_at {w : World} {B : Nat} {a b : Value} {t : TypeId} (h : B = w.heap.size) : PBox (w.alloc (.cells #[a, b] t)) B a b := by subst h; exact ⟨by simp, by simp, by simp, by simp, by simp⟩

theorem pbox_set0 {w : World} {B : Nat} {a b : Value} (h : PBox w B a b) (v : Value) : PBox (w.setCell ⟨B, 0, none⟩ v) B v b :=
  ⟨by simpa using h.1, World.cell?_setCell_same _ _ _ h.2.1, by rw [World.cell?_setCell_other _ _ _ _ (by simp)]; exact h.2.2.1, by simpa using h.2.2.2.1, by simpa using h.2.2.2.2⟩
theorem pbox_set1 {w : World} {B : Nat} {a b : Value} (h : PBox w B a b) (v : Value) : PBox (w.setCell ⟨B, 1, none⟩ v) B a v :=
  ⟨by simpa using h.1, by rw [World.cell?_setCell_other _ _ _ _ (by simp)]; exact h.2.1, World.cell?_setCell_same _ _ _ h.2.2.1, by simpa using h.2.2.2.1, by simpa using h.2.2.2.2⟩
theorem pbox_but {w w' : World} {D : Nat} (h : But w D w') {B : Nat} {a b : Value} (hd : B ≠ D) (hb : PBox w B a b) : PBox w' B a b :=
  ⟨Nat.lt_of_lt_of_le hb.1 h.size, by rw [h.cell hb.1 hd]; exact hb.2.1, by rw [h.cell hb.1 hd]; exact hb.2.2.1, by rw [h.frozen hb.1 hd]; exact hb.2.2.2.1, by rw [h.frozen hb.1 hd]; exact hb.2.2.2.2⟩
theorem pbox_set {w : World} {B D : Nat} {a b : Value} (h : PBox w B a b) (hd : B ≠ D) (i : Nat) (v : Value) : PBox (w.setCell ⟨D, i, none⟩ v) B a b := pbox_but (But.set w D i v) hd h

/-- two rows of numbers -/
def PairIn (p : Nat → Prop) (w : World) (l m : List Int) (v : Value) : Prop := ∃ a b c d, v = .agg #[.slice a l.length c, .slice b m.length d] ∧ IntsIn p w a l ∧ IntsIn p w b m ∧ l.length ≤ c ∧ c ≤ maxLen ∧ m.length ≤ d ∧ d ≤ maxLen
theorem PairIn.below {p : Nat → Prop} {w w' : World} {l m : List Int} {v : Value} (h : PairIn p w l m v) (hb : Below w.heap.size w w') : PairIn p w' l m v := by
  obtain ⟨a, b, c, d, rfl, h1, h2, h3⟩ := h
  exact ⟨a, b, c, d, rfl, h1.below hb, h2.below hb, h3⟩
/-- two rows of one's own -/
def NewPair (B : Nat) (l m : List Int) (v : Value) (w : World) : Prop := ∃ R1 R2, v = .agg #[.slice (some ⟨R1, 0, none⟩) l.length l.length, .slice (some ⟨R2, 0, none⟩) m.length m.length] ∧ B ≤ R1 ∧ R1 < R2 ∧ Row w R1 l.length (fun i => .int .i64 (l.getD i 0)) ∧ Row w R2 m.length (fun i => .int .i64 (m.getD i 0))
theorem NewPair.any {B : Nat} {l m : List Int} {v : Value} {w : World} (h : NewPair B l m v w) (hl : ∀ n, n ∈ l → i64 n) (hm : ∀ n, n ∈ m → i64 n) (h1 : l.length ≤ maxLen) (h2 : m.length ≤ maxLen) : PairIn Any w l m v := by
  obtain ⟨R1, R2, rfl, _, _, r1, r2⟩ := h
  exact ⟨_, _, _, _, rfl, r1.ints hl trivial, r2.ints hm trivial, Nat.le_refl _, h1, Nat.le_refl _, h2⟩

def szP (l m : List Int) (left : Int) : Int := if szI l left < 0 then -1 else szI m (szI l left)
theorem szP_bd {l m : List Int} {left : Int} (h2 : left ≤ 1048576) : -1 ≤ szP l m left ∧ szP l m left ≤ 1048576 := by
  have h3 := szI_bd (l := l) h2
  unfold szP
  split
  · omega
  · exact szI_bd h3.2
theorem szP_len {l m : List Int} {left : Int} (h2 : left ≤ 1048576) (h : 0 ≤ szP l m left) : l.length ≤ 1048576 ∧ m.length ≤ 1048576 := by
  have h3 := szI_bd (l := l) h2
  unfold szP at h
  split at h
  · omega
  · exact ⟨szI_len h2 (by omega), szI_len h3.2 h⟩
set_option maxHeartbeats 1000000 in
theorem sz_any (l m : List Int) (w : World) (x : Value) (left : Int) (hx : PairIn Any w l m x) (h1 : left ≤ 1048576) (h2 : -1 ≤ left) : Calls Try.prog 5 #[x, .int .i64 left] w (Ret (.int .i64 (szP l m left)) w) := by
  obtain ⟨a, b, c, d, rfl, _, _, hc, hc2, hd, hd2⟩ := hx
  have hl := Nat.le_trans hc hc2
  have hm := Nat.le_trans hd hd2
  have h3 := szI_bd (l := l) h1
  have HG := hid (fun w' => szIntS_any l w' a c left hl h1 h2)
  have HV := hid (fun w' => szIntS_any m w' b d (szI l left) hm h3.2 h3.1)
  have h4 := szI_bd (l := m) h3.2
  have E := hid (show szP l m left = if szI l left < 0 then -1 else szI m (szI l left) from rfl)
  generalize szI l left = g at *
  generalize szI m g = v at *
  by_cases k1 : g < 0
  · have E2 := hid (show szP l m left = -1 by rw [E.out, if_pos k1])
    go_enter Try.func5, Try.ntmps5
    go_wp2_with fail
    refine (HG.out _).mono ?_
    rintro y w1 ⟨rfl, hb⟩
    go_wp2_with fail
    go_ret
    exact Ret.mk (int_val (by rw [E2.out])) (below_next (below_alloc _ _) hb)
  · have E2 := hid (show szP l m left = v by rw [E.out, if_neg k1])
    go_enter Try.func5, Try.ntmps5
    go_wp2_with fail
    refine (HG.out _).mono ?_
    rintro y w1 ⟨rfl, hb⟩
    obtain ⟨z, q0, q1, q2, q3⟩ := pbox_next hb (pbox_at rfl)
    have B := below_next (below_alloc _ _) hb
    clear hb
    go_wp2_with fail
    refine (HV.out _).mono ?_
    rintro y w2 ⟨rfl, hb⟩
    by_cases k2 : v < 0
    · go_wp2_with fail
      go_ret
      exact Ret.mk (int_val (by rw [E2.out]; omega)) (below_next B hb)
    · go_wp2_with fail
      go_ret
      exact Ret.mk (int_val (by rw [E2.out])) (below_next B hb)

set_option maxHeartbeats 2000000 in
theorem to_any (l m : List Int) (w : World) (x : Value) (hx : PairIn Any w l m x) (hl : l.length ≤ 1048576) (hm : m.length ≤ 1048576) : Calls Try.prog 8 #[x] w (RetP (NewPair w.heap.size l m) w) := by
  obtain ⟨a, b, c, d, rfl, h1, h2, hc, hc2, hd, hd2⟩ := hx
  have HG := hid (fun w' (M : Below w.heap.size w w') => toIntS_any l w' a c (h1.below M) hl hc hc2)
  have HV := hid (fun w' (M : Below w.heap.size w w') => toIntS_any m w' b d (h2.below M) hm hd hd2)
  go_enter Try.func8, Try.ntmps8
  go_wp2_with fail
  refine (HG.out _ (by repeat (first | exact Below.refl _ _ | assumption | refine below_a ?_ _ | refine below_o ?_ _ | refine below_d ?_ | refine below_n ?_ _ | refine below_s ?_ (by first | (simp; done) | (simp; omega) | omega) _))).mono ?_
  rintro y w1 ⟨v1, rfl, ⟨rfl, r1⟩, hb⟩
  have b1 := pbox_next hb (pbox_next (below_alloc _ _) (pbox_next (below_alloc _ _) (pbox_at (w := w) (a := .slice a l.length c) (b := .slice b m.length d) rfl)))
  have b2 := pbox_next hb (pbox_next (below_alloc _ _) (pbox_at (B := w.heap.size + 1) (by simp)))
  have b3 := pbox_next hb (pbox_at (B := w.heap.size + 1 + 1) (by simp))
  have B := below_next (show Below w.heap.size w _ from below_next (below_next (below_alloc _ _) (below_alloc _ _)) (below_alloc _ _)) hb
  clear hb
  simp only [World.size_alloc] at r1
  obtain ⟨x0, x1, x2, x3, x4⟩ := id b1
  obtain ⟨y0, y1, y2, y3, y4⟩ := id b3
  go_wp2_with fail
  have b1' := pbox_set b1 (show w.heap.size ≠ w.heap.size + 1 + 1 by omega) 0 (.slice (some ⟨w.heap.size + 1 + 1 + 1, 0, none⟩) l.length l.length)
  have b2' := pbox_set b2 (show w.heap.size + 1 ≠ w.heap.size + 1 + 1 by omega) 0 (.slice (some ⟨w.heap.size + 1 + 1 + 1, 0, none⟩) l.length l.length)
  have b3' := pbox_set0 b3 (.slice (some ⟨w.heap.size + 1 + 1 + 1, 0, none⟩) l.length l.length)
  have r1' := r1.setOther (a := ⟨w.heap.size + 1 + 1, 0, none⟩) (by simp) (.slice (some ⟨w.heap.size + 1 + 1 + 1, 0, none⟩) l.length l.length)
  have B' : Below w.heap.size w (w1.setCell ⟨w.heap.size + 1 + 1, 0, none⟩ (.slice (some ⟨w.heap.size + 1 + 1 + 1, 0, none⟩) l.length l.length)) := B.setCell (by simp; omega) _
  clear b1 b2 b3 r1 B x0 x1 x2 x3 x4 y0 y1 y2 y3 y4
  refine (HV.out _ B').mono ?_
  rintro y w2 ⟨v2, rfl, ⟨rfl, r2⟩, hb⟩
  have b2 := pbox_next hb b2'
  have b3 := pbox_next hb b3'
  have r1 := r1'.below hb
  have B := below_next B' hb
  have hlt := r1'.1
  clear b1' b2' b3' r1' B' hb
  simp only [World.size_setCell] at r2 hlt
  obtain ⟨x0, x1, x2, x3, x4⟩ := id b2
  obtain ⟨y0, y1, y2, y3, y4⟩ := id b3
  go_wp2_with fail
  have T := pbox_set1 (pbox_set0 (pbox_set b2 (show w.heap.size + 1 ≠ w.heap.size + 1 + 1 by omega) 1 (.slice (some ⟨w1.heap.size, 0, none⟩) m.length m.length)) (.slice (some ⟨w.heap.size + 1 + 1 + 1, 0, none⟩) l.length l.length)) (.slice (some ⟨w1.heap.size, 0, none⟩) m.length m.length)
  obtain ⟨_, t0, t1, _, _⟩ := T
  refine bodyPost_ret (v := .agg #[.slice (some ⟨w.heap.size + 1 + 1 + 1, 0, none⟩) l.length l.length, .slice (some ⟨w1.heap.size, 0, none⟩) m.length m.length]) (by simp [results, Try.results8, go_sem, t0, t1]) rfl ?_
  exact RetP.mk ⟨_, _, rfl, by omega, by omega, ((r1.setOther (by simp <;> omega) _).setOther (by simp <;> omega) _).setOther (by simp <;> omega) _, ((r2.setOther (by simp; omega) _).setOther (by simp; omega) _).setOther (by simp; omega) _⟩ (((B.setCell (by simp; omega) _).setCell (by simp) _).setCell (by simp) _)

set_option maxHeartbeats 1000000 in
theorem eq_any (l m l' m' : List Int) (w : World) (x y : Value) (hx : PairIn Any w l m x) (hy : PairIn Any w l' m' y) : Calls Try.prog 11 #[x, y] w (Ret (.bool (l == l' && m == m')) w) := by
  obtain ⟨a, b, c, d, rfl, h1, h2, hc, hc2, hd, hd2⟩ := hx
  obtain ⟨a', b', c', d', rfl, h1', h2', hc', hc2', hd', hd2'⟩ := hy
  have HG := hid (fun w' (M : Below w.heap.size w w') => eqIntS_any l l' w' a a' c c' (h1.below M) (h1'.below M) hc hc2 hc' hc2')
  have HV := hid (fun w' (M : Below w.heap.size w w') => eqIntS_any m m' w' b b' d d' (h2.below M) (h2'.below M) hd hd2 hd' hd2')
  generalize (l == l') = g at *
  generalize (m == m') = v at *
  go_enter Try.func11, Try.ntmps11
  go_wp2_with fail
  refine (HG.out _ (by repeat (first | exact Below.refl _ _ | assumption | refine below_a ?_ _ | refine below_o ?_ _ | refine below_d ?_ | refine below_n ?_ _ | refine below_s ?_ (by first | (simp; done) | (simp; omega) | omega) _))).mono ?_
  rintro y w1 ⟨rfl, hb⟩
  obtain ⟨z, q0, q1, q2, q3⟩ := pbox_next hb (pbox_next (below_alloc _ _) (pbox_at rfl))
  obtain ⟨z', r0, r1, r2, r3⟩ := pbox_next hb (pbox_at (B := w.heap.size + 1) (by simp))
  have B := below_next (below_next (below_alloc _ _) (below_alloc _ _)) hb
  clear hb
  cases g
  · go_wp2_with fail
    go_ret
    exact Ret.mk rfl B
  · go_wp2_with fail
    refine (HV.out _ B).mono ?_
    rintro y w2 ⟨rfl, hb⟩
    cases v
    · go_wp2_with fail
      go_ret
      exact Ret.mk rfl (below_next B hb)
    · go_wp2_with fail
      go_ret
      exact Ret.mk rfl (below_next B hb)
end State
end Go.Proofs.Ytdmieedfddgmjaa
namespace Go.Proofs.Ytdmieedfddgmjaa
open Go.RowKit
set_option linter.unusedVariables false
namespace State

/-- is each location one of its process -/
def locsOk : List Int → List Pr → Bool
  | l :: ls, q :: qs => decide (0 ≤ l ∧ l < q.locs) && locsOk ls qs
  | _, _ => true
/-- has a system a state -/
def hasB (s : Sy) (ls vs : List Int) : Bool := decide (ls.length = s.procs.length) && (Expr.okVals vs && locsOk ls s.procs)
def okSt (s : Sy) (ls vs : List Int) : Bool := Sys.okSy s && hasB s ls vs
theorem locsOk_drop {ls : List Int} {qs : List Pr} {j : Nat} (h1 : j < ls.length) (h2 : j < qs.length) : locsOk (ls.drop j) (qs.drop j) = (decide (0 ≤ ls[j] ∧ ls[j] < qs[j].locs) && locsOk (ls.drop (j + 1)) (qs.drop (j + 1))) := by
  rw [List.drop_eq_getElem_cons h1, List.drop_eq_getElem_cons h2]; rfl

theorem okSy_locs {s : Sy} (h : Sys.okSy s = true) : ∀ q, q ∈ s.procs → 1 ≤ q.locs := fun q hq => by
  rw [Sys.okSy, Bool.and_eq_true, List.all_eq_true] at h
  have := h.1 q hq
  rw [Sys.okP] at this
  simp only [Bool.and_eq_true, decide_eq_true_eq] at this
  exact this.2.1

end State
end Go.Proofs.Ytdmieedfddgmjaa
namespace Go.Proofs.Ytdmieedfddgmjaa
namespace Sys

noncomputable def decP (p : Prop) : Bool := @decide p (Classical.propDecidable p)
theorem decP_iff {p : Prop} : decP p = true ↔ p := @decide_eq_true_iff p (Classical.propDecidable p)
/-- a location that is reached -/
inductive Rch (es : List Ed) : Nat → Prop where
  | zero : Rch es 0
  | step (e : Ed) (he : e ∈ es) (h : Rch es e.src.toNat) : Rch es e.dst.toNat
noncomputable def rchB (es : List Ed) (k : Nat) : Bool := decP (Rch es k)
/-- closed under the edges -/
def Clo (es : List Ed) (o : Nat → Bool) : Prop := ∀ e, e ∈ es → o e.src.toNat = true → o e.dst.toNat = true
theorem clo_done {es : List Ed} {o : Nat → Bool} (h0 : o 0 = true) (hs : ∀ k, o k = true → Rch es k) (hc : Clo es o) (k : Nat) : o k = rchB es k := by
  rw [Bool.eq_iff_iff, rchB, decP_iff]
  refine ⟨hs k, fun h => ?_⟩
  induction h with
  | zero => exact h0
  | step e he _ ih => exact hc e he ih
def updB (o : Nat → Bool) (k : Nat) (v : Bool) : Nat → Bool := fun j => if j = k then v else o j
theorem updB_same (o : Nat → Bool) (k : Nat) : updB o k (o k) = o := by
  funext j; unfold updB; split
  · rename_i e; rw [e]
  · rfl
/-- how many edges lead into the set -/
def cntE (es : List Ed) (o : Nat → Bool) : Nat := es.countP fun e => o e.dst.toNat
theorem cntE_le (es : List Ed) (o : Nat → Bool) : cntE es o ≤ es.length := List.countP_le_length
theorem cntE_mono {es : List Ed} {o o' : Nat → Bool} (h : ∀ k, o k = true → o' k = true) : cntE es o ≤ cntE es o' := List.countP_mono_left fun e _ he => h _ he
theorem cntE_lt {es : List Ed} {o o' : Nat → Bool} (h : ∀ k, o k = true → o' k = true) {e : Ed} (he : e ∈ es) (h1 : o e.dst.toNat = false) (h2 : o' e.dst.toNat = true) : cntE es o < cntE es o' := by
  induction es with
  | nil => cases he
  | cons x xs ih =>
    have hm : cntE xs o ≤ cntE xs o' := cntE_mono h
    simp only [cntE, List.countP_cons] at hm ⊢
    cases he with
    | head => rw [h1, h2]; simp; omega
    | tail _ he =>
      have := ih he
      simp only [cntE] at this
      by_cases hx : o x.dst.toNat = true
      · rw [hx, h _ hx]; simp; omega
      · rw [Bool.eq_false_iff.2 hx]; simp; omega
theorem cntE_all {es : List Ed} {o : Nat → Bool} (h : es.length ≤ cntE es o) : Clo es o := by
  have h2 : cntE es o = es.length := Nat.le_antisymm (cntE_le es o) h
  unfold cntE at h2
  rw [List.countP_eq_length] at h2
  exact fun e he _ => h2 e he

/-- one sweep of the program over the edges, behind the first j of them -/
structure RRel (es : List Ed) (o0 : Nat → Bool) (j : Nat) (o : Nat → Bool) : Prop where
  sub : ∀ k, o0 k = true → o k = true
  snd : ∀ k, o k = true → Rch es k
  pr : (o = o0 ∧ ∀ e, e ∈ es.take j → o e.src.toNat = true → o e.dst.toNat = true) ∨ cntE es o0 < cntE es o
theorem RRel.start {es : List Ed} {o : Nat → Bool} (h : ∀ k, o k = true → Rch es k) : RRel es o 0 o := ⟨fun _ h => h, h, .inl ⟨rfl, by simp⟩⟩
theorem RRel.step {es : List Ed} {o0 o : Nat → Bool} {j : Nat} (h : RRel es o0 j o) (hj : j < es.length) : RRel es o0 (j + 1) (updB o es[j].dst.toNat (o es[j].dst.toNat || o es[j].src.toNat)) := by
  have hm : es[j] ∈ es := List.getElem_mem hj
  have htk : es.take (j + 1) = es.take j ++ [es[j]] := by rw [List.take_add_one, List.getElem?_eq_getElem hj]; rfl
  by_cases h1 : o es[j].dst.toNat = true
  · rw [h1, Bool.true_or]
    have e0 : updB o es[j].dst.toNat true = o := by rw [← h1]; exact updB_same _ _
    rw [e0]
    refine ⟨h.sub, h.snd, ?_⟩
    rcases h.pr with ⟨h2, h3⟩ | h2
    · refine .inl ⟨h2, fun e he hs => ?_⟩
      rw [htk] at he
      rcases List.mem_append.1 he with he | he
      · exact h3 e he hs
      · obtain rfl : e = es[j] := by simpa using he
        exact h1
    · exact .inr h2
  · have h1' : o es[j].dst.toNat = false := Bool.eq_false_iff.2 h1
    by_cases h2 : o es[j].src.toNat = true
    · rw [h1', h2, Bool.or_true]
      have hup : ∀ k, o k = true → updB o es[j].dst.toNat true k = true := fun k hk => by unfold updB; split; rfl; exact hk
      refine ⟨fun k hk => hup k (h.sub k hk), fun k hk => ?_, .inr ?_⟩
      · unfold updB at hk
        split at hk
        · rename_i e; rw [e]; exact .step _ hm (h.snd _ h2)
        · exact h.snd k hk
      · have := cntE_lt hup hm h1' (by simp [updB])
        have h4 := cntE_mono (es := es) h.sub
        omega
    · have h2' : o es[j].src.toNat = false := Bool.eq_false_iff.2 h2
      rw [h2', Bool.or_false, updB_same]
      refine ⟨h.sub, h.snd, ?_⟩
      rcases h.pr with ⟨h3, h4⟩ | h3
      · refine .inl ⟨h3, fun e he hs => ?_⟩
        rw [htk] at he
        rcases List.mem_append.1 he with he | he
        · exact h4 e he hs
        · obtain rfl : e = es[j] := by simpa using he
          exact absurd hs h2
      · exact .inr h3
/-- behind r sweeps -/
structure RRound (es : List Ed) (r : Nat) (o : Nat → Bool) : Prop where
  zero : o 0 = true
  snd : ∀ k, o k = true → Rch es k
  pr : Clo es o ∨ r ≤ cntE es o
theorem RRound.next {es : List Ed} {r : Nat} {o0 o : Nat → Bool} (h0 : RRound es r o0) (h : RRel es o0 es.length o) : RRound es (r + 1) o := by
  refine ⟨h.sub 0 h0.zero, h.snd, ?_⟩
  rcases h.pr with ⟨h1, h2⟩ | h1
  · exact .inl fun e he => h2 e (by rw [List.take_of_length_le (Nat.le_refl _)]; exact he)
  · rcases h0.pr with hc | hc
    · -- closed before: nothing can have been added
      exfalso
      have hsub : ∀ k, o k = true → o0 k = true := fun k hk => by
        have := h.snd k hk
        have e := clo_done h0.zero h0.snd hc k
        rw [e, rchB, decP_iff]; exact this
      have := cntE_mono (es := es) hsub
      omega
    · exact .inr (by omega)
theorem RRound.done {es : List Ed} {o : Nat → Bool} (h : RRound es es.length o) (k : Nat) : o k = rchB es k :=
  clo_done h.zero h.snd (by rcases h.pr with h | h; exact h; exact cntE_all h) k

/-- which locations of a process of n are reached -/
noncomputable def rchL (q : Pr) : List Bool := (List.range q.locs.toNat).map fun (i : Nat) => rchB q.edges i
theorem rchL_len (q : Pr) : (rchL q).length = q.locs.toNat := by simp [rchL]
theorem rchL_at {q : Pr} {i : Nat} (h : i < q.locs.toNat) : (rchL q)[i]? = some (rchB q.edges i) := by simp [rchL, h]
/-- what SystemReach returns -/
noncomputable def reachV (s : Sy) (n : Int) : List Bool := if okSy s = true ∧ 0 ≤ n ∧ n < s.procs.length then rchL (s.procs.getD n.toNat ⟨0, []⟩) else []
theorem okP_locs {q : Pr} (h : okP q = true) : 1 ≤ q.locs ∧ q.locs ≤ 4 ∧ q.edges.length ≤ 6 ∧ ∀ e, e ∈ q.edges → 0 ≤ e.src ∧ e.src < q.locs ∧ 0 ≤ e.dst ∧ e.dst < q.locs := by
  rw [okP] at h
  simp only [Bool.and_eq_true, decide_eq_true_eq, List.all_eq_true] at h
  obtain ⟨h1, h2, h3, h4⟩ := h
  refine ⟨h2, h3, h4, fun e he => ?_⟩
  have := h1 e he
  rw [Edge.okB] at this
  simp only [Bool.and_eq_true, decide_eq_true_eq] at this
  omega
theorem okSy_procs {s : Sy} (h : okSy s = true) : s.procs.length ≤ 3 ∧ ∀ q, q ∈ s.procs → okP q = true := by
  rw [okSy] at h
  simp only [Bool.and_eq_true, decide_eq_true_eq, List.all_eq_true] at h
  exact ⟨h.2.2.2, h.1⟩
theorem reachV_len (s : Sy) (n : Int) : (reachV s n).length ≤ 1000 := by
  unfold reachV
  split
  · rename_i h
    obtain ⟨h1, h2, h3⟩ := h
    have hn : n.toNat < s.procs.length := by omega
    have hg : s.procs.getD n.toNat ⟨0, []⟩ = s.procs[n.toNat] := by rw [List.getD_eq_getElem?_getD, List.getElem?_eq_getElem hn]; rfl
    have := okP_locs ((okSy_procs h1).2 _ (List.getElem_mem hn))
    rw [rchL_len, hg]; omega
  · simp
end Sys
end Go.Proofs.Ytdmieedfddgmjaa
namespace Go.Proofs.Ytdmieedfddgmjaa
open Go.RowKit
namespace Expr

set_option maxHeartbeats 1000000 in
theorem sv_leaf (k v : Int) (hk : (k = 1 ∧ 0 ≤ v ∧ v ≤ 3) ∨ (k = 2 ∧ (v = 0 ∨ v = 1 ∨ v = 2))) : EvT 37 (.mk k v []) := by
  intro n w x a l c hs hx hv hc hc2
  rw [TrIn_mk] at hx
  obtain ⟨a', n', c', rfl, _, _, rfl, hc', hc2', hks⟩ := hx
  obtain ⟨b, o, x, y, z, rfl, rfl, hb, g0, g1, g2⟩ := hv.cells
  unfold maxLen at hc2
  clear hs hks hv
  simp only [List.length_nil] at hc' ⊢
  rcases hk with ⟨rfl, hv⟩ | ⟨rfl, rfl | rfl | rfl⟩
  all_goals
    go_enter Try.func37, Try.ntmps37
    go_wp2_with fail
    go_ret
    exact Ret.mk (int_val (by simp [evalT, evalTs, nodeVal, gOf])) (below_alloc _ _)

set_option maxHeartbeats 1000000 in
theorem sv_not (t : Tr) (h : EvT 37 t) : EvT 37 (.mk 3 0 [t]) := by
  intro n w x a l c hs hx hv hc hc2
  obtain ⟨m, rfl, _, _, _, _, _, hkids⟩ := exprL.shape_mk hs
  have E := hid (show evalT (gOf l) (.mk 3 0 [t]) = tr01 (evalT (gOf l) t == 0) from rfl)
  have hkid := hid (hkids t (by simp))
  have hbd := evalT_bd (gOf l) hv.bd m t hkid.out
  rw [TrIn_mk] at hx
  obtain ⟨a', n', c', rfl, _, _, rfl, hc', hc2', hks⟩ := hx
  rw [TrsIn_cons] at hks
  obtain ⟨b, o, c0, c1, c2, rfl, _, g0, g1, g2, hT, _⟩ := hks
  have hb := blt g0
  clear hs hkids
  simp only [List.length_cons, List.length_nil] at hc' ⊢
  go_enter Try.func37, Try.ntmps37
  go_wp2_with fail
  refine (h m _ _ a l c hkid.out (TrIn_alloc hT _) (hv.below (below_alloc _ _)) hc hc2).mono ?_
  rintro e w1 ⟨rfl, hb1⟩
  have b1 := box3_next hb1 (box3_new ..)
  generalize evalT (gOf l) t = A at *
  go_wp2_with fail
  refine (bool01 _ _).mono ?_
  rintro e w2 ⟨rfl, rfl⟩
  go_wp2_with fail
  go_ret
  exact Ret.mk (int_val E.out.symm) (below_next (below_alloc _ _) hb1)

set_option maxHeartbeats 4000000 in
theorem sv_two (k : Int) (hk : k = 4 ∨ k = 5 ∨ k = 6 ∨ k = 7 ∨ k = 8 ∨ k = 9) (t u : Tr) (h : EvT 37 t) (h' : EvT 37 u) : EvT 37 (.mk k 0 [t, u]) := by
  intro n w x a l c hs hx hv hc hc2
  obtain ⟨m, rfl, _, _, _, _, _, hkids⟩ := exprL.shape_mk hs
  have E := hid (show evalT (gOf l) (.mk k 0 [t, u]) = nodeVal (gOf l) k 0 [evalT (gOf l) t, evalT (gOf l) u] from rfl)
  have hkid := hid (hkids t (by simp))
  have hkid' := hid (hkids u (by simp))
  have hbd := evalT_bd (gOf l) hv.bd m t hkid.out
  have hbd' := evalT_bd (gOf l) hv.bd m u hkid'.out
  rw [TrIn_mk] at hx
  obtain ⟨a', n', c', rfl, _, _, rfl, hc', hc2', hks⟩ := hx
  obtain ⟨b, o, c0, c1, c2, d0, d1, d2, rfl, hb, g0, g1, g2, f0, f1, f2, hT, hU⟩ := two_cells hks
  clear hs hkids hks
  have H := hid (fun w x a (hx : TrIn Any w t x) (hv : Vals w a l) => h m w x a l c hkid.out hx hv hc hc2)
  have H' := hid (fun w x a (hx : TrIn Any w u x) (hv : Vals w a l) => h' m w x a l c hkid'.out hx hv hc hc2)
  simp only [List.length_cons, List.length_nil] at hc' ⊢
  generalize evalT (gOf l) t = A at *
  generalize evalT (gOf l) u = B at *
  rcases hk with rfl | rfl | rfl | rfl | rfl | rfl
  all_goals
    go_enter Try.func37, Try.ntmps37
    go_wp2_with fail
    refine (H.out _ _ a (TrIn_alloc hT _) (hv.below (below_alloc _ _))).mono ?_
    rintro e w1 ⟨rfl, hb1⟩
    have b1 := box3_next hb1 (box3_new ..)
    have BB := below_next (below_alloc _ _) hb1
    obtain ⟨k0, k1, k2⟩ := cells_next BB hb f0 f1 f2
    have hbb : b < w1.heap.size := Nat.lt_of_lt_of_le hb BB.size
    clear hb1
    go_wp2_with fail
    refine (H'.out _ _ a (TrIn_below BB hU) (hv.below BB)).mono ?_
    rintro e w2 ⟨rfl, hb2⟩
    replace BB := below_next BB hb2
    replace b1 := box3_next hb2 b1
    clear hb2
  · by_cases hA : A = 0
    · have hA2 : (A != 0) = false := by simpa using hA
      have HA := hid hA2
      go_wp2_with fail
      refine (bool01 _ _).mono ?_
      rintro e w3 ⟨rfl, rfl⟩
      go_wp2_with fail
      go_ret
      exact Ret.mk (int_val (by rw [E.out]; simp only [nodeVal]; rw [HA.out]; simp)) BB
    · have hA2 : (A != 0) = true := by simpa using hA
      have HA := hid hA2
      go_wp2_with fail
      refine (bool01 _ _).mono ?_
      rintro e w3 ⟨rfl, rfl⟩
      go_wp2_with fail
      go_ret
      exact Ret.mk (int_val (by rw [E.out]; simp only [nodeVal]; rw [HA.out]; simp)) BB
  · by_cases hA : A = 0
    · have hA2 : (A != 0) = false := by simpa using hA
      have HA := hid hA2
      go_wp2_with fail
      refine (bool01 _ _).mono ?_
      rintro e w3 ⟨rfl, rfl⟩
      go_wp2_with fail
      go_ret
      exact Ret.mk (int_val (by rw [E.out]; simp only [nodeVal]; rw [HA.out]; simp)) BB
    · have hA2 : (A != 0) = true := by simpa using hA
      have HA := hid hA2
      go_wp2_with fail
      refine (bool01 _ _).mono ?_
      rintro e w3 ⟨rfl, rfl⟩
      go_wp2_with fail
      go_ret
      exact Ret.mk (int_val (by rw [E.out]; simp only [nodeVal]; rw [HA.out]; simp)) BB
  · go_wp2_with fail
    refine (bool01 _ _).mono ?_
    rintro e w3 ⟨rfl, rfl⟩
    go_wp2_with fail
    go_ret
    exact Ret.mk (int_val (by rw [E.out]; simp [nodeVal])) BB
  · go_wp2_with fail
    refine (bool01 _ _).mono ?_
    rintro e w3 ⟨rfl, rfl⟩
    go_wp2_with fail
    go_ret
    exact Ret.mk (int_val (by rw [E.out]; simp [nodeVal])) BB
  · go_wp2_with fail
    go_ret
    exact Ret.mk (int_val (by rw [E.out]; simp [nodeVal])) BB
  · go_wp2_with fail
    go_ret
    exact Ret.mk (int_val (by rw [E.out]; simp [nodeVal]; omega)) BB

theorem sv_any : ∀ t, EvT 37 t := Tr.ind fun k v kids ih => by
  intro n w x a l c hs
  obtain ⟨m, h1, h2, h3, h4, h5, h6, h7⟩ := exprL.shape_mk hs
  rw [exprL_K] at h3
  rw [exprL_most] at h5
  rw [exprL_ar] at h6
  by_cases k0 : k = 1 ∨ k = 2
  · obtain rfl := len0 (by rw [h6, if_pos k0])
    refine sv_leaf k v ?_ n w x a l c hs
    by_cases k2 : k = 1
    · rw [if_pos k2] at h5; left; exact ⟨k2, h4, h5⟩
    · rw [if_neg k2, if_pos (by omega)] at h5; right; exact ⟨by omega, by omega⟩
  rw [if_neg (by omega), if_neg (by omega)] at h5
  obtain rfl : v = 0 := by omega
  by_cases k3 : k = 3
  · obtain ⟨a', rfl⟩ := len1 (by rw [h6, if_neg k0, if_pos k3])
    subst k3
    exact sv_not a' (ih a' (by simp)) n w x a l c hs
  · obtain ⟨t, u, rfl⟩ := len2 (by rw [h6, if_neg k0, if_neg k3])
    exact sv_two k (by omega) t u (ih t (by simp)) (ih u (by simp)) n w x a l c hs

end Expr
end Go.Proofs.Ytdmieedfddgmjaa
namespace Go.Proofs.Ytdmieedfddgmjaa
open Go.RowKit
namespace Expr

set_option maxHeartbeats 1000000 in
theorem ev_leaf (k v : Int) (hk : (k = 1 ∧ 0 ≤ v ∧ v ≤ 3) ∨ (k = 2 ∧ (v = 0 ∨ v = 1 ∨ v = 2))) : EvT 36 (.mk k v []) := by
  intro n w x a l c hs hx hv hc hc2
  rw [TrIn_mk] at hx
  obtain ⟨a', n', c', rfl, _, _, rfl, hc', hc2', hks⟩ := hx
  obtain ⟨b, o, x, y, z, rfl, rfl, hb, g0, g1, g2⟩ := hv.cells
  unfold maxLen at hc2
  clear hs hks hv
  simp only [List.length_nil] at hc' ⊢
  rcases hk with ⟨rfl, hv⟩ | ⟨rfl, rfl | rfl | rfl⟩
  all_goals
    go_enter Try.func36, Try.ntmps36
    go_wp2_with fail
    go_ret
    exact Ret.mk (int_val (by simp [evalT, evalTs, nodeVal, gOf])) (below_alloc _ _)

set_option maxHeartbeats 1000000 in
theorem ev_not (t : Tr) (h : EvT 36 t) : EvT 36 (.mk 3 0 [t]) := by
  intro n w x a l c hs hx hv hc hc2
  obtain ⟨m, rfl, _, _, _, _, _, hkids⟩ := exprL.shape_mk hs
  have E := hid (show evalT (gOf l) (.mk 3 0 [t]) = tr01 (evalT (gOf l) t == 0) from rfl)
  have hkid := hid (hkids t (by simp))
  have hbd := evalT_bd (gOf l) hv.bd m t hkid.out
  rw [TrIn_mk] at hx
  obtain ⟨a', n', c', rfl, _, _, rfl, hc', hc2', hks⟩ := hx
  rw [TrsIn_cons] at hks
  obtain ⟨b, o, c0, c1, c2, rfl, _, g0, g1, g2, hT, _⟩ := hks
  have hb := blt g0
  clear hs hkids
  simp only [List.length_cons, List.length_nil] at hc' ⊢
  go_enter Try.func36, Try.ntmps36
  go_wp2_with fail
  refine (h m _ _ a l c hkid.out (TrIn_alloc hT _) (hv.below (below_alloc _ _)) hc hc2).mono ?_
  rintro e w1 ⟨rfl, hb1⟩
  have b1 := box3_next hb1 (box3_new ..)
  generalize evalT (gOf l) t = A at *
  go_wp2_with fail
  refine (truth01 _ _).mono ?_
  rintro e w2 ⟨rfl, rfl⟩
  go_wp2_with fail
  go_ret
  exact Ret.mk (int_val E.out.symm) (below_next (below_alloc _ _) hb1)

set_option maxHeartbeats 4000000 in
theorem ev_two (k : Int) (hk : k = 4 ∨ k = 5 ∨ k = 6 ∨ k = 7 ∨ k = 8 ∨ k = 9) (t u : Tr) (h : EvT 36 t) (h' : EvT 36 u) : EvT 36 (.mk k 0 [t, u]) := by
  intro n w x a l c hs hx hv hc hc2
  obtain ⟨m, rfl, _, _, _, _, _, hkids⟩ := exprL.shape_mk hs
  have E := hid (show evalT (gOf l) (.mk k 0 [t, u]) = nodeVal (gOf l) k 0 [evalT (gOf l) t, evalT (gOf l) u] from rfl)
  have hkid := hid (hkids t (by simp))
  have hkid' := hid (hkids u (by simp))
  have hbd := evalT_bd (gOf l) hv.bd m t hkid.out
  have hbd' := evalT_bd (gOf l) hv.bd m u hkid'.out
  rw [TrIn_mk] at hx
  obtain ⟨a', n', c', rfl, _, _, rfl, hc', hc2', hks⟩ := hx
  obtain ⟨b, o, c0, c1, c2, d0, d1, d2, rfl, hb, g0, g1, g2, f0, f1, f2, hT, hU⟩ := two_cells hks
  clear hs hkids hks
  have H := hid (fun w x a (hx : TrIn Any w t x) (hv : Vals w a l) => h m w x a l c hkid.out hx hv hc hc2)
  have H' := hid (fun w x a (hx : TrIn Any w u x) (hv : Vals w a l) => h' m w x a l c hkid'.out hx hv hc hc2)
  simp only [List.length_cons, List.length_nil] at hc' ⊢
  generalize evalT (gOf l) t = A at *
  generalize evalT (gOf l) u = B at *
  rcases hk with rfl | rfl | rfl | rfl | rfl | rfl
  all_goals
    go_enter Try.func36, Try.ntmps36
    go_wp2_with fail
    refine (H.out _ _ a (TrIn_alloc hT _) (hv.below (below_alloc _ _))).mono ?_
    rintro e w1 ⟨rfl, hb1⟩
    have b1 := box3_next hb1 (box3_new ..)
    have BB := below_next (below_alloc _ _) hb1
    obtain ⟨k0, k1, k2⟩ := cells_next BB hb f0 f1 f2
    have hbb : b < w1.heap.size := Nat.lt_of_lt_of_le hb BB.size
    clear hb1
    go_wp2_with fail
    refine (H'.out _ _ a (TrIn_below BB hU) (hv.below BB)).mono ?_
    rintro e w2 ⟨rfl, hb2⟩
    replace BB := below_next BB hb2
    replace b1 := box3_next hb2 b1
    clear hb2
  · by_cases hA : A = 0
    · have hA2 : (A != 0) = false := by simpa using hA
      have HA := hid hA2
      go_wp2_with fail
      refine (truth01 _ _).mono ?_
      rintro e w3 ⟨rfl, rfl⟩
      go_wp2_with fail
      go_ret
      exact Ret.mk (int_val (by rw [E.out]; simp only [nodeVal]; rw [HA.out]; simp)) BB
    · have hA2 : (A != 0) = true := by simpa using hA
      have HA := hid hA2
      go_wp2_with fail
      refine (truth01 _ _).mono ?_
      rintro e w3 ⟨rfl, rfl⟩
      go_wp2_with fail
      go_ret
      exact Ret.mk (int_val (by rw [E.out]; simp only [nodeVal]; rw [HA.out]; simp)) BB
  · by_cases hA : A = 0
    · have hA2 : (A != 0) = false := by simpa using hA
      have HA := hid hA2
      go_wp2_with fail
      refine (truth01 _ _).mono ?_
      rintro e w3 ⟨rfl, rfl⟩
      go_wp2_with fail
      go_ret
      exact Ret.mk (int_val (by rw [E.out]; simp only [nodeVal]; rw [HA.out]; simp)) BB
    · have hA2 : (A != 0) = true := by simpa using hA
      have HA := hid hA2
      go_wp2_with fail
      refine (truth01 _ _).mono ?_
      rintro e w3 ⟨rfl, rfl⟩
      go_wp2_with fail
      go_ret
      exact Ret.mk (int_val (by rw [E.out]; simp only [nodeVal]; rw [HA.out]; simp)) BB
  · go_wp2_with fail
    refine (truth01 _ _).mono ?_
    rintro e w3 ⟨rfl, rfl⟩
    go_wp2_with fail
    go_ret
    exact Ret.mk (int_val (by rw [E.out]; simp [nodeVal])) BB
  · go_wp2_with fail
    refine (truth01 _ _).mono ?_
    rintro e w3 ⟨rfl, rfl⟩
    go_wp2_with fail
    go_ret
    exact Ret.mk (int_val (by rw [E.out]; simp [nodeVal])) BB
  · go_wp2_with fail
    go_ret
    exact Ret.mk (int_val (by rw [E.out]; simp [nodeVal])) BB
  · go_wp2_with fail
    go_ret
    exact Ret.mk (int_val (by rw [E.out]; simp [nodeVal]; omega)) BB

theorem ev_any : ∀ t, EvT 36 t := Tr.ind fun k v kids ih => by
  intro n w x a l c hs
  obtain ⟨m, h1, h2, h3, h4, h5, h6, h7⟩ := exprL.shape_mk hs
  rw [exprL_K] at h3
  rw [exprL_most] at h5
  rw [exprL_ar] at h6
  by_cases k0 : k = 1 ∨ k = 2
  · obtain rfl := len0 (by rw [h6, if_pos k0])
    refine ev_leaf k v ?_ n w x a l c hs
    by_cases k2 : k = 1
    · rw [if_pos k2] at h5; left; exact ⟨k2, h4, h5⟩
    · rw [if_neg k2, if_pos (by omega)] at h5; right; exact ⟨by omega, by omega⟩
  rw [if_neg (by omega), if_neg (by omega)] at h5
  obtain rfl : v = 0 := by omega
  by_cases k3 : k = 3
  · obtain ⟨a', rfl⟩ := len1 (by rw [h6, if_neg k0, if_pos k3])
    subst k3
    exact ev_not a' (ih a' (by simp)) n w x a l c hs
  · obtain ⟨t, u, rfl⟩ := len2 (by rw [h6, if_neg k0, if_neg k3])
    exact ev_two k (by omega) t u (ih t (by simp)) (ih u (by simp)) n w x a l c hs

end Expr
end Go.Proofs.Ytdmieedfddgmjaa
namespace Go.Proofs.Ytdmieedfddgmjaa
open Go.RowKit
set_option linter.unusedVariables false
set_option linter.unusedSimpArgs false
namespace Sys

/-- is an edge of process i ready -/
def rdy (ls vs : List Int) (i : Nat) (e : Ed) : Bool := decide (e.src = ls.getD i 0) && decide (evalT (Expr.gOf vs) e.guard ≠ 0)
theorem okSt_facts {s : Sy} {ls vs : List Int} (h : State.okSt s ls vs = true) : okSy s = true ∧ ls.length = s.procs.length ∧ Expr.okVals vs = true := by
  rw [State.okSt, Bool.and_eq_true, State.hasB, Bool.and_eq_true, Bool.and_eq_true, decide_eq_true_eq] at h
  exact ⟨h.1, h.2.1, h.2.2.1⟩
theorem guard_ok {q : Pr} (h : okP q = true) {e : Ed} (he : e ∈ q.edges) : exprL.shape e.guard 6 = true ∧ -2 ≤ e.sync ∧ e.sync ≤ 2 := by
  rw [okP] at h
  simp only [Bool.and_eq_true, decide_eq_true_eq, List.all_eq_true] at h
  have := h.1 e he
  rw [Edge.okB, Bool.and_eq_true, Edge.okV, Bool.and_eq_true, Bool.and_eq_true, Bool.and_eq_true] at this
  obtain ⟨_, h1, h2, _⟩ := this
  simp only [decide_eq_true_eq] at h2
  exact ⟨by rw [Lang.valid, Bool.and_eq_true] at h1; exact h1.1, h2.1, h2.2⟩

set_option maxRecDepth 100000 in
set_option maxHeartbeats 4000000 in
theorem specReady_any (s : Sy) (ls vs : List Int) (i k : Nat) (hok : State.okSt s ls vs = true) (hi : i < s.procs.length) (hk : k < s.procs[i].edges.length) (w : World) (x y : Value) (hx : SyIn Any w s x) (hy : State.PairIn Any w ls vs y) :
    Calls Try.prog 58 #[x, y, .int .i64 i, .int .i64 k] w (Ret (.bool (rdy ls vs i s.procs[i].edges[k])) w) := by
  obtain ⟨o1, o2, o3⟩ := okSt_facts hok
  obtain ⟨hgs, _⟩ := guard_ok ((okSy_procs o1).2 _ (List.getElem_mem hi)) (List.getElem_mem hk)
  obtain ⟨a, c, b, d, rfl, hc, hc2, hin, hd, hd2, hp⟩ := hx
  obtain ⟨a', b', c', d', rfl, hls, hvs, hc', hc2', hd', hd2'⟩ := hy
  have HVS := hid (Expr.okVals_vals o3 hvs)
  have h3 : vs.length = 3 := HVS.out.2.1
  rw [h3] at hd' ⊢
  obtain ⟨bb, ob, rfl, _, hb3, ac, cc, ⟨e0, e1⟩, hpr⟩ := SeqIn.at hp hi
  have hil : i < ls.length := by omega
  obtain ⟨bl, ol, rfl, hbl, _, l0⟩ := hls.1.at (Below.refl _ _) (show (ls.map (Value.int .i64))[i]? = some (.int .i64 (ls.getD i 0)) by rw [List.getElem?_map, List.getElem?_eq_getElem hil, List.getD_eq_getElem?_getD, List.getElem?_eq_getElem hil]; rfl)
  generalize s.procs[i] = q at *
  obtain ⟨_, _, e5, _, hc5, hc6, he5⟩ := hpr
  cases e5
  obtain ⟨be, oe, rfl, _, hbe, a1, c1, a2, c2, ⟨g0, g1, g2, g3, g4, g5, g6, g7, g8, g9⟩, hed⟩ := SeqIn.at he5 hk
  have hk2 : (k : Int) < (q.edges.length : Int) := by omega
  have hi2 : (i : Int) < (s.procs.length : Int) := by omega
  have hil2 : (i : Int) < (ls.length : Int) := by omega
  generalize q.edges[k] = e at *
  obtain ⟨_, _, _, _, e6, _, _, _, _, t1, t2⟩ := hed
  cases e6
  have HEV := hid (fun (W : World) (M : Below w.heap.size w W) => Expr.sv_any e.guard 6 W (.agg #[.int .i64 e.guard.kind, .int .i64 e.guard.val, .slice a1 e.guard.kids.length c1]) b' vs d' hgs (TrIn_below M t1) (HVS.out.below M) hd' hd2')
  have HR := hid (show rdy ls vs i e = (decide (e.src = ls.getD i 0) && decide (evalT (Expr.gOf vs) e.guard ≠ 0)) from rfl)
  generalize rdy ls vs i e = r at *
  generalize evalT (Expr.gOf vs) e.guard = v at *
  generalize ls.getD i 0 = loc at *
  generalize s.procs.length = np at *
  generalize ls.length = nl at *
  generalize q.edges.length = ne at *
  unfold maxLen at hc6 hd2 hc2' hd2'
  clear hgs o1 o2 o3 hok t1 t2 hp hls hvs he5 hin hc hc2 h3 hi hk hil HVS
  by_cases hs : e.src = loc
  · have hs2 : (e.src == loc) = true := by simp [hs]
    have HS := hid hs
    by_cases hv : v = 0
    · have E := hid (show r = false by rw [HR.out, hv]; simp)
      subst hv
      clear HR hs
      go_enter Try.func58, Try.ntmps58
      go_wp2_with fail
      obtain ⟨w1, hw1⟩ : ∃ w1 : World, Hid (w1 = (((w.alloc (.cells #[.slice a s.init.length c, .slice (some ⟨bb, ob, none⟩) np d] 63)).alloc (.cells #[.slice (some ⟨bl, ol, none⟩) nl c', .slice b' 3 d'] 30)).alloc (.cells #[.int .i64 e.src, .int .i64 e.dst, .int .i64 e.guard.kind, .int .i64 e.guard.val, .slice a1 e.guard.kids.length c1, .int .i64 e.var, .int .i64 e.val.kind, .int .i64 e.val.val, .slice a2 e.val.kids.length c2, .int .i64 e.sync] 89))) := ⟨_, hid rfl⟩
      have B1 := hid (show Below w.heap.size w w1 from by rw [hw1.out]; exact (by repeat (first | exact Below.refl _ _ | assumption | refine below_a ?_ _ | refine below_o ?_ _ | refine below_d ?_ | refine below_n ?_ _ | refine below_s ?_ (by first | (simp; done) | (simp; omega) | omega) _)))
      have XS := hid (show Box2 w1 (w.heap.size + 1) (.slice (some ⟨bl, ol, none⟩) nl c') (.slice b' 3 d') by rw [hw1.out]; exact box2_next (below_alloc _ _) (box2_at (by simp)))
      have XE := hid (show Box10 w1 (w.heap.size + 1 + 1) (.int .i64 e.src) (.int .i64 e.dst) (.int .i64 e.guard.kind) (.int .i64 e.guard.val) (.slice a1 e.guard.kids.length c1) (.int .i64 e.var) (.int .i64 e.val.kind) (.int .i64 e.val.val) (.slice a2 e.val.kids.length c2) (.int .i64 e.sync) by rw [hw1.out]; exact box10_at (by simp) ..)
      rw [← hw1.out]
      clear hw1 g0 g1 g2 g3 g4 g5 g6 g7 g8 g9 e0 e1
      have hbl1 : bl < w1.heap.size := by have := B1.out.size; omega
      have l1 := (B1.out.cell (p := ⟨bl, ol + i, none⟩) hbl).trans l0
      obtain ⟨s0, s1, s2, _⟩ := id XS.out
      obtain ⟨q0, ⟨u0, u1, u2, u3, u4, u5, u6, u7, u8, u9⟩, _⟩ := id XE.out
      clear l0
      refine wp_region_tail (C := fun wZ => ∃ xZ, wZ = World.over _ xZ) [0,1,2,3,4,5,6,7,8,9,10,11,12] [13,14,15,16] (16) (by kernel_rfl) (by kernel_rfl) (fun d _ _ _ _ h => by cases d <;> exact h) (bex (Below.refl _ _).drew) ?_; simp only [pick, List.getElem?_cons_succ, List.getElem?_cons_zero]; (repeat (go_big_quiet_step (fail))); refine wpQuiet_nil ?_; simp only [tailW]
      go_wp2_with fail
      refine (HEV.out _ (below_d B1.out)).mono ?_
      rintro _ w2 ⟨rfl, hb⟩
      have B2 := hid (show Below w1.heap.size w1 w2 from below_then (below_d (Below.refl _ _)) hb (by simp))
      have B3 := hid (below_then B1.out B2.out B1.out.size)
      clear hb
      go_wp2_with fail
      refine ⟨bex B2.out, ?_⟩
      go_wp2_with fail
      refine ⟨bex B2.out, ?_⟩
      go_wp2_with fail
      refine ⟨bex B2.out, ?_⟩
      go_wp2_with fail
      go_ret
      exact Ret.mk (bool_val (by rw [E.out]; try simp [hv])) B3.out
    · have E := hid (show r = true by rw [HR.out, hs]; simp [hv])
      have hv2 : (v != 0) = true := by simp [hv]
      clear HR hs
      go_enter Try.func58, Try.ntmps58
      go_wp2_with fail
      obtain ⟨w1, hw1⟩ : ∃ w1 : World, Hid (w1 = (((w.alloc (.cells #[.slice a s.init.length c, .slice (some ⟨bb, ob, none⟩) np d] 63)).alloc (.cells #[.slice (some ⟨bl, ol, none⟩) nl c', .slice b' 3 d'] 30)).alloc (.cells #[.int .i64 e.src, .int .i64 e.dst, .int .i64 e.guard.kind, .int .i64 e.guard.val, .slice a1 e.guard.kids.length c1, .int .i64 e.var, .int .i64 e.val.kind, .int .i64 e.val.val, .slice a2 e.val.kids.length c2, .int .i64 e.sync] 89))) := ⟨_, hid rfl⟩
      have B1 := hid (show Below w.heap.size w w1 from by rw [hw1.out]; exact (by repeat (first | exact Below.refl _ _ | assumption | refine below_a ?_ _ | refine below_o ?_ _ | refine below_d ?_ | refine below_n ?_ _ | refine below_s ?_ (by first | (simp; done) | (simp; omega) | omega) _)))
      have XS := hid (show Box2 w1 (w.heap.size + 1) (.slice (some ⟨bl, ol, none⟩) nl c') (.slice b' 3 d') by rw [hw1.out]; exact box2_next (below_alloc _ _) (box2_at (by simp)))
      have XE := hid (show Box10 w1 (w.heap.size + 1 + 1) (.int .i64 e.src) (.int .i64 e.dst) (.int .i64 e.guard.kind) (.int .i64 e.guard.val) (.slice a1 e.guard.kids.length c1) (.int .i64 e.var) (.int .i64 e.val.kind) (.int .i64 e.val.val) (.slice a2 e.val.kids.length c2) (.int .i64 e.sync) by rw [hw1.out]; exact box10_at (by simp) ..)
      rw [← hw1.out]
      clear hw1 g0 g1 g2 g3 g4 g5 g6 g7 g8 g9 e0 e1
      have hbl1 : bl < w1.heap.size := by have := B1.out.size; omega
      have l1 := (B1.out.cell (p := ⟨bl, ol + i, none⟩) hbl).trans l0
      obtain ⟨s0, s1, s2, _⟩ := id XS.out
      obtain ⟨q0, ⟨u0, u1, u2, u3, u4, u5, u6, u7, u8, u9⟩, _⟩ := id XE.out
      clear l0
      refine wp_region_tail (C := fun wZ => ∃ xZ, wZ = World.over _ xZ) [0,1,2,3,4,5,6,7,8,9,10,11,12] [13,14,15,16] (16) (by kernel_rfl) (by kernel_rfl) (fun d _ _ _ _ h => by cases d <;> exact h) (bex (Below.refl _ _).drew) ?_; simp only [pick, List.getElem?_cons_succ, List.getElem?_cons_zero]; (repeat (go_big_quiet_step (fail))); refine wpQuiet_nil ?_; simp only [tailW]
      go_wp2_with fail
      refine (HEV.out _ (below_d B1.out)).mono ?_
      rintro _ w2 ⟨rfl, hb⟩
      have B2 := hid (show Below w1.heap.size w1 w2 from below_then (below_d (Below.refl _ _)) hb (by simp))
      have B3 := hid (below_then B1.out B2.out B1.out.size)
      clear hb
      go_wp2_with fail
      refine ⟨bex B2.out, ?_⟩
      go_wp2_with fail
      refine ⟨bex B2.out, ?_⟩
      go_wp2_with fail
      refine ⟨bex B2.out, ?_⟩
      go_wp2_with fail
      go_ret
      exact Ret.mk (bool_val (by rw [E.out]; try simp [hv])) B3.out
  · have hs2 : (e.src == loc) = false := by simpa using hs
    have E := hid (show r = false by rw [HR.out]; simp [hs])
    clear HR hs
    go_enter Try.func58, Try.ntmps58
    go_wp2_with fail
    obtain ⟨w1, hw1⟩ : ∃ w1 : World, Hid (w1 = (((w.alloc (.cells #[.slice a s.init.length c, .slice (some ⟨bb, ob, none⟩) np d] 63)).alloc (.cells #[.slice (some ⟨bl, ol, none⟩) nl c', .slice b' 3 d'] 30)).alloc (.cells #[.int .i64 e.src, .int .i64 e.dst, .int .i64 e.guard.kind, .int .i64 e.guard.val, .slice a1 e.guard.kids.length c1, .int .i64 e.var, .int .i64 e.val.kind, .int .i64 e.val.val, .slice a2 e.val.kids.length c2, .int .i64 e.sync] 89))) := ⟨_, hid rfl⟩
    have B1 := hid (show Below w.heap.size w w1 from by rw [hw1.out]; exact (by repeat (first | exact Below.refl _ _ | assumption | refine below_a ?_ _ | refine below_o ?_ _ | refine below_d ?_ | refine below_n ?_ _ | refine below_s ?_ (by first | (simp; done) | (simp; omega) | omega) _)))
    have XS := hid (show Box2 w1 (w.heap.size + 1) (.slice (some ⟨bl, ol, none⟩) nl c') (.slice b' 3 d') by rw [hw1.out]; exact box2_next (below_alloc _ _) (box2_at (by simp)))
    have XE := hid (show Box10 w1 (w.heap.size + 1 + 1) (.int .i64 e.src) (.int .i64 e.dst) (.int .i64 e.guard.kind) (.int .i64 e.guard.val) (.slice a1 e.guard.kids.length c1) (.int .i64 e.var) (.int .i64 e.val.kind) (.int .i64 e.val.val) (.slice a2 e.val.kids.length c2) (.int .i64 e.sync) by rw [hw1.out]; exact box10_at (by simp) ..)
    rw [← hw1.out]
    clear hw1 g0 g1 g2 g3 g4 g5 g6 g7 g8 g9 e0 e1
    have hbl1 : bl < w1.heap.size := by have := B1.out.size; omega
    have l1 := (B1.out.cell (p := ⟨bl, ol + i, none⟩) hbl).trans l0
    obtain ⟨s0, s1, s2, _⟩ := id XS.out
    obtain ⟨q0, ⟨u0, u1, u2, u3, u4, u5, u6, u7, u8, u9⟩, _⟩ := id XE.out
    clear l0
    refine wp_region_tail (C := fun wZ => ∃ xZ, wZ = World.over _ xZ) [0,1,2,3,4,5,6,7,8,9,10,11,12] [13,14,15,16] (16) (by kernel_rfl) (by kernel_rfl) (fun d _ _ _ _ h => by cases d <;> exact h) (bex (Below.refl _ _).drew) ?_; simp only [pick, List.getElem?_cons_succ, List.getElem?_cons_zero]; (repeat (go_big_quiet_step (fail))); refine wpQuiet_nil ?_; simp only [tailW]
    go_wp2_with fail
    refine ⟨bex (below_d (Below.refl _ _)), ?_⟩
    go_wp2_with fail
    refine ⟨bex (below_d (Below.refl _ _)), ?_⟩
    go_wp2_with fail
    refine ⟨bex (below_d (Below.refl _ _)), ?_⟩
    go_wp2_with fail
    go_ret
    exact Ret.mk (bool_val (by rw [E.out])) (below_d B1.out)

end Sys
end Go.Proofs.Ytdmieedfddgmjaa
namespace Go.Proofs.Ytdmieedfddgmjaa
open Go.RowKit

/-- all blocks but those of a list are kept -/
structure Only (S : List Nat) (w w' : World) : Prop where
  os : w'.os = w.os
  tape : w'.tape = w.tape
  output : w'.output = w.output
  size : w.heap.size ≤ w'.heap.size
  block : ∀ b, b < w.heap.size → b ∉ S → w'.heap[b]? = w.heap[b]?
theorem Only.refl (S : List Nat) (w : World) : Only S w w := ⟨rfl, rfl, rfl, Nat.le_refl _, fun _ _ _ => rfl⟩
theorem Only.trans {S : List Nat} {a b c : World} (h : Only S a b) (k : Only S b c) : Only S a c :=
  ⟨k.os.trans h.os, k.tape.trans h.tape, k.output.trans h.output, Nat.le_trans h.size k.size, fun i hi hd => (k.block i (Nat.lt_of_lt_of_le hi h.size) hd).trans (h.block i hi hd)⟩
theorem Only.mono {S S' : List Nat} {w w' : World} (h : Only S w w') (hs : ∀ b, b ∈ S → b ∈ S') : Only S' w w' := ⟨h.os, h.tape, h.output, h.size, fun b hb hn => h.block b hb (fun e => hn (hs b e))⟩
theorem Only.below {S : List Nat} {w w' : World} (h : Below w.heap.size w w') : Only S w w' := ⟨h.os, h.tape, h.output, h.size, fun b hb _ => h.block b hb⟩
theorem Only.set {S : List Nat} {w w' : World} (h : Only S w w') {a : Addr} (ha : a.block ∈ S) (v : Value) : Only S w (w'.setCell a v) :=
  ⟨h.os, h.tape, h.output, by simpa using h.size, fun b hb hn => by rw [Below.heap_setCell _ _ _ _ (show b ≠ a.block from fun e => hn (by rw [e]; exact ha))]; exact h.block b hb hn⟩
/-- the blocks are new since an older world -/
theorem Only.new {S : List Nat} {w W W' : World} (h : Only S W W') (hb : Below w.heap.size w W) (hs : ∀ b, b ∈ S → w.heap.size ≤ b) : Below w.heap.size w W' :=
  hb.trans ⟨h.os, h.tape, h.output, h.size, fun k hk => h.block k (Nat.lt_of_lt_of_le hk hb.size) (fun e => by have := hs k e; omega)⟩
theorem TrOwn_only {S : List Nat} {w w' : World} (h : Only S w w') {t : Tr} {x : Value} {bs : List Nat} (hx : TrOwn w t x bs) (hd : ∀ b, b ∈ bs → b ∉ S) : TrOwn w' t x bs :=
  (TrOwn_frame h.size).1 t x bs hx fun b hb => h.block b (TrOwn_lt.1 t x bs hx b hb) (hd b hb)

/-- a row of nodes, each in blocks of its own -/
def RowOf (w : World) (l : List Tr) (a : Option Addr) (bs : List Nat) : Prop :=
  (l = [] ∧ bs = []) ∨ ∃ R f r, a = some ⟨R, 0, none⟩ ∧ bs = R :: r ∧ R ∉ r ∧ Row w R (l.length * 3) f ∧ TrsOwn w f l 0 r

theorem TrOwn_row {w : World} {k v : Int} {kids : List Tr} {x : Value} {bs : List Nat} (h : TrOwn w (.mk k v kids) x bs) :
    ∃ a c, x = .agg #[.int .i64 k, .int .i64 v, .slice a kids.length c] ∧ i64 k ∧ i64 v ∧ kids.length ≤ c ∧ c ≤ maxLen ∧ RowOf w kids a bs := (TrOwn_mk ..).1 h
theorem row_TrOwn {w : World} {k v : Int} {kids : List Tr} {a : Option Addr} {c : Nat} {bs : List Nat} (h1 : i64 k) (h2 : i64 v) (h3 : kids.length ≤ c) (h4 : c ≤ maxLen) (h : RowOf w kids a bs) :
    TrOwn w (.mk k v kids) (.agg #[.int .i64 k, .int .i64 v, .slice a kids.length c]) bs := (TrOwn_mk ..).2 ⟨a, c, rfl, h1, h2, h3, h4, h⟩

/-- A NODE OF A ROW, AND WHAT MAY STAND IN ITS PLACE -/
theorem TrsOwn_replace {w : World} {f : Nat → Value} {t : Tr} : ∀ (l1 : List Tr) (l2 : List Tr) (o : Nat) (bs : List Nat), TrsOwn w f (l1 ++ t :: l2) o bs →
    ∃ r, (∀ b, b ∈ r → b ∈ bs) ∧ TrOwn w t (.agg #[f (o + l1.length * 3), f (o + l1.length * 3 + 1), f (o + l1.length * 3 + 2)]) r ∧
      ∀ (w' : World) (f' : Nat → Value) (t' : Tr), w.heap.size ≤ w'.heap.size → (∀ b, b ∈ bs → b ∉ r → w'.heap[b]? = w.heap[b]?) → (∀ i, i < o + l1.length * 3 ∨ o + l1.length * 3 + 3 ≤ i → f' i = f i) →
        TrOwn w' t' (.agg #[f' (o + l1.length * 3), f' (o + l1.length * 3 + 1), f' (o + l1.length * 3 + 2)]) r → TrsOwn w' f' (l1 ++ t' :: l2) o bs := by
  intro l1
  induction l1 with
  | nil =>
    intro l2 o bs h
    rw [List.nil_append, TrsOwn_cons] at h
    obtain ⟨r1, r2, rfl, hd, h1, h2⟩ := h
    refine ⟨r1, fun b hb => by simp [hb], by simpa using h1, fun w' f' t' hs hk hf ht => ?_⟩
    rw [List.nil_append, TrsOwn_cons]
    refine ⟨r1, r2, rfl, hd, by simpa using ht, ?_⟩
    refine (TrOwn_frame hs).2 _ _ _ _ (TrsOwn_congr h2 fun i hi _ => ?_) fun b hb => hk b (by simp [hb]) (fun e => hd b e hb)
    exact (hf i (.inr (by simpa using hi))).symm
  | cons u us ih =>
    intro l2 o bs h
    rw [List.cons_append, TrsOwn_cons] at h
    obtain ⟨r1, r2, rfl, hd, h1, h2⟩ := h
    obtain ⟨r, hr, hT, hrep⟩ := ih l2 (o + 3) r2 h2
    have e : o + 3 + us.length * 3 = o + (u :: us).length * 3 := by simp; omega
    rw [e] at hT hrep
    refine ⟨r, fun b hb => by simp [hr b hb], hT, fun w' f' t' hs hk hf ht => ?_⟩
    rw [List.cons_append, TrsOwn_cons]
    refine ⟨r1, r2, rfl, hd, ?_, hrep w' f' t' hs (fun b hb hn => hk b (by simp [hb]) hn) (fun i hi => hf i (by omega)) ht⟩
    have hl : ∀ i, i < 3 → f' (o + i) = f (o + i) := fun i hi => hf _ (.inl (by simp; omega))
    have h0 := hl 0 (by omega)
    rw [Nat.add_zero] at h0
    rw [h0, hl 1 (by omega), hl 2 (by omega)]
    exact (TrOwn_frame hs).1 _ _ _ h1 fun b hb => hk b (by simp [hb]) (fun e => hd b hb (hr b e))

mutual
/-- the nodes below, numbered from k on -/
def markT : Tr → Int → Tr | .mk a b kids, k => .mk a b (markL kids k)
def markL : List Tr → Int → List Tr
  | [], _ => []
  | t :: ts, k => markN t k :: markL ts (k + 2 * nodes t)
/-- a node and those below -/
def markN : Tr → Int → Tr | .mk _ _ kids, k => .mk k (k + 1) (markL kids (k + 2))
end
theorem markL_len : ∀ (l : List Tr) (k : Int), (markL l k).length = l.length
  | [], _ => by simp [markL]
  | t :: ts, k => by simp [markL, markL_len ts]

end Go.Proofs.Ytdmieedfddgmjaa
