/- StepProcesses, of the reference and of the program, and the laws' toStep: what each returns. Conditions: those of each contract. -/
import Derived.Test.YtffadknollkgiaaJS12
import Derived.Test.YtffadknollkgiaaJS3
import Derived.Test.YtffadknollkgiaaJS2
set_option linter.unusedVariables false
set_option linter.unusedSimpArgs false
namespace Go.Proofs.Ytffadknollkgiaa
open Go.RowKit
set_option linter.unusedVariables false
namespace Sys

/-- a variable of four cells -/
def Box4 (w : World) (B : Nat) (a b c d : Value) : Prop := B < w.heap.size ∧ (w.cell? ⟨B, 0, none⟩ = some a ∧ w.cell? ⟨B, 1, none⟩ = some b ∧ w.cell? ⟨B, 2, none⟩ = some c ∧ w.cell? ⟨B, 3, none⟩ = some d) ∧ ∀ i, w.frozen? ⟨B, i, none⟩ = false
theorem box4_block {w w' : World} (hs : w.heap.size ≤ w'.heap.size) {B : Nat} {a b c d : Value} (he : w'.heap[B]? = w.heap[B]?) (h : Box4 w B a b c d) : Box4 w' B a b c d := by
  have ec : ∀ i, w'.cell? ⟨B, i, none⟩ = w.cell? ⟨B, i, none⟩ := fun i => World.cell?_of_block (w := w) (a := ⟨B, i, none⟩) he
  have ef : ∀ i, w'.frozen? ⟨B, i, none⟩ = w.frozen? ⟨B, i, none⟩ := fun i => World.frozen?_of_block (w := w) (a := ⟨B, i, none⟩) he
  exact ⟨Nat.lt_of_lt_of_le h.1 hs, by simp only [ec]; exact h.2.1, by simp only [ef]; exact h.2.2⟩
theorem box4_next {w w' : World} (h : Below w.heap.size w w') {B : Nat} {a b c d : Value} (hb : Box4 w B a b c d) : Box4 w' B a b c d := box4_block h.size (h.block B hb.1) hb
theorem box4_at {w : World} {B : Nat} {a b c d : Value} {t : TypeId} (h : B = w.heap.size) : Box4 (w.alloc (.cells #[a, b, c, d] t)) B a b c d := by subst h; exact ⟨by simp, by simp, by simp⟩

/-- which of n processes are p or q -/
def procsB (n : Nat) (p q : Int) : List Bool := (List.range n).map fun (i : Nat) => decide (p = (i : Int)) || decide (q = (i : Int))
def stepB (s : Sy) (p q : Int) : List Bool := if okSy s = true then procsB s.procs.length p q else []
theorem procsB_len (n : Nat) (p q : Int) : (procsB n p q).length = n := by simp [procsB]
theorem procsB_at {n i : Nat} (p q : Int) (h : i < n) : (procsB n p q)[i]? = some (decide (p = (i : Int)) || decide (q = (i : Int))) := by simp [procsB, h]
theorem stepB_len (s : Sy) (p q : Int) : (stepB s p q).length ≤ 1000 := by
  unfold stepB
  split
  · rename_i ho
    rw [okSy] at ho
    simp only [Bool.and_eq_true, decide_eq_true_eq] at ho
    rw [procsB_len]; omega
  · simp
/-- what is filled in -/
theorem procs_done {n : Nat} {p q : Int} {w w' : World} {R : Nat} {g : Nat → Value} (hn : n ≤ 1000) (hB : w.heap.size ≤ R) (hr : Row w' R n g) (hg : ∀ i, i < n → g i = .bool (decide (p = (i : Int)) || decide (q = (i : Int)))) : NewV w.heap.size ((procsB n p q).map Value.bool) (.slice (some ⟨R, 0, none⟩) n n) w' := by
  have hl : ((procsB n p q).map Value.bool).length = n := by rw [List.length_map, procsB_len]
  refine ⟨_, n, [R], by rw [hl], by rw [hl]; exact Nat.le_refl _, by unfold maxLen; omega, .inr ⟨R, rfl, rfl, ?_⟩, by simpa using hB⟩
  rw [hl]
  refine hr.congr fun i hi => ?_
  rw [hg i hi, List.getD_eq_getElem?_getD, List.getElem?_map, procsB_at p q hi]
  rfl
theorem procs_step {k : Nat} {p q : Int} {g : Nat → Value} {v : Bool} (h : ∀ i, i < k → g i = .bool (decide (p = (i : Int)) || decide (q = (i : Int)))) (hv : v = (decide (p = (k : Int)) || decide (q = (k : Int)))) : ∀ i, i < k + 1 → (fun i => if i = k then Value.bool v else g i) i = .bool (decide (p = (i : Int)) || decide (q = (i : Int))) := fun i hi => by
  by_cases e : i = k
  · subst e; simp [hv]
  · simp [e]; exact (by simpa using h i (by omega))

set_option maxRecDepth 100000 in
set_option maxHeartbeats 2000000 in
theorem specStep_any (s : Sy) (p e q f : Int) (w : World) (x : Value) (hx : SyIn Any w s x) : Calls Try.prog 31 #[x, .agg #[.int .i64 p, .int .i64 e, .int .i64 q, .int .i64 f]] w (RetP (NewV w.heap.size ((stepB s p q).map Value.bool)) w) := by
  have HX := hid hx
  have HV := hid (fun (W : World) (M : Below w.heap.size w W) => specValid_any s W x (HX.out.below M))
  obtain ⟨a, c, b, d, rfl⟩ := hx.shape
  clear hx
  cases ho : okSy s with
  | false =>
    have E := hid (show stepB s p q = [] by rw [stepB, ho]; simp)
    rw [ho] at HV
    clear ho
    go_enter Try.func31, Try.ntmps31
    go_wp2_with fail
    refine (HV.out _ (by repeat (first | exact Below.refl _ _ | assumption | refine below_a ?_ _ | refine below_o ?_ _ | refine below_d ?_ | refine below_n ?_ _ | refine below_s ?_ (by first | (simp; done) | (simp; omega) | omega) _))).mono ?_
    rintro y w1 ⟨rfl, hb⟩
    go_wp2_with fail
    go_ret
    exact RetP.mk (by rw [E.out]; exact NewV.nil _ _ _ (by simp) _) (by exact (below_next (by repeat (first | exact Below.refl _ _ | assumption | refine below_a ?_ _ | refine below_o ?_ _ | refine below_d ?_ | refine below_n ?_ _ | refine below_s ?_ (by first | (simp; done) | (simp; omega) | omega) _)) hb).alloc (by have := hb.size; simp at this; omega) _)
  | true =>
    have E := hid (show stepB s p q = procsB s.procs.length p q by rw [stepB, if_pos ho])
    have hn : s.procs.length ≤ 3 := by
      rw [okSy] at ho
      simp only [Bool.and_eq_true, decide_eq_true_eq] at ho
      exact ho.2.2.2
    have hmk := make_bools s.procs.length (by omega)
    rw [ho] at HV
    clear ho
    generalize s.procs.length = n at *
    go_enter Try.func31, Try.ntmps31
    go_wp2_with fail
    refine (HV.out _ (by repeat (first | exact Below.refl _ _ | assumption | refine below_a ?_ _ | refine below_o ?_ _ | refine below_d ?_ | refine below_n ?_ _ | refine below_s ?_ (by first | (simp; done) | (simp; omega) | omega) _))).mono ?_
    rintro y w1 ⟨rfl, hb⟩
    have X := hid (box2_next hb (box2_next (below_alloc _ _) (box2_at (w := w) (a := .slice a s.init.length c) (b := .slice b n d) rfl)))
    have Y := hid (box4_next hb (box4_at (w := w.alloc _) (B := w.heap.size + 1) (a := .int .i64 p) (b := .int .i64 e) (c := .int .i64 q) (d := .int .i64 f) (t := 56) (by simp)))
    have B1 := hid (below_next (show Below w.heap.size w _ from below_next (below_alloc _ _) (below_alloc _ _)) hb)
    obtain ⟨p0, p1, p2, _⟩ := id X.out
    have sz1 := B1.out.size
    clear hb
    go_wp2_with fail
    go_loopw [6] (fun i wr => ∃ (k : Nat) (g : Nat → Value), k ≤ n ∧ i = .int .i64 k ∧ Hid (Below w1.heap.size w1 wr) ∧ Row wr w1.heap.size n g ∧ Hid (∀ i, i < k → g i = .bool (decide (p = (i : Int)) || decide (q = (i : Int))))) (fun i _ => n - (intOf i).toNat)
    case atStart => exact ⟨0, _, Nat.zero_le _, rfl, hid (below_alloc _ _), row_new (by rw [zerosB, size_madeCells]) _, hid (by omega)⟩
    case round =>
      obtain ⟨k, g, hk, rfl, B, hrow, hg⟩ := hrel
      clear p0 p1 p2
      by_cases hlt : k < n
      · obtain ⟨t0, ⟨t1, t2, t3, t4⟩, _⟩ := box4_next B.out Y.out
        have r0 := hrow.2.1 k hlt
        have rz := hrow.2.2
        have rl := hrow.1
        have HROW := hid hrow
        have hlt2 : (k : Int) < (n : Int) := by omega
        clear hrow
        by_cases c1 : p = (k : Int)
        · have d1 : (p == (k : Int)) = true := by simpa using c1
          have HG := hid (procs_step (p := p) (q := q) (v := true) hg.out (by rw [decide_eq_true c1]; rfl))
          clear c1
          go_wp2_with fail
          go_roundw
          case rel => exact ⟨k + 1, _, by omega, by go_num, hid (B.out.setCell (Nat.le_refl _) _), HROW.out.set hlt _, HG⟩
          case measure => simp [intOf]; omega
        · have d1 : (p == (k : Int)) = false := by simpa using c1
          have HG := hid (procs_step (p := p) (q := q) (v := (q == (k : Int))) hg.out (by rw [decide_eq_false c1, Bool.false_or]; rfl))
          clear c1
          go_wp2_with fail
          all_goals
            go_roundw
            case rel => exact ⟨k + 1, _, by omega, by go_num, hid (B.out.setCell (Nat.le_refl _) _), HROW.out.set hlt _, HG⟩
            case measure => simp [intOf]; omega
      · have HF := hid (procs_done (w := w) (by omega) sz1 hrow (fun i hi => hg.out i (by omega)))
        have BF := hid (below_next B1.out B.out)
        have hlt2 : ¬ ((k : Int) < (n : Int)) := by omega
        clear hrow hg
        go_wp2_with fail
        go_ret
        exact RetP.mk (by rw [E.out]; exact HF.out) BF.out

set_option maxRecDepth 100000 in
set_option maxHeartbeats 2000000 in
theorem step_any (s : Sy) (p e q f : Int) (w : World) (x : Value) (hx : SyIn Any w s x) : Calls Try.prog 30 #[x, .agg #[.int .i64 p, .int .i64 e, .int .i64 q, .int .i64 f]] w (RetP (NewV w.heap.size ((stepB s p q).map Value.bool)) w) := by
  have HX := hid hx
  have HV := hid (fun (W : World) (M : Below w.heap.size w W) => valid_any s W x (HX.out.below M))
  obtain ⟨a, c, b, d, rfl⟩ := hx.shape
  clear hx
  cases ho : okSy s with
  | false =>
    have E := hid (show stepB s p q = [] by rw [stepB, ho]; simp)
    rw [ho] at HV
    clear ho
    go_enter Try.func30, Try.ntmps30
    go_wp2_with fail
    refine (HV.out _ (by repeat (first | exact Below.refl _ _ | assumption | refine below_a ?_ _ | refine below_o ?_ _ | refine below_d ?_ | refine below_n ?_ _ | refine below_s ?_ (by first | (simp; done) | (simp; omega) | omega) _))).mono ?_
    rintro y w1 ⟨rfl, hb⟩
    go_wp2_with fail
    go_ret
    exact RetP.mk (by rw [E.out]; exact NewV.nil _ _ _ (by simp) _) (below_next (by repeat (first | exact Below.refl _ _ | assumption | refine below_a ?_ _ | refine below_o ?_ _ | refine below_d ?_ | refine below_n ?_ _ | refine below_s ?_ (by first | (simp; done) | (simp; omega) | omega) _)) hb)
  | true =>
    have E := hid (show stepB s p q = procsB s.procs.length p q by rw [stepB, if_pos ho])
    have hn : s.procs.length ≤ 3 := by
      rw [okSy] at ho
      simp only [Bool.and_eq_true, decide_eq_true_eq] at ho
      exact ho.2.2.2
    have hmk := make_bools s.procs.length (by omega)
    rw [ho] at HV
    clear ho
    generalize s.procs.length = n at *
    go_enter Try.func30, Try.ntmps30
    go_wp2_with fail
    refine (HV.out _ (by repeat (first | exact Below.refl _ _ | assumption | refine below_a ?_ _ | refine below_o ?_ _ | refine below_d ?_ | refine below_n ?_ _ | refine below_s ?_ (by first | (simp; done) | (simp; omega) | omega) _))).mono ?_
    rintro y w1 ⟨rfl, hb⟩
    have X := hid (box2_next hb (box2_next (below_alloc _ _) (box2_at (w := w) (a := .slice a s.init.length c) (b := .slice b n d) rfl)))
    have Y := hid (box4_next hb (box4_at (w := w.alloc _) (B := w.heap.size + 1) (a := .int .i64 p) (b := .int .i64 e) (c := .int .i64 q) (d := .int .i64 f) (t := 56) (by simp)))
    have B1 := hid (below_next (show Below w.heap.size w _ from below_next (below_alloc _ _) (below_alloc _ _)) hb)
    obtain ⟨p0, p1, p2, _⟩ := id X.out
    have sz1 := B1.out.size
    clear hb
    go_wp2_with fail
    go_loopw [16] (fun i wr => ∃ (k : Nat) (g : Nat → Value), k ≤ n ∧ i = .int .i64 k ∧ Hid (Below w1.heap.size w1 wr) ∧ Row wr w1.heap.size n g ∧ Hid (∀ i, i < k → g i = .bool (decide (p = (i : Int)) || decide (q = (i : Int))))) (fun i _ => n - (intOf i).toNat)
    case atStart => exact ⟨0, _, Nat.zero_le _, rfl, hid (below_alloc _ _), row_new (by rw [zerosB, size_madeCells]) _, hid (by omega)⟩
    case round =>
      obtain ⟨k, g, hk, rfl, B, hrow, hg⟩ := hrel
      clear p0 p1 p2
      by_cases hlt : k < n
      · obtain ⟨t0, ⟨t1, t2, t3, t4⟩, _⟩ := box4_next B.out Y.out
        have r0 := hrow.2.1 k hlt
        have rz := hrow.2.2
        have rl := hrow.1
        have HROW := hid hrow
        have hlt2 : (k : Int) < (n : Int) := by omega
        clear hrow
        by_cases c1 : p = (k : Int)
        · have d1 : ((k : Int) == p) = true := by simpa using c1.symm
          have HG := hid (procs_step (p := p) (q := q) (v := true) hg.out (by rw [decide_eq_true c1]; rfl))
          clear c1
          go_wp2_with fail
          go_roundw
          case rel => exact ⟨k + 1, _, by omega, by go_num, hid (B.out.setCell (Nat.le_refl _) _), HROW.out.set hlt _, HG⟩
          case measure => simp [intOf]; omega
        · have d1 : ((k : Int) == p) = false := by simpa using fun h : (k : Int) = p => c1 h.symm
          have HG := hid (procs_step (p := p) (q := q) (v := ((k : Int) == q)) hg.out (by rw [decide_eq_false c1, Bool.false_or, Bool.eq_iff_iff, beq_iff_eq, decide_eq_true_eq]; exact eq_comm))
          clear c1
          go_wp2_with fail
          all_goals
            go_roundw
            case rel => exact ⟨k + 1, _, by omega, by go_num, hid (B.out.setCell (Nat.le_refl _) _), HROW.out.set hlt _, HG⟩
            case measure => simp [intOf]; omega
      · have HF := hid (procs_done (w := w) (by omega) sz1 hrow (fun i hi => hg.out i (by omega)))
        have BF := hid (below_next B1.out B.out)
        have hlt2 : ¬ ((k : Int) < (n : Int)) := by omega
        clear hrow hg
        go_wp2_with fail
        go_ret
        exact RetP.mk (by rw [E.out]; exact HF.out) BF.out

end Sys
end Go.Proofs.Ytffadknollkgiaa
