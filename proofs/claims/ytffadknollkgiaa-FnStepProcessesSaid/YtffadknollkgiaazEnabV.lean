/- EnabledSteps, of the reference and of the program: what each returns. Conditions: those of each contract. -/
import Derived.Test.YtffadknollkgiaazStepsB
set_option linter.unusedVariables false
set_option linter.unusedSimpArgs false
namespace Go.Proofs.Ytffadknollkgiaa
open Go.RowKit
set_option linter.unusedVariables false
set_option linter.unusedSimpArgs false
namespace Sys

def enabS (s : Sy) (ls vs : List Int) : List Stp := if State.okSt s ls vs = true then steps s ls vs s.procs.length else []
theorem enabS_len (s : Sy) (ls vs : List Int) : (enabS s ls vs).length ≤ 1000 := by
  unfold enabS
  split
  · rename_i h
    have h1 := (okSt_facts h).1
    have := steps_len h1 ls vs s.procs.length
    have := (okSy_procs h1).1
    omega
  · simp
/-- a new row of steps -/
def StRow (B : Nat) (l : List Stp) (v : Value) (w : World) : Prop := ∃ a c, v = .slice a l.length c ∧ l.length ≤ c ∧ c ≤ maxLen ∧ (l = [] ∨ ∃ g, a = some ⟨g, 0, none⟩ ∧ B ≤ g ∧ g < w.heap.size ∧ (∀ j u, (stCells l)[j]? = some u → w.cell? ⟨g, j, none⟩ = some u) ∧ ∀ j, w.frozen? ⟨g, j, none⟩ = false)
theorem StRow.nil (B : Nat) (a : Option Addr) (w : World) : StRow B [] (.slice a 0 0) w := ⟨a, 0, rfl, Nat.le_refl _, by simp, .inl rfl⟩
theorem strow_own {B g c : Nat} {l : List Stp} {w : World} (h : OwnS B (.slice (some ⟨g, 0, none⟩) l.length c) l w) : StRow B l (.slice (some ⟨g, 0, none⟩) l.length c) w := by
  rcases h.shape with ⟨h1, _⟩ | ⟨g', c', e, h1, h2, h3, h4⟩
  · simp at h1
  · simp at e
    obtain ⟨rfl, rfl⟩ := e
    exact ⟨_, c, rfl, h3, h4, .inr ⟨g, rfl, h1, h2, fun j u hj => own_cell h hj, fun j => World.ownsRow.frozenAt h j⟩⟩
theorem strow_new {B B' : Nat} {l : List Stp} {v : Value} {w : World} (h : NewS B l v w) (hb : B' ≤ B) (hl : l.length ≤ maxLen := by first | assumption | (unfold maxLen; omega)) : StRow B' l v w := by
  rcases h with ⟨rfl, rfl⟩ | ⟨g, rfl, h1, h2, h3, h4⟩
  · exact StRow.nil _ _ _
  · exact ⟨_, _, rfl, Nat.le_refl _, hl, .inr ⟨g, rfl, Nat.le_trans hb h1, h2, h3, h4⟩⟩

set_option maxRecDepth 100000 in
set_option maxHeartbeats 2000000 in
theorem specEnab_any (s : Sy) (ls vs : List Int) (w : World) (x y : Value) (hx : SyIn Any w s x) (hy : State.PairIn Any w ls vs y) : Calls Try.prog 34 #[x, y] w (RetP (StRow w.heap.size (enabS s ls vs)) w) := by
  have HV := hid (fun (W : World) (M : Below w.heap.size w W) => State.specState_any s ls vs W x y (hx.below M) (hy.below M))
  have HS := hid (fun (h : State.okSt s ls vs = true) (W : World) (M : Below w.heap.size w W) => specSteps_any s ls vs h (okSy_one (okSt_facts h).1) W x y (hx.below M) (hy.below M))
  have HD := hid (show enabS s ls vs = if State.okSt s ls vs = true then steps s ls vs s.procs.length else [] from rfl)
  obtain ⟨a, c, b, d, rfl⟩ := hx.shape
  obtain ⟨a', b', c', d', rfl, _⟩ := hy
  clear hx
  cases hok : State.okSt s ls vs with
  | false =>
    have E := hid (show enabS s ls vs = [] by rw [HD.out, hok]; simp)
    rw [hok] at HV
    clear hok HS HD
    go_enter Try.func34, Try.ntmps34
    go_wp2_with fail
    refine (HV.out _ (by repeat (first | exact Below.refl _ _ | assumption | refine below_a ?_ _ | refine below_o ?_ _ | refine below_d ?_ | refine below_n ?_ _ | refine below_s ?_ (by first | (simp; done) | (simp; omega) | omega) _))).mono ?_
    rintro _ w1 ⟨rfl, hb⟩
    have B1 := hid (below_next (show Below w.heap.size w _ from below_next (below_alloc _ _) (below_alloc _ _)) hb)
    clear hb
    go_wp2_with fail
    go_ret
    exact RetP.mk (by rw [E.out]; exact StRow.nil _ _ _) (by exact B1.out.alloc (by have := B1.out.size; omega) _)
  | true =>
    have E := hid (show enabS s ls vs = steps s ls vs s.procs.length by rw [HD.out, if_pos hok])
    have HS2 := hid (HS.out hok)
    rw [hok] at HV
    clear hok HS HD
    have HLL := hid (show (steps s ls vs s.procs.length).length ≤ maxLen from by rw [← E.out]; have := enabS_len s ls vs; unfold maxLen; omega)
    generalize steps s ls vs s.procs.length = l at *
    go_enter Try.func34, Try.ntmps34
    go_wp2_with fail
    refine (HV.out _ (by repeat (first | exact Below.refl _ _ | assumption | refine below_a ?_ _ | refine below_o ?_ _ | refine below_d ?_ | refine below_n ?_ _ | refine below_s ?_ (by first | (simp; done) | (simp; omega) | omega) _))).mono ?_
    rintro _ w1 ⟨rfl, hb⟩
    have X := hid (box2_next hb (box2_next (below_alloc _ _) (box2_at (w := w) (a := .slice a s.init.length c) (b := .slice b s.procs.length d) (t := 36) rfl)))
    have Y := hid (box2_next hb (box2_at (w := w.alloc (.cells #[.slice a s.init.length c, .slice b s.procs.length d] 36)) (B := w.heap.size + 1) (a := .slice a' ls.length c') (b := .slice b' vs.length d') (t := 50) (by simp)))
    have B1 := hid (below_next (show Below w.heap.size w _ from below_next (below_alloc _ _) (below_alloc _ _)) hb)
    clear hb
    obtain ⟨p0, p1, p2, _⟩ := id X.out
    obtain ⟨q0, q1, q2, _⟩ := id Y.out
    go_wp2_with fail
    refine (HS2.out _ B1.out).mono ?_
    rintro _ w2 ⟨g, cp, rfl, hv, hb⟩
    have B2 := hid (below_then B1.out hb B1.out.size)
    have V := hid (strow_own (ownsRow_low hv B1.out.size))
    clear hb hv
    go_wp2_with fail
    go_ret
    exact RetP.mk (by rw [E.out]; exact V.out) B2.out

set_option maxRecDepth 100000 in
set_option maxHeartbeats 2000000 in
theorem enab_any (s : Sy) (ls vs : List Int) (w : World) (x y : Value) (hx : SyIn Any w s x) (hy : State.PairIn Any w ls vs y) : Calls Try.prog 33 #[x, y] w (RetP (StRow w.heap.size (enabS s ls vs)) w) := by
  have HV := hid (fun (W : World) (M : Below w.heap.size w W) => State.state_any s ls vs W x y (hx.below M) (hy.below M))
  have HS := hid (fun (h : State.okSt s ls vs = true) (W : World) (M : Below w.heap.size w W) => enabled_any s ls vs h (okSy_one (okSt_facts h).1) W x y (hx.below M) (hy.below M))
  have HD := hid (show enabS s ls vs = if State.okSt s ls vs = true then steps s ls vs s.procs.length else [] from rfl)
  obtain ⟨a, c, b, d, rfl⟩ := hx.shape
  obtain ⟨a', b', c', d', rfl, _⟩ := hy
  clear hx
  cases hok : State.okSt s ls vs with
  | false =>
    have E := hid (show enabS s ls vs = [] by rw [HD.out, hok]; simp)
    rw [hok] at HV
    clear hok HS HD
    go_enter Try.func33, Try.ntmps33
    go_wp2_with fail
    refine (HV.out _ (by repeat (first | exact Below.refl _ _ | assumption | refine below_a ?_ _ | refine below_o ?_ _ | refine below_d ?_ | refine below_n ?_ _ | refine below_s ?_ (by first | (simp; done) | (simp; omega) | omega) _))).mono ?_
    rintro _ w1 ⟨rfl, hb⟩
    have B1 := hid (below_next (show Below w.heap.size w _ from below_next (below_alloc _ _) (below_alloc _ _)) hb)
    clear hb
    go_wp2_with fail
    go_ret
    exact RetP.mk (by rw [E.out]; exact StRow.nil _ _ _) B1.out
  | true =>
    have E := hid (show enabS s ls vs = steps s ls vs s.procs.length by rw [HD.out, if_pos hok])
    have HS2 := hid (HS.out hok)
    rw [hok] at HV
    clear hok HS HD
    have HLL := hid (show (steps s ls vs s.procs.length).length ≤ maxLen from by rw [← E.out]; have := enabS_len s ls vs; unfold maxLen; omega)
    generalize steps s ls vs s.procs.length = l at *
    go_enter Try.func33, Try.ntmps33
    go_wp2_with fail
    refine (HV.out _ (by repeat (first | exact Below.refl _ _ | assumption | refine below_a ?_ _ | refine below_o ?_ _ | refine below_d ?_ | refine below_n ?_ _ | refine below_s ?_ (by first | (simp; done) | (simp; omega) | omega) _))).mono ?_
    rintro _ w1 ⟨rfl, hb⟩
    have X := hid (box2_next hb (box2_next (below_alloc _ _) (box2_at (w := w) (a := .slice a s.init.length c) (b := .slice b s.procs.length d) (t := 36) rfl)))
    have Y := hid (box2_next hb (box2_at (w := w.alloc (.cells #[.slice a s.init.length c, .slice b s.procs.length d] 36)) (B := w.heap.size + 1) (a := .slice a' ls.length c') (b := .slice b' vs.length d') (t := 50) (by simp)))
    have B1 := hid (below_next (show Below w.heap.size w _ from below_next (below_alloc _ _) (below_alloc _ _)) hb)
    clear hb
    obtain ⟨p0, p1, p2, _⟩ := id X.out
    obtain ⟨q0, q1, q2, _⟩ := id Y.out
    go_wp2_with fail
    refine (HS2.out _ B1.out).mono ?_
    rintro _ w2 ⟨v, rfl, hv, hb⟩
    have B2 := hid (below_then B1.out hb B1.out.size)
    have V := hid (strow_new hv B1.out.size HLL.out)
    clear hb hv
    go_wp2_with fail
    go_ret
    exact RetP.mk (by rw [E.out]; exact V.out) B2.out
end Sys
end Go.Proofs.Ytffadknollkgiaa
