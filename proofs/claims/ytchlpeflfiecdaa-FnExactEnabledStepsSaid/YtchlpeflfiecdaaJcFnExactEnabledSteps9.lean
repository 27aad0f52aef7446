/- Joined texts (EnabV, StepMk2, IntsMark, StateMark, SysMark, EdgeTo, SysTo): contracts and plain laws. Conditions: those of each theorem. -/
import Derived.Test.YtchlpeflfiecdaaJcFnExactEnabledSteps8
import Derived.Test.YtchlpeflfiecdaaJcFnExactEnabledSteps7
import Derived.Test.YtchlpeflfiecdaaRows
import Derived.Test.YtchlpeflfiecdaaJcFnExactEnabledSteps3
import Derived.Test.YtchlpeflfiecdaaJcFnExactEnabledSteps2
import Derived.WalkSpells
import Derived.WalkLawsBesides
namespace Go.Proofs.Ytchlpeflfiecdaa
open Go.RowKit
set_option linter.unusedVariables false
set_option linter.unusedSimpArgs false
namespace Sys

def enabS (s : Sy) (ls vs : List Int) : List Stp := if State.okSt s ls vs = true then steps s ls vs s.procs.length else []
theorem enabS_len (s : Sy) (ls vs : List Int) : (enabS s ls vs).length ≤ 1000 := by
  unfold enabS
  split
  · rename_i h
    have h1 := (okSt_facts h).1
    have := steps_len h1 ls vs s.procs.length
    have := (okSy_procs h1).1
    omega
  · simp
/-- a new row of steps -/
def StRow (B : Nat) (l : List Stp) (v : Value) (w : World) : Prop := ∃ a c, v = .slice a l.length c ∧ l.length ≤ c ∧ c ≤ maxLen ∧ (l = [] ∨ ∃ g, a = some ⟨g, 0, none⟩ ∧ B ≤ g ∧ g < w.heap.size ∧ (∀ j u, (stCells l)[j]? = some u → w.cell? ⟨g, j, none⟩ = some u) ∧ ∀ j, w.frozen? ⟨g, j, none⟩ = false)
theorem StRow.nil (B : Nat) (a : Option Addr) (w : World) : StRow B [] (.slice a 0 0) w := ⟨a, 0, rfl, Nat.le_refl _, by simp, .inl rfl⟩
theorem strow_own {B g c : Nat} {l : List Stp} {w : World} (h : OwnS B (.slice (some ⟨g, 0, none⟩) l.length c) l w) : StRow B l (.slice (some ⟨g, 0, none⟩) l.length c) w := by
  rcases h.shape with ⟨h1, _⟩ | ⟨g', c', e, h1, h2, h3, h4⟩
  · simp at h1
  · simp at e
    obtain ⟨rfl, rfl⟩ := e
    exact ⟨_, c, rfl, h3, h4, .inr ⟨g, rfl, h1, h2, fun j u hj => own_cell h hj, fun j => World.ownsRow.frozenAt h j⟩⟩
theorem strow_new {B B' : Nat} {l : List Stp} {v : Value} {w : World} (h : NewS B l v w) (hb : B' ≤ B) (hl : l.length ≤ maxLen := by first | assumption | (unfold maxLen; omega)) : StRow B' l v w := by
  rcases h with ⟨rfl, rfl⟩ | ⟨g, rfl, h1, h2, h3, h4⟩
  · exact StRow.nil _ _ _
  · exact ⟨_, _, rfl, Nat.le_refl _, hl, .inr ⟨g, rfl, Nat.le_trans hb h1, h2, h3, h4⟩⟩

set_option maxRecDepth 100000 in
set_option maxHeartbeats 2000000 in
theorem specEnab_any (s : Sy) (ls vs : List Int) (w : World) (x y : Value) (hx : SyIn Any w s x) (hy : State.PairIn Any w ls vs y) : Calls Try.prog 31 #[x, y] w (RetP (StRow w.heap.size (enabS s ls vs)) w) := by
  have HV := hid (fun (W : World) (M : Below w.heap.size w W) => State.specState_any s ls vs W x y (hx.below M) (hy.below M))
  have HS := hid (fun (h : State.okSt s ls vs = true) (W : World) (M : Below w.heap.size w W) => specSteps_any s ls vs h (okSy_one (okSt_facts h).1) W x y (hx.below M) (hy.below M))
  have HD := hid (show enabS s ls vs = if State.okSt s ls vs = true then steps s ls vs s.procs.length else [] from rfl)
  obtain ⟨a, c, b, d, rfl⟩ := hx.shape
  obtain ⟨a', b', c', d', rfl, _⟩ := hy
  clear hx
  cases hok : State.okSt s ls vs with
  | false =>
    have E := hid (show enabS s ls vs = [] by rw [HD.out, hok]; simp)
    rw [hok] at HV
    clear hok HS HD
    go_enter Try.func31, Try.ntmps31
    go_wp2_with fail
    refine (HV.out _ (by repeat (first | exact Below.refl _ _ | assumption | refine below_a ?_ _ | refine below_o ?_ _ | refine below_d ?_ | refine below_n ?_ _ | refine below_s ?_ (by first | (simp; done) | (simp; omega) | omega) _))).mono ?_
    rintro _ w1 ⟨rfl, hb⟩
    have B1 := hid (below_next (show Below w.heap.size w _ from below_next (below_alloc _ _) (below_alloc _ _)) hb)
    clear hb
    go_wp2_with fail
    go_ret
    exact RetP.mk (by rw [E.out]; exact StRow.nil _ _ _) (by exact B1.out.alloc (by have := B1.out.size; omega) _)
  | true =>
    have E := hid (show enabS s ls vs = steps s ls vs s.procs.length by rw [HD.out, if_pos hok])
    have HS2 := hid (HS.out hok)
    rw [hok] at HV
    clear hok HS HD
    have HLL := hid (show (steps s ls vs s.procs.length).length ≤ maxLen from by rw [← E.out]; have := enabS_len s ls vs; unfold maxLen; omega)
    generalize steps s ls vs s.procs.length = l at *
    go_enter Try.func31, Try.ntmps31
    go_wp2_with fail
    refine (HV.out _ (by repeat (first | exact Below.refl _ _ | assumption | refine below_a ?_ _ | refine below_o ?_ _ | refine below_d ?_ | refine below_n ?_ _ | refine below_s ?_ (by first | (simp; done) | (simp; omega) | omega) _))).mono ?_
    rintro _ w1 ⟨rfl, hb⟩
    have X := hid (box2_next hb (box2_next (below_alloc _ _) (box2_at (w := w) (a := .slice a s.init.length c) (b := .slice b s.procs.length d) (t := 45) rfl)))
    have Y := hid (box2_next hb (box2_at (w := w.alloc (.cells #[.slice a s.init.length c, .slice b s.procs.length d] 45)) (B := w.heap.size + 1) (a := .slice a' ls.length c') (b := .slice b' vs.length d') (t := 62) (by simp)))
    have B1 := hid (below_next (show Below w.heap.size w _ from below_next (below_alloc _ _) (below_alloc _ _)) hb)
    clear hb
    obtain ⟨p0, p1, p2, _⟩ := id X.out
    obtain ⟨q0, q1, q2, _⟩ := id Y.out
    go_wp2_with fail
    refine (HS2.out _ B1.out).mono ?_
    rintro _ w2 ⟨g, cp, rfl, hv, hb⟩
    have B2 := hid (below_then B1.out hb B1.out.size)
    have V := hid (strow_own (ownsRow_low hv B1.out.size))
    clear hb hv
    go_wp2_with fail
    go_ret
    exact RetP.mk (by rw [E.out]; exact V.out) B2.out

set_option maxRecDepth 100000 in
set_option maxHeartbeats 2000000 in
theorem enab_any (s : Sy) (ls vs : List Int) (w : World) (x y : Value) (hx : SyIn Any w s x) (hy : State.PairIn Any w ls vs y) : Calls Try.prog 33 #[x, y] w (RetP (StRow w.heap.size (enabS s ls vs)) w) := by
  have HV := hid (fun (W : World) (M : Below w.heap.size w W) => State.state_any s ls vs W x y (hx.below M) (hy.below M))
  have HS := hid (fun (h : State.okSt s ls vs = true) (W : World) (M : Below w.heap.size w W) => enabled_any s ls vs h (okSy_one (okSt_facts h).1) W x y (hx.below M) (hy.below M))
  have HD := hid (show enabS s ls vs = if State.okSt s ls vs = true then steps s ls vs s.procs.length else [] from rfl)
  obtain ⟨a, c, b, d, rfl⟩ := hx.shape
  obtain ⟨a', b', c', d', rfl, _⟩ := hy
  clear hx
  cases hok : State.okSt s ls vs with
  | false =>
    have E := hid (show enabS s ls vs = [] by rw [HD.out, hok]; simp)
    rw [hok] at HV
    clear hok HS HD
    go_enter Try.func33, Try.ntmps33
    go_wp2_with fail
    refine (HV.out _ (by repeat (first | exact Below.refl _ _ | assumption | refine below_a ?_ _ | refine below_o ?_ _ | refine below_d ?_ | refine below_n ?_ _ | refine below_s ?_ (by first | (simp; done) | (simp; omega) | omega) _))).mono ?_
    rintro _ w1 ⟨rfl, hb⟩
    have B1 := hid (below_next (show Below w.heap.size w _ from below_next (below_alloc _ _) (below_alloc _ _)) hb)
    clear hb
    go_wp2_with fail
    go_ret
    exact RetP.mk (by rw [E.out]; exact StRow.nil _ _ _) B1.out
  | true =>
    have E := hid (show enabS s ls vs = steps s ls vs s.procs.length by rw [HD.out, if_pos hok])
    have HS2 := hid (HS.out hok)
    rw [hok] at HV
    clear hok HS HD
    have HLL := hid (show (steps s ls vs s.procs.length).length ≤ maxLen from by rw [← E.out]; have := enabS_len s ls vs; unfold maxLen; omega)
    generalize steps s ls vs s.procs.length = l at *
    go_enter Try.func33, Try.ntmps33
    go_wp2_with fail
    refine (HV.out _ (by repeat (first | exact Below.refl _ _ | assumption | refine below_a ?_ _ | refine below_o ?_ _ | refine below_d ?_ | refine below_n ?_ _ | refine below_s ?_ (by first | (simp; done) | (simp; omega) | omega) _))).mono ?_
    rintro _ w1 ⟨rfl, hb⟩
    have X := hid (box2_next hb (box2_next (below_alloc _ _) (box2_at (w := w) (a := .slice a s.init.length c) (b := .slice b s.procs.length d) (t := 45) rfl)))
    have Y := hid (box2_next hb (box2_at (w := w.alloc (.cells #[.slice a s.init.length c, .slice b s.procs.length d] 45)) (B := w.heap.size + 1) (a := .slice a' ls.length c') (b := .slice b' vs.length d') (t := 62) (by simp)))
    have B1 := hid (below_next (show Below w.heap.size w _ from below_next (below_alloc _ _) (below_alloc _ _)) hb)
    clear hb
    obtain ⟨p0, p1, p2, _⟩ := id X.out
    obtain ⟨q0, q1, q2, _⟩ := id Y.out
    go_wp2_with fail
    refine (HS2.out _ B1.out).mono ?_
    rintro _ w2 ⟨v, rfl, hv, hb⟩
    have B2 := hid (below_then B1.out hb B1.out.size)
    have V := hid (strow_new hv B1.out.size HLL.out)
    clear hb hv
    go_wp2_with fail
    go_ret
    exact RetP.mk (by rw [E.out]; exact V.out) B2.out
end Sys
end Go.Proofs.Ytchlpeflfiecdaa
namespace Go.Proofs.Ytchlpeflfiecdaa
open Go.RowKit
set_option linter.unusedVariables false
set_option linter.unusedSimpArgs false
namespace Sys

/-- a row of steps in a block of its own -/
def StO (l : List Stp) (a : Option Addr) (bs : List Nat) (w : World) : Prop := (l = [] ∧ bs = []) ∨ ∃ g, a = some ⟨g, 0, none⟩ ∧ bs = [g] ∧ Row w g (l.length * 4) (fun i => (stCells l).getD i undef)
/-- a marked row -/
def StM (n : Nat) (k : Int) (a : Option Addr) (bs : List Nat) (w : World) : Prop := (n = 0 ∧ bs = []) ∨ ∃ g, a = some ⟨g, 0, none⟩ ∧ bs = [g] ∧ Row w g (n * 4) (fun i => .int .i64 (k + (i : Int)))
theorem StO.frame {l : List Stp} {a : Option Addr} {bs : List Nat} {w w' : World} (h : StO l a bs w) (hs : w.heap.size ≤ w'.heap.size) (hb : ∀ b, b ∈ bs → b < w.heap.size → w'.heap[b]? = w.heap[b]?) : StO l a bs w' := by
  rcases h with h | ⟨R, rfl, rfl, hr⟩
  · exact .inl h
  · exact .inr ⟨R, rfl, rfl, hr.kept hs (hb R (by simp) hr.1)⟩
theorem StO.below {l : List Stp} {a : Option Addr} {bs : List Nat} {w w' : World} (h : StO l a bs w) (hb : Below w.heap.size w w') : StO l a bs w' := h.frame hb.size fun b _ hl => hb.block b hl
theorem StO.only {S : List Nat} {l : List Stp} {a : Option Addr} {bs : List Nat} {w w' : World} (h : StO l a bs w) (ho : Only S w w') (hd : ∀ b, b ∈ bs → b ∉ S) : StO l a bs w' := h.frame ho.size fun b hb hl => ho.block b hl (hd b hb)
theorem StO.lt {l : List Stp} {a : Option Addr} {bs : List Nat} {w : World} (h : StO l a bs w) : ∀ b, b ∈ bs → b < w.heap.size := by
  rcases h with ⟨_, rfl⟩ | ⟨R, rfl, rfl, hr⟩
  · simp
  · intro b hb; simp at hb; subst hb; exact hr.1
theorem StM.below {n : Nat} {k : Int} {a : Option Addr} {bs : List Nat} {w w' : World} (h : StM n k a bs w) (hb : Below w.heap.size w w') : StM n k a bs w' := by
  rcases h with h | ⟨R, rfl, rfl, hr⟩
  · exact .inl h
  · exact .inr ⟨R, rfl, rfl, hr.below hb⟩
theorem StO.stIn {l : List Stp} {a : Option Addr} {bs : List Nat} {w : World} (h : StO l a bs w) : StIn w l a := by
  rcases h with ⟨h, _⟩ | ⟨R, rfl, rfl, hr⟩
  · exact .inl h
  · refine .inr ⟨R, rfl, hr.1, fun j u hj => ?_⟩
    have hl : j < l.length * 4 := by
      have := (List.getElem?_eq_some_iff.1 hj).1
      rw [stCells_len] at this; exact this
    rw [hr.2.1 j hl]
    show some ((stCells l).getD j undef) = _
    rw [List.getD_eq_getElem?_getD, hj]
    rfl
theorem strow_o {B : Nat} {l : List Stp} {v : Value} {w : World} (h : StRow B l v w) : ∃ a c bs, v = .slice a l.length c ∧ l.length ≤ c ∧ c ≤ maxLen ∧ StO l a bs w ∧ ∀ b, b ∈ bs → B ≤ b := by
  obtain ⟨a, c, rfl, h1, h2, h3⟩ := h
  rcases h3 with rfl | ⟨g, rfl, h4, h5, h6, h7⟩
  · exact ⟨a, c, [], rfl, h1, h2, .inl ⟨rfl, rfl⟩, by simp⟩
  · refine ⟨_, c, [g], rfl, h1, h2, .inr ⟨g, rfl, rfl, h5, fun i hi => ?_, h7⟩, by simpa using h4⟩
    have hi' : i < (stCells l).length := by rw [stCells_len]; exact hi
    show _ = some ((stCells l).getD i undef)
    rw [List.getD_eq_getElem?_getD, List.getElem?_eq_getElem hi']
    exact h6 i _ (List.getElem?_eq_getElem hi')

set_option maxRecDepth 100000 in
set_option maxHeartbeats 2000000 in
theorem markStep0 (w : World) (a : Option Addr) (c : Nat) (k : Int) : Calls Try.prog 37 #[.slice a 0 c, .int .i64 k] w (RetW (.int .i64 k) w) := by
  go_enter Try.func37, Try.ntmps37
  go_wp2_with fail
  go_loopw [1, 5] (fun q i wr => q = .int .i64 k ∧ i = .int .i64 0 ∧ wr = w) (fun _ _ _ => 0)
  case atStart => exact ⟨rfl, rfl, rfl⟩
  case round =>
    obtain ⟨rfl, rfl, rfl⟩ := hrel
    go_wp2_with fail
    go_ret
    exact ⟨rfl, rfl⟩
set_option maxRecDepth 100000 in
set_option maxHeartbeats 2000000 in
theorem heldStep0 (w : World) (a : Option Addr) (c : Nat) (k : Int) : Calls Try.prog 38 #[.slice a 0 c, .int .i64 k] w (Ret (.int .i64 k) w) := by
  go_enter Try.func38, Try.ntmps38
  go_wp2_with fail
  go_loopw [1, 5] (fun q i wr => q = .int .i64 k ∧ i = .int .i64 0 ∧ wr = w) (fun _ _ _ => 0)
  case atStart => exact ⟨rfl, rfl, rfl⟩
  case round =>
    obtain ⟨rfl, rfl, rfl⟩ := hrel
    go_wp2_with fail
    go_ret
    exact Ret.mk rfl (Below.refl _ _)
theorem only_nil_of (w : World) : Only [] w w := Only.refl _ _
theorem markStep_o (l : List Stp) (w : World) (a : Option Addr) (c : Nat) (bs : List Nat) (hr : StO l a bs w) (hc : l.length ≤ c) (hc2 : c ≤ maxLen) (hn : l.length ≤ 1000) :
    Calls Try.prog 37 #[.slice a l.length c, .int .i64 1] w fun e w' => e = .returned (.int .i64 (1 + (l.length * 4 : Nat))) ∧ StM l.length 1 a bs w' ∧ Only bs w w' := by
  rcases hr with ⟨rfl, rfl⟩ | ⟨g, rfl, rfl, hr⟩
  · refine (markStep0 w a c 1).mono ?_
    rintro e w' ⟨rfl, rfl⟩
    exact ⟨by simp, .inl ⟨rfl, rfl⟩, Only.refl _ _⟩
  · refine (markStepS_any l.length w g c 1 _ hr hc hc2 hn (by omega) (by omega)).mono ?_
    rintro e w' ⟨rfl, h1, h2⟩
    exact ⟨rfl, .inr ⟨g, rfl, rfl, h1⟩, h2⟩
theorem heldStep_o (n : Nat) (w : World) (a : Option Addr) (c : Nat) (bs : List Nat) (hr : StM n 1 a bs w) (hc : n ≤ c) (hc2 : c ≤ maxLen) (hn : n ≤ 1000) :
    Calls Try.prog 38 #[.slice a n c, .int .i64 1] w (Ret (.int .i64 (1 + (n * 4 : Nat))) w) := by
  rcases hr with ⟨rfl, rfl⟩ | ⟨g, rfl, rfl, hr⟩
  · refine (heldStep0 w a c 1).mono ?_
    rintro e w' ⟨rfl, h⟩
    exact ⟨by simp, h⟩
  · exact heldStepS_any n w g c 1 hr hc hc2 hn (by omega) (by omega)
/-- the state's rows, new, as rows of one's own -/
theorem _root_.Go.Proofs.Ytchlpeflfiecdaa.State.NewPair.own {B : Nat} {l m : List Int} {w : World} {v : Value} (h : State.NewPair B l m v w) : ∃ a b, v = .agg #[.slice (some ⟨a, 0, none⟩) l.length l.length, .slice (some ⟨b, 0, none⟩) m.length m.length] ∧
    OwnV (l.map (Value.int .i64)) (some ⟨a, 0, none⟩) [a] w ∧ OwnV (m.map (Value.int .i64)) (some ⟨b, 0, none⟩) [b] w ∧ B ≤ a ∧ a < b ∧ b < w.heap.size := by
  obtain ⟨a, b, rfl, h1, h2, r1, r2⟩ := h
  refine ⟨a, b, rfl, .inr ⟨a, rfl, rfl, ?_⟩, .inr ⟨b, rfl, rfl, ?_⟩, h1, h2, r2.1⟩
  · rw [List.length_map]; exact r1.congr fun i hi => by simp [List.getD_eq_getElem?_getD, hi]
  · rw [List.length_map]; exact r2.congr fun i hi => by simp [List.getD_eq_getElem?_getD, hi]
end Sys
end Go.Proofs.Ytchlpeflfiecdaa
namespace Go.Proofs.Ytchlpeflfiecdaa
open Go.RowKit
namespace IntS

def MarkPost (n : Nat) (k : Int) (a : Option Addr) (bs : List Nat) (w : World) (e : Ending) (w' : World) : Prop := e = .returned (.int .i64 (k + n)) ∧ OwnV (markV mkI n k) a bs w' ∧ Only bs w w'
set_option maxHeartbeats 1000000 in
theorem mark_any (l : List Value) (w : World) (a : Option Addr) (c : Nat) (k : Int) (bs : List Nat) (hr : OwnV l a bs w) (hc : l.length ≤ c) (hc2 : c ≤ maxLen) (hk : 0 ≤ k) (hk2 : k + l.length ≤ 4611686018427387904) :
    Calls Try.prog 69 #[.slice a l.length c, .int .i64 k] w (MarkPost l.length k a bs w) := by
  unfold maxLen at hc2
  rcases hr with ⟨rfl, rfl⟩ | ⟨R, rfl, rfl, hrow⟩
  · go_enter Try.func69, Try.ntmps69
    go_wp2_with fail
    go_loopw [1, 5] (fun q i wr => wr = w ∧ q = .int .i64 k ∧ i = .int .i64 0) (fun _ _ _ => 0)
    case atStart => exact ⟨rfl, rfl, rfl⟩
    case round =>
      obtain ⟨rfl, rfl, rfl⟩ := hrel
      go_wp2_with fail
      go_ret
      exact ⟨by simp, .inl ⟨by simp [markV], rfl⟩, Only.refl _ _⟩
  · go_enter Try.func69, Try.ntmps69
    go_wp2_with fail
    go_loopw [1, 5] (fun q i wr => ∃ (j : Nat) (g : Nat → Value), j ≤ l.length ∧ q = .int .i64 (k + j) ∧ i = .int .i64 j ∧ Row wr R l.length g ∧ Hid (∀ i, i < j → g i = mkI (k + i)) ∧ Only [R] w wr) (fun _ i _ => l.length - (intOf i).toNat)
    case atStart => exact ⟨0, _, Nat.zero_le _, by simp, rfl, hrow, hid (by omega), Only.refl _ _⟩
    case round =>
      obtain ⟨j, g, hj, rfl, rfl, hrow', hg, ho⟩ := hrel
      by_cases hlt : j < l.length
      · have r0 := hrow'.2.1 j hlt
        have rz := hrow'.2.2
        have rl := hrow'.1
        have hstep := hid (show Row (wr.setCell ⟨R, j, none⟩ (mkI (k + j))) R l.length (fun i => if i = j then mkI (k + j) else g i) ∧ Hid (∀ i, i < j + 1 → (fun i => if i = j then mkI (k + j) else g i) i = mkI (k + i)) ∧ Only [R] w (wr.setCell ⟨R, j, none⟩ (mkI (k + j))) from
          ⟨hrow'.set hlt _, hid (fun i hi => by
            by_cases e : i = j
            · subst e; simp
            · simp [e]; exact hg.out i (by omega)), ho.set (by simp) _⟩)
        clear hrow' ho
        have hlt2 : (j : Int) < (l.length : Int) := by omega
        go_wp2_with fail
        go_roundw
        case rel => exact ⟨j + 1, _, by omega, by go_num, by go_num, hstep.out⟩
        case measure => simp [intOf]; omega
      · have hlt2 : ¬ ((j : Int) < (l.length : Int)) := by omega
        have hfin := hid (show OwnV (markV mkI l.length k) (some ⟨R, 0, none⟩) [R] wr ∧ Only [R] w wr from ⟨.inr ⟨R, rfl, rfl, by rw [markV_len]; exact hrow'.congr fun i hi => by rw [hg.out i (by omega), List.getD_eq_getElem?_getD, markV_at _ _ hi]; rfl⟩, ho⟩)
        have hjl : j = l.length := by omega
        clear hrow' ho
        go_wp2_with fail
        go_ret
        exact ⟨by first | rfl | rw [hjl], hfin.out⟩

set_option maxHeartbeats 1000000 in
theorem held_any (n : Nat) (w : World) (a : Option Addr) (c : Nat) (k : Int) (hr : RowIn Any w a (markV mkI n k)) (hc : n ≤ c) (hc2 : c ≤ maxLen) (hk : 0 ≤ k) (hk2 : k + n ≤ 4611686018427387904) :
    Calls Try.prog 78 #[.slice a n c, .int .i64 k] w (Ret (.int .i64 (k + n)) w) := by
  unfold maxLen at hc2
  go_enter Try.func78, Try.ntmps78
  go_wp2_with fail
  go_loopw [1, 5] (fun q i wr => ∃ j : Nat, j ≤ n ∧ q = .int .i64 (k + j) ∧ i = .int .i64 j ∧ Below w.heap.size w wr) (fun _ i _ => n - (intOf i).toNat)
  case atStart => exact ⟨0, Nat.zero_le _, by simp, rfl, Below.refl _ _⟩
  case round =>
    obtain ⟨j, hj, rfl, rfl, B⟩ := hrel
    by_cases hlt : j < n
    · obtain ⟨b, o, rfl, hb, _, g0⟩ := hr.at B (markV_at _ _ hlt)
      have hlt2 : (j : Int) < (n : Int) := by omega
      unfold mkI at g0
      skip
      go_wp2_with fail
      go_roundw
      case rel => exact ⟨j + 1, by omega, by go_num, by go_num, B⟩
      case measure => simp [intOf]; omega
    · have hlt2 : ¬ ((j : Int) < (n : Int)) := by omega
      have hjl : j = n := by omega
      go_wp2_with fail
      go_ret
      exact Ret.mk (by first | rfl | rw [hjl]) B

end IntS
end Go.Proofs.Ytchlpeflfiecdaa
namespace Go.Proofs.Ytchlpeflfiecdaa
open Go.RowKit
open Go.Proofs.Ytchlpeflfiecdaa.Sys
set_option linter.unusedVariables false
namespace StateM

def MarkPost (n m : Nat) (k : Int) (a a' : Option Addr) (bs bs' : List Nat) (w : World) (e : Ending) (w' : World) : Prop := e = .returned (.int .i64 (k + n + m)) ∧ OwnV (markV mkI n k) a bs w' ∧ OwnV (markV mkI m (k + n)) a' bs' w' ∧ Only (bs ++ bs') w w'
set_option maxHeartbeats 1000000 in
theorem mark_any (l m : List Value) (w : World) (a a' : Option Addr) (c c' : Nat) (k : Int) (bs bs' : List Nat) (hr : OwnV l a bs w) (hr' : OwnV m a' bs' w) (hd : ∀ b, b ∈ bs → b ∉ bs') (hc : l.length ≤ c) (hc2 : c ≤ maxLen) (hc' : m.length ≤ c') (hc2' : c' ≤ maxLen) (hk : 0 ≤ k) (hk2 : k + l.length + m.length ≤ 4611686018427387904) :
    Calls Try.prog 36 #[.agg #[.slice a l.length c, .slice a' m.length c'], .int .i64 k] w (MarkPost l.length m.length k a a' bs bs' w) := by
  have H1 := hid (fun (W : World) (h : OwnV l a bs W) => IntS.mark_any l W a c k bs h hc hc2 hk (by omega))
  have H2 := hid (fun (W : World) (h : OwnV m a' bs' W) => IntS.mark_any m W a' c' (k + l.length) bs' h hc' hc2' (by omega) (by omega))
  have O1 := hid hr
  have O2 := hid hr'
  have L1 := hid hr.lt
  have L2 := hid hr'.lt
  have D := hid hd
  clear hr hr' hd
  go_enter Try.func36, Try.ntmps36
  go_wp2_with fail
  refine (H1.out _ (O1.out.below (below_alloc _ _))).mono ?_
  rintro _ w1 ⟨rfl, o1, hO⟩
  have X1 := hid (box2_block hO.size (hO.block w.heap.size (by simp) (fun h => by have := L1.out _ h; omega)) (box2_at (w := w) (a := .slice a l.length c) (b := .slice a' m.length c') (t := 62) rfl))
  have N1 := hid o1
  have N2 := hid ((O2.out.below (below_alloc w (.cells #[.slice a l.length c, .slice a' m.length c'] 62))).only hO (fun b h1 h2 => D.out b h2 h1))
  have F1 := hid ((Only.below (S := bs ++ bs') (below_alloc w (.cells #[.slice a l.length c, .slice a' m.length c'] 62))).trans (hO.mono fun b h => List.mem_append_left _ h))
  clear hO o1 O1 O2
  obtain ⟨p0, p1, p2, _⟩ := id X1.out
  go_wp2_with fail
  refine (H2.out _ N2.out).mono ?_
  rintro _ w2 ⟨rfl, o2, hO⟩
  have M2 := hid o2
  have M1 := hid (N1.out.only hO D.out)
  have F2 := hid (F1.out.trans (hO.mono fun b h => List.mem_append_right _ h))
  clear hO o2
  go_wp2_with fail
  go_ret
  exact ⟨rfl, M1.out, M2.out, F2.out⟩

set_option maxHeartbeats 1000000 in
theorem held_any (n m : Nat) (w : World) (a a' : Option Addr) (c c' : Nat) (k : Int) (hr : RowIn Any w a (markV mkI n k)) (hr' : RowIn Any w a' (markV mkI m (k + n))) (hc : n ≤ c) (hc2 : c ≤ maxLen) (hc' : m ≤ c') (hc2' : c' ≤ maxLen) (hk : 0 ≤ k) (hk2 : k + n + m ≤ 4611686018427387904) :
    Calls Try.prog 46 #[.agg #[.slice a n c, .slice a' m c'], .int .i64 k] w (Ret (.int .i64 (k + n + m)) w) := by
  have H1 := hid (fun (W : World) (M : Below w.heap.size w W) => IntS.held_any n W a c k (hr.below M) hc hc2 hk (by omega))
  have H2 := hid (fun (W : World) (M : Below w.heap.size w W) => IntS.held_any m W a' c' (k + n) (hr'.below M) hc' hc2' (by omega) (by omega))
  have k1 : ¬ (k + (n : Int) < 0) := by omega
  have k2 : ¬ (k + (n : Int) + m < 0) := by omega
  clear hr hr'
  go_enter Try.func46, Try.ntmps46
  go_wp2_with fail
  refine (H1.out _ (by repeat (first | exact Below.refl _ _ | assumption | refine below_a ?_ _ | refine below_o ?_ _ | refine below_d ?_ | refine below_n ?_ _ | refine below_s ?_ (by first | (simp; done) | (simp; omega) | omega) _))).mono ?_
  rintro _ w1 ⟨rfl, hb⟩
  have X1 := hid (box2_next hb (box2_at (w := w) (a := .slice a n c) (b := .slice a' m c') (t := 62) rfl))
  have B1 := hid (below_next (show Below w.heap.size w _ from below_alloc _ _) hb)
  clear hb
  obtain ⟨p0, p1, p2, _⟩ := id X1.out
  go_wp2_with fail
  refine (H2.out _ B1.out).mono ?_
  rintro _ w2 ⟨rfl, hb⟩
  have B2 := hid (below_next B1.out hb)
  clear hb
  go_wp2_with fail
  go_ret
  exact Ret.mk rfl B2.out
end StateM
end Go.Proofs.Ytchlpeflfiecdaa
namespace Go.Proofs.Ytchlpeflfiecdaa
open Go.RowKit
set_option linter.unusedVariables false
namespace Sys

/-- what a marking call comes to, since world w -/
def MkPost (p : Nat → Prop) (w : World) (k : Int) (e : Ending) (w' : World) : Prop := e = .returned (.int .i64 k) ∧ Marked p w w'
/-- nothing freezes what p allows -/
def Free (p : Nat → Prop) (w : World) : Prop := ∀ b, p b → ∀ i, w.frozen? ⟨b, i, none⟩ = false

def MkL (p : Nat → Prop) (w : World) (l : List Tr) : Prop := ∀ (wr : World) (a : Option Addr) (c : Nat) (k : Int), TrsIn p w l a → Marked p w wr → l.length ≤ c → c ≤ maxLen → 0 ≤ k → k + 2 * nodesL l ≤ 4611686018427387904 →
  Calls Try.prog 104 #[.slice a l.length c, .int .i64 k] wr (MkPost p w (k + 2 * nodesL l))

set_option maxRecDepth 100000 in
set_option maxHeartbeats 2000000 in
theorem mkL_of (p : Nat → Prop) (w : World) (hf : Free p w) (l : List Tr) (h : ∀ k v kids, Tr.mk k v kids ∈ l → MkL p w kids) : MkL p w l := by
  intro w0 a c k hl hm hc hc2 hk hk2
  unfold maxLen at hc2
  have HL := hid hl
  have HM := hid hm
  have HF := hid hf
  have HH := hid h
  clear hl hm hf h
  go_enter Try.func104, Try.ntmps104
  go_wp2_with fail
  go_loopw [1, 5] (fun q i wr => ∃ (j : Nat) (m : Int), j ≤ l.length ∧ q = .int .i64 m ∧ i = .int .i64 j ∧ 0 ≤ m ∧ Hid (m + 2 * nodesL (l.drop j) = k + 2 * nodesL l) ∧ Hid (Marked p w wr)) (fun _ i _ => l.length - (intOf i).toNat)
  case atStart => exact ⟨0, k, Nat.zero_le _, rfl, rfl, hk, hid rfl, HM⟩
  case round =>
    obtain ⟨j, m, hj, rfl, rfl, hm, hsum, HMR⟩ := hrel
    by_cases hlt : j < l.length
    · obtain ⟨b, o, rfl, hb, hpb⟩ := TrsIn_addr HL.out (by omega)
      have hdr := List.drop_eq_getElem_cons hlt
      obtain ⟨c0, c1, c2, g0, g1, g2, hT⟩ := TrsIn_at l b o j HL.out (List.getElem?_eq_getElem hlt)
      rcases hTe : l[j] with ⟨kd, v, kids⟩
      rw [hTe] at hdr hT
      have hmem : Tr.mk kd v kids ∈ l := hTe ▸ List.getElem_mem hlt
      obtain ⟨a3, c3, rfl, rfl, rfl, hi1, hi2, hc3, hc4, hkids⟩ := TrIn_kids hT
      obtain ⟨m0, r0⟩ := HMR.out.int g0
      obtain ⟨m1, r1⟩ := HMR.out.int g1
      have r2 := HMR.out.slice g2
      have rf : ∀ i, wr.frozen? ⟨b, i, none⟩ = false := fun i => by rw [HMR.out.frozen b i hb]; exact HF.out b hpb i
      have rl : b < wr.heap.size := Nat.lt_of_lt_of_le hb HMR.out.size
      have hs0 := hsum.out
      rw [hdr] at hs0
      simp only [nodesL, nodes] at hs0
      have hp1 := nodesL_pos kids
      have hp2 := nodesL_pos (l.drop (j + 1))
      have hm2 : m + 2 + 2 * nodesL kids ≤ 4611686018427387904 := by omega
      have HS := hid hs0
      have HK := hid hkids
      have HC := hid (HH.out kd v kids hmem)
      have HM2 := hid ((HMR.out.set hpb g0 m).set hpb g1 (m + 1))
      have hlt2 : (j : Int) < (l.length : Int) := by omega
      clear hs0 hsum hkids hT hTe hdr g0 g1 g2 HMR
      go_wp2_with fail
      refine (HC.out _ a3 c3 (m + 1 + 1) HK.out HM2.out hc3 hc4 (by omega) (by omega)).mono ?_
      rintro e w2 ⟨rfl, hm3⟩
      have HM3 := hid hm3
      clear hm3 r0 r1 r2 rf rl HM2
      go_wp2_with fail
      go_roundw
      case rel => exact ⟨j + 1, m + 1 + 1 + 2 * nodesL kids, by omega, rfl, by go_num, by omega, hid (by have := HS.out; omega), HM3⟩
      case measure => simp [intOf]; omega
    · have hlt2 : ¬ ((j : Int) < (l.length : Int)) := by omega
      have h1 := hsum.out
      rw [List.drop_of_length_le (by omega)] at h1
      simp only [nodesL] at h1
      have hres := hid (show m = k + 2 * nodesL l by omega)
      clear h1 hsum
      go_wp2_with fail
      go_ret
      exact ⟨congrArg (fun x => Ending.returned (Value.int .i64 x)) hres.out, HMR.out⟩
theorem mkL_any (p : Nat → Prop) (w : World) (hf : Free p w) (l : List Tr) : MkL p w l := by
  refine (Tr.both (P := fun t => MkL p w t.kids) (Q := fun l => (∀ t, t ∈ l → MkL p w t.kids) ∧ MkL p w l) ?_ ?_ ?_).2 l |>.2
  · intro k v kids h; exact h.2
  · exact ⟨by simp, mkL_of p w hf [] (by simp)⟩
  · intro t ts ht hts
    have hall : ∀ u, u ∈ t :: ts → MkL p w u.kids := by
      intro u hu
      cases hu with
      | head => exact ht
      | tail _ hu => exact hts.1 u hu
    exact ⟨hall, mkL_of p w hf _ fun k v kids hm => hall _ hm⟩

set_option maxHeartbeats 1000000 in
theorem mkI_any (p : Nat → Prop) (w : World) (hf : Free p w) (l : List Int) (w0 : World) (a : Option Addr) (c : Nat) (k : Int) (hl : IntsIn p w a l) (hm : Marked p w w0) (hc : l.length ≤ c) (hc2 : c ≤ maxLen) (hk : 0 ≤ k) (hk2 : k + l.length ≤ 4611686018427387904) :
    Calls Try.prog 69 #[.slice a l.length c, .int .i64 k] w0 (MkPost p w (k + l.length)) := by
  unfold maxLen at hc2
  have HL := hid hl
  have HM := hid hm
  have HF := hid hf
  clear hl hm hf
  go_enter Try.func69, Try.ntmps69
  go_wp2_with fail
  go_loopw [1, 5] (fun q i wr => ∃ (j : Nat), j ≤ l.length ∧ q = .int .i64 (k + j) ∧ i = .int .i64 j ∧ Hid (Marked p w wr)) (fun _ i _ => l.length - (intOf i).toNat)
  case atStart => exact ⟨0, Nat.zero_le _, by simp, rfl, HM⟩
  case round =>
    obtain ⟨j, hj, rfl, rfl, HMR⟩ := hrel
    by_cases hlt : j < l.length
    · obtain ⟨b, o, rfl, hb, hpb, g0, _⟩ := ints_at HL.out (Below.refl _ _) hlt
      obtain ⟨m0, r0⟩ := HMR.out.int g0
      have rf : ∀ i, wr.frozen? ⟨b, i, none⟩ = false := fun i => by rw [HMR.out.frozen b i hb]; exact HF.out b hpb i
      have rl : b < wr.heap.size := Nat.lt_of_lt_of_le hb HMR.out.size
      have HM2 := hid (HMR.out.set hpb g0 (k + j))
      have hlt2 : (j : Int) < (l.length : Int) := by omega
      clear g0 HMR
      go_wp2_with fail
      go_roundw
      case rel => exact ⟨j + 1, by omega, by go_num, by go_num, HM2⟩
      case measure => simp [intOf]; omega
    · have hlt2 : ¬ ((j : Int) < (l.length : Int)) := by omega
      have hjl : j = l.length := by omega
      go_wp2_with fail
      go_ret
      exact ⟨by first | rfl | rw [hjl], HMR.out⟩

/-- how many numbers a mark of an edge, a process, a system writes -/
def mE (e : Ed) : Int := 8 + 2 * cE e
def mP (q : Pr) : Int := 1 + sumC mE q.edges
def mS (s : Sy) : Int := s.init.length + sumC mP s.procs
theorem mE_nonneg (e : Ed) : 0 ≤ mE e := by have := cE_nonneg e; unfold mE; omega
theorem mP_nonneg (q : Pr) : 0 ≤ mP q := by have := sumC_nonneg mE_nonneg q.edges; unfold mP; omega
theorem sum_mE : ∀ l : List Ed, sumC mE l = 8 * l.length + 2 * sumC cE l
  | [] => by simp [sumC]
  | t :: ts => by simp only [sumC, sum_mE ts, mE, List.length_cons]; omega
theorem sum_mP : ∀ l : List Pr, sumC mP l ≤ l.length + 8 * sumC cP l
  | [] => by simp [sumC]
  | t :: ts => by
    have h1 := sum_mP ts
    have h2 := sumC_nonneg cE_nonneg t.edges
    simp only [sumC, mP, cP, List.length_cons, sum_mE]
    omega
theorem mS_bd {s : Sy} (h : SmallS s) : 0 ≤ mS s ∧ mS s ≤ 8388608 := by
  have h1 := sum_mP s.procs
  have h2 := h.all
  have h3 := sumC_nonneg cP_nonneg s.procs
  have h4 := sumC_nonneg mP_nonneg s.procs
  unfold cS at h2
  unfold mS
  omega

set_option maxRecDepth 100000 in
set_option maxHeartbeats 4000000 in
theorem mkEs_any (p : Nat → Prop) (w : World) (hf : Free p w) (l : List Ed) (w0 : World) (a : Option Addr) (c : Nat) (k : Int) (hl : EdsIn p w l a) (hm : Marked p w w0) (hc : l.length ≤ c) (hc2 : c ≤ maxLen) (hk : 0 ≤ k) (hk2 : k + sumC mE l ≤ 4611686018427387904) :
    Calls Try.prog 92 #[.slice a l.length c, .int .i64 k] w0 (MkPost p w (k + sumC mE l)) := by
  unfold maxLen at hc2
  have HL := hid hl
  have HM := hid hm
  have HF := hid hf
  have HT := hid (fun kids => mkL_any p w hf kids)
  clear hl hm hf
  go_enter Try.func92, Try.ntmps92
  go_wp2_with fail
  go_loopw [1, 5] (fun q i wr => ∃ (j : Nat) (m : Int), j ≤ l.length ∧ q = .int .i64 m ∧ i = .int .i64 j ∧ 0 ≤ m ∧ Hid (m + sumC mE (l.drop j) = k + sumC mE l) ∧ Hid (Marked p w wr)) (fun _ i _ => l.length - (intOf i).toNat)
  case atStart => exact ⟨0, k, Nat.zero_le _, rfl, rfl, hk, hid rfl, HM⟩
  case round =>
    obtain ⟨j, m, hj, rfl, rfl, hm, hsum, HMR⟩ := hrel
    by_cases hlt : j < l.length
    · obtain ⟨b, o, rfl, hpb, hb, a1, c1, a2, c2, G, _, _, _, _, hsh, _, _, _, _, hg, hv⟩ := SeqIn.at HL.out hlt
      simp only [Value.agg.injEq, Array.mk.injEq, List.cons.injEq, Value.slice.injEq, and_true, true_and] at hsh
      obtain ⟨⟨rfl, rfl⟩, rfl, rfl⟩ := hsh
      have HGC := hid G
      have hdr := List.drop_eq_getElem_cons hlt
      generalize l[j] = e at *
      rcases hge : e.guard with ⟨gk, gv, gkids⟩
      rcases hve : e.val with ⟨vk, vv, vkids⟩
      rw [hge] at hg
      rw [hve] at hv
      obtain ⟨_, _, _, _, e5, _, _, g3, g4, HG0⟩ := TrIn_kids hg
      obtain ⟨_, _, _, _, e6, _, _, v3, v4, HV0⟩ := TrIn_kids hv
      simp only [Value.slice.injEq] at e5 e6
      obtain ⟨rfl, _, rfl⟩ := e5
      obtain ⟨rfl, _, rfl⟩ := e6
      have HG := hid HG0
      have HV := hid HV0
      have hs0 := hsum.out
      rw [hdr] at hs0
      simp only [sumC, mE, cE, hge, hve, Tr.kids] at hs0
      have hp1 := nodesL_pos gkids
      have hp2 := nodesL_pos vkids
      have hp3 := sumC_nonneg mE_nonneg (l.drop (j + 1))
      have hbig : m + 8 + 2 * nodesL gkids + 2 * nodesL vkids ≤ 4611686018427387904 := by omega
      have HS := hid hs0
      have HGK := hid (show e.guard.kids = gkids by rw [hge]; rfl)
      have HVK := hid (show e.val.kids = vkids by rw [hve]; rfl)
      clear hs0 hsum hg hv hdr HG0 HV0 hge hve G
      have hlt2 : (j : Int) < (l.length : Int) := by omega
      obtain ⟨g0, g1, g2, g3', g4', g5, g6, g7, g8, g9⟩ := HGC.out
      rw [HGK.out] at g4'
      rw [HVK.out] at g8
      obtain ⟨m0, r0⟩ := HMR.out.int g0
      obtain ⟨m1, r1⟩ := HMR.out.int g1
      obtain ⟨m2, r2⟩ := HMR.out.int g2
      obtain ⟨m3, r3⟩ := HMR.out.int g3'
      have r4 := HMR.out.slice g4'
      have rf : ∀ i, wr.frozen? ⟨b, i, none⟩ = false := fun i => by rw [HMR.out.frozen b i hb]; exact HF.out b hpb i
      have rl : b < wr.heap.size := Nat.lt_of_lt_of_le hb HMR.out.size
      have HM2 := hid ((((HMR.out.set hpb g0 m).set hpb g1 (m + 1)).set hpb g2 (m + 1 + 1)).set hpb g3' (m + 1 + 1 + 1))
      have KG := hid (And.intro g0 (And.intro g1 (And.intro g5 (And.intro g6 (And.intro g7 (And.intro g8 g9))))))
      clear g0 g1 g2 g3' g4' g5 g6 g7 g8 g9 HMR HGC HGK HVK
      go_wp2_with fail
      refine (HT.out gkids _ a1 c1 (m + 1 + 1 + 1 + 1) HG.out HM2.out g3 g4 (by omega) (by omega)).mono ?_
      rintro y w2 ⟨rfl, hm3⟩
      have HM3 := hid hm3
      clear hm3 r0 r1 r2 r3 r4 rf rl HM2
      obtain ⟨g0, g1, g5, g6, g7, g8, g9⟩ := KG.out
      obtain ⟨m5, r5⟩ := HM3.out.int g5
      obtain ⟨m6, r6⟩ := HM3.out.int g6
      obtain ⟨m7, r7⟩ := HM3.out.int g7
      have r8 := HM3.out.slice g8
      have rf : ∀ i, w2.frozen? ⟨b, i, none⟩ = false := fun i => by rw [HM3.out.frozen b i hb]; exact HF.out b hpb i
      have rl : b < w2.heap.size := Nat.lt_of_lt_of_le hb HM3.out.size
      have HM4 := hid (((HM3.out.set hpb g5 (m + 1 + 1 + 1 + 1 + 2 * nodesL gkids)).set hpb g6 (m + 1 + 1 + 1 + 1 + 2 * nodesL gkids + 1)).set hpb g7 (m + 1 + 1 + 1 + 1 + 2 * nodesL gkids + 1 + 1))
      clear g0 g1 g5 g6 g7 g8 g9 HM3
      go_wp2_with fail
      refine (HT.out vkids _ a2 c2 (m + 1 + 1 + 1 + 1 + 2 * nodesL gkids + 1 + 1 + 1) HV.out HM4.out v3 v4 (by omega) (by omega)).mono ?_
      rintro y w3 ⟨rfl, hm3⟩
      have HM5 := hid hm3
      clear hm3 r5 r6 r7 r8 rf rl HM4
      obtain ⟨g0, g1, g5, g6, g7, g8, g9⟩ := KG.out
      obtain ⟨m9, r9⟩ := HM5.out.int g9
      have rf : ∀ i, w3.frozen? ⟨b, i, none⟩ = false := fun i => by rw [HM5.out.frozen b i hb]; exact HF.out b hpb i
      have rl : b < w3.heap.size := Nat.lt_of_lt_of_le hb HM5.out.size
      have HM6 := hid (HM5.out.set hpb g9 (m + 1 + 1 + 1 + 1 + 2 * nodesL gkids + 1 + 1 + 1 + 2 * nodesL vkids))
      clear g0 g1 g5 g6 g7 g8 g9 HM5 KG
      go_wp2_with fail
      go_roundw
      case rel => exact ⟨j + 1, m + 1 + 1 + 1 + 1 + 2 * nodesL gkids + 1 + 1 + 1 + 2 * nodesL vkids + 1, by omega, rfl, by go_num, by omega, hid (by have := HS.out; omega), HM6⟩
      case measure => simp [intOf]; omega
    · have hlt2 : ¬ ((j : Int) < (l.length : Int)) := by omega
      have h1 := hsum.out
      rw [List.drop_of_length_le (by omega)] at h1
      simp only [sumC] at h1
      have hres := hid (show m = k + sumC mE l by omega)
      clear h1 hsum
      go_wp2_with fail
      go_ret
      exact ⟨congrArg (fun x => Ending.returned (Value.int .i64 x)) hres.out, HMR.out⟩
end Sys
end Go.Proofs.Ytchlpeflfiecdaa
namespace Go.Proofs.Ytchlpeflfiecdaa
open Go.RowKit
namespace Edge

set_option maxRecDepth 100000 in
set_option maxHeartbeats 4000000 in
theorem to_any (e : Ed) (w : World) (x : Value) (hx : EdIn Any w e x) (hs : SmallE e) : Calls Try.prog 14 #[x] w (RetP (NewEd w.heap.size e) w) := by
  obtain ⟨a, c, a', c', rfl, i1, i2, i3, i4, hg, hv⟩ := hx
  have HG := hid (fun w' (M : Below w.heap.size w w') => Expr.to_any e.guard w' _ (TrIn_below M hg) hs.1)
  have HV := hid (fun w' (M : Below w.heap.size w w') => Expr.to_any e.val w' _ (TrIn_below M hv) hs.2)
  have HI := hid (And.intro (And.intro i1 i2) (And.intro i3 i4))
  clear hg hv hs i1 i2 i3 i4
  go_enter Try.func14, Try.ntmps14
  go_wp2_with fail
  refine (HG.out _ (by repeat (first | exact Below.refl _ _ | assumption | refine below_a ?_ _ | refine below_o ?_ _ | refine below_d ?_ | refine below_n ?_ _ | refine below_s ?_ (by first | (simp; done) | (simp; omega) | omega) _))).mono ?_
  rintro y w1 ⟨v1, rfl, hn1, hb⟩
  obtain ⟨a1, c1, rfl⟩ := TrIn_shape hn1.any
  have b1 := box10_next hb (box10_next (below_alloc _ _) (box10_next (below_alloc _ _) (box10_new w _ _ _ _ _ _ _ _ _ _ _)))
  have b2 := box10_next hb (box10_next (below_alloc _ _) (box10_at (B := w.heap.size + 1) (by simp) _ _ _ _ _ _ _ _ _ _ _))
  have b3 := box10_next hb (box10_at (B := w.heap.size + 1 + 1) (by simp) _ _ _ _ _ _ _ _ _ _ _)
  have B := hid (below_next (show Below w.heap.size w _ from below_next (below_next (below_alloc _ _) (below_alloc _ _)) (below_alloc _ _)) hb)
  replace hn1 := hid (hn1.mono (B' := w.heap.size + 3) (by simp))
  clear hb
  obtain ⟨z0, ⟨p0, p1, p2, p3, p4, p5, p6, p7, p8, p9⟩, _⟩ := id b1
  obtain ⟨y0, ⟨q0, q1, q2, q3, q4, q5, q6, q7, q8, q9⟩, ⟨f0, f1, f2, f3, f4, f5, f6, f7, f8, f9⟩⟩ := id b3
  go_wp2_with fail
  have hs1 := b3.1
  have M := ((((But.set w1 (w.heap.size + 1 + 1) 2 (.int .i64 e.guard.kind)).trans (But.set _ _ 3 (.int .i64 e.guard.val))).trans (But.set _ _ 4 (.slice a1 e.guard.kids.length c1))).trans (But.set _ _ 5 (.int .i64 e.var)))
  have b1' := box10_but M (by omega) b1
  have b2' := box10_but M (by omega) b2
  have b3' := box10_set5 (box10_set4 (box10_set3 (box10_set2 b3 (.int .i64 e.guard.kind)) (.int .i64 e.guard.val)) (.slice a1 e.guard.kids.length c1)) (.int .i64 e.var)
  have hn1' := hid (hn1.out.keep (Keep.but M (by omega)))
  have BW := hid (M.new B.out (by omega))
  clear b1 b2 b3 hn1 M B z0 p0 p1 p2 p3 p4 p5 p6 p7 p8 p9 y0 q0 q1 q2 q3 q4 q5 q6 q7 q8 q9 f0 f1 f2 f3 f4 f5 f6 f7 f8 f9
  refine (HV.out _ BW.out).mono ?_
  rintro y w2 ⟨v2, rfl, hn2, hb⟩
  obtain ⟨a2, c2, rfl⟩ := TrIn_shape hn2.any
  have b1 := box10_next hb b1'
  have b2 := box10_next hb b2'
  have b3 := box10_next hb b3'
  have hn1 := hid (hn1'.out.below hb)
  have hs2 : w1.heap.size ≤ w2.heap.size := by have := hb.size; simpa using this
  replace hn2 := hid (hn2.mono (B' := w.heap.size + 3) (by simp; omega))
  have B := hid (below_next BW.out hb)
  clear hb b1' b2' b3' hn1' BW
  obtain ⟨z0, ⟨p0, p1, p2, p3, p4, p5, p6, p7, p8, p9⟩, _⟩ := id b1
  obtain ⟨x0, ⟨r0, r1, r2, r3, r4, r5, r6, r7, r8, r9⟩, ⟨g0, g1, g2, g3, g4, g5, g6, g7, g8, g9⟩⟩ := id b2
  obtain ⟨y0, ⟨q0, q1, q2, q3, q4, q5, q6, q7, q8, q9⟩, ⟨f0, f1, f2, f3, f4, f5, f6, f7, f8, f9⟩⟩ := id b3
  go_wp2_with fail
  all_goals
    have M2 := ((((But.set w2 (w.heap.size + 1 + 1) 6 (.int .i64 e.val.kind)).trans (But.set _ _ 7 (.int .i64 e.val.val))).trans (But.set _ _ 8 (.slice a2 e.val.kids.length c2))).trans (But.set _ _ 9 (.int .i64 e.sync)))
    have T := box10_fill (box10_but M2 (by omega) b2) (.int .i64 e.src) (.int .i64 e.dst) (.int .i64 e.guard.kind) (.int .i64 e.guard.val) (.slice a1 e.guard.kids.length c1) (.int .i64 e.var) (.int .i64 e.val.kind) (.int .i64 e.val.val) (.slice a2 e.val.kids.length c2) (.int .i64 e.sync)
    have K := keep_set10 (Keep.but (B := w.heap.size + 3) M2 (by omega)) (P := w.heap.size + 1) (by omega) (.int .i64 e.src) (.int .i64 e.dst) (.int .i64 e.guard.kind) (.int .i64 e.guard.val) (.slice a1 e.guard.kids.length c1) (.int .i64 e.var) (.int .i64 e.val.kind) (.int .i64 e.val.val) (.slice a2 e.val.kids.length c2) (.int .i64 e.sync)
    have BB := below_set10 (M2.new B.out (by omega)) (P := w.heap.size + 1) (by omega) (.int .i64 e.src) (.int .i64 e.dst) (.int .i64 e.guard.kind) (.int .i64 e.guard.val) (.slice a1 e.guard.kids.length c1) (.int .i64 e.var) (.int .i64 e.val.kind) (.int .i64 e.val.val) (.slice a2 e.val.kids.length c2) (.int .i64 e.sync)
    obtain ⟨_, ⟨t0, t1, t2, t3, t4, t5, t6, t7, t8, t9⟩, _⟩ := T
    refine bodyPost_ret (v := .agg #[.int .i64 e.src, .int .i64 e.dst, .int .i64 e.guard.kind, .int .i64 e.guard.val, .slice a1 e.guard.kids.length c1, .int .i64 e.var, .int .i64 e.val.kind, .int .i64 e.val.val, .slice a2 e.val.kids.length c2, .int .i64 e.sync]) (by simp [results, Try.results14, go_sem, t0, t1, t2, t3, t4, t5, t6, t7, t8, t9]) rfl ?_
    exact RetP.mk ⟨a1, c1, a2, c2, rfl, HI.out.1.1, HI.out.1.2, HI.out.2.1, HI.out.2.2, (hn1.out.keep K).mono (by omega), (hn2.out.keep K).mono (by omega)⟩ BB
end Edge
end Go.Proofs.Ytchlpeflfiecdaa
namespace Go.Proofs.Ytchlpeflfiecdaa
open Go.RowKit
namespace Sys

/-- blocks from B on that nothing freezes -/
def Fr (B : Nat) (w : World) (b : Nat) : Prop := B ≤ b ∧ ∀ i, w.frozen? ⟨b, i, none⟩ = false
theorem Fr.kept {B B' : Nat} {w w' : World} {b : Nat} (h : Fr B w b) (hB : B' ≤ B) (he : w'.heap[b]? = w.heap[b]?) : Fr B' w' b :=
  ⟨Nat.le_trans hB h.1, fun i => by rw [World.frozen?_of_block (w := w) (a := ⟨b, i, none⟩) he]; exact h.2 i⟩
theorem TrOwn_free {w : World} : (∀ t x bs, TrOwn w t x bs → ∀ b, b ∈ bs → ∀ i, w.frozen? ⟨b, i, none⟩ = false) ∧ (∀ l f o bs, TrsOwn w f l o bs → ∀ b, b ∈ bs → ∀ i, w.frozen? ⟨b, i, none⟩ = false) := by
  refine Tr.both (P := fun t => ∀ x bs, TrOwn w t x bs → ∀ b, b ∈ bs → ∀ i, w.frozen? ⟨b, i, none⟩ = false) (Q := fun l => ∀ f o bs, TrsOwn w f l o bs → ∀ b, b ∈ bs → ∀ i, w.frozen? ⟨b, i, none⟩ = false) ?_ ?_ ?_
  · intro k v kids ih x bs hx b hb
    rw [TrOwn_mk] at hx
    obtain ⟨a, c, h1, h2, h3, h4, h5, h6⟩ := hx
    rcases h6 with ⟨_, rfl⟩ | ⟨R, f, r, g1, rfl, g3, g4, g5⟩
    · simp at hb
    · rcases List.mem_cons.1 hb with rfl | hb
      · exact g4.2.2
      · exact ih _ _ _ g5 b hb
  · intro f o bs h b hb
    rw [TrsOwn_nil] at h; subst h; simp at hb
  · intro t ts ht hts f o bs h b hb
    rw [TrsOwn_cons] at h
    obtain ⟨r1, r2, rfl, hd, h1, h2⟩ := h
    rcases List.mem_append.1 hb with hb | hb
    · exact ht _ _ h1 b hb
    · exact hts _ _ _ h2 b hb
theorem NewTr.fr {B : Nat} {t : Tr} {v : Value} {w : World} (h : NewTr B t v w) : TrIn (Fr B w) w t v := by
  obtain ⟨bs, h1, h2⟩ := h
  exact TrOwn_in.1 t v bs h1 fun b hb => ⟨h2 b hb, TrOwn_free.1 t v bs h1 b hb⟩
theorem NewEd.fr {B : Nat} {e : Ed} {x : Value} {w : World} (h : NewEd B e x w) : EdIn (Fr B w) w e x := by
  obtain ⟨a, c, a', c', h0, h1, h2, h3, h4, h5, h6⟩ := h
  exact ⟨a, c, a', c', h0, h1, h2, h3, h4, NewTr.fr h5, NewTr.fr h6⟩

/-- a row of n records of m cells in block R, of which the first k are laid -/
def FillS {T : Type} (At : (Nat → Prop) → World → T → Nat → Nat → Prop) (m : Nat) (w : World) (R : Nat) (l : List T) (k : Nat) (wr : World) : Prop :=
  Below w.heap.size w wr ∧ w.heap.size ≤ R ∧ (∃ g, Row wr R (l.length * m) g) ∧ ∀ j t, j < k → l[j]? = some t → At (Fr (R + 1) wr) wr t R (j * m)

theorem fillE_step {w wr w2 : World} {R k : Nat} {l : List Ed} {t : Ed} {x : Value} {a c a' c'} (h : FillS EdAt 10 w R l k wr) (ht : l[k]? = some t) (hb : Below wr.heap.size wr w2) (hn : NewEd wr.heap.size t x w2)
    (hx : x = .agg #[.int .i64 t.src, .int .i64 t.dst, .int .i64 t.guard.kind, .int .i64 t.guard.val, .slice a t.guard.kids.length c, .int .i64 t.var, .int .i64 t.val.kind, .int .i64 t.val.val, .slice a' t.val.kids.length c', .int .i64 t.sync]) :
    FillS EdAt 10 w R l (k + 1) (setAll w2 R (k * 10) [.int .i64 t.src, .int .i64 t.dst, .int .i64 t.guard.kind, .int .i64 t.guard.val, .slice a t.guard.kids.length c, .int .i64 t.var, .int .i64 t.val.kind, .int .i64 t.val.val, .slice a' t.val.kids.length c', .int .i64 t.sync]) := by
  obtain ⟨h1, h2, ⟨g, hr⟩, h4⟩ := h
  have hk : k < l.length := (List.getElem?_eq_some_iff.1 ht).1
  have hr2 := hr.below hb
  have hex : ∀ i, i < 10 → ∃ u, w2.cell? ⟨R, k * 10 + i, none⟩ = some u := fun i hi => ⟨_, hr2.2.1 _ (by omega)⟩
  generalize hvs : [Value.int .i64 t.src, .int .i64 t.dst, .int .i64 t.guard.kind, .int .i64 t.guard.val, .slice a t.guard.kids.length c, .int .i64 t.var, .int .i64 t.val.kind, .int .i64 t.val.val, .slice a' t.val.kids.length c', .int .i64 t.sync] = vs
  have hlen : vs.length = 10 := by rw [← hvs]; rfl
  have hS : SetIn R (k * 10) (k * 10 + 10) w2 (setAll w2 R (k * 10) vs) := setAll_in vs w2 w2 R _ _ _ (SetIn.refl ..) (Nat.le_refl _) (by omega)
  have hC := setAll_cell vs w2 R (k * 10) (by rw [hlen]; exact hex)
  have hfr : ∀ b, Fr (R + 1) wr b → b < wr.heap.size → Fr (R + 1) (setAll w2 R (k * 10) vs) b ∧ (setAll w2 R (k * 10) vs).heap[b]? = wr.heap[b]? := fun b hb1 hb2 => by
    have e : (setAll w2 R (k * 10) vs).heap[b]? = wr.heap[b]? := by rw [hS.block b (by have := hb1.1; omega)]; exact hb.block b hb2
    exact ⟨hb1.kept (Nat.le_refl _) e, e⟩
  refine ⟨(below_then h1 hb h1.size).trans (hS.below h2), h2, hr2.setIn hS fun i hi1 hi2 => ?_, fun j u hj hu => ?_⟩
  · obtain ⟨d, rfl⟩ : ∃ d, i = k * 10 + d := ⟨i - k * 10, by omega⟩
    exact ⟨_, hC d _ (List.getElem?_eq_getElem (by omega))⟩
  · by_cases e : j = k
    · subst e
      obtain rfl : t = u := by rw [ht] at hu; simpa using hu
      subst hvs hx
      refine ⟨a, c, a', c', ⟨hC 0 _ rfl, hC 1 _ rfl, hC 2 _ rfl, hC 3 _ rfl, hC 4 _ rfl, hC 5 _ rfl, hC 6 _ rfl, hC 7 _ rfl, hC 8 _ rfl, hC 9 _ rfl⟩, (NewEd.fr hn).frame fun b hb1 hb2 => ?_⟩
      have hRb : R < b := by have := hb1.1; have := hr.1; omega
      have e : (setAll w2 R (j * 10) _).heap[b]? = w2.heap[b]? := hS.block b (by omega)
      exact ⟨hb1.kept (by have := hr.1; omega) e, e⟩
    · refine (h4 j u (by omega) hu).cells (fun i hi => ?_) hfr
      rw [hS.cell _ (by omega)]
      exact hb.cell (p := ⟨R, j * 10 + i, none⟩) hr.1

/-- what a copy of a row comes to -/
def NewEds (B : Nat) (l : List Ed) (v : Value) (w : World) : Prop := ∃ a c, v = .slice a l.length c ∧ l.length ≤ c ∧ c ≤ maxLen ∧ EdsIn (Fr B w) w l a

theorem infoE : (Try.prog.info? 33).map (fun i => (i.zero, i.size, i.bytes)) = some (some (.agg #[.int .i64 0, .int .i64 0, .int .i64 0, .int .i64 0, .slice none 0 0, .int .i64 0, .int .i64 0, .int .i64 0, .slice none 0 0, .int .i64 0]), 10, 112) := by kernel_rfl
def zerosE (n : Nat) : Array Value := madeCells #[.int .i64 0, .int .i64 0, .int .i64 0, .int .i64 0, .slice none 0 0, .int .i64 0, .int .i64 0, .int .i64 0, .slice none 0 0, .int .i64 0] (n * 10)
theorem make_eds (n : Nat) (h : n ≤ 1048576) (w : World) : (Instr.makeSlice 86 (.int .i64 (n : Int)) (.int .i64 (n : Int))).run Try.prog w =
    .ok (.slice (some ⟨w.heap.size, 0, none⟩) n n) (w.alloc (.cells (zerosE n) 33)) := by
  obtain ⟨i, hi, hz, h1, h2⟩ := info_parts infoE
  have := run_make (P := Try.prog) w 86 33 i _ Try.underlying86 hi hz .i64 .i64 n n (by omega) (by omega) (by rw [h2]; omega) (by omega)
  rw [this, h1]
  simp [zerosE, Value.cells]

set_option maxRecDepth 100000 in
set_option maxHeartbeats 2000000 in
theorem toEs_any (l : List Ed) (w : World) (a : Option Addr) (c : Nat) (hl : EdsIn Any w l a) (hlen : l.length ≤ 1048576) (hs : ∀ e, e ∈ l → Edge.SmallE e) (hc : l.length ≤ c) (hc2 : c ≤ maxLen) :
    Calls Try.prog 101 #[.slice a l.length c] w (RetP (NewEds w.heap.size l) w) := by
  have hmk := make_eds l.length hlen
  unfold maxLen at hc2
  go_enter Try.func101, Try.ntmps101
  go_wp2_with fail
  go_loopw [4] (fun i wr => ∃ (k : Nat), k ≤ l.length ∧ i = .int .i64 k ∧ Hid (FillS EdAt 10 w w.heap.size l k wr)) (fun i _ => l.length - (intOf i).toNat)
  case atStart => exact ⟨0, Nat.zero_le _, rfl, hid ⟨below_alloc _ _, Nat.le_refl _, ⟨_, row_new (by rw [zerosE, size_madeCells]) _⟩, by omega⟩⟩
  case round =>
    obtain ⟨k, hk, rfl, hf⟩ := hrel
    by_cases hlt : k < l.length
    · obtain ⟨b, o, rfl, _, hb, a1, c1, a2, c2, ⟨g0, g1, g2, g3, g4, g5, g6, g7, g8, g9⟩, hT⟩ := SeqIn.at (EdsIn.below hl hf.out.1) hlt
      have HT := hid hT
      have ht := hid (List.getElem?_eq_getElem hlt)
      have HS := hid (hs l[k] (List.getElem_mem hlt))
      clear hT
      have hlt2 : (k : Int) < (l.length : Int) := by omega
      generalize l[k] = t at *
      go_wp2_with fail
      refine (Edge.to_any t _ _ HT.out HS.out).mono ?_
      rintro e w2 ⟨v, rfl, hn, hby⟩
      have HN := hid hn
      obtain ⟨a3, c3, a4, c4, rfl, _⟩ := hn
      have HF := hid (fillE_step hf.out ht.out hby HN.out rfl)
      obtain ⟨_, _, ⟨g, hrow⟩, _⟩ := hf.out
      have hrow2 := hrow.below hby
      have q0 := hrow2.2.1 (k * 10) (by omega)
      have q1 := hrow2.2.1 (k * 10 + 1) (by omega)
      have q2 := hrow2.2.1 (k * 10 + 2) (by omega)
      have q3 := hrow2.2.1 (k * 10 + 3) (by omega)
      have q4 := hrow2.2.1 (k * 10 + 4) (by omega)
      have q5 := hrow2.2.1 (k * 10 + 5) (by omega)
      have q6 := hrow2.2.1 (k * 10 + 6) (by omega)
      have q7 := hrow2.2.1 (k * 10 + 7) (by omega)
      have q8 := hrow2.2.1 (k * 10 + 8) (by omega)
      have q9 := hrow2.2.1 (k * 10 + 9) (by omega)
      have qf := hrow2.2.2
      have ql := hrow2.1
      clear hrow hrow2 hby g0 g1 g2 g3 g4 g5 g6 g7 g8 g9 hf HT HN
      go_wp2_with fail
      go_roundw
      case rel => exact ⟨k + 1, by omega, by go_num, hid HF.out⟩
      case measure => simp [intOf]; omega
    · have hfin := hid (show NewEds w.heap.size l (.slice (some ⟨w.heap.size, 0, none⟩) l.length l.length) wr from by
        obtain ⟨h1, h2, ⟨g, hr⟩, h4⟩ := hf.out
        refine ⟨_, _, rfl, Nat.le_refl _, by unfold maxLen; omega, ?_⟩
        by_cases h0 : l = []
        · exact .inl h0
        · refine .inr ⟨_, 0, rfl, ⟨Nat.le_refl _, hr.2.2⟩, hr.1, fun i t ht => ?_⟩
          rw [Nat.zero_add]
          exact (h4 i t (by have := (List.getElem?_eq_some_iff.1 ht).1; omega) ht).cells (fun _ _ => rfl) fun b hb _ => ⟨hb.kept (by omega) rfl, rfl⟩)
      have hB := hid hf.out.1
      have hlt2 : ¬ ((k : Int) < (l.length : Int)) := by omega
      clear hf
      go_wp2_with fail
      go_ret
      exact RetP.mk hfin.out hB.out

/-- a process of one's own -/
def NewPr (B : Nat) (q : Pr) (v : Value) (w : World) : Prop := PrIn (Fr B w) w q v
theorem NewPr.any {B : Nat} {q : Pr} {v : Value} {w : World} (h : NewPr B q v w) : PrIn Any w q v := PrIn.frame h (Nat.le_refl _) fun _ _ _ => ⟨trivial, rfl⟩
/-- a system of one's own -/
def NewSy (B : Nat) (s : Sy) (v : Value) (w : World) : Prop := SyIn (Fr B w) w s v
theorem NewSy.below {B : Nat} {s : Sy} {v : Value} {w w' : World} (h : NewSy B s v w) (hb : Below w.heap.size w w') : NewSy B s v w' :=
  SyIn.frame h hb.size fun b h1 h2 => ⟨h1.kept (Nat.le_refl _) (hb.block b h2), hb.block b h2⟩
/-- .. in a stretch of blocks -/
theorem NewSy.fresh {B : Nat} {s : Sy} {v : Value} {w : World} (h : NewSy B s v w) : SyIn (Fresh w B w.heap.size) w s v :=
  SyIn.frame h (Nat.le_refl _) fun _ h1 h2 => ⟨⟨h1.1, h2, h1.2⟩, rfl⟩

theorem fillP_step {w wr w2 : World} {R k : Nat} {l : List Pr} {t : Pr} {a c} (h : FillS PrAt 2 w R l k wr) (ht : l[k]? = some t) (hb : Below wr.heap.size wr w2) (hn : NewPr wr.heap.size t (.agg #[.int .i64 t.locs, .slice a t.edges.length c]) w2) :
    FillS PrAt 2 w R l (k + 1) (setAll w2 R (k * 2) [.int .i64 t.locs, .slice a t.edges.length c]) := by
  obtain ⟨h1, h2, ⟨g, hr⟩, h4⟩ := h
  have hk : k < l.length := (List.getElem?_eq_some_iff.1 ht).1
  have hr2 := hr.below hb
  have hex : ∀ i, i < 2 → ∃ u, w2.cell? ⟨R, k * 2 + i, none⟩ = some u := fun i hi => ⟨_, hr2.2.1 _ (by omega)⟩
  generalize hvs : [Value.int .i64 t.locs, .slice a t.edges.length c] = vs
  have hlen : vs.length = 2 := by rw [← hvs]; rfl
  have hS : SetIn R (k * 2) (k * 2 + 2) w2 (setAll w2 R (k * 2) vs) := setAll_in vs w2 w2 R _ _ _ (SetIn.refl ..) (Nat.le_refl _) (by omega)
  have hC := setAll_cell vs w2 R (k * 2) (by rw [hlen]; exact hex)
  have hfr : ∀ b, Fr (R + 1) wr b → b < wr.heap.size → Fr (R + 1) (setAll w2 R (k * 2) vs) b ∧ (setAll w2 R (k * 2) vs).heap[b]? = wr.heap[b]? := fun b hb1 hb2 => by
    have e : (setAll w2 R (k * 2) vs).heap[b]? = wr.heap[b]? := by rw [hS.block b (by have := hb1.1; omega)]; exact hb.block b hb2
    exact ⟨hb1.kept (Nat.le_refl _) e, e⟩
  refine ⟨(below_then h1 hb h1.size).trans (hS.below h2), h2, hr2.setIn hS fun i hi1 hi2 => ?_, fun j u hj hu => ?_⟩
  · obtain ⟨d, rfl⟩ : ∃ d, i = k * 2 + d := ⟨i - k * 2, by omega⟩
    exact ⟨_, hC d _ (List.getElem?_eq_getElem (by omega))⟩
  · by_cases e : j = k
    · subst e
      obtain rfl : t = u := by rw [ht] at hu; simpa using hu
      subst hvs
      refine ⟨a, c, ⟨hC 0 _ rfl, hC 1 _ rfl⟩, PrIn.frame hn (Nat.le_of_eq hS.size.symm) fun b hb1 hb2 => ?_⟩
      have hRb : R < b := by have := hb1.1; have := hr.1; omega
      have e : (setAll w2 R (j * 2) _).heap[b]? = w2.heap[b]? := hS.block b (by omega)
      exact ⟨hb1.kept (by have := hr.1; omega) e, e⟩
    · refine (h4 j u (by omega) hu).cells (by rw [hS.size]; exact hb.size) (fun i hi => ?_) hfr
      rw [hS.cell _ (by omega)]
      exact hb.cell (p := ⟨R, j * 2 + i, none⟩) hr.1
end Sys
end Go.Proofs.Ytchlpeflfiecdaa
