/- Joined texts (DrawSat, FixS, ImplIn, LassoV, LetterS, Box): contracts and plain laws. Conditions: those of each theorem. -/
import Derived.Test.YtbeljjalfhogdaaJL5
import Derived.Test.YtbeljjalfhogdaaJL6
import Derived.Test.YtbeljjalfhogdaaJL3
import Derived.Test.YtbeljjalfhogdaaJL2
import Derived.Test.YtbeljjalfhogdaaRows
import Derived.Test.YtbeljjalfhogdaaJL0
import Derived.Test.YtbeljjalfhogdaaJL1
import Derived.WalkSpells
import Derived.WalkLawsBesides
import Derived.Deep.DeepCutAuto
import Derived.Deep.CutBlock
namespace Go.Proofs.Ytbeljjalfhogdaa
open Go.RowKit
set_option linter.unusedVariables false
set_option linter.unusedSimpArgs false
namespace Lasso

/-- what a call comes to that draws a lasso -/
def LasDrawn (w : World) (v : Value) (w' : World) : Prop := ∃ s l, NewLas w.heap.size s l v w' ∧ s.length ≤ 90 ∧ l.length ≤ 90
set_option maxRecDepth 100000 in
set_option maxHeartbeats 1000000 in
theorem drawLasso_any (w : World) (a : Option Addr) (len cap : Nat) (hb : ByteArg w a len cap) : Calls Try.prog 10 #[.slice a len cap] w (RetP (LasDrawn w) w) := by
  go_enter Try.func10, Try.ntmps10
  go_wp2_with fail
  refine (open_any _ a len cap (hb.next (below_alloc _ _))).mono ?_
  rintro e w1 ⟨v, rfl, ⟨R, B, rfl, hR, hr⟩, hb1⟩
  have Z := hid (boxp_next hb1 (boxp_at (w := w) (B := w.heap.size) (a := .slice none 0 0) (b := .slice none 0 0) (t := 25) rfl))
  have B1 := below_next (below_alloc w _) hb1
  simp at hR
  have z1 := Z.out.1
  clear hb1
  go_wp2_with fail
  refine (lasso_any w1 R B 0 hr (by omega)).mono ?_
  rintro e w2 ⟨v, s, l, p2, rfl, hn, hs1, hl1, hl2, hb2, hr2, hp2⟩
  replace Z := hid (boxp_but hb2 (by omega) Z.out)
  replace B1 := hb2.new B1 (by omega)
  obtain ⟨hP, hN⟩ := hn.any
  have z2 := hb2.size
  clear hb2 hr hn
  go_wp2_with fail
  refine (mutate_any w2 R B p2 s l v hP hN (by omega) (by omega) hl2 hr2 (by omega)).mono ?_
  rintro e w3 ⟨v', s', l', p3, rfl, hn', hs', hl', hb3, hr3, hp3⟩
  replace Z := hid (boxp_but hb3 (by omega) Z.out)
  replace B1 := hb3.new B1 (by omega)
  obtain ⟨a1, c1, a2, c2, rfl⟩ := hn'.shape
  clear hb3 hr2 hr3
  obtain ⟨z0, z1', z2', z3, z4⟩ := id Z.out
  have T := hid (boxp_set1 (boxp_set0 Z.out (.slice a1 s'.length c1)) (.slice a2 l'.length c2))
  have hf := hid (fun u0 u1 => RetP.mk (p := LasDrawn w) (w := w) (v := .agg #[.slice a1 s'.length c1, .slice a2 l'.length c2]) ⟨s', l', (hn'.frame (w' := (w3.setCell ⟨w.heap.size, 0, none⟩ u0).setCell ⟨w.heap.size, 1, none⟩ u1) (by simp) (fun b hb hl => by
    rw [Below.heap_setCell _ _ _ _ (by simp; omega), Below.heap_setCell _ _ _ _ (by simp; omega)])).mono (by omega), hs', hl'⟩ ((B1.setCell (by simp) u0).setCell (by simp) u1))
  clear Z hn' B1
  go_wp2_with fail
  obtain ⟨_, t0, t1, _, _⟩ := T.out
  refine bodyPost_ret (v := .agg #[.slice a1 s'.length c1, .slice a2 l'.length c2]) (by simp [results, Try.results10, go_sem, t0, t1]) rfl ?_
  exact hf.out _ _
/-- .. and a formula -/
def SatDrawn (w : World) (e : Ending) (w' : World) : Prop := ∃ x y s l t, e = .returned (.tuple #[x, y]) ∧ NewLas w.heap.size s l x w' ∧ s.length ≤ 90 ∧ l.length ≤ 90 ∧ NewTr w.heap.size t y w' ∧ nodes t ≤ 32 ∧ Below w.heap.size w w'
set_option maxRecDepth 100000 in
set_option maxHeartbeats 2000000 in
theorem drawSat_any (w : World) (a : Option Addr) (len cap : Nat) (hb : ByteArg w a len cap) : Calls Try.prog 13 #[.slice a len cap] w (SatDrawn w) := by
  go_enter Try.func13, Try.ntmps13
  go_wp2_with fail
  refine (open_any _ a len cap ((hb.next (below_alloc _ _)).next (below_alloc _ _))).mono ?_
  rintro e w1 ⟨v, rfl, ⟨R, B, rfl, hR, hr⟩, hb1⟩
  have Z := hid (boxp_next hb1 (boxp_next (below_alloc _ _) (boxp_at (w := w) (B := w.heap.size) (a := .slice none 0 0) (b := .slice none 0 0) (t := 25) rfl)))
  have Y := hid (box3_next hb1 (box3_at (w := w.alloc _) (B := w.heap.size + 1) (a := .int .i64 0) (b := .int .i64 0) (c := .slice none 0 0) (t := 29) (by simp)))
  have B1 := below_next (below_next (below_alloc w _) (below_alloc _ _)) hb1
  simp at hR
  have z1 := Y.out.1
  clear hb1
  go_wp2_with fail
  refine (Formula.form_any w1 R B 0 hr (by omega)).mono ?_
  rintro e w2 ⟨v, t, p2, rfl, hn, hnt, _, hb2, hr2, hp2⟩
  obtain ⟨a1, n1, rfl⟩ := TrIn_shape hn.any
  have hx := hn.any
  replace Z := hid (boxp_but hb2 (by omega) Z.out)
  replace Y := hid (box3_but hb2 (by omega) Y.out)
  replace B1 := hb2.new B1 (by omega)
  have z2 := hb2.size
  clear hb2 hr hn
  go_wp2_with fail
  refine (Formula.mut_any w2 R B p2 t _ hx (by omega) hr2 (by omega)).mono ?_
  rintro e w3 ⟨v, t', p3, rfl, hn', hnt', hb3, hr3, hp3⟩
  obtain ⟨a2, n2, rfl⟩ := TrIn_shape hn'.any
  replace Z := hid (boxp_but hb3 (by omega) Z.out)
  replace Y := hid (box3_but hb3 (by omega) Y.out)
  replace B1 := hb3.new B1 (by omega)
  have z3 := hb3.size
  have hRl := hr2.lt
  clear hb3 hr2 hx
  go_wp2_with fail
  have h0 := below_alloc w3 (.cells #[.int .i64 t'.kind, .int .i64 t'.val, .slice a2 t'.kids.length n2] 29)
  have F := hid (box3_new w3 (.int .i64 t'.kind) (.int .i64 t'.val) (.slice a2 t'.kids.length n2) 29)
  replace Z := hid (boxp_next h0 Z.out)
  replace Y := hid (box3_next h0 Y.out)
  have HN := hid (hn'.below h0)
  have HB := hid (below_next B1 h0)
  have R3 := hr3.next h0
  have s3 : w3.heap.size < (w3.alloc (.cells #[.int .i64 t'.kind, .int .i64 t'.val, .slice a2 t'.kids.length n2] 29)).heap.size := by simp
  clear h0 hn' B1 hr3
  generalize w3.alloc (.cells #[.int .i64 t'.kind, .int .i64 t'.val, .slice a2 t'.kids.length n2] 29) = w4 at *
  obtain ⟨f0, f1, f2, f3, _⟩ := id F.out
  refine wp_region_ord (C := fun wZ => ∃ xZ, wZ = World.overP _ ([w3.heap.size]) xZ) [0,1,4] (.one 2 (.one 3 (.one 5 (.fre 6 .done)))) [6] (by kernel_rfl) (by kernel_rfl) (fun d _ _ _ _ h => by cases d <;> exact h) (KeepP.refl _ _).drew.ex ?_; simp only [pick, List.getElem?_cons_succ, List.getElem?_cons_zero]; (repeat (go_big_quiet_step (fail))); refine wpQuiet_nil ?_; simp only [ordW, pick, List.getElem?_cons_succ, List.getElem?_cons_zero]
  have h0 := below_d (Below.refl w4.heap.size w4)
  have K := hid (KeepP.below (S := [w3.heap.size]) h0)
  go_wp2_with fail
  refine (lasso_any w4.drew R B p3 (R3.next h0) (by omega)).mono ?_
  rintro e w5 ⟨v, s, l, p5, rfl, hn, hs1, hl1, hl2, hb5, hr5, hp5⟩
  have K5 := hid (K.out.trans (KeepP.but hb5 (by simp; omega)))
  replace Z := hid (boxp_but hb5 (by omega) (boxp_next h0 Z.out))
  replace Y := hid (box3_but hb5 (by omega) (box3_next h0 Y.out))
  replace HN := hid ((HN.out.below h0).keep (Keep.but hb5 (by omega)))
  replace HB := hid (hb5.new (below_next HB.out h0) (by omega))
  obtain ⟨hP, hN⟩ := hn.any
  have s5 := hb5.size
  simp only [World.size_drew] at s5
  clear hb5 h0 K f0 f1 f2 f3 R3 hn F
  go_wp2_with fail
  refine ⟨K5.out.ex, ?_⟩
  go_wp2_with fail
  refine (mutate_any w5 R B p5 s l v hP hN (by omega) (by omega) hl2 hr5 (by omega)).mono ?_
  rintro e w6 ⟨v', s', l', p6, rfl, hn', hs', hl', hb6, hr6, hp6⟩
  have K6 := hid (K5.out.trans (KeepP.but hb6 (by simp; omega)))
  replace Z := hid (boxp_but hb6 (by omega) Z.out)
  replace Y := hid (box3_but hb6 (by omega) Y.out)
  replace HN := hid (HN.out.keep (Keep.but hb6 (by omega)))
  replace HB := hid (hb6.new HB.out (by omega))
  obtain ⟨a3, c3, a4, c4, rfl⟩ := hn'.shape
  clear hb6 hr5 hr6 K5
  obtain ⟨y0, y1, y2, y3, y4, y5, y6⟩ := id Y.out
  obtain ⟨x0, x1, x2, x3, x4⟩ := id Z.out
  go_wp2_with fail
  refine ⟨K6.out.ex, ?_⟩
  go_wp2_with fail
  refine ⟨((K6.out.set (by simp; omega) _).set (by simp; omega) _).ex, ?_⟩
  have T := hid (boxp_set (boxp_set (boxp_set (boxp_set1 (boxp_set0 Z.out (.slice a3 s'.length c3)) (.slice a4 l'.length c4)) (p := ⟨w.heap.size + 1, 0, none⟩) (by simp) (.int .i64 t'.kind)) (p := ⟨w.heap.size + 1, 1, none⟩) (by simp) (.int .i64 t'.val)) (p := ⟨w.heap.size + 1, 2, none⟩) (by simp) (.slice a2 t'.kids.length n2))
  have T3 := hid (fun u0 u1 => box3_set2 (box3_set1 (box3_set0 (box3_but (But.set _ w.heap.size 1 u1) (show w.heap.size + 1 ≠ w.heap.size by omega) (box3_but (But.set w6 w.heap.size 0 u0) (show w.heap.size + 1 ≠ w.heap.size by omega) Y.out)) (.int .i64 t'.kind)) (.int .i64 t'.val)) (.slice a2 t'.kids.length n2))
  have hf := hid (fun u0 u1 u2 u3 u4 => show SatDrawn w (.returned (.tuple #[.agg #[.slice a3 s'.length c3, .slice a4 l'.length c4], .agg #[.int .i64 t'.kind, .int .i64 t'.val, .slice a2 t'.kids.length n2]])) (((((w6.setCell ⟨w.heap.size, 0, none⟩ u0).setCell ⟨w.heap.size, 1, none⟩ u1).setCell ⟨w.heap.size + 1, 0, none⟩ u2).setCell ⟨w.heap.size + 1, 1, none⟩ u3).setCell ⟨w.heap.size + 1, 2, none⟩ u4) from
    ⟨_, _, s', l', t', rfl, (hn'.frame (by simp) (fun b hb hl => by
      rw [Below.heap_setCell _ _ _ _ (by simp; omega), Below.heap_setCell _ _ _ _ (by simp; omega), Below.heap_setCell _ _ _ _ (by simp; omega), Below.heap_setCell _ _ _ _ (by simp; omega), Below.heap_setCell _ _ _ _ (by simp; omega)])).mono (by omega), hs', hl',
      (HN.out.keep (((((Keep.set _ (by simp; omega) _).trans (Keep.set _ (by simp; omega) _)).trans (Keep.set _ (by simp; omega) _)).trans (Keep.set _ (by simp; omega) _)).trans (Keep.set _ (by simp; omega) _))).mono (by omega), by omega,
      ((((HB.out.setCell (by simp) _).setCell (by simp) _).setCell (by simp) _).setCell (by simp) _).setCell (by simp) _⟩)
  clear Z Y HN HB K6 hn' hP hN
  go_wp2_with fail
  obtain ⟨_, t0, t1, _, _⟩ := T.out
  obtain ⟨_, t2, t3, t4, _⟩ := T3.out (.slice a3 s'.length c3) (.slice a4 l'.length c4)
  refine bodyPost_ret (v := .tuple #[.agg #[.slice a3 s'.length c3, .slice a4 l'.length c4], .agg #[.int .i64 t'.kind, .int .i64 t'.val, .slice a2 t'.kids.length n2]]) (by simp [results, Try.results13, go_sem, t0, t1, t2, t3, t4]) rfl ?_
  exact hf.out _ _ _ _ _
end Lasso
end Go.Proofs.Ytbeljjalfhogdaa
namespace Go.Proofs.Ytbeljjalfhogdaa
open Go.RowKit
namespace Lasso

/-- the position below the length that has the same suffix -/
def ixV (s p i : Nat) : Nat := if i < s then i else s + (i - s) % p
theorem ixV_nx {s p i : Nat} (hp : 0 < p) (hi : i < s + p) : ixV s p (i + 1) = nx s p i := by
  unfold ixV nx
  split
  · rw [if_neg (by omega)]
  · rename_i h
    split
    · rename_i h2
      rw [show i + 1 - s = p by omega, Nat.mod_self]; omega
    · rw [Nat.mod_eq_of_lt (by omega)]; omega
theorem ixV_lt {s p i : Nat} (hp : 0 < p) : ixV s p i < s + p := by
  unfold ixV
  split
  · omega
  · have := Nat.mod_lt (i - s) hp; omega

set_option maxHeartbeats 1000000 in
theorem specIndex_any (s p i : Nat) (w : World) (a b : Option Addr) (c d : Nat) (hs : s ≤ 1000) (hp : p ≤ 1000) (hp0 : 0 < p) (hi : i ≤ 4611686018427387904) :
    Calls Try.prog 91 #[.agg #[.slice a s c, .slice b p d], .int .i64 i] w (Ret (.int .i64 (ixV s p i : Nat)) w) := by
  by_cases h : i < s
  · have e1 : (i : Int) < (s : Int) := by omega
    have E := hid (show ixV s p i = i by unfold ixV; rw [if_pos h])
    go_enter Try.func91, Try.ntmps91
    go_wp2_with fail
    go_ret
    exact Ret.mk (int_val (by rw [E.out])) (by repeat (first | exact Below.refl _ _ | assumption | refine below_a ?_ _ | refine below_o ?_ _ | refine below_d ?_ | refine below_n ?_ _ | refine below_s ?_ (by first | (simp; done) | (simp; omega) | omega) _))
  · have e1 : ¬ ((i : Int) < (s : Int)) := by omega
    have e2 : ((p : Int) == 0) = false := by rw [beq_eq_false_iff_ne]; omega
    have E := hid (show (ixV s p i : Int) = s + (i - s) % p by unfold ixV; rw [if_neg h]; simp only [Int.natCast_add, Int.natCast_emod]; congr 2; omega)
    have hm := Int.emod_lt_of_pos ((i : Int) - s) (show (0 : Int) < p by omega)
    have hm0 := Int.emod_nonneg ((i : Int) - s) (show (p : Int) ≠ 0 by omega)
    have hz : (0 : Int) < (p : Int) := by omega
    have W1 : IntKind.i64.wrap ((i : Int) - s) = (i : Int) - s := IntWalk.i64_in _ (by omega)
    have T1 : Int.tmod ((i : Int) - s) (p : Int) = ((i : Int) - s) % p := Int.tmod_eq_emod_of_nonneg (by omega)
    have W2 : IntKind.i64.wrap ((s : Int) + ((i : Int) - s) % p) = (s : Int) + ((i : Int) - s) % p := IntWalk.i64_in _ (by omega)
    have W3 : IntKind.i64.wrap (((i : Int) - s) % p) = ((i : Int) - s) % p := IntWalk.i64_in _ (by omega)
    go_enter Try.func91, Try.ntmps91
    go_wp2_with fail
    refine wp_region_over (by kernel_rfl) (by kernel_rfl) ?_; (repeat (go_big_quiet_step ((fail)))); refine wpQuiet_nil ?_; rintro _ ⟨xq, rfl⟩
    have B := hid (show Below w.heap.size w (World.over _ xq) from below_next (below_alloc _ _) (over_below _ xq))
    clear W1 W2 W3 T1
    go_wp2_with fail
    go_ret
    exact Ret.mk (int_val (by rw [E.out])) B.out

set_option maxHeartbeats 1000000 in
theorem specNext_any (s p i : Nat) (w : World) (a b : Option Addr) (c d : Nat) (hs : s ≤ 1000) (hp : p ≤ 1000) (hp0 : 0 < p) (hi : i < s + p) :
    Calls Try.prog 77 #[.agg #[.slice a s c, .slice b p d], .int .i64 i] w (Ret (.int .i64 (nx s p i : Nat)) w) := by
  have E := hid (ixV_nx hp0 hi)
  have HI := hid (fun (w' : World) => show Calls Try.prog 91 #[.agg #[.slice a s c, .slice b p d], .int .i64 ((i : Int) + 1)] w' (Ret (.int .i64 (ixV s p (i + 1) : Nat)) w') from by
    have := specIndex_any s p (i + 1) w' a b c d hs hp hp0 (by omega)
    rwa [show (((i + 1 : Nat)) : Int) = (i : Int) + 1 by omega] at this)
  have f1 : IntKind.i64.wrap ((i : Int) + 1) = i + 1 := IntWalk.i64_in _ (by omega)
  go_enter Try.func77, Try.ntmps77
  go_wp2_with fail
  refine (HI.out _).mono ?_
  rintro e w1 ⟨rfl, hb⟩
  go_wp2_with fail
  go_ret
  exact Ret.mk (int_val (by rw [E.out])) (below_next (by repeat (first | exact Below.refl _ _ | assumption | refine below_a ?_ _ | refine below_o ?_ _ | refine below_d ?_ | refine below_n ?_ _ | refine below_s ?_ (by first | (simp; done) | (simp; omega) | omega) _)) hb)

/-- a new row of n truth values -/
def NewB (n : Nat) (F : Nat → Bool) (w : World) (e : Ending) (w' : World) : Prop := ∃ R, e = .returned (.slice (some ⟨R, 0, none⟩) n n) ∧ w.heap.size ≤ R ∧ BRow w' R n F ∧ Below w.heap.size w w'

theorem brow_zeros (w : World) (n : Nat) : BRow (w.alloc (.cells (zerosB n) 4)) w.heap.size n (fun _ => false) :=
  ⟨by simp, fun i hi => by rw [World.cell?_alloc_new]; simp [zerosB, madeCells, hi, Nat.mod_one], by simp⟩

set_option maxHeartbeats 1000000 in
theorem specAll_any (n : Nat) (v : Bool) (w : World) (hn : n ≤ 1000) : Calls Try.prog 74 #[.int .i64 n, .bool v] w (NewB n (fun _ => v) w) := by
  have hmk := make_bools n (by omega)
  have HZ := hid (brow_zeros w n)
  go_enter Try.func74, Try.ntmps74
  go_wp2_with fail
  go_loopw [6] (fun i wr => ∃ (k : Nat) (g : Nat → Bool), k ≤ n ∧ i = .int .i64 k ∧ Hid (Below w.heap.size w wr) ∧ BRow wr w.heap.size n g ∧ Hid (∀ j, j < k → g j = v)) (fun i _ => n - (intOf i).toNat)
  case atStart => exact ⟨0, _, Nat.zero_le _, rfl, hid (below_alloc _ _), HZ.out, hid (by omega)⟩
  case round =>
    obtain ⟨k, g, hk, rfl, B, hrow, hg⟩ := hrel
    by_cases hlt : k < n
    · have r0 := hrow.2.1 k hlt
      have rz := hrow.2.2
      have rl := hrow.1
      have HR := hid (brow_upd hrow hlt v)
      have hlt2 : (k : Int) < (n : Int) := by omega
      clear hrow
      go_wp2_with fail
      go_roundw
      case rel =>
        refine ⟨k + 1, _, by omega, by go_num, hid (B.out.setCell (Nat.le_refl _) _), HR.out, hid fun j hj => ?_⟩
        unfold upd
        split
        · rfl
        · exact hg.out j (by omega)
      case measure => simp [intOf]; omega
    · have HF := hid (show NewB n (fun _ => v) w (.returned (.slice (some ⟨w.heap.size, 0, none⟩) n n)) wr from ⟨_, rfl, Nat.le_refl _, Row.congr hrow fun i hi => by rw [hg.out i (by omega)], B.out⟩)
      have hlt2 : ¬ ((k : Int) < (n : Int)) := by omega
      clear hrow hg
      go_wp2_with fail
      go_ret
      exact HF.out
/-- one step of an until (least) or a release -/
def fh (least : Bool) (a b : Nat → Bool) : Nat → Bool → Bool := fun i x => if least then b i || a i && x else b i && (a i || x)

set_option maxRecDepth 100000 in
set_option maxHeartbeats 4000000 in
theorem specFix_any (s p : Nat) (least : Bool) (fa fb F : Nat → Bool) (hs : FixSol (s + p) (nx s p) (!least) (fh least fa fb) F) (w : World) (ra rb : Nat) (a b : Option Addr) (c d : Nat) (h1 : s ≤ 80) (h2 : p ≤ 80) (h3 : 0 < p)
    (ha : BRow w ra (s + p) fa) (hb : BRow w rb (s + p) fb) :
    Calls Try.prog 73 #[.agg #[.slice a s c, .slice b p d], .slice (some ⟨ra, 0, none⟩) (s + p) (s + p), .slice (some ⟨rb, 0, none⟩) (s + p) (s + p), .bool least] w (NewB (s + p) F w) := by
  have HS := hid hs
  have HA := hid ha
  have HB := hid hb
  have HN := hid (fun (k : Nat) (W : World) (hk : k < s + p) => specNext_any s p k W a b c d (by omega) (by omega) h3 hk)
  have HLT := hid (fun k hk => hs.lt k hk)
  clear hs ha hb
  generalize hn : s + p = n at *
  have hn0 : 0 < n := by omega
  have hn1 : n ≤ 160 := by omega
  have hmk := make_bools n (by omega)
  have HZ := hid (brow_zeros (w.alloc (.cells #[.slice a s c, .slice b p d] 25)) n)
  clear hn
  go_enter Try.func73, Try.ntmps73
  go_wp2_with fail
  have BX := hid (pbox_at (w := w) (a := .slice a s c) (b := .slice b p d) (t := 25) rfl)
  go_loopw [11] (fun i wr => ∃ (k : Nat) (g : Nat → Bool), k ≤ n ∧ i = .int .i64 k ∧ Hid (Below (w.heap.size + 1) (w.alloc (.cells #[.slice a s c, .slice b p d] 25)) wr) ∧ BRow wr (w.heap.size + 1) n g ∧ Hid (∀ j, j < k → g j = !least)) (fun i _ => n - (intOf i).toNat)
  case atStart => exact ⟨0, _, Nat.zero_le _, rfl, hid (by have := below_alloc (w.alloc (.cells #[.slice a s c, .slice b p d] 25)) (.cells (zerosB n) 4); simpa using this), by simpa using HZ.out, hid (by omega)⟩
  case round =>
    obtain ⟨k, g, hk, rfl, B, hrow, hg⟩ := hrel
    by_cases hlt : k < n
    · have r0 := hrow.2.1 k hlt
      have rz := hrow.2.2
      have rl := hrow.1
      have HR := hid (brow_upd hrow hlt (!least))
      have hlt2 : (k : Int) < (n : Int) := by omega
      clear hrow
      go_wp2_with fail
      go_roundw
      case rel =>
        refine ⟨k + 1, _, by omega, by go_num, hid (B.out.setCell (Nat.le_refl _) _), HR.out, hid fun j hj => ?_⟩
        unfold upd
        split
        · rfl
        · exact hg.out j (by omega)
      case measure => simp [intOf]; omega
    · have hlt2 : ¬ ((k : Int) < (n : Int)) := by omega
      have hI := hid (show FixRound n (nx s p) (!least) (fh least fa fb) F 0 g from ⟨fixInv_start fun j hj => hg.out j (by omega), .inr (Nat.zero_le _)⟩)
      have HROW := hid hrow
      clear hg hrow
      obtain ⟨wo, rfl⟩ : ∃ wo : World, wo = wr := ⟨_, rfl⟩
      go_wp2_with fail
      go_loopw [12] (fun i wr => ∃ (r : Nat) (g : Nat → Bool), r ≤ 2 * n ∧ i = .int .i64 r ∧ Hid (Below (w.heap.size + 1) (w.alloc (.cells #[.slice a s c, .slice b p d] 25)) wr) ∧ BRow wr (w.heap.size + 1) n g ∧ Hid (FixRound n (nx s p) (!least) (fh least fa fb) F r g)) (fun i _ => 2 * n - (intOf i).toNat)
      case atStart => exact ⟨0, g, Nat.zero_le _, rfl, B, HROW.out, hI⟩
      case round =>
        obtain ⟨r, g0, hr, rfl, B0, hrow0, hf0⟩ := hrel
        have HROW0 := hid hrow0
        by_cases hlr : r < 2 * n
        · have hlr2 : (r : Int) < 2 * (n : Int) := by omega
          have f1 : IntKind.i64.wrap ((n : Int) - 1) = (n : Int) - 1 := IntWalk.i64_in _ (by omega)
          obtain ⟨wo2, rfl⟩ : ∃ wo2 : World, wo2 = wr := ⟨_, rfl⟩
          clear hrow0
          go_wp2_with fail
          go_loopw [13] (fun i wr => ∃ (k : Nat) (ch : Bool) (out : Nat → Bool), k ≤ n ∧ (∃ z : Int, i = .int .i64 z ∧ z = (k : Int) - 1) ∧ Hid (Below (w.heap.size + 1) (w.alloc (.cells #[.slice a s c, .slice b p d] 25)) wr) ∧ BRow wr (w.heap.size + 1) n out ∧ Hid (FixRel n (nx s p) (!least) (fh least fa fb) F g0 k ch out)) (fun i _ => (intOf i + 1).toNat)
          case atStart => exact ⟨n, false, g0, Nat.le_refl _, ⟨_, rfl, rfl⟩, B0, HROW0.out, hid (FixRel.start hf0.out.1)⟩
          case round =>
            obtain ⟨k, ch, out, hk, ⟨z, rfl, hz⟩, B, hrow, hr⟩ := hrel
            by_cases hk0 : k = 0
            · subst hk0
              have hz3 : ¬ (z ≥ 0) := by omega
              have HROW2 := hid hrow
              have HNX := hid (FixRound.next HS.out hf0.out hr.out)
              clear hrow
              go_wp2_with fail
              go_roundw
              case rel => exact ⟨r + 1, out, by omega, by go_num, B, HROW2.out, HNX⟩
              case measure => simp [intOf]; omega
            · obtain ⟨m, rfl⟩ : ∃ m, k = m + 1 := ⟨k - 1, by omega⟩
              obtain rfl : z = (m : Int) := by omega
              clear hz hk0
              have hm : m < n := by omega
              have hx : nx s p m < n := HLT.out m hm
              have BW := hid (show Below w.heap.size w wr from below_next (below_alloc _ _) (B.out.mono (by simp)))
              have r1 : wr.cell? ⟨w.heap.size + 1, nx s p m, none⟩ = some (.bool (out (nx s p m))) := hrow.2.1 _ hx
              have rl := hrow.1
              have HSTEP := hid (FixRel.step HS.out (k := m) hm hr.out)
              have HROW2 := hid hrow
              have hm2 : (m : Int) < (n : Int) := by omega
              have hx2 : ((nx s p m : Nat) : Int) < (n : Int) := by omega
              have hm3 : (m : Int) ≥ 0 := by omega
              have HN2 := hid (fun (W : World) => HN.out m W hm)
              have HV := hid (fun x => show fh least fa fb m x = (if least then fb m || fa m && x else fb m && (fa m || x)) from rfl)
              obtain ⟨l0, l1, l2, l3, l4⟩ := pbox_next (show Below (w.alloc (.cells #[.slice a s c, .slice b p d] 25)).heap.size _ wr by simpa using B.out) BX.out
              have A1 : wr.cell? ⟨ra, m, none⟩ = some (.bool (fa m)) := (Row.below HA.out BW.out).2.1 m hm
              have A2 : wr.cell? ⟨rb, m, none⟩ = some (.bool (fb m)) := (Row.below HB.out BW.out).2.1 m hm
              have A3 := (Row.below HA.out BW.out).1
              have A4 := (Row.below HB.out BW.out).1
              clear hrow hr hx
              generalize nx s p m = q at *
              generalize out q = x at *
              generalize fa m = pa at *
              generalize fb m = pb at *
              go_wp2_with fail
              refine (HN2.out _).mono ?_
              rintro e w3 ⟨rfl, hb3⟩
              have B3 := hid (B.out.trans (hb3.mono (by have := HROW2.out.1; omega)))
              have rc := hb3.cell (p := ⟨w.heap.size + 1, q, none⟩) rl
              rw [r1] at rc
              have rc1 := hb3.cell (p := ⟨ra, m, none⟩) A3
              rw [A1] at rc1
              have rc2 := hb3.cell (p := ⟨rb, m, none⟩) A4
              rw [A2] at rc2
              have HROW3 := hid (Row.below HROW2.out hb3)
              have rl3 := HROW3.out.1
              have rz3 := HROW3.out.2.2
              have rm3 := HROW3.out.2.1 m hm
              have sz3 := hb3.size
              have A5 : ra < w3.heap.size := by omega
              have A6 : rb < w3.heap.size := by omega
              clear hb3 r1 l0 l1 l2 l3 l4 A1 A2
              have HVX := hid (HV.out x)
              clear HV
              cases least <;> cases pa <;> cases pb <;> cases x
              all_goals
                have hv := HVX.out
                have hstep := HSTEP.out
                simp only [Bool.or_true, Bool.or_false, Bool.and_true, Bool.and_false, if_true, if_false, Bool.or_self, Bool.and_self, Bool.false_eq_true] at hv
                rw [hv] at hstep
                have HST := hid hstep
                clear hv hstep HVX HSTEP
                go_wp2_with fail
                go_roundw
                case rel => exact ⟨m, _, _, by omega, ⟨_, rfl, rfl⟩, hid (B3.out.setCell (Nat.le_refl _) _), brow_upd HROW3.out hm _, HST⟩
                case measure => simp [intOf]
        · have hlr2 : ¬ ((r : Int) < 2 * (n : Int)) := by omega
          have HF := hid (show NewB n F w (.returned (.slice (some ⟨w.heap.size + 1, 0, none⟩) n n)) wr from ⟨_, rfl, by omega, Row.congr HROW0.out fun i hi => by
            have := hf0.out
            rw [show r = 2 * n by omega] at this
            rw [this.end i hi], below_next (below_alloc _ _) (B0.out.mono (by simp))⟩)
          clear hf0 hrow0
          go_wp2_with fail
          go_ret
          exact HF.out
end Lasso
end Go.Proofs.Ytbeljjalfhogdaa
namespace Go.Proofs.Ytbeljjalfhogdaa
open Go.RowKit

/-- is a number in a range -/
def inB (a b c : Int) : Bool := decide (b ≤ a ∧ a ≤ c)
set_option maxHeartbeats 400000 in
theorem in_any (a b c : Int) (w : World) : Calls Try.prog 59 #[.int .i64 a, .int .i64 b, .int .i64 c] w (RetW (.bool (inB a b c)) w) := by
  by_cases h1 : b ≤ a
  · have E := hid (show decide (a ≤ c) = inB a b c by simp [inB, h1])
    go_enter Try.func59, Try.ntmps59
    go_wp2_with fail
    go_ret
    exact ⟨congrArg (fun x => Ending.returned (.bool x)) E.out, rfl⟩
  · have E := hid (show false = inB a b c by simp [inB]; omega)
    go_enter Try.func59, Try.ntmps59
    go_wp2_with fail
    go_ret
    exact ⟨congrArg (fun x => Ending.returned (.bool x)) E.out, rfl⟩
theorem in_yes {a b c : Int} (h : b ≤ a ∧ a ≤ c) (w : World) : Calls Try.prog 59 #[.int .i64 a, .int .i64 b, .int .i64 c] w (RetW (.bool true) w) := by
  have := in_any a b c w
  rwa [inB, decide_eq_true h] at this
theorem in_no {a b c : Int} (h : ¬(b ≤ a ∧ a ≤ c)) (w : World) : Calls Try.prog 59 #[.int .i64 a, .int .i64 b, .int .i64 c] w (RetW (.bool false) w) := by
  have := in_any a b c w
  rwa [inB, decide_eq_false h] at this

theorem upd_past {w W W' : World} {R : Nat} {v : Value} (h : Upd W R v W') (hb : Below w.heap.size w W) (hR : R < w.heap.size) : Upd w R v W' :=
  (Upd.of_below hb hR).trans_below h
theorem Calls.over_same {P : Program} {f : FuncId} {args : Array Value} {w : World} {x : Over w} {v : Value} (h : Calls P f args (w.over x) (RetW v (w.over x))) :
    Calls P f args (w.over x) fun e w'' => e = .returned v ∧ ∃ m, w'' = w.over m :=
  h.mono fun _ _ ⟨he, hy⟩ => ⟨he, x, hy⟩

end Go.Proofs.Ytbeljjalfhogdaa
namespace Go.Proofs.Ytbeljjalfhogdaa
open Go.RowKit
namespace Lasso

def inL (n : Int) : Bool := decide (0 ≤ n ∧ n ≤ 7)
set_option maxHeartbeats 1000000 in
theorem specLetters_any (l : List Int) (w : World) (a : Option Addr) (c : Nat) (hl : IntsIn Any w a l) (hc : l.length ≤ c) (hc2 : c ≤ maxLen) :
    Calls Try.prog 34 #[.slice a l.length c] w (Ret (.bool (l.all inL)) w) := by
  unfold maxLen at hc2
  go_enter Try.func34, Try.ntmps34
  go_wp2_with fail
  go_loopw [3] (fun i wr => ∃ j : Nat, j ≤ l.length ∧ i = .int .i64 j ∧ Below w.heap.size w wr ∧ Hid ((l.drop j).all inL = l.all inL)) (fun i _ => l.length - (intOf i).toNat)
  case atStart => exact ⟨0, Nat.zero_le _, rfl, Below.refl _ _, hid rfl⟩
  case round =>
    obtain ⟨j, hj, rfl, B, hr⟩ := hrel
    by_cases hlt : j < l.length
    · obtain ⟨b, o, rfl, hb, _, g0, hi⟩ := ints_at hl B hlt
      have HR2 := hr.out
      rw [List.drop_eq_getElem_cons hlt, List.all_cons] at HR2
      have HR := hid HR2; clear HR2
      have hlt2 : (j : Int) < (l.length : Int) := by omega
      generalize l[j] = x at *
      by_cases h0 : x < 0
      · have E := hid (show l.all inL = false by rw [← HR.out]; simp [inL]; omega)
        go_wp2_with fail
        go_ret
        exact Ret.mk (bool_val E.out.symm) B
      · by_cases h3 : x > 7
        · have E := hid (show l.all inL = false by rw [← HR.out]; simp [inL]; omega)
          go_wp2_with fail
          go_ret
          exact Ret.mk (bool_val E.out.symm) B
        · have HR3 := HR.out
          rw [show inL x = true by simp [inL]; omega, Bool.true_and] at HR3
          have HR4 := hid HR3; clear HR3
          go_wp2_with fail
          go_roundw
          case rel => exact ⟨j + 1, by omega, by go_num, B, HR4⟩
          case measure => simp [intOf]; omega
    · have HR2 := hr.out
      rw [List.drop_of_length_le (by omega), List.all_nil] at HR2
      have hlt2 : ¬ ((j : Int) < (l.length : Int)) := by omega
      have E := hid (show true = l.all inL from HR2)
      clear HR2
      go_wp2_with fail
      go_ret
      exact Ret.mk (bool_val E.out) B

set_option maxHeartbeats 400000 in
theorem lclo_any (x : Int) (w : World) : Calls Try.prog 88 #[.int .i64 x] w (Ret (.bool (!inL x)) w) := by
  go_enter Try.func88, Try.ntmps88
  go_wp2_with fail
  refine (in_any x 0 7 _).mono ?_
  rintro e w1 ⟨rfl, rfl⟩
  go_wp2_with fail
  go_ret
  exact Ret.mk rfl (Below.refl _ _)

def IxL (bad : Bool) (w : World) (e : Ending) (w' : World) : Prop := ∃ i : Int, e = .returned (.int .i64 i) ∧ decide (0 ≤ i) = bad ∧ Below w.heap.size w w'

set_option maxHeartbeats 1000000 in
theorem lix_any (l : List Int) (w : World) (a : Option Addr) (c : Nat) (hl : IntsIn Any w a l) (hc : l.length ≤ c) (hc2 : c ≤ maxLen) :
    Calls Try.prog 96 #[.slice a l.length c, .func (.func 88) #[] #[]] w (IxL (!l.all inL) w) := by
  unfold maxLen at hc2
  go_enter Try.func96, Try.ntmps96
  go_wp2_with fail
  go_loopw [5, 8] (fun _ i wr => ∃ j : Nat, j ≤ l.length ∧ i = .int .i64 j ∧ Below w.heap.size w wr ∧ Hid ((l.drop j).all inL = l.all inL)) (fun _ i _ => l.length - (intOf i).toNat)
  case atStart => exact ⟨0, Nat.zero_le _, rfl, Below.refl _ _, hid rfl⟩
  case round =>
    obtain ⟨j, hj, rfl, B, hr⟩ := hrel
    by_cases hlt : j < l.length
    · obtain ⟨b, o, rfl, hb, _, g0, hi⟩ := ints_at hl B hlt
      have HR2 := hr.out
      rw [List.drop_eq_getElem_cons hlt, List.all_cons] at HR2
      have HR := hid HR2; clear HR2
      have hlt2 : (j : Int) < (l.length : Int) := by omega
      generalize l[j] = x at *
      go_wp2_with fail
      refine (lclo_any x _).mono ?_
      rintro e w2 ⟨rfl, hb2⟩
      replace B := below_next B hb2
      clear hb2
      cases hq : inL x with
      | true =>
        have HR3 := HR.out
        rw [hq, Bool.true_and] at HR3
        have HR4 := hid HR3; clear HR3 hq
        go_wp2_with fail
        go_roundw
        case rel => exact ⟨j + 1, by omega, by go_num, B, HR4⟩
        case measure => simp [intOf]; omega
      | false =>
        have HR3 := HR.out
        rw [hq, Bool.false_and] at HR3
        have HR4 := hid HR3; clear HR3 hq
        go_wp2_with fail
        go_ret
        exact ⟨j, rfl, by rw [← HR4.out]; simp, B⟩
    · have HR2 := hr.out
      rw [List.drop_of_length_le (by omega), List.all_nil] at HR2
      have HR := hid HR2; clear HR2
      have hlt2 : ¬ ((j : Int) < (l.length : Int)) := by omega
      go_wp2_with fail
      go_ret
      exact ⟨-1, rfl, by rw [← HR.out]; simp, B⟩

set_option maxHeartbeats 400000 in
theorem lcf_any (l : List Int) (w : World) (a : Option Addr) (c : Nat) (hl : IntsIn Any w a l) (hc : l.length ≤ c) (hc2 : c ≤ maxLen) :
    Calls Try.prog 87 #[.slice a l.length c, .func (.func 88) #[] #[]] w (Ret (.bool (!l.all inL)) w) := by
  have HH := hid (lix_any l w a c hl hc hc2)
  go_enter Try.func87, Try.ntmps87
  go_wp2_with fail
  refine HH.out.mono ?_
  rintro e w2 ⟨i, rfl, hi, hb⟩
  have HI := hid hi; clear hi
  go_wp2_with fail
  go_ret
  exact Ret.mk (bool_val HI.out) hb


set_option maxHeartbeats 400000 in
theorem letters_any (l : List Int) (w : World) (a : Option Addr) (c : Nat) (hl : IntsIn Any w a l) (hc : l.length ≤ c) (hc2 : c ≤ maxLen) :
    Calls Try.prog 58 #[.slice a l.length c] w (Ret (.bool (l.all inL)) w) := by
  have HH := hid (lcf_any l w a c hl hc hc2)
  go_enter Try.func58, Try.ntmps58
  go_wp2_with fail
  refine HH.out.mono ?_
  rintro e w2 ⟨rfl, hb⟩
  go_wp2_with fail
  go_ret
  exact Ret.mk (by simp) hb

/-- a valid lasso -/
def ok (stem loop : List Int) : Bool := stem.all inL && loop.all inL && decide (stem.length ≤ 80) && decide (1 ≤ loop.length) && decide (loop.length ≤ 80)

set_option maxHeartbeats 2000000 in
theorem specValid_any (l m : List Int) (w : World) (x : Value) (hx : PairIn Any w l m x) : Calls Try.prog 12 #[x] w (Ret (.bool (ok l m)) w) := by
  obtain ⟨a, b, c, d, rfl, h1, h2, hc, hc2, hd, hd2⟩ := hx
  have HG := hid (fun w' (M : Below w.heap.size w w') => specLetters_any l w' a c (h1.below M) hc hc2)
  have HV := hid (fun w' (M : Below w.heap.size w w') => specLetters_any m w' b d (h2.below M) hd hd2)
  have E := hid (show ok l m = (l.all inL && m.all inL && decide (l.length ≤ 80) && decide (1 ≤ m.length) && decide (m.length ≤ 80)) from rfl)
  generalize ok l m = r at *
  generalize l.all inL = g at *
  generalize m.all inL = v at *
  cases g
  · have E2 := hid (show r = false by rw [E.out]; simp)
    go_enter Try.func12, Try.ntmps12
    go_wp2_with fail
    refine (HG.out _ (by repeat (first | exact Below.refl _ _ | assumption | refine below_a ?_ _ | refine below_o ?_ _ | refine below_d ?_ | refine below_n ?_ _ | refine below_s ?_ (by first | (simp; done) | (simp; omega) | omega) _))).mono ?_
    rintro y w1 ⟨rfl, hb⟩
    go_wp2_with fail
    go_ret
    exact Ret.mk (bool_val E2.out.symm) (below_next (below_alloc _ _) hb)
  cases v
  · have E2 := hid (show r = false by rw [E.out]; simp)
    go_enter Try.func12, Try.ntmps12
    go_wp2_with fail
    refine (HG.out _ (by repeat (first | exact Below.refl _ _ | assumption | refine below_a ?_ _ | refine below_o ?_ _ | refine below_d ?_ | refine below_n ?_ _ | refine below_s ?_ (by first | (simp; done) | (simp; omega) | omega) _))).mono ?_
    rintro y w1 ⟨rfl, hb⟩
    obtain ⟨z, q0, q1, q2, q3⟩ := pbox_next hb (pbox_at rfl)
    have B := below_next (below_alloc _ _) hb
    clear hb
    go_wp2_with fail
    refine (HV.out _ B).mono ?_
    rintro y w2 ⟨rfl, hb⟩
    go_wp2_with fail
    go_ret
    exact Ret.mk (bool_val E2.out.symm) (below_next B hb)
  rcases (by omega : ¬ l.length ≤ 80 ∨ (l.length ≤ 80 ∧ ¬ 1 ≤ m.length) ∨ (l.length ≤ 80 ∧ 1 ≤ m.length ∧ ¬ m.length ≤ 80) ∨ (l.length ≤ 80 ∧ 1 ≤ m.length ∧ m.length ≤ 80)) with k1 | ⟨k1, k2⟩ | ⟨k1, k2, k3⟩ | ⟨k1, k2, k3⟩
  · have E2 := hid (show r = false by rw [E.out]; simp [k1])
    have j1 : ¬ ((l.length : Int) ≤ 80) := by omega
    clear k1
    go_enter Try.func12, Try.ntmps12
    go_wp2_with fail
    refine (HG.out _ (by repeat (first | exact Below.refl _ _ | assumption | refine below_a ?_ _ | refine below_o ?_ _ | refine below_d ?_ | refine below_n ?_ _ | refine below_s ?_ (by first | (simp; done) | (simp; omega) | omega) _))).mono ?_
    rintro y w1 ⟨rfl, hb⟩
    have Q := pbox_next hb (pbox_at rfl)
    obtain ⟨z, q0, q1, q2, q3⟩ := id Q
    have B := below_next (below_alloc _ _) hb
    clear hb
    go_wp2_with fail
    refine (HV.out _ B).mono ?_
    rintro y w2 ⟨rfl, hb⟩
    have B2 := below_next B hb
    obtain ⟨z, q0, q1, q2, q3⟩ := pbox_next hb Q
    clear hb Q
    go_wp2_with fail
    go_ret
    exact Ret.mk (bool_val (by rw [E2.out])) B2
  · have E2 := hid (show r = false by rw [E.out]; simp [k1, k2])
    have j1 : (l.length : Int) ≤ 80 := by omega
    have j2 : ¬ ((m.length : Int) ≥ 1) := by omega
    clear k1 k2
    go_enter Try.func12, Try.ntmps12
    go_wp2_with fail
    refine (HG.out _ (by repeat (first | exact Below.refl _ _ | assumption | refine below_a ?_ _ | refine below_o ?_ _ | refine below_d ?_ | refine below_n ?_ _ | refine below_s ?_ (by first | (simp; done) | (simp; omega) | omega) _))).mono ?_
    rintro y w1 ⟨rfl, hb⟩
    have Q := pbox_next hb (pbox_at rfl)
    obtain ⟨z, q0, q1, q2, q3⟩ := id Q
    have B := below_next (below_alloc _ _) hb
    clear hb
    go_wp2_with fail
    refine (HV.out _ B).mono ?_
    rintro y w2 ⟨rfl, hb⟩
    have B2 := below_next B hb
    obtain ⟨z, q0, q1, q2, q3⟩ := pbox_next hb Q
    clear hb Q
    go_wp2_with fail
    go_ret
    exact Ret.mk (bool_val (by rw [E2.out])) B2
  · have E2 := hid (show r = false by rw [E.out]; simp [k1, k2, k3])
    have j1 : (l.length : Int) ≤ 80 := by omega
    have j2 : (m.length : Int) ≥ 1 := by omega
    have j3 : ¬ ((m.length : Int) ≤ 80) := by omega
    clear k1 k2 k3
    go_enter Try.func12, Try.ntmps12
    go_wp2_with fail
    refine (HG.out _ (by repeat (first | exact Below.refl _ _ | assumption | refine below_a ?_ _ | refine below_o ?_ _ | refine below_d ?_ | refine below_n ?_ _ | refine below_s ?_ (by first | (simp; done) | (simp; omega) | omega) _))).mono ?_
    rintro y w1 ⟨rfl, hb⟩
    have Q := pbox_next hb (pbox_at rfl)
    obtain ⟨z, q0, q1, q2, q3⟩ := id Q
    have B := below_next (below_alloc _ _) hb
    clear hb
    go_wp2_with fail
    refine (HV.out _ B).mono ?_
    rintro y w2 ⟨rfl, hb⟩
    have B2 := below_next B hb
    obtain ⟨z, q0, q1, q2, q3⟩ := pbox_next hb Q
    clear hb Q
    go_wp2_with fail
    go_ret
    exact Ret.mk (bool_val (by rw [E2.out]; exact decide_eq_false (by omega))) B2
  · have E2 := hid (show r = true by rw [E.out]; simp [k1, k2, k3])
    have j1 : (l.length : Int) ≤ 80 := by omega
    have j2 : (m.length : Int) ≥ 1 := by omega
    have j3 : (m.length : Int) ≤ 80 := by omega
    clear k1 k2 k3
    go_enter Try.func12, Try.ntmps12
    go_wp2_with fail
    refine (HG.out _ (by repeat (first | exact Below.refl _ _ | assumption | refine below_a ?_ _ | refine below_o ?_ _ | refine below_d ?_ | refine below_n ?_ _ | refine below_s ?_ (by first | (simp; done) | (simp; omega) | omega) _))).mono ?_
    rintro y w1 ⟨rfl, hb⟩
    have Q := pbox_next hb (pbox_at rfl)
    obtain ⟨z, q0, q1, q2, q3⟩ := id Q
    have B := below_next (below_alloc _ _) hb
    clear hb
    go_wp2_with fail
    refine (HV.out _ B).mono ?_
    rintro y w2 ⟨rfl, hb⟩
    have B2 := below_next B hb
    obtain ⟨z, q0, q1, q2, q3⟩ := pbox_next hb Q
    clear hb Q
    go_wp2_with fail
    go_ret
    exact Ret.mk (bool_val (by rw [E2.out])) B2

set_option maxHeartbeats 2000000 in
theorem valid_any (l m : List Int) (w : World) (x : Value) (hx : PairIn Any w l m x) : Calls Try.prog 31 #[x] w (Ret (.bool (ok l m)) w) := by
  obtain ⟨a, b, c, d, rfl, h1, h2, hc, hc2, hd, hd2⟩ := hx
  have HG := hid (fun w' (M : Below w.heap.size w w') => letters_any l w' a c (h1.below M) hc hc2)
  have HV := hid (fun w' (M : Below w.heap.size w w') => letters_any m w' b d (h2.below M) hd hd2)
  have E := hid (show ok l m = (l.all inL && m.all inL && decide (l.length ≤ 80) && decide (1 ≤ m.length) && decide (m.length ≤ 80)) from rfl)
  generalize ok l m = r at *
  generalize l.all inL = g at *
  generalize m.all inL = v at *
  cases g
  · have E2 := hid (show r = false by rw [E.out]; simp)
    go_enter Try.func31, Try.ntmps31
    go_wp2_with fail
    refine (HG.out _ (by repeat (first | exact Below.refl _ _ | assumption | refine below_a ?_ _ | refine below_o ?_ _ | refine below_d ?_ | refine below_n ?_ _ | refine below_s ?_ (by first | (simp; done) | (simp; omega) | omega) _))).mono ?_
    rintro y w1 ⟨rfl, hb⟩
    go_wp2_with fail
    go_ret
    exact Ret.mk (bool_val E2.out.symm) (below_next (below_alloc _ _) hb)
  cases v
  · have E2 := hid (show r = false by rw [E.out]; simp)
    go_enter Try.func31, Try.ntmps31
    go_wp2_with fail
    refine (HG.out _ (by repeat (first | exact Below.refl _ _ | assumption | refine below_a ?_ _ | refine below_o ?_ _ | refine below_d ?_ | refine below_n ?_ _ | refine below_s ?_ (by first | (simp; done) | (simp; omega) | omega) _))).mono ?_
    rintro y w1 ⟨rfl, hb⟩
    obtain ⟨z, q0, q1, q2, q3⟩ := pbox_next hb (pbox_at rfl)
    have B := below_next (below_alloc _ _) hb
    clear hb
    go_wp2_with fail
    refine (HV.out _ B).mono ?_
    rintro y w2 ⟨rfl, hb⟩
    go_wp2_with fail
    go_ret
    exact Ret.mk (bool_val E2.out.symm) (below_next B hb)
  by_cases k1 : l.length ≤ 80
  · have j1 : (l.length : Int) ≤ 80 := by omega
    have E2 := hid (show decide (1 ≤ (m.length : Int) ∧ (m.length : Int) ≤ 80) = r by rw [E.out, Bool.eq_iff_iff]; simp [k1]; omega)
    clear k1
    go_enter Try.func31, Try.ntmps31
    go_wp2_with fail
    refine (HG.out _ (by repeat (first | exact Below.refl _ _ | assumption | refine below_a ?_ _ | refine below_o ?_ _ | refine below_d ?_ | refine below_n ?_ _ | refine below_s ?_ (by first | (simp; done) | (simp; omega) | omega) _))).mono ?_
    rintro y w1 ⟨rfl, hb⟩
    have Q := pbox_next hb (pbox_at rfl)
    obtain ⟨z, q0, q1, q2, q3⟩ := id Q
    have B := below_next (below_alloc _ _) hb
    clear hb
    go_wp2_with fail
    refine (HV.out _ B).mono ?_
    rintro y w2 ⟨rfl, hb⟩
    have B2 := below_next B hb
    obtain ⟨z, q0, q1, q2, q3⟩ := pbox_next hb Q
    clear hb Q
    go_wp2_with fail
    refine (in_any _ 1 80 _).mono ?_
    rintro y w3 ⟨rfl, rfl⟩
    go_wp2_with fail
    go_ret
    exact Ret.mk (bool_val (by rw [← E2.out]; rfl)) B2
  · have j1 : ¬ ((l.length : Int) ≤ 80) := by omega
    have E2 := hid (show r = false by rw [E.out]; simp [k1])
    clear k1
    go_enter Try.func31, Try.ntmps31
    go_wp2_with fail
    refine (HG.out _ (by repeat (first | exact Below.refl _ _ | assumption | refine below_a ?_ _ | refine below_o ?_ _ | refine below_d ?_ | refine below_n ?_ _ | refine below_s ?_ (by first | (simp; done) | (simp; omega) | omega) _))).mono ?_
    rintro y w1 ⟨rfl, hb⟩
    have Q := pbox_next hb (pbox_at rfl)
    obtain ⟨z, q0, q1, q2, q3⟩ := id Q
    have B := below_next (below_alloc _ _) hb
    clear hb
    go_wp2_with fail
    refine (HV.out _ B).mono ?_
    rintro y w2 ⟨rfl, hb⟩
    have B2 := below_next B hb
    obtain ⟨z, q0, q1, q2, q3⟩ := pbox_next hb Q
    clear hb Q
    go_wp2_with fail
    go_ret
    exact Ret.mk (bool_val (by rw [E2.out])) B2
end Lasso
end Go.Proofs.Ytbeljjalfhogdaa
namespace Go.Proofs.Ytbeljjalfhogdaa
open Go.RowKit
namespace Lasso

def Ret2 (u v : Value) (w : World) (e : Ending) (w' : World) : Prop := e = .returned (.tuple #[u, v]) ∧ Below w.heap.size w w'
theorem Ret2.mk {u v u' v' : Value} {w w' : World} (h : u = u') (k : v = v') (hb : Below w.heap.size w w') : Ret2 u' v' w (.returned (.tuple #[u, v])) w' := ⟨by rw [h, k], hb⟩
/-- what LassoValid says of the numbers -/
theorem ok_len {stem loop : List Int} (h : ok stem loop = true) : stem.length ≤ 80 ∧ 1 ≤ loop.length ∧ loop.length ≤ 80 ∧ ∀ n, n ∈ stem ++ loop → 0 ≤ n ∧ n ≤ 7 := by
  simp only [ok, Bool.and_eq_true, decide_eq_true_eq, List.all_eq_true, inL] at h
  obtain ⟨⟨⟨⟨h1, h2⟩, h3⟩, h4⟩, h5⟩ := h
  refine ⟨h3, h4, h5, fun n hn => ?_⟩
  rcases List.mem_append.1 hn with hn | hn
  · exact h1 n hn
  · exact h2 n hn
theorem wordOf_ix {stem loop : List Int} {i : Nat} : (ixV stem.length loop.length i < stem.length → wordOf stem loop i = stem.getD (ixV stem.length loop.length i) 0) ∧ (¬ ixV stem.length loop.length i < stem.length → wordOf stem loop i = loop.getD (ixV stem.length loop.length i - stem.length) 0) := by
  unfold ixV wordOf
  by_cases h : i < stem.length
  · rw [if_pos h, if_pos h]
    exact ⟨fun _ => rfl, fun h2 => absurd h h2⟩
  · rw [if_neg h, if_neg h]
    refine ⟨fun h2 => by omega, fun _ => ?_⟩
    rw [Nat.add_sub_cancel_left]

set_option maxHeartbeats 2000000 in
theorem specLetter_any (stem loop : List Int) (hok : ok stem loop = true) (i : Nat) (hi : i ≤ 4611686018427387904) (w : World) (x : Value) (hx : PairIn Any w stem loop x) :
    Calls Try.prog 75 #[x, .int .i64 i] w (Ret2 (.int .i64 (wordOf stem loop i)) (.bool true) w) := by
  have HX := hid hx
  obtain ⟨h1, h2, h3, h4⟩ := ok_len hok
  obtain ⟨a, b, c, d, rfl, ha, hb, hc, hc2, hd, hd2⟩ := hx
  have HV := hid (fun (w' : World) (M : Below w.heap.size w w') => specValid_any stem loop w' _ (HX.out.below M))
  rw [hok] at HV
  have HI := hid (fun (w' : World) => specIndex_any stem.length loop.length i w' a b c d (by omega) (by omega) (by omega) hi)
  have hl := ixV_lt (s := stem.length) (p := loop.length) (i := i) (by omega)
  have hw := wordOf_ix (stem := stem) (loop := loop) (i := i)
  have hi0 : ¬ ((i : Int) < 0) := by omega
  clear hok h4
  generalize wordOf stem loop i = r at *
  generalize ixV stem.length loop.length i = k at *
  by_cases hk : k < stem.length
  · have E := hid (hw.1 hk)
    have hk2 : (k : Int) < (stem.length : Int) := by omega
    obtain ⟨b1, o1, rfl, hb1, _, g0, _⟩ := ints_at ha (Below.refl _ _) hk
    have G0 := hid g0
    clear hw g0
    go_enter Try.func75, Try.ntmps75
    go_wp2_with fail
    refine (HV.out _ (by repeat (first | exact Below.refl _ _ | assumption | refine below_a ?_ _ | refine below_o ?_ _ | refine below_d ?_ | refine below_n ?_ _ | refine below_s ?_ (by first | (simp; done) | (simp; omega) | omega) _))).mono ?_
    rintro e w1 ⟨rfl, hb⟩
    have Q := pbox_next hb (pbox_at rfl)
    have B := hid (below_next (below_alloc _ _) hb)
    obtain ⟨z, q0, q1, q2, q3⟩ := id Q
    clear hb
    go_wp2_with fail
    refine (HI.out _).mono ?_
    rintro e w2 ⟨rfl, hb⟩
    replace Q := pbox_next hb Q
    have B2 := hid (below_next B.out hb)
    obtain ⟨z', q0', q1', q2', q3'⟩ := id Q
    have g1 := B2.out.cell (p := ⟨b1, o1 + k, none⟩) hb1
    rw [G0.out] at g1
    have hb2 := B2.out.size
    clear hb q0 q1 q2 q3
    go_wp2_with fail
    go_ret2
    exact Ret2.mk (by rw [E.out, List.getD_eq_getElem?_getD, List.getElem?_eq_getElem hk]; rfl) rfl B2.out
  · have E := hid (hw.2 hk)
    have hk2 : ¬ ((k : Int) < (stem.length : Int)) := by omega
    obtain ⟨m, rfl⟩ : ∃ m, k = stem.length + m := ⟨k - stem.length, by omega⟩
    have hm : m < loop.length := by omega
    obtain ⟨b1, o1, rfl, hb1, _, g0, _⟩ := ints_at hb (Below.refl _ _) hm
    have G0 := hid g0
    have f1 : IntKind.i64.wrap (((stem.length + m : Nat) : Int) - stem.length) = m := by rw [IntWalk.i64_in _ (by omega)]; omega
    have hm2 : (m : Int) < (loop.length : Int) := by omega
    clear hw g0 hk
    go_enter Try.func75, Try.ntmps75
    go_wp2_with fail
    refine (HV.out _ (by repeat (first | exact Below.refl _ _ | assumption | refine below_a ?_ _ | refine below_o ?_ _ | refine below_d ?_ | refine below_n ?_ _ | refine below_s ?_ (by first | (simp; done) | (simp; omega) | omega) _))).mono ?_
    rintro e w1 ⟨rfl, hb⟩
    have Q := pbox_next hb (pbox_at rfl)
    have B := hid (below_next (below_alloc _ _) hb)
    obtain ⟨z, q0, q1, q2, q3⟩ := id Q
    clear hb
    go_wp2_with fail
    refine (HI.out _).mono ?_
    rintro e w2 ⟨rfl, hb⟩
    replace Q := pbox_next hb Q
    have B2 := hid (below_next B.out hb)
    obtain ⟨z', q0', q1', q2', q3'⟩ := id Q
    have g1 := B2.out.cell (p := ⟨b1, o1 + m, none⟩) hb1
    rw [G0.out] at g1
    have hb2 := B2.out.size
    clear hb q0 q1 q2 q3
    go_wp2_with fail
    go_ret2
    exact Ret2.mk (by rw [E.out, Nat.add_sub_cancel_left, List.getD_eq_getElem?_getD, List.getElem?_eq_getElem hm]; rfl) rfl B2.out

set_option maxHeartbeats 1000000 in
theorem specHas_any (z v : Int) (w : World) (hz : 0 ≤ z ∧ z ≤ 7) (hv : 0 ≤ v ∧ v ≤ 2) : Calls Try.prog 76 #[.int .i64 z, .int .i64 v] w (Ret (.bool (bit z v)) w) := by
  have E := hid (show (bits BinOp.and IntKind.i64 (z / 2 ^ v.toNat) 1 == 1) = bit z v by
    have := and_bit z v hz hv
    rwa [Nat.min_eq_left (by omega)] at this)
  go_enter Try.func76, Try.ntmps76
  go_wp2_with fail
  go_ret
  exact Ret.mk (bool_val E.out) (by repeat (first | exact Below.refl _ _ | assumption | refine below_a ?_ _ | refine below_o ?_ _ | refine below_d ?_ | refine below_n ?_ _ | refine below_s ?_ (by first | (simp; done) | (simp; omega) | omega) _))
end Lasso
end Go.Proofs.Ytbeljjalfhogdaa
namespace Go.Proofs.Ytbeljjalfhogdaa
open Go.RowKit

theorem newTr_set3 {B P : Nat} {t : Tr} {v : Value} {w : World} (h : NewTr B t v w) (hP : P < B) (u0 u1 u2 : Value) : NewTr B t v (((w.setCell ⟨P, 0, none⟩ u0).setCell ⟨P, 1, none⟩ u1).setCell ⟨P, 2, none⟩ u2) := by
  obtain ⟨bs, h1, h2⟩ := h
  have hn : P ∉ bs := fun e => by have := h2 _ e; omega
  exact ⟨bs, TrOwn_set (TrOwn_set (TrOwn_set h1 hn _) hn _) hn _, h2⟩
theorem below_set3 {B P : Nat} {w W : World} (h : Below B w W) (hP : B ≤ P) (u0 u1 u2 : Value) : Below B w (((W.setCell ⟨P, 0, none⟩ u0).setCell ⟨P, 1, none⟩ u1).setCell ⟨P, 2, none⟩ u2) := ((h.setCell hP _).setCell hP _).setCell hP _
theorem row_three (w : World) (x y z : Value) (t : TypeId) : Row (w.alloc (.cells #[x, y, z] t)) w.heap.size 3 (fun i => #[x, y, z].getD i undef) :=
  ⟨by simp, fun i hi => by
    rw [World.cell?_alloc_new]
    match i, hi with
    | 0, _ => rfl
    | 1, _ => rfl
    | 2, _ => rfl, fun i => by simp⟩
theorem row_six (w : World) (x y z x' y' z' : Value) (t : TypeId) : Row (w.alloc (.cells #[x, y, z, x', y', z'] t)) w.heap.size 6 (fun i => #[x, y, z, x', y', z'].getD i undef) :=
  ⟨by simp, fun i hi => by
    rw [World.cell?_alloc_new]
    match i, hi with
    | 0, _ => rfl
    | 1, _ => rfl
    | 2, _ => rfl
    | 3, _ => rfl
    | 4, _ => rfl
    | 5, _ => rfl, fun i => by simp⟩
theorem TrIn_shapeMk {p : Nat → Prop} {w : World} {k v : Int} {kids : List Tr} {x : Value} (h : TrIn p w (.mk k v kids) x) : ∃ a c, x = .agg #[.int .i64 k, .int .i64 v, .slice a kids.length c] := TrIn_shape h
theorem box3_only {S : List Nat} {w w' : World} (h : Only S w w') {B : Nat} {a b c : Value} (hd : B ∉ S) (hb : Box3 w B a b c) : Box3 w' B a b c := by
  have e := h.block B hb.1 hd
  refine ⟨Nat.lt_of_lt_of_le hb.1 h.size, ?_, ?_, ?_, ?_, ?_, ?_⟩
  · rw [World.cell?_of_block (w := w) (a := ⟨B, 0, none⟩) e]; exact hb.2.1
  · rw [World.cell?_of_block (w := w) (a := ⟨B, 1, none⟩) e]; exact hb.2.2.1
  · rw [World.cell?_of_block (w := w) (a := ⟨B, 2, none⟩) e]; exact hb.2.2.2.1
  · rw [World.frozen?_of_block (w := w) (a := ⟨B, 0, none⟩) e]; exact hb.2.2.2.2.1
  · rw [World.frozen?_of_block (w := w) (a := ⟨B, 1, none⟩) e]; exact hb.2.2.2.2.2.1
  · rw [World.frozen?_of_block (w := w) (a := ⟨B, 2, none⟩) e]; exact hb.2.2.2.2.2.2
theorem newTr_over {B : Nat} {t : Tr} {v : Value} {w w' : World} (h : NewTr B t v w) (hb : Below w.heap.size w w') : NewTr B t v w' := h.below hb

end Go.Proofs.Ytbeljjalfhogdaa
