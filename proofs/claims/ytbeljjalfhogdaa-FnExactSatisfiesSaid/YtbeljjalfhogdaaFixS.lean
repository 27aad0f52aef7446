/- The reference's positions, its all-the-same rows and its solutions on a lasso. Conditions: those of each contract. -/
import Derived.Test.YtbeljjalfhogdaaFixP
import Derived.Test.YtbeljjalfhogdaaRowsMade
namespace Go.Proofs.Ytbeljjalfhogdaa
open Go.RowKit
namespace Lasso

/-- the position below the length that has the same suffix -/
def ixV (s p i : Nat) : Nat := if i < s then i else s + (i - s) % p
theorem ixV_nx {s p i : Nat} (hp : 0 < p) (hi : i < s + p) : ixV s p (i + 1) = nx s p i := by
  unfold ixV nx
  split
  · rw [if_neg (by omega)]
  · rename_i h
    split
    · rename_i h2
      rw [show i + 1 - s = p by omega, Nat.mod_self]; omega
    · rw [Nat.mod_eq_of_lt (by omega)]; omega
theorem ixV_lt {s p i : Nat} (hp : 0 < p) : ixV s p i < s + p := by
  unfold ixV
  split
  · omega
  · have := Nat.mod_lt (i - s) hp; omega

set_option maxHeartbeats 1000000 in
theorem specIndex_any (s p i : Nat) (w : World) (a b : Option Addr) (c d : Nat) (hs : s ≤ 1000) (hp : p ≤ 1000) (hp0 : 0 < p) (hi : i ≤ 4611686018427387904) :
    Calls Try.prog 91 #[.agg #[.slice a s c, .slice b p d], .int .i64 i] w (Ret (.int .i64 (ixV s p i : Nat)) w) := by
  by_cases h : i < s
  · have e1 : (i : Int) < (s : Int) := by omega
    have E := hid (show ixV s p i = i by unfold ixV; rw [if_pos h])
    go_enter Try.func91, Try.ntmps91
    go_wp2_with fail
    go_ret
    exact Ret.mk (int_val (by rw [E.out])) (by repeat (first | exact Below.refl _ _ | assumption | refine below_a ?_ _ | refine below_o ?_ _ | refine below_d ?_ | refine below_n ?_ _ | refine below_s ?_ (by first | (simp; done) | (simp; omega) | omega) _))
  · have e1 : ¬ ((i : Int) < (s : Int)) := by omega
    have e2 : ((p : Int) == 0) = false := by rw [beq_eq_false_iff_ne]; omega
    have E := hid (show (ixV s p i : Int) = s + (i - s) % p by unfold ixV; rw [if_neg h]; simp only [Int.natCast_add, Int.natCast_emod]; congr 2; omega)
    have hm := Int.emod_lt_of_pos ((i : Int) - s) (show (0 : Int) < p by omega)
    have hm0 := Int.emod_nonneg ((i : Int) - s) (show (p : Int) ≠ 0 by omega)
    have hz : (0 : Int) < (p : Int) := by omega
    have W1 : IntKind.i64.wrap ((i : Int) - s) = (i : Int) - s := IntWalk.i64_in _ (by omega)
    have T1 : Int.tmod ((i : Int) - s) (p : Int) = ((i : Int) - s) % p := Int.tmod_eq_emod_of_nonneg (by omega)
    have W2 : IntKind.i64.wrap ((s : Int) + ((i : Int) - s) % p) = (s : Int) + ((i : Int) - s) % p := IntWalk.i64_in _ (by omega)
    have W3 : IntKind.i64.wrap (((i : Int) - s) % p) = ((i : Int) - s) % p := IntWalk.i64_in _ (by omega)
    go_enter Try.func91, Try.ntmps91
    go_wp2_with fail
    refine wp_region_over (by kernel_rfl) (by kernel_rfl) ?_; (repeat (go_big_quiet_step ((fail)))); refine wpQuiet_nil ?_; rintro _ ⟨xq, rfl⟩
    have B := hid (show Below w.heap.size w (World.over _ xq) from below_next (below_alloc _ _) (over_below _ xq))
    clear W1 W2 W3 T1
    go_wp2_with fail
    go_ret
    exact Ret.mk (int_val (by rw [E.out])) B.out

set_option maxHeartbeats 1000000 in
theorem specNext_any (s p i : Nat) (w : World) (a b : Option Addr) (c d : Nat) (hs : s ≤ 1000) (hp : p ≤ 1000) (hp0 : 0 < p) (hi : i < s + p) :
    Calls Try.prog 77 #[.agg #[.slice a s c, .slice b p d], .int .i64 i] w (Ret (.int .i64 (nx s p i : Nat)) w) := by
  have E := hid (ixV_nx hp0 hi)
  have HI := hid (fun (w' : World) => show Calls Try.prog 91 #[.agg #[.slice a s c, .slice b p d], .int .i64 ((i : Int) + 1)] w' (Ret (.int .i64 (ixV s p (i + 1) : Nat)) w') from by
    have := specIndex_any s p (i + 1) w' a b c d hs hp hp0 (by omega)
    rwa [show (((i + 1 : Nat)) : Int) = (i : Int) + 1 by omega] at this)
  have f1 : IntKind.i64.wrap ((i : Int) + 1) = i + 1 := IntWalk.i64_in _ (by omega)
  go_enter Try.func77, Try.ntmps77
  go_wp2_with fail
  refine (HI.out _).mono ?_
  rintro e w1 ⟨rfl, hb⟩
  go_wp2_with fail
  go_ret
  exact Ret.mk (int_val (by rw [E.out])) (below_next (by repeat (first | exact Below.refl _ _ | assumption | refine below_a ?_ _ | refine below_o ?_ _ | refine below_d ?_ | refine below_n ?_ _ | refine below_s ?_ (by first | (simp; done) | (simp; omega) | omega) _)) hb)

/-- a new row of n truth values -/
def NewB (n : Nat) (F : Nat → Bool) (w : World) (e : Ending) (w' : World) : Prop := ∃ R, e = .returned (.slice (some ⟨R, 0, none⟩) n n) ∧ w.heap.size ≤ R ∧ BRow w' R n F ∧ Below w.heap.size w w'

theorem brow_zeros (w : World) (n : Nat) : BRow (w.alloc (.cells (zerosB n) 4)) w.heap.size n (fun _ => false) :=
  ⟨by simp, fun i hi => by rw [World.cell?_alloc_new]; simp [zerosB, madeCells, hi, Nat.mod_one], by simp⟩

set_option maxHeartbeats 1000000 in
theorem specAll_any (n : Nat) (v : Bool) (w : World) (hn : n ≤ 1000) : Calls Try.prog 74 #[.int .i64 n, .bool v] w (NewB n (fun _ => v) w) := by
  have hmk := make_bools n (by omega)
  have HZ := hid (brow_zeros w n)
  go_enter Try.func74, Try.ntmps74
  go_wp2_with fail
  go_loopw [6] (fun i wr => ∃ (k : Nat) (g : Nat → Bool), k ≤ n ∧ i = .int .i64 k ∧ Hid (Below w.heap.size w wr) ∧ BRow wr w.heap.size n g ∧ Hid (∀ j, j < k → g j = v)) (fun i _ => n - (intOf i).toNat)
  case atStart => exact ⟨0, _, Nat.zero_le _, rfl, hid (below_alloc _ _), HZ.out, hid (by omega)⟩
  case round =>
    obtain ⟨k, g, hk, rfl, B, hrow, hg⟩ := hrel
    by_cases hlt : k < n
    · have r0 := hrow.2.1 k hlt
      have rz := hrow.2.2
      have rl := hrow.1
      have HR := hid (brow_upd hrow hlt v)
      have hlt2 : (k : Int) < (n : Int) := by omega
      clear hrow
      go_wp2_with fail
      go_roundw
      case rel =>
        refine ⟨k + 1, _, by omega, by go_num, hid (B.out.setCell (Nat.le_refl _) _), HR.out, hid fun j hj => ?_⟩
        unfold upd
        split
        · rfl
        · exact hg.out j (by omega)
      case measure => simp [intOf]; omega
    · have HF := hid (show NewB n (fun _ => v) w (.returned (.slice (some ⟨w.heap.size, 0, none⟩) n n)) wr from ⟨_, rfl, Nat.le_refl _, Row.congr hrow fun i hi => by rw [hg.out i (by omega)], B.out⟩)
      have hlt2 : ¬ ((k : Int) < (n : Int)) := by omega
      clear hrow hg
      go_wp2_with fail
      go_ret
      exact HF.out
/-- one step of an until (least) or a release -/
def fh (least : Bool) (a b : Nat → Bool) : Nat → Bool → Bool := fun i x => if least then b i || a i && x else b i && (a i || x)

set_option maxRecDepth 100000 in
set_option maxHeartbeats 4000000 in
theorem specFix_any (s p : Nat) (least : Bool) (fa fb F : Nat → Bool) (hs : FixSol (s + p) (nx s p) (!least) (fh least fa fb) F) (w : World) (ra rb : Nat) (a b : Option Addr) (c d : Nat) (h1 : s ≤ 80) (h2 : p ≤ 80) (h3 : 0 < p)
    (ha : BRow w ra (s + p) fa) (hb : BRow w rb (s + p) fb) :
    Calls Try.prog 73 #[.agg #[.slice a s c, .slice b p d], .slice (some ⟨ra, 0, none⟩) (s + p) (s + p), .slice (some ⟨rb, 0, none⟩) (s + p) (s + p), .bool least] w (NewB (s + p) F w) := by
  have HS := hid hs
  have HA := hid ha
  have HB := hid hb
  have HN := hid (fun (k : Nat) (W : World) (hk : k < s + p) => specNext_any s p k W a b c d (by omega) (by omega) h3 hk)
  have HLT := hid (fun k hk => hs.lt k hk)
  clear hs ha hb
  generalize hn : s + p = n at *
  have hn0 : 0 < n := by omega
  have hn1 : n ≤ 160 := by omega
  have hmk := make_bools n (by omega)
  have HZ := hid (brow_zeros (w.alloc (.cells #[.slice a s c, .slice b p d] 25)) n)
  clear hn
  go_enter Try.func73, Try.ntmps73
  go_wp2_with fail
  have BX := hid (pbox_at (w := w) (a := .slice a s c) (b := .slice b p d) (t := 25) rfl)
  go_loopw [11] (fun i wr => ∃ (k : Nat) (g : Nat → Bool), k ≤ n ∧ i = .int .i64 k ∧ Hid (Below (w.heap.size + 1) (w.alloc (.cells #[.slice a s c, .slice b p d] 25)) wr) ∧ BRow wr (w.heap.size + 1) n g ∧ Hid (∀ j, j < k → g j = !least)) (fun i _ => n - (intOf i).toNat)
  case atStart => exact ⟨0, _, Nat.zero_le _, rfl, hid (by have := below_alloc (w.alloc (.cells #[.slice a s c, .slice b p d] 25)) (.cells (zerosB n) 4); simpa using this), by simpa using HZ.out, hid (by omega)⟩
  case round =>
    obtain ⟨k, g, hk, rfl, B, hrow, hg⟩ := hrel
    by_cases hlt : k < n
    · have r0 := hrow.2.1 k hlt
      have rz := hrow.2.2
      have rl := hrow.1
      have HR := hid (brow_upd hrow hlt (!least))
      have hlt2 : (k : Int) < (n : Int) := by omega
      clear hrow
      go_wp2_with fail
      go_roundw
      case rel =>
        refine ⟨k + 1, _, by omega, by go_num, hid (B.out.setCell (Nat.le_refl _) _), HR.out, hid fun j hj => ?_⟩
        unfold upd
        split
        · rfl
        · exact hg.out j (by omega)
      case measure => simp [intOf]; omega
    · have hlt2 : ¬ ((k : Int) < (n : Int)) := by omega
      have hI := hid (show FixRound n (nx s p) (!least) (fh least fa fb) F 0 g from ⟨fixInv_start fun j hj => hg.out j (by omega), .inr (Nat.zero_le _)⟩)
      have HROW := hid hrow
      clear hg hrow
      obtain ⟨wo, rfl⟩ : ∃ wo : World, wo = wr := ⟨_, rfl⟩
      go_wp2_with fail
      go_loopw [12] (fun i wr => ∃ (r : Nat) (g : Nat → Bool), r ≤ 2 * n ∧ i = .int .i64 r ∧ Hid (Below (w.heap.size + 1) (w.alloc (.cells #[.slice a s c, .slice b p d] 25)) wr) ∧ BRow wr (w.heap.size + 1) n g ∧ Hid (FixRound n (nx s p) (!least) (fh least fa fb) F r g)) (fun i _ => 2 * n - (intOf i).toNat)
      case atStart => exact ⟨0, g, Nat.zero_le _, rfl, B, HROW.out, hI⟩
      case round =>
        obtain ⟨r, g0, hr, rfl, B0, hrow0, hf0⟩ := hrel
        have HROW0 := hid hrow0
        by_cases hlr : r < 2 * n
        · have hlr2 : (r : Int) < 2 * (n : Int) := by omega
          have f1 : IntKind.i64.wrap ((n : Int) - 1) = (n : Int) - 1 := IntWalk.i64_in _ (by omega)
          obtain ⟨wo2, rfl⟩ : ∃ wo2 : World, wo2 = wr := ⟨_, rfl⟩
          clear hrow0
          go_wp2_with fail
          go_loopw [13] (fun i wr => ∃ (k : Nat) (ch : Bool) (out : Nat → Bool), k ≤ n ∧ (∃ z : Int, i = .int .i64 z ∧ z = (k : Int) - 1) ∧ Hid (Below (w.heap.size + 1) (w.alloc (.cells #[.slice a s c, .slice b p d] 25)) wr) ∧ BRow wr (w.heap.size + 1) n out ∧ Hid (FixRel n (nx s p) (!least) (fh least fa fb) F g0 k ch out)) (fun i _ => (intOf i + 1).toNat)
          case atStart => exact ⟨n, false, g0, Nat.le_refl _, ⟨_, rfl, rfl⟩, B0, HROW0.out, hid (FixRel.start hf0.out.1)⟩
          case round =>
            obtain ⟨k, ch, out, hk, ⟨z, rfl, hz⟩, B, hrow, hr⟩ := hrel
            by_cases hk0 : k = 0
            · subst hk0
              have hz3 : ¬ (z ≥ 0) := by omega
              have HROW2 := hid hrow
              have HNX := hid (FixRound.next HS.out hf0.out hr.out)
              clear hrow
              go_wp2_with fail
              go_roundw
              case rel => exact ⟨r + 1, out, by omega, by go_num, B, HROW2.out, HNX⟩
              case measure => simp [intOf]; omega
            · obtain ⟨m, rfl⟩ : ∃ m, k = m + 1 := ⟨k - 1, by omega⟩
              obtain rfl : z = (m : Int) := by omega
              clear hz hk0
              have hm : m < n := by omega
              have hx : nx s p m < n := HLT.out m hm
              have BW := hid (show Below w.heap.size w wr from below_next (below_alloc _ _) (B.out.mono (by simp)))
              have r1 : wr.cell? ⟨w.heap.size + 1, nx s p m, none⟩ = some (.bool (out (nx s p m))) := hrow.2.1 _ hx
              have rl := hrow.1
              have HSTEP := hid (FixRel.step HS.out (k := m) hm hr.out)
              have HROW2 := hid hrow
              have hm2 : (m : Int) < (n : Int) := by omega
              have hx2 : ((nx s p m : Nat) : Int) < (n : Int) := by omega
              have hm3 : (m : Int) ≥ 0 := by omega
              have HN2 := hid (fun (W : World) => HN.out m W hm)
              have HV := hid (fun x => show fh least fa fb m x = (if least then fb m || fa m && x else fb m && (fa m || x)) from rfl)
              obtain ⟨l0, l1, l2, l3, l4⟩ := pbox_next (show Below (w.alloc (.cells #[.slice a s c, .slice b p d] 25)).heap.size _ wr by simpa using B.out) BX.out
              have A1 : wr.cell? ⟨ra, m, none⟩ = some (.bool (fa m)) := (Row.below HA.out BW.out).2.1 m hm
              have A2 : wr.cell? ⟨rb, m, none⟩ = some (.bool (fb m)) := (Row.below HB.out BW.out).2.1 m hm
              have A3 := (Row.below HA.out BW.out).1
              have A4 := (Row.below HB.out BW.out).1
              clear hrow hr hx
              generalize nx s p m = q at *
              generalize out q = x at *
              generalize fa m = pa at *
              generalize fb m = pb at *
              go_wp2_with fail
              refine (HN2.out _).mono ?_
              rintro e w3 ⟨rfl, hb3⟩
              have B3 := hid (B.out.trans (hb3.mono (by have := HROW2.out.1; omega)))
              have rc := hb3.cell (p := ⟨w.heap.size + 1, q, none⟩) rl
              rw [r1] at rc
              have rc1 := hb3.cell (p := ⟨ra, m, none⟩) A3
              rw [A1] at rc1
              have rc2 := hb3.cell (p := ⟨rb, m, none⟩) A4
              rw [A2] at rc2
              have HROW3 := hid (Row.below HROW2.out hb3)
              have rl3 := HROW3.out.1
              have rz3 := HROW3.out.2.2
              have rm3 := HROW3.out.2.1 m hm
              have sz3 := hb3.size
              have A5 : ra < w3.heap.size := by omega
              have A6 : rb < w3.heap.size := by omega
              clear hb3 r1 l0 l1 l2 l3 l4 A1 A2
              have HVX := hid (HV.out x)
              clear HV
              cases least <;> cases pa <;> cases pb <;> cases x
              all_goals
                have hv := HVX.out
                have hstep := HSTEP.out
                simp only [Bool.or_true, Bool.or_false, Bool.and_true, Bool.and_false, if_true, if_false, Bool.or_self, Bool.and_self, Bool.false_eq_true] at hv
                rw [hv] at hstep
                have HST := hid hstep
                clear hv hstep HVX HSTEP
                go_wp2_with fail
                go_roundw
                case rel => exact ⟨m, _, _, by omega, ⟨_, rfl, rfl⟩, hid (B3.out.setCell (Nat.le_refl _) _), brow_upd HROW3.out hm _, HST⟩
                case measure => simp [intOf]
        · have hlr2 : ¬ ((r : Int) < 2 * (n : Int)) := by omega
          have HF := hid (show NewB n F w (.returned (.slice (some ⟨w.heap.size + 1, 0, none⟩) n n)) wr from ⟨_, rfl, by omega, Row.congr HROW0.out fun i hi => by
            have := hf0.out
            rw [show r = 2 * n by omega] at this
            rw [this.end i hi], below_next (below_alloc _ _) (B0.out.mono (by simp))⟩)
          clear hf0 hrow0
          go_wp2_with fail
          go_ret
          exact HF.out
end Lasso
end Go.Proofs.Ytbeljjalfhogdaa
