/- SystemReach, of the program and of the reference: what each returns. Conditions: those of each contract. -/
import Derived.Test.YtffadknollkgiaazReachP
import Derived.Test.YtffadknollkgiaaJS12
import Derived.Test.YtffadknollkgiaaJS3
import Derived.Test.YtffadknollkgiaaJS2
set_option linter.unusedVariables false
set_option linter.unusedSimpArgs false
namespace Go.Proofs.Ytffadknollkgiaa
open Go.RowKit
set_option linter.unusedVariables false
namespace Sys

/-- a row of n truth values -/
def BRw (w : World) (R n : Nat) (f : Nat → Bool) : Prop := Row w R n (fun i => .bool (f i))
theorem brw_upd {w : World} {R n k : Nat} {f : Nat → Bool} (h : BRw w R n f) (hk : k < n) (v : Bool) : BRw (w.setCell ⟨R, k, none⟩ (.bool v)) R n (updB f k v) :=
  (Row.set h hk (.bool v)).congr fun i _ => by
    unfold updB
    split <;> rfl
theorem brw_next {w w' : World} {R n : Nat} {f : Nat → Bool} (h : Below w.heap.size w w') (hr : BRw w R n f) : BRw w' R n f := Row.kept hr h.size (h.block R hr.1)
theorem brw_zeros (w : World) (n : Nat) : BRw (w.alloc (.cells (zerosB n) 4)) w.heap.size n (fun _ => false) :=
  ⟨by simp, fun i hi => by rw [World.cell?_alloc_new]; simp [zerosB, madeCells, hi, Nat.mod_one], by simp⟩
theorem brw_new {w w' : World} {R : Nat} {q : Pr} {o : Nat → Bool} (hn : q.locs.toNat ≤ 1000) (hB : w.heap.size ≤ R) (hr : BRw w' R q.locs.toNat o) (ho : ∀ k, o k = rchB q.edges k) : NewV w.heap.size ((rchL q).map Value.bool) (.slice (some ⟨R, 0, none⟩) q.locs.toNat q.locs.toNat) w' := by
  have hl : ((rchL q).map Value.bool).length = q.locs.toNat := by rw [List.length_map, rchL_len]
  refine ⟨_, q.locs.toNat, [R], by rw [hl], by rw [hl]; exact Nat.le_refl _, by unfold maxLen; omega, .inr ⟨R, rfl, rfl, ?_⟩, by simpa using hB⟩
  rw [hl]
  refine Row.congr hr fun i hi => ?_
  rw [ho i, List.getD_eq_getElem?_getD, List.getElem?_map, rchL_at hi]
  rfl
theorem rr_start (es : List Ed) : RRound es 0 (updB (fun _ => false) 0 true) := ⟨rfl, (fun k hk => by
  unfold updB at hk
  split at hk
  · rename_i e; rw [e]; exact Rch.zero
  · cases hk), Or.inr (Nat.zero_le _)⟩
theorem zerosB_at {n i : Nat} (h : i < n) : (zerosB n)[i]? = some (.bool false) := by simp [zerosB, madeCells, h, Nat.mod_one]
theorem brw_one (w : World) (n : Nat) : BRw (w.alloc (.cells ((zerosB n).setIfInBounds 0 (.bool true)) 4)) w.heap.size n (updB (fun _ => false) 0 true) := by
  refine ⟨by simp, fun i hi => ?_, by simp⟩
  rw [World.cell?_alloc_new, Array.getElem?_setIfInBounds]
  have hz := zerosB_at hi
  have hs : (zerosB n).size = n := by rw [zerosB, size_madeCells]
  unfold updB
  by_cases e : i = 0
  · subst e; rw [if_pos rfl, if_pos (by omega)]; simp
  · rw [if_neg (fun h => e h.symm), hz]; simp [e]

set_option maxRecDepth 100000 in
set_option maxHeartbeats 4000000 in
theorem reach_any (q : Pr) (hok : okP q = true) (w : World) (x : Value) (hx : PrIn Any w q x) : Calls Try.prog 53 #[x] w (RetP (NewV w.heap.size ((rchL q).map Value.bool)) w) := by
  obtain ⟨k1, k2, k3, k4⟩ := okP_locs hok
  obtain ⟨a, c, rfl, hi, hc, hc2, he⟩ := hx
  have HE := hid he
  have HK := hid k4
  have HNEW := hid (fun (w' : World) (R : Nat) (o : Nat → Bool) => brw_new (w := w) (w' := w') (R := R) (q := q) (o := o) (by omega))
  obtain ⟨locs, es⟩ := q
  obtain ⟨n, rfl⟩ := Int.eq_ofNat_of_zero_le (show (0 : Int) ≤ locs by simp at k1; omega)
  simp only [Int.toNat_natCast] at HNEW k1 k2 k3 HK hc HE
  have hn1 : 1 ≤ n := by omega
  have hn4 : n ≤ 4 := by omega
  have hmk := make_bools n (by omega)
  have HZ := hid (brw_one (w.alloc (.cells #[.int .i64 n, .slice a es.length c] 41)) n)
  have hz0 := zerosB_at (n := n) (i := 0) (by omega)
  unfold maxLen at hc2
  clear he k4 hi hok k1 k2
  generalize hR : (rchL ⟨(n : Int), es⟩).map Value.bool = rv at *
  clear hR
  go_enter Try.func53, Try.ntmps53
  go_wp2_with fail
  have X := hid (box2_next (below_alloc _ (.cells ((zerosB n).setIfInBounds 0 (.bool true)) 4)) (box2_at (w := w) (a := .int .i64 n) (b := .slice a es.length c) (t := 41) rfl))
  have BW := hid (show Below w.heap.size w ((w.alloc (.cells #[.int .i64 n, .slice a es.length c] 41)).alloc (.cells ((zerosB n).setIfInBounds 0 (.bool true)) 4)) from below_next (below_alloc _ _) (below_alloc _ _))
  go_loopw [14] (fun i wr => ∃ (r : Nat) (o : Nat → Bool), r ≤ es.length ∧ i = .int .i64 r ∧ Hid (Below w.heap.size w wr) ∧ Box2 wr w.heap.size (.int .i64 n) (.slice a es.length c) ∧ BRw wr (w.heap.size + 1) n o ∧ Hid (RRound es r o)) (fun i _ => es.length - (intOf i).toNat)
  case atStart => exact ⟨0, _, Nat.zero_le _, rfl, BW, X.out, by simpa using HZ.out, hid (rr_start es)⟩
  case round =>
    obtain ⟨r, o0, hr, rfl, B0, bx, hrow0, hrr⟩ := hrel
    have BX := hid bx
    have HROW0 := hid hrow0
    obtain ⟨p0, p1, p2, p3, p4⟩ := bx
    clear hz0
    by_cases hlr : r < es.length
    · have hlr2 : (r : Int) < (es.length : Int) := by omega
      obtain ⟨wo, rfl⟩ : ∃ wo : World, wo = wr := ⟨_, rfl⟩
      clear hrow0
      go_wp2_with fail
      go_loopw [19] (fun i wr => ∃ (j : Nat) (o : Nat → Bool), j ≤ es.length ∧ i = .int .i64 j ∧ Hid (Below w.heap.size w wr) ∧ Hid (Box2 wr w.heap.size (.int .i64 n) (.slice a es.length c)) ∧ BRw wr (w.heap.size + 1) n o ∧ Hid (RRel es o0 j o)) (fun i _ => es.length - (intOf i).toNat)
      case atStart => exact ⟨0, o0, Nat.zero_le _, rfl, B0, BX, HROW0.out, hid (RRel.start hrr.out.snd)⟩
      case round =>
        obtain ⟨j, o, hj, rfl, B, bxx, hrow, hrel2⟩ := hrel
        have HROW := hid hrow
        clear p0 p1 p2 p3 p4
        by_cases hlt : j < es.length
        · obtain ⟨b, ob, rfl, _, hb, a1, c1, a2, c2, ⟨g0, g1, g2, g3, g4, g5, g6, g7, g8, g9⟩, _⟩ := SeqIn.at (EdsIn.below HE.out B.out) hlt
          have HST := hid (RRel.step hrel2.out hlt)
          obtain ⟨s1, s2, s3, s4⟩ := HK.out _ (List.getElem_mem hlt)
          have hlt2 : (j : Int) < (es.length : Int) := by omega
          generalize es[j] = e at *
          obtain ⟨sn, hsn⟩ := Int.eq_ofNat_of_zero_le s1
          obtain ⟨dn, hdn⟩ := Int.eq_ofNat_of_zero_le s3
          rw [hsn] at g0
          rw [hdn] at g1
          have HST2 := HST.out
          rw [hsn, hdn] at HST2
          simp only [Int.ofNat_eq_natCast, Int.toNat_natCast] at HST2
          have HST3 := hid HST2
          have hs5 : sn < n := by omega
          have hd5 : dn < n := by omega
          have hs6 : (sn : Int) < (n : Int) := by omega
          have hd6 : (dn : Int) < (n : Int) := by omega
          have r1 : wr.cell? ⟨w.heap.size + 1, sn, none⟩ = some (.bool (o sn)) := hrow.2.1 sn hs5
          have r2 : wr.cell? ⟨w.heap.size + 1, dn, none⟩ = some (.bool (o dn)) := hrow.2.1 dn hd5
          have rz := hrow.2.2
          have rl := hrow.1
          have HBX2 := hid (box2_next (below_alloc wr (.cells #[.int .i64 (sn : Int), .int .i64 (dn : Int), .int .i64 e.guard.kind, .int .i64 e.guard.val, .slice a1 e.guard.kids.length c1, .int .i64 e.var, .int .i64 e.val.kind, .int .i64 e.val.val, .slice a2 e.val.kids.length c2, .int .i64 e.sync] 27)) bxx.out)
          have y7 : w.heap.size < wr.heap.size := by omega
          clear HST HST2 hsn hdn s1 s2 s3 s4 hrow
          generalize o sn = x1 at *
          generalize o dn = x2 at *
          cases x2
          all_goals
            go_wp2_with fail
            refine wp_region_tail (C := fun wZ => ∃ xZ, wZ = World.over _ xZ) [0,1,2,3,4,5,6,7,8,9,10,11,12,13] [14,15,16] (16) (by kernel_rfl) (by kernel_rfl) (fun d _ _ _ _ h => by cases d <;> exact h) (bex (Below.refl _ _).drew) ?_; simp only [pick, List.getElem?_cons_succ, List.getElem?_cons_zero]; (repeat (go_big_quiet_step (fail))); refine wpQuiet_nil ?_; simp only [tailW]
            go_wp2_with fail
            refine ⟨bex (below_d (Below.refl _ _)), ?_⟩
            go_wp2_with fail
            refine ⟨bex (below_d (Below.refl _ _)), ?_⟩
            go_wp2_with fail
            go_roundw
            case rel => exact ⟨j + 1, _, by omega, by go_num, hid (below_d ((B.out.setCell (by simp) _).alloc (by simp; omega) _)), hid (box2_next (below_d (below_alloc _ _)) (box2_but (But.set _ _ _ _) (by omega) bxx.out)), brw_next (below_d (below_alloc _ _)) (brw_upd HROW.out hd5 _), by first | exact HST3 | simpa using HST3⟩
            case measure => simp [intOf]; omega
        · have e : j = es.length := by omega
          subst e
          have HRR := hid (RRound.next hrr.out hrel2.out)
          have hlt2 : ¬ ((es.length : Int) < (es.length : Int)) := by omega
          clear hrow
          go_wp2_with fail
          go_roundw
          case rel => exact ⟨r + 1, o, by omega, by go_num, B, bxx.out, HROW.out, HRR⟩
          case measure => simp [intOf]; omega
    · have e : r = es.length := by omega
      subst e
      have HF := hid (HNEW.out wr _ _ (by omega) hrow0 (RRound.done hrr.out))
      have hlt2 : ¬ ((es.length : Int) < (es.length : Int)) := by omega
      clear hrow0
      go_wp2_with fail
      go_ret
      exact RetP.mk HF.out B0.out
end Sys
end Go.Proofs.Ytffadknollkgiaa
