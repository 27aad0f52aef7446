/- SystemValid, of the reference and of the program: what each returns, for every system. Conditions: those of each contract. -/
import Derived.Test.YtchlpeflfiecdaaSysA
import Derived.Test.YtchlpeflfiecdaaEdgeSpecV
import Derived.Test.YtchlpeflfiecdaaEdgeImplV
import Derived.Test.YtchlpeflfiecdaaValsV
namespace Go.Proofs.Ytchlpeflfiecdaa
open Go.RowKit
namespace Sys

/-- a valid process; a valid system -/
def okP (q : Pr) : Bool := q.edges.all (fun e => Edge.okB e q.locs) && (decide (1 ≤ q.locs) && (decide (q.locs ≤ 4) && decide (q.edges.length ≤ 6)))
def okSy (s : Sy) : Bool := s.procs.all okP && (Expr.okVals s.init && (decide (1 ≤ s.procs.length) && decide (s.procs.length ≤ 3)))

set_option maxRecDepth 100000 in
set_option maxHeartbeats 2000000 in
theorem specP_any (q : Pr) (w : World) (x : Value) (hx : PrIn Any w q x) : Calls Try.prog 59 #[x] w (Ret (.bool (okP q)) w) := by
  obtain ⟨a, c, rfl, hi, hc, hc2, he⟩ := hx
  have HE := hid he
  unfold i64 at hi
  unfold maxLen at hc2
  have E := hid (show okP q = (q.edges.all (fun e => Edge.okB e q.locs) && (decide (1 ≤ q.locs) && (decide (q.locs ≤ 4) && decide (q.edges.length ≤ 6)))) from rfl)
  generalize okP q = r at *
  clear he
  go_enter Try.func59, Try.ntmps59
  go_wp2_with fail
  go_loopw [3] (fun i wr => ∃ j : Nat, j ≤ q.edges.length ∧ i = .int .i64 j ∧ Hid (Below w.heap.size w wr) ∧ Box2 wr w.heap.size (.int .i64 q.locs) (.slice a q.edges.length c) ∧ Hid ((q.edges.drop j).all (fun e => Edge.okB e q.locs) = q.edges.all (fun e => Edge.okB e q.locs))) (fun i _ => q.edges.length - (intOf i).toNat)
  case atStart => exact ⟨0, Nat.zero_le _, rfl, hid (below_alloc _ _), box2_at rfl, hid rfl⟩
  case round =>
    obtain ⟨j, hj, rfl, B, bx, hr⟩ := hrel
    have BX := hid bx
    obtain ⟨p0, p1, p2, p3, p4⟩ := bx
    by_cases hlt : j < q.edges.length
    · obtain ⟨b, o, rfl, _, hb, a1, c1, a2, c2, ⟨g0, g1, g2, g3, g4, g5, g6, g7, g8, g9⟩, hT⟩ := SeqIn.at (EdsIn.below HE.out B.out) hlt
      have HT := hid hT
      have HR2 := hr.out
      rw [List.drop_eq_getElem_cons hlt, List.all_cons] at HR2
      have HR := hid HR2
      clear HR2 hr hT
      have hlt2 : (j : Int) < (q.edges.length : Int) := by omega
      generalize q.edges[j] = e at *
      have HC := hid (fun (W : World) (M : Below wr.heap.size wr W) => Edge.specEdge_any e q.locs W _ (EdIn_below M HT.out))
      cases hq : Edge.okB e q.locs with
      | true =>
        have HR3 := HR.out
        rw [hq, Bool.true_and] at HR3
        have HR4 := hid HR3
        rw [hq] at HC
        clear HR3 hq HR
        go_wp2_with fail
        refine wp_region_over (by kernel_rfl) (by kernel_rfl) ?_; (repeat (go_big_quiet_step ((go_at_call 13; exact Calls.over (HC.out _ (over_below _ _)))))); refine wpQuiet_nil ?_; rintro _ ⟨xq, rfl⟩
        have B2 := hid (below_next B.out (over_below wr xq))
        replace BX := hid (box2_next (over_below wr xq) BX.out)
        clear p0 p1 p2 p3 p4 g0 g1 g2 g3 g4 g5 g6 g7 g8 g9
        go_wp2_with fail
        go_roundw
        case rel => exact ⟨j + 1, by omega, by go_num, B2, BX.out, HR4⟩
        case measure => simp [intOf]; omega
      | false =>
        have HR3 := HR.out
        rw [hq, Bool.false_and] at HR3
        have E2 := hid (show r = false by rw [E.out, ← HR3]; rfl)
        rw [hq] at HC
        clear HR3 hq HR
        go_wp2_with fail
        refine wp_region_over (by kernel_rfl) (by kernel_rfl) ?_; (repeat (go_big_quiet_step ((go_at_call 13; exact Calls.over (HC.out _ (over_below _ _)))))); refine wpQuiet_nil ?_; rintro _ ⟨xq, rfl⟩
        have B2 := hid (below_next B.out (over_below wr xq))
        clear p0 p1 p2 p3 p4 g0 g1 g2 g3 g4 g5 g6 g7 g8 g9
        go_wp2_with fail
        go_ret
        exact Ret.mk (bool_val E2.out.symm) B2.out
    · have HR2 := hr.out
      rw [List.drop_of_length_le (by omega), List.all_nil] at HR2
      have hlt2 : ¬ ((j : Int) < (q.edges.length : Int)) := by omega
      have E2 := hid (show r = (decide (1 ≤ q.locs) && (decide (q.locs ≤ 4) && decide (q.edges.length ≤ 6))) by rw [E.out, ← HR2, Bool.true_and])
      clear HR2 hr E
      by_cases k1 : q.locs ≥ 1
      · by_cases k2 : q.locs ≤ 4
        · have E3 := hid (show r = decide ((q.edges.length : Int) ≤ 6) by rw [E2.out, decide_eq_true (show 1 ≤ q.locs from k1), decide_eq_true k2]; simp; omega)
          go_wp2_with fail
          go_ret
          exact Ret.mk (bool_val E3.out.symm) B.out
        · have E3 := hid (show r = false by rw [E2.out, decide_eq_false k2]; simp)
          go_wp2_with fail
          go_ret
          exact Ret.mk (bool_val E3.out.symm) B.out
      · have E3 := hid (show r = false by rw [E2.out, decide_eq_false (show ¬ 1 ≤ q.locs from k1)]; simp)
        go_wp2_with fail
        go_ret
        exact Ret.mk (bool_val E3.out.symm) B.out

set_option maxRecDepth 100000 in
set_option maxHeartbeats 2000000 in
theorem specValid_any (s : Sy) (w : World) (x : Value) (hx : SyIn Any w s x) : Calls Try.prog 18 #[x] w (Ret (.bool (okSy s)) w) := by
  obtain ⟨a, c, b, d, rfl, hc, hc2, hi, hd, hd2, hp⟩ := hx
  have HP := hid hp
  have HV := hid (fun (W : World) (M : Below w.heap.size w W) => Expr.specVals_any s.init W a c (hi.below M) hc hc2)
  unfold maxLen at hd2
  have E := hid (show okSy s = (s.procs.all okP && (Expr.okVals s.init && (decide (1 ≤ s.procs.length) && decide (s.procs.length ≤ 3)))) from rfl)
  generalize okSy s = r at *
  generalize Expr.okVals s.init = ov at *
  clear hp hi
  go_enter Try.func18, Try.ntmps18
  go_wp2_with fail
  go_loopw [3] (fun i wr => ∃ j : Nat, j ≤ s.procs.length ∧ i = .int .i64 j ∧ Hid (Below w.heap.size w wr) ∧ Box2 wr w.heap.size (.slice a s.init.length c) (.slice b s.procs.length d) ∧ Hid ((s.procs.drop j).all okP = s.procs.all okP)) (fun i _ => s.procs.length - (intOf i).toNat)
  case atStart => exact ⟨0, Nat.zero_le _, rfl, hid (below_alloc _ _), box2_at rfl, hid rfl⟩
  case round =>
    obtain ⟨j, hj, rfl, B, bx, hr⟩ := hrel
    have BX := hid bx
    obtain ⟨p0, p1, p2, p3, p4⟩ := bx
    by_cases hlt : j < s.procs.length
    · obtain ⟨b', o, rfl, _, hb, a1, c1, ⟨g0, g1⟩, hT⟩ := SeqIn.at (PrsIn.below HP.out B.out) hlt
      have HT := hid hT
      have HR2 := hr.out
      rw [List.drop_eq_getElem_cons hlt, List.all_cons] at HR2
      have HR := hid HR2
      clear HR2 hr hT
      have hlt2 : (j : Int) < (s.procs.length : Int) := by omega
      generalize s.procs[j] = q at *
      have HC := hid (specP_any q wr _ HT.out)
      cases hq : okP q with
      | true =>
        have HR3 := HR.out
        rw [hq, Bool.true_and] at HR3
        have HR4 := hid HR3
        rw [hq] at HC
        clear HR3 hq HR
        go_wp2_with fail
        refine HC.out.mono ?_
        rintro y w2 ⟨rfl, hb2⟩
        have B2 := hid (below_next B.out hb2)
        replace BX := hid (box2_next hb2 BX.out)
        clear p0 p1 p2 p3 p4 g0 g1 hb2
        go_wp2_with fail
        go_roundw
        case rel => exact ⟨j + 1, by omega, by go_num, B2, BX.out, HR4⟩
        case measure => simp [intOf]; omega
      | false =>
        have HR3 := HR.out
        rw [hq, Bool.false_and] at HR3
        have E2 := hid (show r = false by rw [E.out, ← HR3]; rfl)
        rw [hq] at HC
        clear HR3 hq HR
        go_wp2_with fail
        refine HC.out.mono ?_
        rintro y w2 ⟨rfl, hb2⟩
        have B2 := hid (below_next B.out hb2)
        clear p0 p1 p2 p3 p4 g0 g1 hb2
        go_wp2_with fail
        go_ret
        exact Ret.mk (bool_val E2.out.symm) B2.out
    · have HR2 := hr.out
      rw [List.drop_of_length_le (by omega), List.all_nil] at HR2
      have hlt2 : ¬ ((j : Int) < (s.procs.length : Int)) := by omega
      have E2 := hid (show r = (ov && (decide (1 ≤ s.procs.length) && decide (s.procs.length ≤ 3))) by rw [E.out, ← HR2, Bool.true_and])
      clear HR2 hr E
      go_wp2_with fail
      refine (HV.out _ B.out).mono ?_
      rintro y w2 ⟨rfl, hb2⟩
      have B2 := hid (below_next B.out hb2)
      obtain ⟨p0', p1', p2', p3', p4'⟩ := box2_next hb2 BX.out
      clear p0 p1 p2 p3 p4 hb2
      cases ov
      · have E3 := hid (show r = false by rw [E2.out]; rfl)
        go_wp2_with fail
        go_ret
        exact Ret.mk (bool_val E3.out.symm) B2.out
      · by_cases k1 : (s.procs.length : Int) ≥ 1
        · have E3 := hid (show r = decide ((s.procs.length : Int) ≤ 3) by rw [E2.out, decide_eq_true (show 1 ≤ s.procs.length by omega)]; simp; omega)
          go_wp2_with fail
          go_ret
          exact Ret.mk (bool_val E3.out.symm) B2.out
        · have E3 := hid (show r = false by rw [E2.out, decide_eq_false (show ¬ 1 ≤ s.procs.length by omega)]; simp)
          go_wp2_with fail
          go_ret
          exact Ret.mk (bool_val E3.out.symm) B2.out
end Sys
end Go.Proofs.Ytchlpeflfiecdaa
