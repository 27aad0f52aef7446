/- StateValid, of the reference and of the program: what each returns, for every system and every state. Conditions: those of each contract. -/
import Derived.Test.YtffadknollkgiaaJS12
import Derived.Test.YtffadknollkgiaazStatePair
set_option linter.unusedVariables false
set_option linter.unusedSimpArgs false
namespace Go.Proofs.Ytffadknollkgiaa
open Go.RowKit
set_option linter.unusedVariables false
namespace State

/-- is each location one of its process -/
def locsOk : List Int → List Pr → Bool
  | l :: ls, q :: qs => decide (0 ≤ l ∧ l < q.locs) && locsOk ls qs
  | _, _ => true
/-- has a system a state -/
def hasB (s : Sy) (ls vs : List Int) : Bool := decide (ls.length = s.procs.length) && (Expr.okVals vs && locsOk ls s.procs)
def okSt (s : Sy) (ls vs : List Int) : Bool := Sys.okSy s && hasB s ls vs
theorem locsOk_drop {ls : List Int} {qs : List Pr} {j : Nat} (h1 : j < ls.length) (h2 : j < qs.length) : locsOk (ls.drop j) (qs.drop j) = (decide (0 ≤ ls[j] ∧ ls[j] < qs[j].locs) && locsOk (ls.drop (j + 1)) (qs.drop (j + 1))) := by
  rw [List.drop_eq_getElem_cons h1, List.drop_eq_getElem_cons h2]; rfl

set_option maxRecDepth 100000 in
set_option maxHeartbeats 4000000 in
theorem specState_any (s : Sy) (ls vs : List Int) (w : World) (x y : Value) (hx : SyIn Any w s x) (hy : PairIn Any w ls vs y) : Calls Try.prog 37 #[x, y] w (Ret (.bool (okSt s ls vs)) w) := by
  have HX := hid hx
  have HV := hid (fun (W : World) (M : Below w.heap.size w W) => Sys.specValid_any s W x (HX.out.below M))
  obtain ⟨a, c, b, d, rfl, hc, hc2, hi, hd, hd2, hp⟩ := hx
  obtain ⟨a', b', c', d', rfl, hl, hv, hlc, hlc2, hvc, hvc2⟩ := hy
  have HP := hid hp
  have HL := hid hl
  have HVV := hid (fun (W : World) (M : Below w.heap.size w W) => Expr.specVals_any vs W b' d' (hv.below M) hvc hvc2)
  unfold maxLen at hd2 hlc2
  have E := hid (show okSt s ls vs = (Sys.okSy s && (decide (ls.length = s.procs.length) && (Expr.okVals vs && locsOk ls s.procs))) from rfl)
  generalize okSt s ls vs = r at *
  generalize Sys.okSy s = os at *
  generalize Expr.okVals vs = ov at *
  clear hp hl hv hi
  cases os with
  | false =>
    have E2 := hid (show r = false by rw [E.out]; rfl)
    go_enter Try.func37, Try.ntmps37
    go_wp2_with fail
    refine (HV.out _ (by repeat (first | exact Below.refl _ _ | assumption | refine below_a ?_ _ | refine below_o ?_ _ | refine below_d ?_ | refine below_n ?_ _ | refine below_s ?_ (by first | (simp; done) | (simp; omega) | omega) _))).mono ?_
    rintro e w1 ⟨rfl, hb⟩
    go_wp2_with fail
    go_ret
    exact Ret.mk (bool_val E2.out.symm) (below_next (by repeat (first | exact Below.refl _ _ | assumption | refine below_a ?_ _ | refine below_o ?_ _ | refine below_d ?_ | refine below_n ?_ _ | refine below_s ?_ (by first | (simp; done) | (simp; omega) | omega) _)) hb)
  | true =>
    by_cases k1 : ls.length = s.procs.length
    · have f1 : ((ls.length : Int) != (s.procs.length : Int)) = false := by rw [bne_eq_false_iff_eq]; omega
      have k2 : ls.length ≤ s.procs.length := by omega
      have E2 := hid (show r = (ov && locsOk ls s.procs) by rw [E.out, decide_eq_true k1]; simp)
      clear k1 E
      go_enter Try.func37, Try.ntmps37
      go_wp2_with fail
      refine (HV.out _ (by repeat (first | exact Below.refl _ _ | assumption | refine below_a ?_ _ | refine below_o ?_ _ | refine below_d ?_ | refine below_n ?_ _ | refine below_s ?_ (by first | (simp; done) | (simp; omega) | omega) _))).mono ?_
      rintro e w1 ⟨rfl, hb⟩
      have X := hid (Sys.box2_next hb (Sys.box2_next (below_alloc _ _) (Sys.box2_at (w := w) (a := .slice a s.init.length c) (b := .slice b s.procs.length d) rfl)))
      have Y := hid (Sys.box2_next hb (Sys.box2_at (w := w.alloc _) (B := w.heap.size + 1) (a := .slice a' ls.length c') (b := .slice b' vs.length d') (t := 50) (by simp)))
      have B1 := hid (below_next (show Below w.heap.size w _ from below_next (below_alloc _ _) (below_alloc _ _)) hb)
      clear hb
      obtain ⟨p0, p1, p2, _⟩ := id X.out
      obtain ⟨q0, q1, q2, _⟩ := id Y.out
      go_wp2_with fail
      refine (HVV.out _ B1.out).mono ?_
      rintro e w2 ⟨rfl, hb⟩
      replace X := hid (Sys.box2_next hb X.out)
      replace Y := hid (Sys.box2_next hb Y.out)
      have B2 := hid (below_next B1.out hb)
      clear hb p0 p1 p2 q0 q1 q2
      cases ov with
      | false =>
        have E3 := hid (show r = false by rw [E2.out]; rfl)
        go_wp2_with fail
        go_ret
        exact Ret.mk (bool_val E3.out.symm) B2.out
      | true =>
        obtain ⟨q0, q1, q2, _⟩ := id Y.out
        go_wp2_with fail
        go_loopw [5] (fun i wr => ∃ j : Nat, j ≤ ls.length ∧ i = .int .i64 j ∧ Hid (Below w.heap.size w wr) ∧ Sys.Box2 wr w.heap.size (.slice a s.init.length c) (.slice b s.procs.length d) ∧ Sys.Box2 wr (w.heap.size + 1) (.slice a' ls.length c') (.slice b' vs.length d') ∧ Hid (locsOk (ls.drop j) (s.procs.drop j) = locsOk ls s.procs)) (fun i _ => ls.length - (intOf i).toNat)
        case atStart => exact ⟨0, Nat.zero_le _, rfl, B2, X.out, Y.out, hid rfl⟩
        case round =>
          obtain ⟨j, hj, rfl, B, bx, bY, hr⟩ := hrel
          have BX := hid bx
          have BYY := hid bY
          obtain ⟨p0, p1, p2, p3, p4⟩ := bx
          obtain ⟨r0, r1, r2, r3, r4⟩ := bY
          clear q0 q1 q2
          by_cases hlt : j < ls.length
          · have hlt2 : j < s.procs.length := by omega
            obtain ⟨bl, ol, rfl, hbl, _, g0, gi⟩ := ints_at HL.out B.out hlt
            obtain ⟨bq, oq, rfl, _, hbq, a1, c1, ⟨h0, h1⟩, _, _, _, hqi, _⟩ := SeqIn.at (PrsIn.below HP.out B.out) hlt2
            have HR := hid (locsOk_drop hlt hlt2)
            have hj2 : (j : Int) < (ls.length : Int) := by omega
            have hj3 : (j : Int) < (s.procs.length : Int) := by omega
            generalize ls[j] = z at *
            generalize s.procs[j].locs = m at *
            unfold i64 at gi hqi
            by_cases z0 : z < 0
            · have E3 := hid (show r = false by rw [E2.out, ← hr.out, HR.out, decide_eq_false (show ¬ (0 ≤ z ∧ z < m) by omega)]; simp)
              have d1 : decide (z < 0) = true := decide_eq_true z0
              go_wp2_with fail
              refine wp_region_over (by kernel_rfl) (by kernel_rfl) ?_; (repeat (go_big_quiet_step ((fail)))); refine wpQuiet_nil ?_; rintro _ ⟨xq, rfl⟩
              have BF := hid (below_next B.out (over_below wr xq))
              clear p0 p1 p2 p3 p4 r0 r1 r2 r3 r4 g0 h0 h1
              go_wp2_with fail
              go_ret
              exact Ret.mk (bool_val E3.out.symm) BF.out
            · have d1 : decide (z < 0) = false := decide_eq_false z0
              by_cases z1 : z ≥ m
              · have E3 := hid (show r = false by rw [E2.out, ← hr.out, HR.out, decide_eq_false (show ¬ (0 ≤ z ∧ z < m) by omega)]; simp)
                go_wp2_with fail
                refine wp_region_over (by kernel_rfl) (by kernel_rfl) ?_; (repeat (go_big_quiet_step ((fail)))); refine wpQuiet_nil ?_; rintro _ ⟨xq, rfl⟩
                have BF := hid (below_next B.out (over_below wr xq))
                clear p0 p1 p2 p3 p4 r0 r1 r2 r3 r4 g0 h0 h1
                go_wp2_with fail
                go_ret
                exact Ret.mk (bool_val E3.out.symm) BF.out
              · have HR3 := hid (show locsOk (ls.drop (j + 1)) (s.procs.drop (j + 1)) = locsOk ls s.procs by rw [← hr.out, HR.out, decide_eq_true (show 0 ≤ z ∧ z < m by omega), Bool.true_and])
                go_wp2_with fail
                refine wp_region_over (by kernel_rfl) (by kernel_rfl) ?_; (repeat (go_big_quiet_step ((fail)))); refine wpQuiet_nil ?_; rintro _ ⟨xq, rfl⟩
                have BF := hid (below_next B.out (over_below wr xq))
                replace BX := hid (Sys.box2_next (over_below wr xq) BX.out)
                replace BYY := hid (Sys.box2_next (over_below wr xq) BYY.out)
                clear p0 p1 p2 p3 p4 r0 r1 r2 r3 r4 g0 h0 h1
                go_wp2_with fail
                go_roundw
                case rel => exact ⟨j + 1, by omega, by go_num, BF, BX.out, BYY.out, HR3⟩
                case measure => simp [intOf]; omega
          · have E3 := hid (show r = true by rw [E2.out, ← hr.out, List.drop_of_length_le (by omega)]; simp [locsOk])
            have hj2 : ¬ ((j : Int) < (ls.length : Int)) := by omega
            go_wp2_with fail
            go_ret
            exact Ret.mk (bool_val E3.out.symm) B.out
    · have f1 : ((ls.length : Int) != (s.procs.length : Int)) = true := by rw [bne_iff_ne]; omega
      have E2 := hid (show r = false by rw [E.out, decide_eq_false k1]; simp)
      clear k1 E
      go_enter Try.func37, Try.ntmps37
      go_wp2_with fail
      refine (HV.out _ (by repeat (first | exact Below.refl _ _ | assumption | refine below_a ?_ _ | refine below_o ?_ _ | refine below_d ?_ | refine below_n ?_ _ | refine below_s ?_ (by first | (simp; done) | (simp; omega) | omega) _))).mono ?_
      rintro e w1 ⟨rfl, hb⟩
      obtain ⟨p0, p1, p2, _⟩ := Sys.box2_next hb (Sys.box2_next (below_alloc _ _) (Sys.box2_at (w := w) (a := .slice a s.init.length c) (b := .slice b s.procs.length d) rfl))
      obtain ⟨q0, q1, q2, _⟩ := Sys.box2_next hb (Sys.box2_at (w := w.alloc _) (B := w.heap.size + 1) (a := .slice a' ls.length c') (b := .slice b' vs.length d') (t := 50) (by simp))
      have B1 := hid (below_next (show Below w.heap.size w _ from below_next (below_alloc _ _) (below_alloc _ _)) hb)
      clear hb
      go_wp2_with fail
      go_ret
      exact Ret.mk (bool_val E2.out.symm) B1.out

set_option maxRecDepth 100000 in
set_option maxHeartbeats 4000000 in
theorem has_any (s : Sy) (ls vs : List Int) (w : World) (x y : Value) (hq : ∀ q, q ∈ s.procs → 1 ≤ q.locs) (hx : SyIn Any w s x) (hy : PairIn Any w ls vs y) : Calls Try.prog 59 #[x, y] w (Ret (.bool (hasB s ls vs)) w) := by
  obtain ⟨a, c, b, d, rfl, hc, hc2, hi, hd, hd2, hp⟩ := hx
  obtain ⟨a', b', c', d', rfl, hl, hv, hlc, hlc2, hvc, hvc2⟩ := hy
  have HP := hid hp
  have HL := hid hl
  have HQ := hid hq
  have HVV := hid (fun (W : World) (M : Below w.heap.size w W) => Expr.vals_any vs W b' d' (hv.below M) hvc hvc2)
  unfold maxLen at hd2 hlc2
  have E := hid (show hasB s ls vs = (decide (ls.length = s.procs.length) && (Expr.okVals vs && locsOk ls s.procs)) from rfl)
  generalize hasB s ls vs = r at *
  generalize Expr.okVals vs = ov at *
  clear hp hl hv hi hq
  by_cases k1 : ls.length = s.procs.length
  · have f1 : ((ls.length : Int) != (s.procs.length : Int)) = false := by rw [bne_eq_false_iff_eq]; omega
    have k2 : ls.length ≤ s.procs.length := by omega
    have E2 := hid (show r = (ov && locsOk ls s.procs) by rw [E.out, decide_eq_true k1]; simp)
    clear k1 E
    go_enter Try.func59, Try.ntmps59
    go_wp2_with fail
    refine (HVV.out _ (by repeat (first | exact Below.refl _ _ | assumption | refine below_a ?_ _ | refine below_o ?_ _ | refine below_d ?_ | refine below_n ?_ _ | refine below_s ?_ (by first | (simp; done) | (simp; omega) | omega) _))).mono ?_
    rintro e w2 ⟨rfl, hb⟩
    have X := hid (Sys.box2_next hb (Sys.box2_next (below_alloc _ _) (Sys.box2_at (w := w) (a := .slice a s.init.length c) (b := .slice b s.procs.length d) rfl)))
    have Y := hid (Sys.box2_next hb (Sys.box2_at (w := w.alloc _) (B := w.heap.size + 1) (a := .slice a' ls.length c') (b := .slice b' vs.length d') (t := 50) (by simp)))
    have B2 := hid (below_next (show Below w.heap.size w _ from below_next (below_alloc _ _) (below_alloc _ _)) hb)
    clear hb
    cases ov with
    | false =>
      have E3 := hid (show r = false by rw [E2.out]; rfl)
      go_wp2_with fail
      go_ret
      exact Ret.mk (bool_val E3.out.symm) B2.out
    | true =>
      obtain ⟨q0, q1, q2, _⟩ := id Y.out
      go_wp2_with fail
      go_loopw [23] (fun i wr => ∃ j : Nat, j ≤ ls.length ∧ i = .int .i64 j ∧ Hid (Below w.heap.size w wr) ∧ Sys.Box2 wr w.heap.size (.slice a s.init.length c) (.slice b s.procs.length d) ∧ Hid (locsOk (ls.drop j) (s.procs.drop j) = locsOk ls s.procs)) (fun i _ => ls.length - (intOf i).toNat)
      case atStart => exact ⟨0, Nat.zero_le _, rfl, B2, X.out, hid rfl⟩
      case round =>
        obtain ⟨j, hj, rfl, B, bx, hr⟩ := hrel
        have BX := hid bx
        obtain ⟨p0, p1, p2, p3, p4⟩ := bx
        clear q0 q1 q2
        by_cases hlt : j < ls.length
        · have hlt2 : j < s.procs.length := by omega
          obtain ⟨bl, ol, rfl, hbl, _, g0, gi⟩ := ints_at HL.out B.out hlt
          obtain ⟨bq, oq, rfl, _, hbq, a1, c1, ⟨h0, h1⟩, _, _, _, hqi, _⟩ := SeqIn.at (PrsIn.below HP.out B.out) hlt2
          have HR := hid (locsOk_drop hlt hlt2)
          have hq1 := HQ.out s.procs[j] (List.getElem_mem hlt2)
          have hj2 : (j : Int) < (ls.length : Int) := by omega
          have hj3 : (j : Int) < (s.procs.length : Int) := by omega
          generalize ls[j] = z at *
          generalize s.procs[j].locs = m at *
          unfold i64 at gi hqi
          have f2 : IntKind.i64.wrap (m - 1) = m - 1 := IntWalk.i64_in _ (by omega)
          by_cases z0 : 0 ≤ z ∧ z ≤ m - 1
          · have HIN := hid (fun (W : World) => in_yes (a := z) (b := 0) (c := m - 1) z0 W)
            have HR3 := hid (show locsOk (ls.drop (j + 1)) (s.procs.drop (j + 1)) = locsOk ls s.procs by rw [← hr.out, HR.out, decide_eq_true (show 0 ≤ z ∧ z < m by omega), Bool.true_and])
            clear z0
            go_wp2_with fail
            refine (HIN.out _).mono ?_
            rintro e w3 ⟨rfl, rfl⟩
            go_wp2_with fail
            go_roundw
            case rel => exact ⟨j + 1, by omega, by go_num, B, BX.out, HR3⟩
            case measure => simp [intOf]; omega
          · have HIN := hid (fun (W : World) => in_no (a := z) (b := 0) (c := m - 1) z0 W)
            have E3 := hid (show r = false by rw [E2.out, ← hr.out, HR.out, decide_eq_false (show ¬ (0 ≤ z ∧ z < m) by omega)]; simp)
            clear z0
            go_wp2_with fail
            refine (HIN.out _).mono ?_
            rintro e w3 ⟨rfl, rfl⟩
            go_wp2_with fail
            go_ret
            exact Ret.mk (bool_val E3.out.symm) B.out
        · have E3 := hid (show r = true by rw [E2.out, ← hr.out, List.drop_of_length_le (by omega)]; simp [locsOk])
          have hj2 : ¬ ((j : Int) < (ls.length : Int)) := by omega
          go_wp2_with fail
          go_ret
          exact Ret.mk (bool_val E3.out.symm) B.out
  · have f1 : ((ls.length : Int) != (s.procs.length : Int)) = true := by rw [bne_iff_ne]; omega
    have E2 := hid (show r = false by rw [E.out, decide_eq_false k1]; simp)
    clear k1 E
    go_enter Try.func59, Try.ntmps59
    go_wp2_with fail
    go_ret
    exact Ret.mk (bool_val E2.out.symm) (by repeat (first | exact Below.refl _ _ | assumption | refine below_a ?_ _ | refine below_o ?_ _ | refine below_d ?_ | refine below_n ?_ _ | refine below_s ?_ (by first | (simp; done) | (simp; omega) | omega) _))

theorem okSy_locs {s : Sy} (h : Sys.okSy s = true) : ∀ q, q ∈ s.procs → 1 ≤ q.locs := fun q hq => by
  rw [Sys.okSy, Bool.and_eq_true, List.all_eq_true] at h
  have := h.1 q hq
  rw [Sys.okP] at this
  simp only [Bool.and_eq_true, decide_eq_true_eq] at this
  exact this.2.1

set_option maxHeartbeats 1000000 in
theorem state_any (s : Sy) (ls vs : List Int) (w : World) (x y : Value) (hx : SyIn Any w s x) (hy : PairIn Any w ls vs y) : Calls Try.prog 28 #[x, y] w (Ret (.bool (okSt s ls vs)) w) := by
  have HX := hid hx
  have HY := hid hy
  have HV := hid (fun (W : World) (M : Below w.heap.size w W) => Sys.valid_any s W x (HX.out.below M))
  have HH := hid (fun (h : Sys.okSy s = true) (W : World) (M : Below w.heap.size w W) => has_any s ls vs W x y (okSy_locs h) (HX.out.below M) (HY.out.below M))
  obtain ⟨a, c, b, d, rfl⟩ := hx.shape
  obtain ⟨a', b', c', d', rfl, _⟩ := hy
  have E := hid (show okSt s ls vs = (Sys.okSy s && hasB s ls vs) from rfl)
  clear hx
  cases ho : Sys.okSy s with
  | false =>
    have E2 := hid (show okSt s ls vs = false by rw [E.out, ho]; rfl)
    rw [ho] at HV
    clear ho HH
    go_enter Try.func28, Try.ntmps28
    go_wp2_with fail
    refine (HV.out _ (by repeat (first | exact Below.refl _ _ | assumption | refine below_a ?_ _ | refine below_o ?_ _ | refine below_d ?_ | refine below_n ?_ _ | refine below_s ?_ (by first | (simp; done) | (simp; omega) | omega) _))).mono ?_
    rintro e w1 ⟨rfl, hb⟩
    go_wp2_with fail
    go_ret
    exact Ret.mk (bool_val E2.out.symm) (below_next (by repeat (first | exact Below.refl _ _ | assumption | refine below_a ?_ _ | refine below_o ?_ _ | refine below_d ?_ | refine below_n ?_ _ | refine below_s ?_ (by first | (simp; done) | (simp; omega) | omega) _)) hb)
  | true =>
    have E2 := hid (show okSt s ls vs = hasB s ls vs by rw [E.out, ho]; rfl)
    have HHH := hid (HH.out ho)
    rw [ho] at HV
    clear ho HH
    generalize hasB s ls vs = r at *
    go_enter Try.func28, Try.ntmps28
    go_wp2_with fail
    refine (HV.out _ (by repeat (first | exact Below.refl _ _ | assumption | refine below_a ?_ _ | refine below_o ?_ _ | refine below_d ?_ | refine below_n ?_ _ | refine below_s ?_ (by first | (simp; done) | (simp; omega) | omega) _))).mono ?_
    rintro e w1 ⟨rfl, hb⟩
    obtain ⟨p0, p1, p2, _⟩ := Sys.box2_next hb (Sys.box2_next (below_alloc _ _) (Sys.box2_at (w := w) (a := .slice a s.init.length c) (b := .slice b s.procs.length d) rfl))
    obtain ⟨q0, q1, q2, _⟩ := Sys.box2_next hb (Sys.box2_at (w := w.alloc _) (B := w.heap.size + 1) (a := .slice a' ls.length c') (b := .slice b' vs.length d') (t := 50) (by simp))
    have B1 := hid (below_next (show Below w.heap.size w _ from below_next (below_alloc _ _) (below_alloc _ _)) hb)
    clear hb
    go_wp2_with fail
    refine (HHH.out _ B1.out).mono ?_
    rintro e w2 ⟨rfl, hb⟩
    cases r
    all_goals
      go_wp2_with fail
      go_ret
      exact Ret.mk (bool_val E2.out.symm) (below_next B1.out hb)
end State
end Go.Proofs.Ytffadknollkgiaa
