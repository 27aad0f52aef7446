/- Joined texts (SysVI): contracts and plain laws. Conditions: those of each theorem. -/
import Derived.Test.YtffadknollkgiaaJS11
set_option linter.unusedVariables false
set_option linter.unusedSimpArgs false
namespace Go.Proofs.Ytffadknollkgiaa
open Go.RowKit
set_option linter.unusedVariables false
namespace Sys

set_option maxHeartbeats 1000000 in
theorem vclo_any (e : Ed) (n : Int) (w : World) (x : Value) (D : Nat) (z : Value) (hx : EdIn Any w e x) (hD : Box2 w D (.int .i64 n) z) : Calls Try.prog 50 #[x, .pointer (some ⟨D, 0, none⟩)] w (Ret (.bool (!Edge.okB e n)) w) := by
  have HX := hid hx
  have HE := hid (fun (W : World) (M : Below w.heap.size w W) => Edge.edge_any e n W x (EdIn_below M HX.out))
  obtain ⟨a, c, a', c', rfl, _⟩ := hx
  obtain ⟨p0, p1, p2, p3, p4⟩ := hD
  generalize Edge.okB e n = r at *
  go_enter Try.func50, Try.ntmps50
  go_wp2_with fail
  refine (HE.out _ (by repeat (first | exact Below.refl _ _ | assumption | refine below_a ?_ _ | refine below_o ?_ _ | refine below_d ?_ | refine below_n ?_ _ | refine below_s ?_ (by first | (simp; done) | (simp; omega) | omega) _))).mono ?_
  rintro y w1 ⟨rfl, hb⟩
  go_wp2_with fail
  go_ret
  exact Ret.mk rfl (below_next (by repeat (first | exact Below.refl _ _ | assumption | refine below_a ?_ _ | refine below_o ?_ _ | refine below_d ?_ | refine below_n ?_ _ | refine below_s ?_ (by first | (simp; done) | (simp; omega) | omega) _)) hb)

def IxE (bad : Bool) (w : World) (e : Ending) (w' : World) : Prop := ∃ i : Int, e = .returned (.int .i64 i) ∧ decide (0 ≤ i) = bad ∧ Below w.heap.size w w'

set_option maxRecDepth 100000 in
set_option maxHeartbeats 2000000 in
theorem vix_any (l : List Ed) (n : Int) (w : World) (a : Option Addr) (c D : Nat) (z : Value) (hl : EdsIn Any w l a) (hc : l.length ≤ c) (hc2 : c ≤ maxLen) (hD : Box2 w D (.int .i64 n) z) :
    Calls Try.prog 76 #[.slice a l.length c, .func (.func 50) #[] #[.pointer (some ⟨D, 0, none⟩)]] w (IxE (!l.all (fun e => Edge.okB e n)) w) := by
  unfold maxLen at hc2
  have HL := hid hl
  have HD := hid hD
  clear hl hD
  go_enter Try.func76, Try.ntmps76
  go_wp2_with fail
  go_loopw [5, 8] (fun _ i wr => ∃ j : Nat, j ≤ l.length ∧ i = .int .i64 j ∧ Hid (Below w.heap.size w wr) ∧ Hid ((l.drop j).all (fun e => Edge.okB e n) = l.all (fun e => Edge.okB e n))) (fun _ i _ => l.length - (intOf i).toNat)
  case atStart => exact ⟨0, Nat.zero_le _, rfl, hid (Below.refl _ _), hid rfl⟩
  case round =>
    obtain ⟨j, hj, rfl, B, hr⟩ := hrel
    by_cases hlt : j < l.length
    · obtain ⟨b, o, rfl, _, hb, a1, c1, a2, c2, ⟨g0, g1, g2, g3, g4, g5, g6, g7, g8, g9⟩, hT⟩ := SeqIn.at (EdsIn.below HL.out B.out) hlt
      have HR2 := hr.out
      rw [List.drop_eq_getElem_cons hlt, List.all_cons] at HR2
      have HR := hid HR2; clear HR2 hr
      have hlt2 : (j : Int) < (l.length : Int) := by omega
      generalize l[j] = e at *
      have HC := hid (vclo_any e n wr _ D z hT (box2_next B.out HD.out))
      clear hT
      go_wp2_with fail
      refine HC.out.mono ?_
      rintro y w2 ⟨rfl, hb2⟩
      have B2 := hid (below_next B.out hb2)
      clear hb2 g0 g1 g2 g3 g4 g5 g6 g7 g8 g9
      cases hq : Edge.okB e n with
      | true =>
        have HR3 := HR.out
        rw [hq, Bool.true_and] at HR3
        have HR4 := hid HR3; clear HR3 hq
        go_wp2_with fail
        go_roundw
        case rel => exact ⟨j + 1, by omega, by go_num, B2, HR4⟩
        case measure => simp [intOf]; omega
      | false =>
        have HR3 := HR.out
        rw [hq, Bool.false_and] at HR3
        have HR4 := hid HR3; clear HR3 hq
        go_wp2_with fail
        go_ret
        exact ⟨j, rfl, by rw [← HR4.out]; simp, B2.out⟩
    · have HR2 := hr.out
      rw [List.drop_of_length_le (by omega), List.all_nil] at HR2
      have HR := hid HR2; clear HR2 hr
      have hlt2 : ¬ ((j : Int) < (l.length : Int)) := by omega
      go_wp2_with fail
      go_ret
      exact ⟨-1, rfl, by rw [← HR.out]; simp, B.out⟩

set_option maxHeartbeats 1000000 in
theorem vcf_any (l : List Ed) (n : Int) (w : World) (a : Option Addr) (c D : Nat) (z : Value) (hl : EdsIn Any w l a) (hc : l.length ≤ c) (hc2 : c ≤ maxLen) (hD : Box2 w D (.int .i64 n) z) :
    Calls Try.prog 49 #[.slice a l.length c, .func (.func 50) #[] #[.pointer (some ⟨D, 0, none⟩)]] w (Ret (.bool (!l.all (fun e => Edge.okB e n))) w) := by
  have HH := hid (vix_any l n w a c D z hl hc hc2 hD)
  clear hl hD
  go_enter Try.func49, Try.ntmps49
  go_wp2_with fail
  refine HH.out.mono ?_
  rintro e w2 ⟨i, rfl, hi, hb⟩
  have HI := hid hi; clear hi
  go_wp2_with fail
  go_ret
  exact Ret.mk (bool_val HI.out) hb

set_option maxRecDepth 100000 in
set_option maxHeartbeats 4000000 in
theorem valid_any (s : Sy) (w : World) (x : Value) (hx : SyIn Any w s x) : Calls Try.prog 15 #[x] w (Ret (.bool (okSy s)) w) := by
  obtain ⟨a, c, b, d, rfl, hc, hc2, hi, hd, hd2, hp⟩ := hx
  have HP := hid hp
  have HV := hid (fun (W : World) (M : Below w.heap.size w W) => Expr.vals_any s.init W a c (hi.below M) hc hc2)
  unfold maxLen at hd2
  have E := hid (show okSy s = (s.procs.all okP && (Expr.okVals s.init && (decide (1 ≤ s.procs.length) && decide (s.procs.length ≤ 3)))) from rfl)
  generalize okSy s = r at *
  generalize Expr.okVals s.init = ov at *
  clear hp hi
  cases ov with
  | false =>
    have E2 := hid (show r = false by rw [E.out]; simp)
    go_enter Try.func15, Try.ntmps15
    go_wp2_with fail
    refine (HV.out _ (by repeat (first | exact Below.refl _ _ | assumption | refine below_a ?_ _ | refine below_o ?_ _ | refine below_d ?_ | refine below_n ?_ _ | refine below_s ?_ (by first | (simp; done) | (simp; omega) | omega) _))).mono ?_
    rintro y w1 ⟨rfl, hb⟩
    go_wp2_with fail
    go_ret
    exact Ret.mk (bool_val E2.out.symm) (below_next (below_alloc _ _) hb)
  | true =>
    by_cases k0 : 1 ≤ s.procs.length ∧ s.procs.length ≤ 3
    · have E2 := hid (show r = s.procs.all okP by rw [E.out, decide_eq_true k0.1, decide_eq_true k0.2]; simp)
      have k1 : (1 : Int) ≤ (s.procs.length : Int) ∧ (s.procs.length : Int) ≤ 3 := by omega
      have HIN := hid (fun (W : World) => in_yes (a := (s.procs.length : Int)) (b := 1) (c := 3) k1 W)
      clear k0 E
      go_enter Try.func15, Try.ntmps15
      go_wp2_with fail
      refine (HV.out _ (by repeat (first | exact Below.refl _ _ | assumption | refine below_a ?_ _ | refine below_o ?_ _ | refine below_d ?_ | refine below_n ?_ _ | refine below_s ?_ (by first | (simp; done) | (simp; omega) | omega) _))).mono ?_
      rintro y w1 ⟨rfl, hb⟩
      have BX := hid (box2_next hb (box2_at (w := w) (a := .slice a s.init.length c) (b := .slice b s.procs.length d) rfl))
      have B1 := hid (below_next (below_alloc _ _) hb)
      obtain ⟨p0, p1, p2, _⟩ := id BX.out
      clear hb
      go_wp2_with fail
      refine (HIN.out _).mono ?_
      rintro y w2 ⟨rfl, rfl⟩
      go_wp2_with fail
      go_loopw [19] (fun i wr => ∃ j : Nat, j ≤ s.procs.length ∧ i = .int .i64 j ∧ Hid (Below w.heap.size w wr) ∧ Hid ((s.procs.drop j).all okP = s.procs.all okP)) (fun i _ => s.procs.length - (intOf i).toNat)
      case atStart => exact ⟨0, Nat.zero_le _, rfl, B1, hid rfl⟩
      case round =>
        obtain ⟨j, hj, rfl, B, hr⟩ := hrel
        by_cases hlt : j < s.procs.length
        · obtain ⟨b', o, rfl, _, hb, a1, c1, ⟨g0, g1⟩, hT⟩ := SeqIn.at (PrsIn.below HP.out B.out) hlt
          have HT := hid hT
          have HR2 := hr.out
          rw [List.drop_eq_getElem_cons hlt, List.all_cons] at HR2
          have HR := hid HR2
          clear HR2 hr hT
          have hlt2 : (j : Int) < (s.procs.length : Int) := by omega
          generalize s.procs[j] = q at *
          have EQ := hid (show okP q = (q.edges.all (fun e => Edge.okB e q.locs) && (decide (1 ≤ q.locs) && (decide (q.locs ≤ 4) && decide (q.edges.length ≤ 6)))) from rfl)
          obtain ⟨_, _, hsh, hi1, hc1, hc3, he1⟩ := HT.out
          simp only [Value.agg.injEq, Array.mk.injEq, List.cons.injEq, Value.slice.injEq, and_true, true_and] at hsh
          obtain ⟨rfl, rfl⟩ := hsh
          have HE1 := hid he1
          have hc4 := hc3
          unfold maxLen at hc4
          have HCF := hid (fun (W : World) (M : Below wr.heap.size wr W) (D : Nat) (z : Value) (hD : Box2 W D (.int .i64 q.locs) z) => vcf_any q.edges q.locs W a1 c1 D z (HE1.out.below M) hc1 hc3 hD)
          clear he1 hc3
          generalize q.edges.all (fun e => Edge.okB e q.locs) = al at *
          by_cases k2 : 1 ≤ q.locs ∧ q.locs ≤ 4
          · have HIN2 := hid (fun (W : World) => in_yes (a := q.locs) (b := 1) (c := 4) k2 W)
            by_cases k3 : q.edges.length ≤ 6
            · have k4 : ¬ ((q.edges.length : Int) > 6) := by omega
              have EQ2 := hid (show okP q = al by rw [EQ.out, decide_eq_true k2.1, decide_eq_true k2.2, decide_eq_true k3]; simp)
              clear k2 EQ
              go_wp2_with fail
              refine (HIN2.out _).mono ?_
              rintro y w3 ⟨rfl, rfl⟩
              go_wp2_with fail
              refine (HCF.out _ (below_alloc _ _) _ _ (box2_at rfl)).mono ?_
              rintro y w4 ⟨rfl, hb4⟩
              have B4 := hid (below_next (below_next B.out (below_alloc _ _)) hb4)
              clear hb4
              cases al with
              | true =>
                have HR3 := HR.out
                rw [EQ2.out, Bool.true_and] at HR3
                have HR4 := hid HR3
                clear HR3
                go_wp2_with fail
                go_roundw
                case rel => exact ⟨j + 1, by omega, by go_num, B4, HR4⟩
                case measure => simp [intOf]; omega
              | false =>
                have E3 := hid (show r = false by rw [E2.out, ← HR.out, EQ2.out]; rfl)
                go_wp2_with fail
                go_ret
                exact Ret.mk (bool_val E3.out.symm) B4.out
            · have k4 : (q.edges.length : Int) > 6 := by omega
              have E3 := hid (show r = false by rw [E2.out, ← HR.out, EQ.out, decide_eq_false k3]; simp)
              clear k2 EQ
              go_wp2_with fail
              refine (HIN2.out _).mono ?_
              rintro y w3 ⟨rfl, rfl⟩
              go_wp2_with fail
              go_ret
              exact Ret.mk (bool_val E3.out.symm) (below_next B.out (below_alloc _ _))
          · have HIN2 := hid (fun (W : World) => in_no (a := q.locs) (b := 1) (c := 4) k2 W)
            have E3 := hid (show r = false by
              rw [E2.out, ← HR.out, EQ.out]
              have : decide (1 ≤ q.locs) = false ∨ decide (q.locs ≤ 4) = false := by
                simp only [decide_eq_false_iff_not]; omega
              rcases this with h | h <;> rw [h] <;> simp)
            clear k2 EQ
            go_wp2_with fail
            refine (HIN2.out _).mono ?_
            rintro y w3 ⟨rfl, rfl⟩
            go_wp2_with fail
            go_ret
            exact Ret.mk (bool_val E3.out.symm) (below_next B.out (below_alloc _ _))
        · have HR2 := hr.out
          rw [List.drop_of_length_le (by omega), List.all_nil] at HR2
          have hlt2 : ¬ ((j : Int) < (s.procs.length : Int)) := by omega
          have E3 := hid (show r = true by rw [E2.out, ← HR2])
          clear HR2 hr
          go_wp2_with fail
          go_ret
          exact Ret.mk (bool_val E3.out.symm) B.out
    · have E2 := hid (show r = false by
        rw [E.out]
        have : decide (1 ≤ s.procs.length) = false ∨ decide (s.procs.length ≤ 3) = false := by
          simp only [decide_eq_false_iff_not]; omega
        rcases this with h | h <;> rw [h] <;> simp)
      have k1 : ¬ ((1 : Int) ≤ (s.procs.length : Int) ∧ (s.procs.length : Int) ≤ 3) := by omega
      have HIN := hid (fun (W : World) => in_no (a := (s.procs.length : Int)) (b := 1) (c := 3) k1 W)
      clear k0 k1 E
      go_enter Try.func15, Try.ntmps15
      go_wp2_with fail
      refine (HV.out _ (by repeat (first | exact Below.refl _ _ | assumption | refine below_a ?_ _ | refine below_o ?_ _ | refine below_d ?_ | refine below_n ?_ _ | refine below_s ?_ (by first | (simp; done) | (simp; omega) | omega) _))).mono ?_
      rintro y w1 ⟨rfl, hb⟩
      obtain ⟨p0, p1, p2, _⟩ := box2_next hb (box2_at (w := w) (a := .slice a s.init.length c) (b := .slice b s.procs.length d) rfl)
      have B1 := hid (below_next (below_alloc _ _) hb)
      clear hb
      go_wp2_with fail
      refine (HIN.out _).mono ?_
      rintro y w2 ⟨rfl, rfl⟩
      go_wp2_with fail
      go_ret
      exact Ret.mk (bool_val E2.out.symm) B1.out
end Sys
end Go.Proofs.Ytffadknollkgiaa
