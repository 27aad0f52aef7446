/- FnFairness returns true for every argument. Conditions: none. -/
import Derived.Test.YtbeljjalfhogdaaJL7
import Derived.Test.YtbeljjalfhogdaaJL11
import Derived.Test.YtbeljjalfhogdaaJL4
import Derived.Deep.RegionHeld3
import Derived.Deep.DeepCutAuto
import Derived.Deep.CutBlock
namespace Go.Proofs.Ytbeljjalfhogdaa
open Go.RowKit
open Go.Proofs.Ytbeljjalfhogdaa.Lasso
set_option linter.unusedVariables false
set_option linter.unusedSimpArgs false

theorem any_take (f : Int → Bool) (l : List Int) (j : Nat) (h : j < l.length) : (l.take (j + 1)).any f = ((l.take j).any f || f (l.getD j 0)) := by
  rw [List.take_add_one, List.any_append, List.getElem?_eq_getElem h, List.getD_eq_getElem?_getD, List.getElem?_eq_getElem h]
  simp
theorem all_take (f : Int → Bool) (l : List Int) (j : Nat) (h : j < l.length) : (l.take (j + 1)).all f = ((l.take j).all f && f (l.getD j 0)) := by
  rw [List.take_add_one, List.all_append, List.getElem?_eq_getElem h, List.getD_eq_getElem?_getD, List.getElem?_eq_getElem h]
  simp

set_option maxRecDepth 100000 in
set_option maxHeartbeats 4000000 in
theorem walk_FnFairness (w : World) (a : Option Addr) (len cap : Nat) (hb : ByteArg w a len cap) : Calls Try.prog 3 #[.slice a len cap] w (Ret (.bool true) w) := by
  have hcap := hb.2.1
  have hcap1 := hb.1
  unfold maxLen at hcap
  by_cases hlen : len > 1048576
  · have hlen2 : (len : Int) > 1048576 := by omega
    go_enter Try.func3, Try.ntmps3
    go_wp2_with fail
    go_ret
    exact Ret.mk rfl (by repeat (first | exact Below.refl _ _ | assumption | refine below_a ?_ _ | refine below_o ?_ _ | refine below_d ?_ | refine below_n ?_ _ | refine below_s ?_ (by first | (simp; done) | (simp; omega) | omega) _))
  have hlen2 : ¬ ((len : Int) > 1048576) := by omega
  have HB := hid hb
  clear hb
  go_enter Try.func3, Try.ntmps3
  go_wp2_with fail
  refine (Lasso.drawLasso_any _ a len cap HB.out).mono ?_
  rintro e w1 ⟨v, rfl, ⟨s, l, hn, hs1, hl1⟩, B0⟩
  obtain ⟨aS, cS, aL, cL, rfl⟩ := hn.shape
  obtain ⟨hP, hN⟩ := hn.any
  have HS := hid (fun (t : Tr) (W : World) (y : Value) (M : Below w1.heap.size w1 W) (h : TrIn Any W t y) => sat_any s l t W _ y (hP.below M) h hN)
  have HV := hid (fun (W : World) (M : Below w1.heap.size w1 W) => specValid_any s l W _ (hP.below M))
  have HLI := hid (show ∀ W, Below w1.heap.size w1 W → IntsIn Any W aL l ∧ l.length ≤ cL ∧ cL ≤ maxLen from fun W M => by
    obtain ⟨a1, b1, c1, d1, e, _, h2, _, _, h3, h4⟩ := hP
    simp at e
    obtain ⟨⟨rfl, rfl⟩, rfl, rfl⟩ := e
    exact ⟨h2.below M, h3, h4⟩)
  clear hn hP hN HB
  go_upto_region 5 with fail
  refine wp_gen (fun W => Below w1.heap.size w1 W ∧ BoxP W w1.heap.size (.slice aS s.length cS) (.slice aL l.length cL) ∧ Box3 W (w1.heap.size + 1) (.int .i64 2) (.int .i64 0) (.slice none 0 0)) ⟨(by repeat (first | exact Below.refl _ _ | assumption | refine below_a ?_ _ | refine below_o ?_ _ | refine below_d ?_ | refine below_n ?_ _ | refine below_s ?_ (by first | (simp; done) | (simp; omega) | omega) _)), boxp_next (below_alloc _ _) (boxp_at rfl), box3_at (by simp)⟩ ?_
  rintro W0 ⟨M0, P0, Q0⟩
  have HP0 := hid P0
  have HQ0 := hid Q0
  have z0 := Q0.1
  obtain ⟨q0, q1, q2, q3, _⟩ := id Q0
  have z1 : w1.heap.size + 1 < W0.heap.size + 1 := by omega
  have z2 : w1.heap.size + 1 < W0.heap.size + 1 + 1 := by omega
  clear P0 Q0
  go_upto_region 7 with fail
  refine wp_gen (fun W => Below w1.heap.size w1 W ∧ BoxP W w1.heap.size (.slice aS s.length cS) (.slice aL l.length cL) ∧ Box3 W (W0.heap.size + 1) (.int .i64 10) (.int .i64 0) (.slice (some ⟨W0.heap.size, 0, none⟩) 1 1) ∧ Box3 W (W0.heap.size + 1 + 1 + 1) (.int .i64 9) (.int .i64 0) (.slice (some ⟨W0.heap.size + 1 + 1, 0, none⟩) 1 1) ∧
    TrIn Any W (.mk 10 0 [.mk 2 0 []]) (.agg #[.int .i64 10, .int .i64 0, .slice (some ⟨W0.heap.size, 0, none⟩) 1 1]) ∧ TrIn Any W (.mk 9 0 [.mk 2 0 []]) (.agg #[.int .i64 9, .int .i64 0, .slice (some ⟨W0.heap.size + 1 + 1, 0, none⟩) 1 1]))
    ⟨below_next M0 (by repeat (first | exact Below.refl _ _ | assumption | refine below_a ?_ _ | refine below_o ?_ _ | refine below_d ?_ | refine below_n ?_ _ | refine below_s ?_ (by first | (simp; done) | (simp; omega) | omega) _)), boxp_next (by repeat (first | exact Below.refl _ _ | assumption | refine below_a ?_ _ | refine below_o ?_ _ | refine below_d ?_ | refine below_n ?_ _ | refine below_s ?_ (by first | (simp; done) | (simp; omega) | omega) _)) HP0.out, box3_next (below_alloc _ _) (box3_next (below_alloc _ _) (box3_at (by simp))), box3_at (by simp),
      in_box (by unfold i64; omega) (in_leaf _ (by unfold i64; omega) (by unfold i64; omega)) (box3_next (below_alloc _ _) (box3_next (below_alloc _ _) (box3_next (below_alloc _ _) (box3_at rfl)))), in_box (by unfold i64; omega) (in_leaf _ (by unfold i64; omega) (by unfold i64; omega)) (box3_next (below_alloc _ _) (box3_at (by simp)))⟩ ?_
  clear q0 q1 q2 q3 HP0 HQ0
  rintro W1 ⟨M1, P1, A1, O1, TA, TO⟩
  have P := hid P1
  have AA := hid A1
  have TA' := hid TA
  have TO' := hid TO
  have M := hid M1
  obtain ⟨p0, p1, p2, p3, p4⟩ := P1
  obtain ⟨o0, o1, o2, o3, _⟩ := O1
  clear M0 M1 A1 TA TO
  go_wp2_with fail
  have h0 := below_alloc W1 (.cells #[.int .i64 9, .int .i64 0, .slice (some ⟨W0.heap.size + 1 + 1, 0, none⟩) 1 1] 29)
  refine (HS.out (.mk 10 0 [.mk 9 0 [.mk 2 0 []]]) _ _ (below_next M.out h0) (in_box (by unfold i64; omega) (TrIn_below h0 TO'.out) (box3_new ..))).mono ?_
  rintro e w2 ⟨rfl, hb⟩
  replace hb := below_next h0 hb
  replace P := hid (boxp_next hb P.out)
  replace AA := hid (box3_next hb AA.out)
  replace TA' := hid (TrIn_below hb TA'.out)
  replace M := hid (below_next M.out hb)
  clear hb h0 p0 p1 p2 p3 p4 o0 o1 o2 o3 TO' z0 z1 z2
  obtain ⟨p0, p1, p2, p3, p4⟩ := id P.out
  obtain ⟨o0, o1, o2, o3, _⟩ := id AA.out
  go_wp2_with fail
  have h0 := below_alloc w2 (.cells #[.int .i64 10, .int .i64 0, .slice (some ⟨W0.heap.size, 0, none⟩) 1 1] 29)
  refine (HS.out (.mk 9 0 [.mk 10 0 [.mk 2 0 []]]) _ _ (below_next M.out h0) (in_box (by unfold i64; omega) (TrIn_below h0 TA'.out) (box3_new ..))).mono ?_
  rintro e w3 ⟨rfl, hb⟩
  replace hb := below_next h0 hb
  replace P := hid (boxp_next hb P.out)
  replace M := hid (below_next M.out hb)
  clear hb h0 p0 p1 p2 p3 p4 o0 o1 o2 o3 TA' AA HS
  obtain ⟨p0, p1, p2, p3, p4⟩ := id P.out
  cases hok : ok s l with
  | false =>
    rw [(fair0 (t := .mk 10 0 [.mk 9 0 [.mk 2 0 []]]) hok).1, (fair0 (t := .mk 10 0 [.mk 9 0 [.mk 2 0 []]]) hok).2, (fair0 (t := .mk 9 0 [.mk 10 0 [.mk 2 0 []]]) hok).1, (fair0 (t := .mk 9 0 [.mk 10 0 [.mk 2 0 []]]) hok).2]
    rw [hok] at HV
    clear hok
    go_wp2_with fail
    refine (HV.out _ M.out).mono ?_
    rintro e w4 ⟨rfl, hb⟩
    replace P := hid (boxp_next hb P.out)
    replace M := hid (below_next M.out hb)
    clear hb p0 p1 p2 p3 p4
    obtain ⟨p0, p1, p2, p3, p4⟩ := id P.out
    go_wp2_with fail
    refine (HV.out _ M.out).mono ?_
    rintro e w5 ⟨rfl, hb⟩
    replace M := hid (below_next M.out hb)
    clear hb
    go_wp2_with fail
    go_ret
    exact Ret.mk rfl (below_next B0 M.out)
  | true =>
    rw [(fair1 hok).1, (fair1 hok).2, (fair2 hok).1, (fair2 hok).2]
    rw [hok] at HV
    have HL := hid (ok_len hok)
    clear hok
    go_wp2_with fail
    refine (HV.out _ M.out).mono ?_
    rintro e w4 ⟨rfl, hb⟩
    replace P := hid (boxp_next hb P.out)
    replace M := hid (below_next M.out hb)
    clear hb p0 p1 p2 p3 p4 HV
    obtain ⟨hI, hc1, hc2⟩ := HLI.out _ M.out
    have HI := hid hI
    clear hI HLI
    unfold maxLen at hc2
    have HB2 := hid (below_next B0 M.out)
    have HX := hid (And.intro (rfl : l.any oddI = l.any oddI) (rfl : l.all oddI = l.all oddI))
    obtain ⟨A0, hA0⟩ : ∃ A0, A0 = l.any oddI := ⟨_, rfl⟩
    obtain ⟨E0, hE0⟩ : ∃ E0, E0 = l.all oddI := ⟨_, rfl⟩
    rw [← hA0, ← hE0]
    have HA0 := hid hA0
    have HE0 := hid hE0
    clear hA0 hE0 HX
    go_wp2_with fail
    go_loopw [11, 12, 13] (fun sm ev i wr => ∃ (j : Nat) (A E : Bool), j ≤ l.length ∧ sm = .bool A ∧ ev = .bool E ∧ i = .int .i64 j ∧ Hid (Below w4.heap.size w4 wr) ∧ Hid (A = (l.take j).any oddI ∧ E = (l.take j).all oddI)) (fun _ _ i _ => l.length - (intOf i).toNat)
    case atStart => exact ⟨0, _, _, Nat.zero_le _, rfl, rfl, rfl, hid (Below.refl _ _), hid ⟨by simp, by simp⟩⟩
    case round =>
      obtain ⟨j, A, E, hj, rfl, rfl, rfl, B, HAE⟩ := hrel
      obtain ⟨p0, p1, p2, p3, p4⟩ := boxp_next B.out P.out
      by_cases hlt : j < l.length
      · have hlt2 : (j : Int) < (l.length : Int) := by omega
        obtain ⟨b, o, rfl, gb, _, gc, gi⟩ := ints_at HI.out B.out hlt
        have hA := any_take oddI l j hlt
        have hE := all_take oddI l j hlt
        have hg : l.getD j 0 = l[j] := by rw [List.getD_eq_getElem?_getD, List.getElem?_eq_getElem hlt]; rfl
        rw [hg] at hA hE
        have hbd := HL.out.2.2.2 l[j] (by simp)
        generalize l[j] = x at *
        have T : Int.tmod x 2 = x % 2 := Int.tmod_eq_emod_of_nonneg hbd.1
        have HAA := hid (And.intro hA hE)
        clear hA hE hg
        cases A <;> cases E
        all_goals
          go_wp2_with fail
          go_roundw
          case rel => exact ⟨j + 1, _, _, by omega, rfl, rfl, by go_num, B, hid ⟨by rw [HAA.out.1, ← HAE.out.1]; simp [oddI], by rw [HAA.out.2, ← HAE.out.2]; simp [oddI]⟩⟩
          case measure => simp [intOf]; omega
      · have hjl : j = l.length := by omega
        have hlt2 : ¬ ((j : Int) < (l.length : Int)) := by omega
        have hA : A = A0 := by rw [HAE.out.1, HA0.out, hjl, List.take_length]
        have hE : E = E0 := by rw [HAE.out.2, HE0.out, hjl, List.take_length]
        subst hA hE
        clear HAE HA0 HE0
        cases A <;> cases E
        all_goals
          go_wp2_with fail
          go_ret
          exact Ret.mk rfl (below_next HB2.out B.out)
end Go.Proofs.Ytbeljjalfhogdaa
