/- The reference's l2Ints, LassoSame, SameWord, the program's LassoSame: what they return. Conditions: those of each contract. -/
import Derived.Test.YtkjnmkjdooebmaazRedS2
import Derived.Test.YtkjnmkjdooebmaaJW10
set_option linter.unusedVariables false
set_option linter.unusedSimpArgs false
namespace Go.Proofs.Ytkjnmkjdooebmaa
open Go.RowKit
set_option linter.unusedVariables false
set_option linter.unusedSimpArgs false

set_option maxRecDepth 100000 in
set_option maxHeartbeats 1000000 in
theorem l2Ints_any (l m : List Int) (w : World) (a a' : Option Addr) (c c' : Nat) (hl : IntsIn Any w a l) (hm : IntsIn Any w a' m) (h1 : l.length ≤ c ∧ c ≤ maxLen) (h2 : m.length ≤ c' ∧ c' ≤ maxLen) :
    Calls Try.prog 37 #[.slice a l.length c, .slice a' m.length c'] w (Ret (.bool (decide (l = m))) w) := by
  have HL := hid hl
  have HM := hid hm
  obtain ⟨c1, c2⟩ := h1
  obtain ⟨c3, c4⟩ := h2
  unfold maxLen at c2 c4
  clear hl hm
  by_cases hne : l.length = m.length
  · have HNE := hid hne
    have hne1 : ((l.length : Int) == (m.length : Int)) = true := by rw [hne]; simp
    have hne2 : ((l.length : Int) != (m.length : Int)) = false := by rw [hne]; simp
    clear hne
    go_enter Try.func37, Try.ntmps37
    go_wp2_with fail
    go_loopw [5] (fun i wr => ∃ k : Nat, k ≤ l.length ∧ i = .int .i64 k ∧ Hid (Below w.heap.size w wr) ∧ Hid (l.take k = m.take k)) (fun i _ => l.length - (intOf i).toNat)
    case atStart => exact ⟨0, Nat.zero_le _, rfl, hid (Below.refl _ _), hid rfl⟩
    case round =>
      obtain ⟨k, hk, rfl, B, HT⟩ := hrel
      by_cases hlt : k < l.length
      · have hlt2 : (k : Int) < (l.length : Int) := by omega
        have hltm : k < m.length := by have := HNE.out; omega
        have hlt3 : (k : Int) < (m.length : Int) := by omega
        obtain ⟨b, o, rfl, _, _, g1, _⟩ := ints_at HL.out B.out hlt
        obtain ⟨b', o', rfl, _, _, g2, _⟩ := ints_at HM.out B.out hltm
        have HD := hid (fun h => ne_dec hlt hltm h)
        have HE := hid (fun h => take_eq HT.out hlt hltm h)
        generalize l[k] = x at *
        generalize m[k] = y at *
        by_cases hxy : x = y
        · subst hxy
          have HE2 := hid (HE.out rfl)
          clear HD HE HT
          go_wp2_with fail
          refine wp_region_over (by kernel_rfl) (by kernel_rfl) ?_; (repeat (go_big_quiet_step ((fail)))); refine wpQuiet_nil ?_; rintro _ ⟨xq, rfl⟩
          have B2 := hid (below_next B.out (over_below wr xq))
          go_wp2_with fail
          go_roundw
          case rel => exact ⟨k + 1, hlt, by go_num, B2, HE2⟩
          case measure => simp [intOf]; omega
        · have hd := HD.out hxy
          rw [hd]
          have hxy2 : (x == y) = false := by simpa using hxy
          have hxy3 : (x != y) = true := by simpa using hxy
          clear hd HD HE HT hxy
          go_wp2_with fail
          refine wp_region_over (by kernel_rfl) (by kernel_rfl) ?_; (repeat (go_big_quiet_step ((fail)))); refine wpQuiet_nil ?_; rintro _ ⟨xq, rfl⟩
          have B2 := hid (below_next B.out (over_below wr xq))
          go_wp2_with fail
          go_ret
          exact Ret.mk rfl B2.out
      · obtain rfl : k = l.length := by omega
        have hd : decide (l = m) = true := by
          have h := HT.out
          rw [List.take_length, HNE.out, List.take_length] at h
          simpa using h
        have HD := hid hd
        clear hd HT
        go_wp2_with fail
        go_ret
        exact Ret.mk (by rw [HD.out]; rfl) B.out
  · have hne2 : ((l.length : Int) == (m.length : Int)) = false := by simp; omega
    have hne3 : ((l.length : Int) != (m.length : Int)) = true := by simp; omega
    have hd : decide (l = m) = false := by simp only [decide_eq_false_iff_not]; intro e; exact hne (by rw [e])
    rw [hd]
    clear hd
    go_enter Try.func37, Try.ntmps37
    go_wp2_with fail
    go_ret
    exact Ret.mk rfl (Below.refl _ _)

namespace Lasso

set_option maxHeartbeats 1000000 in
theorem specSameL_any (s l s' l' : List Int) (w : World) (x y : Value) (hx : PairIn Any w s l x) (hy : PairIn Any w s' l' y) : Calls Try.prog 20 #[x, y] w (Ret (.bool (decide (s = s') && decide (l = l'))) w) := by
  obtain ⟨a, b, c, d, rfl, i1, i2, c1, c2, d1, d2⟩ := hx
  obtain ⟨a', b', c', d', rfl, j1, j2, c1', c2', d1', d2'⟩ := hy
  have H1 := hid (fun (W : World) (M : Below w.heap.size w W) => l2Ints_any s s' W a a' c c' (i1.below M) (j1.below M) ⟨c1, c2⟩ ⟨c1', c2'⟩)
  have H2 := hid (fun (W : World) (M : Below w.heap.size w W) => l2Ints_any l l' W b b' d d' (i2.below M) (j2.below M) ⟨d1, d2⟩ ⟨d1', d2'⟩)
  clear i1 i2 j1 j2
  generalize decide (s = s') = u at *
  generalize decide (l = l') = v at *
  go_enter Try.func20, Try.ntmps20
  go_wp2_with fail
  refine (H1.out _ (by repeat (first | exact Below.refl _ _ | assumption | refine below_a ?_ _ | refine below_o ?_ _ | refine below_d ?_ | refine below_n ?_ _ | refine below_s ?_ (by first | (simp; done) | (simp; omega) | omega) _))).mono ?_
  rintro e w1 ⟨rfl, hb⟩
  have P := boxp_next hb (boxp_next (below_alloc _ _) (boxp_at (w := w) (a := .slice a s.length c) (b := .slice b l.length d) (t := 25) rfl))
  have Q := boxp_next hb (boxp_at (w := w.alloc (.cells #[.slice a s.length c, .slice b l.length d] 25)) (B := w.heap.size + 1) (a := .slice a' s'.length c') (b := .slice b' l'.length d') (t := 25) (by simp))
  have B := hid (below_next (show Below w.heap.size w _ from (by repeat (first | exact Below.refl _ _ | assumption | refine below_a ?_ _ | refine below_o ?_ _ | refine below_d ?_ | refine below_n ?_ _ | refine below_s ?_ (by first | (simp; done) | (simp; omega) | omega) _))) hb)
  clear hb H1
  obtain ⟨p0, p1, p2, p3, p4⟩ := P
  obtain ⟨q0, q1, q2, q3, q4⟩ := Q
  cases u with
  | false =>
    go_wp2_with fail
    go_ret
    exact Ret.mk rfl B.out
  | true =>
    go_wp2_with fail
    refine (H2.out _ B.out).mono ?_
    rintro e w2 ⟨rfl, hb⟩
    go_wp2_with fail
    go_ret
    exact Ret.mk (by simp) (below_next B.out hb)

set_option maxHeartbeats 1000000 in
theorem sameL_any (s l s' l' : List Int) (w : World) (x y : Value) (hx : PairIn Any w s l x) (hy : PairIn Any w s' l' y) : Calls Try.prog 17 #[x, y] w (Ret (.bool (decide (s = s') && decide (l = l'))) w) := by
  obtain ⟨a, b, c, d, rfl, i1, i2, c1, c2, d1, d2⟩ := hx
  obtain ⟨a', b', c', d', rfl, j1, j2, c1', c2', d1', d2'⟩ := hy
  have H1 := hid (fun (W : World) (M : Below w.heap.size w W) => eqSl_any s s' W a a' c c' (i1.below M) (j1.below M) ⟨c1, c2⟩ ⟨c1', c2'⟩)
  have H2 := hid (fun (W : World) (M : Below w.heap.size w W) => eqSl_any l l' W b b' d d' (i2.below M) (j2.below M) ⟨d1, d2⟩ ⟨d1', d2'⟩)
  clear i1 i2 j1 j2
  generalize decide (s = s') = u at *
  generalize decide (l = l') = v at *
  go_enter Try.func17, Try.ntmps17
  go_wp2_with fail
  refine (H1.out _ (by repeat (first | exact Below.refl _ _ | assumption | refine below_a ?_ _ | refine below_o ?_ _ | refine below_d ?_ | refine below_n ?_ _ | refine below_s ?_ (by first | (simp; done) | (simp; omega) | omega) _))).mono ?_
  rintro e w1 ⟨rfl, hb⟩
  have P := boxp_next hb (boxp_next (below_alloc _ _) (boxp_at (w := w) (a := .slice a s.length c) (b := .slice b l.length d) (t := 25) rfl))
  have Q := boxp_next hb (boxp_at (w := w.alloc (.cells #[.slice a s.length c, .slice b l.length d] 25)) (B := w.heap.size + 1) (a := .slice a' s'.length c') (b := .slice b' l'.length d') (t := 25) (by simp))
  have B := hid (below_next (show Below w.heap.size w _ from (by repeat (first | exact Below.refl _ _ | assumption | refine below_a ?_ _ | refine below_o ?_ _ | refine below_d ?_ | refine below_n ?_ _ | refine below_s ?_ (by first | (simp; done) | (simp; omega) | omega) _))) hb)
  clear hb H1
  obtain ⟨p0, p1, p2, p3, p4⟩ := P
  obtain ⟨q0, q1, q2, q3, q4⟩ := Q
  cases u with
  | false =>
    go_wp2_with fail
    go_ret
    exact Ret.mk rfl B.out
  | true =>
    go_wp2_with fail
    refine (H2.out _ B.out).mono ?_
    rintro e w2 ⟨rfl, hb⟩
    go_wp2_with fail
    go_ret
    exact Ret.mk (by simp) (below_next B.out hb)

theorem sameW_eq (s l s' l' : List Int) : sameW s l s' l' = (ok s l && ok s' l' && (decide (redA s l = redA s' l') && decide (redB s l = redB s' l'))) := by
  unfold sameW redA redB
  cases ok s l <;> cases ok s' l' <;> simp

set_option maxRecDepth 100000 in
set_option maxHeartbeats 2000000 in
theorem specSameW_any (s l s' l' : List Int) (w : World) (x y : Value) (hx : PairIn Any w s l x) (hy : PairIn Any w s' l' y) (nx : NilOk x) (ny : NilOk y) : Calls Try.prog 7 #[x, y] w (Ret (.bool (sameW s l s' l')) w) := by
  have HX := hid (fun (W : World) (M : Below w.heap.size w W) => specRed_any s l W _ (hx.below M) nx)
  have HY := hid (fun (W : World) (M : Below w.heap.size w W) => specRed_any s' l' W _ (hy.below M) ny)
  have HS := hid (fun (W : World) (u v : Value) (h1 : PairIn Any W (redA s l) (redB s l) u) (h2 : PairIn Any W (redA s' l') (redB s' l') v) => specSameL_any _ _ _ _ W u v h1 h2)
  rw [sameW_eq]
  obtain ⟨a, b, c, d, rfl, _⟩ := id hx
  obtain ⟨a', b', c', d', rfl, _⟩ := id hy
  clear hx hy nx ny
  go_enter Try.func7, Try.ntmps7
  go_wp2_with fail
  refine (HX.out _ (by repeat (first | exact Below.refl _ _ | assumption | refine below_a ?_ _ | refine below_o ?_ _ | refine below_d ?_ | refine below_n ?_ _ | refine below_s ?_ (by first | (simp; done) | (simp; omega) | omega) _))).mono ?_
  rintro e w1 ⟨v1, rfl, hv1, hb⟩
  obtain ⟨x1, x2, k1, k2, rfl, _⟩ := id hv1
  have Q := boxp_next hb (boxp_at (w := w.alloc (.cells #[.slice a s.length c, .slice b l.length d] 25)) (B := w.heap.size + 1) (a := .slice a' s'.length c') (b := .slice b' l'.length d') (t := 25) (by simp))
  have B := hid (below_next (show Below w.heap.size w _ from (by repeat (first | exact Below.refl _ _ | assumption | refine below_a ?_ _ | refine below_o ?_ _ | refine below_d ?_ | refine below_n ?_ _ | refine below_s ?_ (by first | (simp; done) | (simp; omega) | omega) _))) hb)
  have V1 := hid hv1
  clear hb hv1
  obtain ⟨q0, q1, q2, q3, q4⟩ := Q
  go_wp2_with fail
  have h0 := below_alloc w1 (.cells #[.slice x1 (redA s l).length k1, .slice x2 (redB s l).length k2] 25)
  refine (HY.out _ (below_next B.out h0)).mono ?_
  rintro e w2 ⟨v2, rfl, hv2, hb⟩
  obtain ⟨y1, y2, m1, m2, rfl, _⟩ := id hv2
  have P := boxp_next hb (boxp_at (w := w1) (B := w1.heap.size) (a := .slice x1 (redA s l).length k1) (b := .slice x2 (redB s l).length k2) (t := 25) rfl)
  have V2 := hid hv2
  replace V1 := hid (V1.out.below (below_next h0 hb))
  replace B := hid (below_next B.out (below_next h0 hb))
  clear h0 hb hv2 q0 q1 q2 q3 q4
  generalize ok s l = p at *
  generalize ok s' l' = q at *
  generalize (decide (redA s l = redA s' l') && decide (redB s l = redB s' l')) = z at *
  generalize redA s l = rA at *
  generalize redB s l = rB at *
  generalize redA s' l' = rA' at *
  generalize redB s' l' = rB' at *
  obtain ⟨p0, p1, p2, p3, p4⟩ := P
  have h1 := below_alloc w2 (.cells #[.slice y1 rA'.length m1, .slice y2 rB'.length m2] 25)
  have HZ := hid (HS.out _ _ _ (V1.out.below h1) (V2.out.below h1))
  have B2 := hid (below_next B.out h1)
  clear HX HY h1 HS
  cases p with
  | false =>
    go_wp2_with fail
    go_ret
    exact Ret.mk (by simp) B2.out
  | true =>
    cases q with
    | false =>
      go_wp2_with fail
      go_ret
      exact Ret.mk (by simp) B2.out
    | true =>
      go_wp2_with fail
      refine HZ.out.mono ?_
      rintro e w3 ⟨rfl, hb⟩
      go_wp2_with fail
      go_ret
      exact Ret.mk (by simp) (below_next B2.out hb)
end Lasso
end Go.Proofs.Ytkjnmkjdooebmaa
