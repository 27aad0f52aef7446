/- FnExprSame returns true for every argument, where the table of signs lies as it was laid. -/
import Derived.Test.YtplogaapgolaiaaDoorExprDrawSame
import Derived.Test.YtplogaapgolaiaaDoorExprFmt
import Derived.Test.YtplogaapgolaiaaDoorExprSame
import Derived.Test.YtplogaapgolaiaaDoorTxtPlain
namespace Go.Proofs.YtplogaapgolaiaaDoor
open Go.RowKit
open Go.Proofs.YtplogaapgolaiaaDoor.Expr

/-- texts that there are, are the same exactly when the trees are -/
theorem same_text {t u : Tr} (h1 : fmt t ≠ []) (h2 : fmt u ≠ []) : eqT t u = decide (bs (fmt t) = bs (fmt u)) := by
  have v1 : exprL.valid t = true := by
    cases h : exprL.valid t with
    | true => rfl
    | false => exact absurd (by simp [fmt, h]) h1
  have v2 : exprL.valid u = true := by
    cases h : exprL.valid u with
    | true => rfl
    | false => exact absurd (by simp [fmt, h]) h2
  rw [Bool.eq_iff_iff, eqT_true, decide_eq_true_eq]
  constructor
  · intro h; rw [h]
  · intro h
    have := bs_inj h
    simp only [fmt, v1, v2, if_true] at this
    exact exprT_inj (valid_parts v1).1 (valid_parts v2).1 this

set_option maxRecDepth 100000 in
set_option maxHeartbeats 4000000 in
theorem walk_FnExprSame (w : World) (a : Option Addr) (len cap : Nat) (hb : ByteArg w a len cap) (hg : Expr.Sg w) : Calls Tryd.prog 3 #[.slice a len cap] w (Ret (.bool true) w) := by
  have hcap := hb.2.1
  have hcap1 := hb.1
  unfold maxLen at hcap
  by_cases hlen : len > 1048576
  · have hlen2 : (len : Int) > 1048576 := by omega
    go_enter Tryd.func3, Tryd.ntmps3
    go_wp2_with fail
    go_ret
    exact Ret.mk rfl (by repeat (first | exact Below.refl _ _ | assumption | refine below_a ?_ _ | refine below_o ?_ _ | refine below_d ?_ | refine below_n ?_ _ | refine below_s ?_ (by first | (simp; done) | (simp; omega) | omega) _))
  have hlen2 : ¬ ((len : Int) > 1048576) := by omega
  go_enter Tryd.func3, Tryd.ntmps3
  go_wp2_with fail
  refine (Expr.drawSame_any _ a len cap hb).mono ?_
  rintro e w1 ⟨x, y, t, u, rfl, hn, hnt, hn', hnu, B1⟩
  replace hg := Expr.Sg_below B1 hg
  obtain ⟨a1, n1, rfl⟩ := TrIn_shape hn.any
  obtain ⟨a2, n2, rfl⟩ := TrIn_shape hn'.any
  have hx := hn.any
  have hy := hn'.any
  have b3 := box3_next (below_alloc _ (.cells #[.int .i64 u.kind, .int .i64 u.val, .slice a2 u.kids.length n2] 25)) (box3_new w1 (.int .i64 t.kind) (.int .i64 t.val) (.slice a1 t.kids.length n1) 25)
  have b4 := box3_at (w := w1.alloc (.cells #[.int .i64 t.kind, .int .i64 t.val, .slice a1 t.kids.length n1] 25)) (B := w1.heap.size + 1) (a := .int .i64 u.kind) (b := .int .i64 u.val) (c := .slice a2 u.kids.length n2) (t := 25) (by simp)
  have M0 := below_next (below_alloc w1 (.cells #[.int .i64 t.kind, .int .i64 t.val, .slice a1 t.kids.length n1] 25)) (below_alloc _ (.cells #[.int .i64 u.kind, .int .i64 u.val, .slice a2 u.kids.length n2] 25))
  clear hn hn' hb
  have HA := hid (fun (w' : World) (M : Below w1.heap.size w1 w') => Expr.same_any t w' u _ _ (TrIn_below M hx) (TrIn_below M hy))
  have HSP := hid (fun (w' : World) (M : Below w1.heap.size w1 w') => Expr.specSame_any t w' u _ _ (TrIn_below M hx) (TrIn_below M hy))
  have HB := hid (fun (w' : World) (M : Below w1.heap.size w1 w') => (show Calls Tryd.prog 6 #[_, _] w' (Ret (.bool (eqT t u)) w') by have := Expr.same_any u w' t _ _ (TrIn_below M hy) (TrIn_below M hx); rw [eqT_symm] at this; exact this))
  have HC := hid (fun (w' : World) (M : Below w1.heap.size w1 w') => (show Calls Tryd.prog 6 #[_, _] w' (Ret (.bool true) w') by have := Expr.same_any t w' t _ _ (TrIn_below M hx) (TrIn_below M hx); rw [eqT_refl] at this; exact this))
  have HFT := hid (fun (w' : World) (M : Below w1.heap.size w1 w') => Expr.fmt_any t w' _ (TrIn_below M hx) (Expr.Sg_below M hg))
  have HFU := hid (fun (w' : World) (M : Below w1.heap.size w1 w') => Expr.fmt_any u w' _ (TrIn_below M hy) (Expr.Sg_below M hg))
  have HTX := hid (fun h1 h2 => same_text (t := t) (u := u) h1 h2)
  generalize eqT t u = q at *
  obtain ⟨S1, hS1⟩ : ∃ S, S = bs (fmt t) := ⟨_, rfl⟩
  obtain ⟨S2, hS2⟩ : ∃ S, S = bs (fmt u) := ⟨_, rfl⟩
  rw [← hS1] at HFT
  rw [← hS2] at HFU
  have hL1 : S1.toList = fmt t := by rw [hS1, Go.ByteArray.toList_eq]; simp [bs]
  have hL2 : S2.toList = fmt u := by rw [hS2, Go.ByteArray.toList_eq]; simp [bs]
  have hfin : (S1.toList.isEmpty || S2.toList.isEmpty || (q == (S1.toList == S2.toList))) = true := by
    rw [hL1, hL2]
    by_cases h1 : fmt t = []
    · simp [h1]
    by_cases h2 : fmt u = []
    · simp [h2]
    rw [HTX.out h1 h2]
    have e : decide (bs (fmt t) = bs (fmt u)) = (fmt t == fmt u) := by
      rw [Bool.eq_iff_iff, decide_eq_true_eq, beq_iff_eq]
      exact ⟨fun h => bs_inj h, fun h => by rw [h]⟩
    rw [e]; simp
  have HFIN := hid hfin
  clear hg hfin HTX hS1 hS2 hx hy hL1 hL2
  cases q
  all_goals
    have c3 := b3
    have c4 := b4
    obtain ⟨p0, p1, p2, p3, p4⟩ := b3
    obtain ⟨q0, q1, q2, q3, q4⟩ := b4
    go_wp2_with fail
    refine (HA.out _ M0).mono ?_
    rintro e w2 ⟨rfl, hb2⟩
    have M2 := below_next M0 hb2
    replace c3 := box3_next hb2 c3
    replace c4 := box3_next hb2 c4
    clear hb2 p0 p1 p2 p3 p4 q0 q1 q2 q3 q4
    have d3 := c3
    have d4 := c4
    obtain ⟨p0, p1, p2, p3, p4⟩ := c3
    obtain ⟨q0, q1, q2, q3, q4⟩ := c4
    go_wp2_with fail
    refine (HSP.out _ M2).mono ?_
    rintro e w3 ⟨rfl, hb3⟩
    replace M2 := below_next M2 hb3
    replace d3 := box3_next hb3 d3
    replace d4 := box3_next hb3 d4
    clear hb3 p0 p1 p2 p3 p4 q0 q1 q2 q3 q4
    have c3 := d3
    have c4 := d4
    obtain ⟨p0, p1, p2, p3, p4⟩ := d3
    obtain ⟨q0, q1, q2, q3, q4⟩ := d4
    go_wp2_with fail
    refine (HB.out _ M2).mono ?_
    rintro e w4 ⟨rfl, hb4⟩
    replace M2 := below_next M2 hb4
    replace c3 := box3_next hb4 c3
    replace c4 := box3_next hb4 c4
    clear hb4 p0 p1 p2 p3 p4 q0 q1 q2 q3 q4
    have d3 := c3
    have d4 := c4
    obtain ⟨p0, p1, p2, p3, p4⟩ := c3
    go_wp2_with fail
    refine (HC.out _ M2).mono ?_
    rintro e w5 ⟨rfl, hb5⟩
    replace M2 := below_next M2 hb5
    replace d3 := box3_next hb5 d3
    replace d4 := box3_next hb5 d4
    clear hb5 p0 p1 p2 p3 p4
    obtain ⟨p0, p1, p2, p3, p4⟩ := d3
    go_wp2_with fail
    refine (HFT.out _ M2).mono ?_
    rintro e w6 ⟨rfl, hb6⟩
    replace M2 := below_next M2 hb6
    replace d4 := box3_next hb6 d4
    clear hb6 p0 p1 p2 p3 p4
    obtain ⟨q0, q1, q2, q3, q4⟩ := d4
    go_wp2_with fail
    refine (HFU.out _ M2).mono ?_
    rintro e w7 ⟨rfl, hb7⟩
    replace M2 := below_next M2 hb7
    have B9 := below_next B1 M2
    clear hb7 q0 q1 q2 q3 q4 M2 HA HSP HB HC HFT HFU
    go_wp2_with fail
    all_goals
      go_ret
      first
        | exact Ret.mk rfl B9
        | exact Ret.mk (bool_val (by simpa using HFIN.out)) B9
end Go.Proofs.YtplogaapgolaiaaDoor
