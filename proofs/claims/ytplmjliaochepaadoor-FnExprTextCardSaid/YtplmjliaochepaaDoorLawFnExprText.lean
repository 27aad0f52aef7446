/- FnExprText returns true for every argument, where the table of signs lies as it was laid. -/
import Derived.Test.YtplmjliaochepaaDoorDrawTextE
import Derived.Test.YtplmjliaochepaaDoorDrawFormatExpr
import Derived.Test.YtplmjliaochepaaDoorParseEX
import Derived.Test.YtplmjliaochepaaDoorExprSame
namespace Go.Proofs.YtplmjliaochepaaDoor
open Go.RowKit
open Go.Proofs.YtplmjliaochepaaDoor.Expr

theorem bs_of (S : ByteArray) : S = bs S.data.toList := by cases S; rfl
/-- a tree's own text is read to the tree -/
theorem par_fmt (t : Tr) : parOk (fmt t) = exprL.valid t ∧ (exprL.valid t = true → parV (fmt t) = t) := by
  cases hv : exprL.valid t with
  | false =>
    have e : fmt t = [] := by simp [fmt, hv]
    rw [e]
    exact ⟨(par_none (s := []) rfl).2, by simp⟩
  | true =>
    have e : fmt t = exprT.txt t := by simp [fmt, hv]
    have hs : exprL.shape t (6 : Nat) = true := by rw [Lang.valid, Bool.and_eq_true] at hv; exact hv.1
    have h := rdE_txt 51 (by decide) (by decide) 6 t [] hs
    rw [List.append_nil] at h
    rw [e]
    have := par_ok h hv
    exact ⟨this.2, fun _ => this.1⟩
/-- a text that is read is the tree's text -/
theorem par_text {s : List UInt8} (h : parOk s = true) : fmt (parV s) = s := by
  unfold parOk parP at h
  unfold parV parP
  split at h
  · rename_i t ht
    split at h
    · rename_i hv
      rw [if_pos hv]
      have e := rdE_back 51 6 _ _ _ ht
      rw [List.append_nil] at e
      simp [fmt, hv, e]
    · simp at h
  · simp at h

set_option maxRecDepth 100000 in
set_option maxHeartbeats 8000000 in
theorem walk_FnExprText (w : World) (a : Option Addr) (len cap : Nat) (hb : ByteArg w a len cap) (a' : Option Addr) (len' cap' : Nat) (hb' : ByteArg w a' len' cap') (hg : Expr.Sg w) : Calls Tryd.prog 3 #[.slice a len cap, .slice a' len' cap'] w (Ret (.bool true) w) := by
  have hcap := hb.2.1
  have hcap1 := hb.1
  have hcap' := hb'.2.1
  have hcap1' := hb'.1
  unfold maxLen at hcap hcap'
  by_cases hlen : len > 1048576
  · have hlen2 : (len : Int) > 1048576 := by omega
    go_enter Tryd.func3, Tryd.ntmps3
    go_wp2_with fail
    go_ret
    exact Ret.mk rfl (by repeat (first | exact Below.refl _ _ | assumption | refine below_a ?_ _ | refine below_o ?_ _ | refine below_d ?_ | refine below_n ?_ _ | refine below_s ?_ (by first | (simp; done) | (simp; omega) | omega) _))
  have hlen2 : ¬ ((len : Int) > 1048576) := by omega
  by_cases hlen' : len' > 1048576
  · have hlen2' : (len' : Int) > 1048576 := by omega
    go_enter Tryd.func3, Tryd.ntmps3
    go_wp2_with fail
    go_ret
    exact Ret.mk rfl (by repeat (first | exact Below.refl _ _ | assumption | refine below_a ?_ _ | refine below_o ?_ _ | refine below_d ?_ | refine below_n ?_ _ | refine below_s ?_ (by first | (simp; done) | (simp; omega) | omega) _))
  have hlen2' : ¬ ((len' : Int) > 1048576) := by omega
  have HBY := hid hb'
  have HG := hid hg
  clear hg
  go_enter Tryd.func3, Tryd.ntmps3
  go_wp2_with fail
  refine (Expr.drawFormatExpr_any _ a len cap hb).mono ?_
  rintro e w1 ⟨v, rfl, ⟨t, hn, hnt⟩, B1⟩
  obtain ⟨a1, n1, rfl⟩ := TrIn_shape hn.any
  have HX := hid (TrIn_below (below_alloc w1 (.cells #[.int .i64 t.kind, .int .i64 t.val, .slice a1 t.kids.length n1] 25)) hn.any)
  have b5 := hid (box3_new w1 (.int .i64 t.kind) (.int .i64 t.val) (.slice a1 t.kids.length n1) 25)
  have HB1 := hid (below_a B1 (.cells #[.int .i64 t.kind, .int .i64 t.val, .slice a1 t.kids.length n1] 25))
  clear hn hb hb' B1
  go_wp2_with fail
  refine (fmt_any t _ _ HX.out (Expr.Sg_below HB1.out HG.out)).mono ?_
  rintro e w2 ⟨rfl, hb2⟩
  have HX2 := hid (TrIn_below hb2 HX.out)
  have b52 := hid (box3_next hb2 b5.out)
  have HB2 := hid (below_next HB1.out hb2)
  have hl := exprT.txt_len t
  have hlf : (fmt t).length ≤ 1000 := by
    unfold fmt
    split
    · omega
    · simp
  clear hb2
  have HPF := hid (par_fmt t)
  have HLF := hid hlf
  go_wp2_with fail
  refine (parse_any (fmt t) _ (by omega)).mono ?_
  rintro e w3 ⟨v3, rfl, hn3, hb3⟩
  obtain ⟨a3, n3, rfl⟩ := TrIn_shape hn3.any
  have HR3 := hid (TrIn_below (below_alloc w3 (.cells #[.int .i64 (parV (fmt t)).kind, .int .i64 (parV (fmt t)).val, .slice a3 (parV (fmt t)).kids.length n3] 25)) hn3.any)
  have HX3 := hid (TrIn_below (below_alloc w3 (.cells #[.int .i64 (parV (fmt t)).kind, .int .i64 (parV (fmt t)).val, .slice a3 (parV (fmt t)).kids.length n3] 25)) (TrIn_below hb3 HX2.out))
  have b53 := box3_next (below_alloc w3 (.cells #[.int .i64 (parV (fmt t)).kind, .int .i64 (parV (fmt t)).val, .slice a3 (parV (fmt t)).kids.length n3] 25)) (box3_next hb3 b52.out)
  have b7 := box3_new w3 (.int .i64 (parV (fmt t)).kind) (.int .i64 (parV (fmt t)).val) (.slice a3 (parV (fmt t)).kids.length n3) 25
  have HB3 := hid (below_a (below_next HB2.out hb3) (.cells #[.int .i64 (parV (fmt t)).kind, .int .i64 (parV (fmt t)).val, .slice a3 (parV (fmt t)).kids.length n3] 25))
  rw [HPF.out.1]
  have HSF := hid (fun (w : World) x (hx : TrIn Any w t x) => specFmt_any t w x hx)
  have HSM := hid (fun (w : World) x y (h1 : TrIn Any w (parV (fmt t)) x) (h2 : TrIn Any w t y) => Expr.same_any (parV (fmt t)) w t x y h1 h2)
  have HV1 := hid (fun (w : World) x (hx : TrIn Any w t x) => valid_any t w x hx)
  have HV2 := hid (fun (w : World) x (hx : TrIn Any w t x) => specValid_any t w x hx)
  have HEQ := hid (fun (h : exprL.valid t = true) => show eqT (parV (fmt t)) t = true by rw [HPF.out.2 h]; exact eqT_refl t)
  clear hn3 hb3 hlf hl
  generalize bs (fmt t) = σ at *
  have hss : (σ.toList == σ.toList) = true := by simp
  generalize parV (fmt t) = r at *
  go_wp2_with fail
  refine wp_gen (fun W => Below w.heap.size w W ∧ Box3 W w1.heap.size (.int .i64 t.kind) (.int .i64 t.val) (.slice a1 t.kids.length n1) ∧ Box3 W w3.heap.size (.int .i64 r.kind) (.int .i64 r.val) (.slice a3 r.kids.length n3) ∧ TrIn Any W t (.agg #[.int .i64 t.kind, .int .i64 t.val, .slice a1 t.kids.length n1]) ∧ TrIn Any W r (.agg #[.int .i64 r.kind, .int .i64 r.val, .slice a3 r.kids.length n3])) ⟨HB3.out, b53, b7, HX3.out, HR3.out⟩ ?_
  rintro W ⟨BW, c5, c7, hxt, hxr⟩
  have HXT := hid hxt
  have HXR := hid hxr
  have HBW := hid BW
  obtain ⟨p0, p1, p2, p3, _⟩ := c5
  obtain ⟨q0, q1, q2, q3, _⟩ := c7
  clear BW hxt hxr b53 b7
  cases hv : exprL.valid t
  all_goals
    rw [hv] at HV1 HV2
    try rw [HEQ.out hv] at HSM
    clear hv HEQ HPF
    refine wp_region_over (by kernel_rfl) (by kernel_rfl) ?_; (repeat (go_big_quiet_step ((first | (go_at_call 7; with_reducible exact Calls.over (HSF.out _ _ (TrIn_over HXT.out _))) | (go_at_call 8; with_reducible exact Calls.over (HV1.out _ _ (TrIn_over HXT.out _))) | (go_at_call 9; with_reducible exact Calls.over (HV2.out _ _ (TrIn_over HXT.out _))) | (go_at_call 10; with_reducible exact Calls.over (HSM.out _ _ _ (TrIn_over HXR.out _) (TrIn_over HXT.out _))))))); refine wpQuiet_nil ?_; rintro _ ⟨xq, rfl⟩
    have HF := hid (below_next HBW.out (over_below W xq))
    clear p0 p1 p2 p3 q0 q1 q2 q3
    go_wp2_with fail
    refine (Expr.drawText_any _ a' len' cap' (HBY.out.next HF.out)).mono ?_
    rintro e w4 ⟨s, rfl, hs, hb4⟩
    obtain ⟨l, rfl⟩ : ∃ l, s = bs l := ⟨_, bs_of s⟩
    rw [bs_size] at hs
    have HF4 := hid (below_next HF.out hb4)
    clear hb4
    go_wp2_with fail
    refine (parse_any l _ (by omega)).mono ?_
    rintro e w5 ⟨v5, rfl, hn5, hb5⟩
    obtain ⟨a5, n5, rfl⟩ := TrIn_shape hn5.any
    have HF5 := hid (below_a (below_next HF4.out hb5) (.cells #[.int .i64 (parV l).kind, .int .i64 (parV l).val, .slice a5 (parV l).kids.length n5] 25))
    have d1 := box3_new w5 (.int .i64 (parV l).kind) (.int .i64 (parV l).val) (.slice a5 (parV l).kids.length n5) 25
    have x1 := TrIn_below (below_alloc w5 (.cells #[.int .i64 (parV l).kind, .int .i64 (parV l).val, .slice a5 (parV l).kids.length n5] 25)) hn5.any
    clear hn5 hb5
    go_wp2_with fail
    refine (specParse_any l _ (by omega)).mono ?_
    rintro e w6 ⟨v6, rfl, hn6, hb6⟩
    obtain ⟨a6, n6, rfl⟩ := TrIn_shape hn6.any
    have HF6 := hid (below_a (below_next HF5.out hb6) (.cells #[.int .i64 (parV l).kind, .int .i64 (parV l).val, .slice a6 (parV l).kids.length n6] 25))
    have d1' := box3_next (below_alloc w6 (.cells #[.int .i64 (parV l).kind, .int .i64 (parV l).val, .slice a6 (parV l).kids.length n6] 25)) (box3_next hb6 d1)
    have x1' := hid (TrIn_below (below_alloc w6 (.cells #[.int .i64 (parV l).kind, .int .i64 (parV l).val, .slice a6 (parV l).kids.length n6] 25)) (TrIn_below hb6 x1))
    have x2 := hid (TrIn_below (below_alloc w6 (.cells #[.int .i64 (parV l).kind, .int .i64 (parV l).val, .slice a6 (parV l).kids.length n6] 25)) hn6.any)
    have HSM2 := hid (fun (w : World) x y (h1 : TrIn Any w (parV l) x) (h2 : TrIn Any w (parV l) y) => Expr.same_any (parV l) w (parV l) x y h1 h2)
    have HSM3 := HSM2.out
    simp only [eqT_refl] at HSM3
    replace HSM2 := hid HSM3
    have HPT := hid (fun h => par_text (s := l) h)
    have HFM := hid (fun (w : World) x (hx : TrIn Any w (parV l) x) (hg : Expr.Sg w) => fmt_any (parV l) w x hx hg)
    have D1 := hid d1'
    clear HSM3 hn6 hb6 d1 x1 d1'
    generalize parV l = r2 at *
    obtain ⟨p0, p1, p2, p3, _⟩ := D1.out
    go_wp2_with fail
    refine (HSM2.out _ _ _ x1'.out x2.out).mono ?_
    rintro e w7 ⟨rfl, hb7⟩
    have HF7 := hid (below_next HF6.out hb7)
    have x3 := hid (TrIn_below hb7 x1'.out)
    have D7 := hid (box3_next hb7 D1.out)
    clear hb7 p0 p1 p2 p3
    cases hok : parOk l with
    | false =>
      clear hok
      go_wp2_with fail
      go_ret
      exact Ret.mk rfl HF7.out
    | true =>
      have hf := HPT.out hok
      obtain ⟨p0, p1, p2, p3, _⟩ := D7.out
      have hFM := HFM.out
      rw [hf] at hFM
      have HFM2 := hid hFM
      have hss2 : ((bs l).toList == (bs l).toList) = true := by simp
      clear hok hf hFM HFM HPT
      go_wp2_with fail
      refine (HFM2.out _ _ x3.out (Expr.Sg_below HF7.out HG.out)).mono ?_
      rintro e w8 ⟨rfl, hb8⟩
      have HF8 := hid (below_next HF7.out hb8)
      clear hb8
      go_wp2_with fail
      go_ret
      exact Ret.mk rfl HF8.out
end Go.Proofs.YtplmjliaochepaaDoor
