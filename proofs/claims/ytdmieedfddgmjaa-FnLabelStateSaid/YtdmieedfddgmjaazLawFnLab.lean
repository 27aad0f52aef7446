/- FnLabelState returns true for every argument. Conditions: none. -/
import Derived.Test.YtdmieedfddgmjaazDrawLabSt
import Derived.Test.YtdmieedfddgmjaaJE16
set_option linter.unusedVariables false
set_option linter.unusedSimpArgs false
namespace Go.Proofs.Ytdmieedfddgmjaa
open Go.RowKit
open Go.Proofs.Ytdmieedfddgmjaa.State (PairIn letV letOk letP bitE)
set_option linter.unusedVariables false
set_option linter.unusedSimpArgs false

/-- the letter's bits are the labels' truth values -/
theorem letP_bits (vs : List Int) (l : List Tr) : 0 ≤ letP vs l 3 ∧ letP vs l 3 ≤ 7 ∧ (letP vs l 3 / 1 % 2 == 1) = bitE vs l 0 ∧ (letP vs l 3 / 2 % 2 == 1) = bitE vs l 1 ∧ (letP vs l 3 / 4 % 2 == 1) = bitE vs l 2 := by
  have e : letP vs l 3 = 0 + (if bitE vs l 0 = true then 2 ^ 0 else 0) + (if bitE vs l 1 = true then 2 ^ 1 else 0) + (if bitE vs l 2 = true then 2 ^ 2 else 0) := rfl
  rw [e]
  cases bitE vs l 0 <;> cases bitE vs l 1 <;> cases bitE vs l 2 <;> decide

set_option maxRecDepth 100000 in
set_option maxHeartbeats 4000000 in
theorem walk_FnLabelState (w : World) (a : Option Addr) (len cap : Nat) (hb : ByteArg w a len cap) : Calls Try.prog 4 #[.slice a len cap] w (Ret (.bool true) w) := by
  have hcap := hb.2.1
  have hcap1 := hb.1
  unfold maxLen at hcap
  by_cases hlen : len > 1048576
  · have hlen2 : (len : Int) > 1048576 := by omega
    go_enter Try.func4, Try.ntmps4
    go_wp2_with fail
    go_ret
    exact Ret.mk rfl (by repeat (first | exact Below.refl _ _ | assumption | refine below_a ?_ _ | refine below_o ?_ _ | refine below_d ?_ | refine below_n ?_ _ | refine below_s ?_ (by first | (simp; done) | (simp; omega) | omega) _))
  have hlen2 : ¬ ((len : Int) > 1048576) := by omega
  have HB := hid hb
  clear hb
  go_enter Try.func4, Try.ntmps4
  go_wp2_with fail
  refine (drawLabSt_any _ a len cap HB.out).mono ?_
  rintro e w1 ⟨v, rfl, ⟨y, ls, vs, aL, ts, cL, rfl, hp, ht, hc1, hc2⟩, B0⟩
  replace hp := PairIn_frame (q := Any) hp (Nat.le_refl _) (fun _ _ _ => ⟨trivial, rfl⟩)
  replace ht := TrsIn_any ht
  obtain ⟨a3, a4, c3, c4, rfl, hi3, hi4, _, _, hd4, hd4'⟩ := id hp
  have HI := hid (fun (W : World) (M : Below w1.heap.size w1 W) => State.label_any ls vs ts W _ aL cL (hp.below M) (TrsIn_below M ht) hc1 hc2)
  have HS := hid (fun (W : World) (M : Below w1.heap.size w1 W) => State.specLabel_any ls vs ts W _ aL cL (hp.below M) (TrsIn_below M ht) hc1 hc2)
  have HV := hid (fun (W : World) (M : Below w1.heap.size w1 W) => Labels.impl_any ts W aL cL (TrsIn_below M ht) hc1 hc2)
  have HU := hid (fun (W : World) (M : Below w1.heap.size w1 W) => Labels.spec_any ts W aL cL (TrsIn_below M ht) hc1 hc2)
  have HE := hid (fun (t : Tr) (x : Value) (W : World) (M : Below w1.heap.size w1 W) (hx : TrIn Any W t x) => Expr.eval_any t vs W x a4 c4 hx (hi4.below M) hd4 hd4')
  have HT := hid ht
  clear hp ht hi3 hi4 HB
  unfold maxLen at hc2 hd4'
  go_wp2_with fail
  refine (HI.out _ (by repeat (first | exact Below.refl _ _ | assumption | refine below_a ?_ _ | refine below_o ?_ _ | refine below_d ?_ | refine below_n ?_ _ | refine below_s ?_ (by first | (simp; done) | (simp; omega) | omega) _))).mono ?_
  rintro e w2 ⟨rfl, hb⟩
  have P := hid (boxp_next hb (boxp_at (w := w1) (a := .slice a3 ls.length c3) (b := .slice a4 vs.length c4) (t := 30) rfl))
  have M := hid (below_next (below_alloc w1 _) hb)
  clear hb
  obtain ⟨p0, p1, p2, p3, p4⟩ := id P.out
  go_wp2_with fail
  refine (HS.out _ M.out).mono ?_
  rintro e w3 ⟨rfl, hb⟩
  replace P := hid (boxp_next hb P.out)
  replace M := hid (below_next M.out hb)
  clear hb p0 p1 p2 p3 p4 HI HS
  have e1 : (letV vs ts != letV vs ts) = false := by simp
  have e2 : (letOk vs ts != letOk vs ts) = false := by simp
  have e3 : (letV vs ts == letV vs ts) = true := by simp
  have e4 : (letOk vs ts == letOk vs ts) = true := by simp
  cases hok : letOk vs ts with
  | false =>
    generalize letV vs ts = z at *
    go_wp2_with fail
    refine (HV.out _ M.out).mono ?_
    rintro e w4 ⟨rfl, hb⟩
    replace M := hid (below_next M.out hb)
    clear hb
    go_wp2_with fail
    refine (HU.out _ M.out).mono ?_
    rintro e w5 ⟨rfl, hb⟩
    replace M := hid (below_next M.out hb)
    clear hb
    have e5 : (Labels.ok ts != Labels.ok ts) = false := by simp
    have e6 : (Labels.ok ts == Labels.ok ts) = true := by simp
    generalize Labels.ok ts = o at *
    go_wp2_with fail
    refine (HV.out _ M.out).mono ?_
    rintro e w6 ⟨rfl, hb⟩
    replace M := hid (below_next M.out hb)
    clear hb
    go_wp2_with fail
    refine (HU.out _ M.out).mono ?_
    rintro e w7 ⟨rfl, hb⟩
    replace M := hid (below_next M.out hb)
    clear hb
    go_wp2_with fail
    go_ret
    exact Ret.mk rfl (below_next B0 M.out)
  | true =>
    have hk : Labels.ok ts = true ∧ Expr.okVals vs = true := by
      rw [letOk, Bool.and_eq_true] at hok; exact hok
    have hz : letV vs ts = letP vs ts 3 := by have h9 := hok; unfold letOk at h9; unfold letV; rw [if_pos h9]
    rw [hz] at e1 e3 ⊢
    have hbits := letP_bits vs ts
    have h3 := (State.lab_at hk.1).1
    have hvalid : ∀ t, t ∈ ts → exprL.valid t = true := by
      have := hk.1
      rw [Labels.ok, Bool.and_eq_true, List.all_eq_true] at this
      exact this.2
    have HEV := hid (fun (j : Nat) (t : Tr) (ht : ts[j]? = some t) => show Expr.evalOk t vs = true ∧ (Expr.evalV t vs != 0) = bitE vs ts j from by
      have e : Expr.evalOk t vs = true := by rw [Expr.evalOk, hvalid t (List.mem_of_getElem? ht), hk.2]; rfl
      refine ⟨e, ?_⟩
      rw [Expr.evalV, if_pos e, bitE, ht]; rfl)
    have HO := hid (show Labels.ok ts = true from hk.1)
    have HL3 := hid h3
    have hlen3 : 3 ≤ ts.length := by omega
    obtain ⟨hz0, hz7, g0, g1, g2⟩ := hbits
    have G := hid (And.intro g0 (And.intro g1 g2))
    generalize letP vs ts 3 = z at *
    clear hk hz hok h3 hvalid g0 g1 g2
    go_wp2_with fail
    refine (HV.out _ M.out).mono ?_
    rintro e w4 ⟨rfl, hb⟩
    replace P := hid (boxp_next hb P.out)
    replace M := hid (below_next M.out hb)
    rw [HO.out]
    clear hb
    go_wp2_with fail
    refine (HU.out _ M.out).mono ?_
    rintro e w5 ⟨rfl, hb⟩
    replace P := hid (boxp_next hb P.out)
    replace M := hid (below_next M.out hb)
    rw [HO.out]
    clear hb
    go_wp2_with fail
    go_loopw [9] (fun i wr => ∃ k : Nat, k ≤ 3 ∧ i = .int .i64 k ∧ Hid (Below w5.heap.size w5 wr)) (fun i _ => 3 - (intOf i).toNat)
    case atStart => exact ⟨0, by omega, rfl, hid (Below.refl _ _)⟩
    case round =>
      obtain ⟨k, hk, rfl, BL⟩ := hrel
      obtain ⟨wo, rfl⟩ : ∃ wo : World, wo = wr := ⟨_, rfl⟩
      by_cases hk3 : k < 3
      · have hk32 : (k : Int) < 3 := by omega
        have hkl : (k : Int) < (ts.length : Int) := by omega
        obtain ⟨p0, p1, p2, p3, p4⟩ := boxp_next BL.out P.out
        have MB := hid (below_next M.out BL.out)
        obtain ⟨b, o, x0, x1, x2, t, rfl, hbl, y0, y1, y2, HTR⟩ := TrsIn_round HT.out MB.out (show k < ts.length by omega)
        obtain ⟨hev1, hev2⟩ := HEV.out k t HTR.out.2.2.2
        have HE1 := hid hev1
        have HE2 := hid hev2
        have HX := hid (fun (W : World) (N : Below wo.heap.size wo W) => show Calls Try.prog 16 #[.agg #[x0, x1, x2], .slice a4 vs.length c4] W (Ret (.tuple #[.int .i64 (Expr.evalV t vs), .bool (Expr.evalOk t vs)]) W) from (HE.out t _ W (below_next MB.out N) (TrIn_below N HTR.out.1)).mono fun _ _ h => h)
        rw [HE1.out] at HX
        clear hev1 hev2
        go_wp2_with fail
        refine wp_region_over (by kernel_rfl) (by kernel_rfl) ?_; (repeat (go_big_quiet_step ((go_at_call 16; exact Calls.over (HX.out _ (over_below wo _)))))); refine wpQuiet_nil ?_; rintro _ ⟨xq, rfl⟩
        have B3 := hid (below_next BL.out (over_below wo xq))
        clear p0 p1 p2 p3 p4 y0 y1 y2 HTR HX HE1 hlen2
        have hE := HE2.out
        clear HE2
        generalize Expr.evalV t vs = x at *
        rcases (show k = 0 ∨ k = 1 ∨ k = 2 by omega) with rfl | rfl | rfl
        · have hh : (x != 0) = (z % 2 == 1) := by have := G.out.1; rw [Int.ediv_one] at this; rw [hE, this]
          clear hE
          go_wp2_with fail
          go_roundw
          case rel => exact ⟨1, by omega, by go_num, hid (below_next B3.out (below_alloc _ _))⟩
          case measure => simp [intOf]
        · have hh : (x != 0) = (z / 2 % 2 == 1) := by rw [hE, G.out.2.1]
          clear hE
          go_wp2_with fail
          go_roundw
          case rel => exact ⟨2, by omega, by go_num, hid (below_next B3.out (below_alloc _ _))⟩
          case measure => simp [intOf]
        · have hh : (x != 0) = (z / 4 % 2 == 1) := by rw [hE, G.out.2.2]
          clear hE
          go_wp2_with fail
          go_roundw
          case rel => exact ⟨3, by omega, by go_num, hid (below_next B3.out (below_alloc _ _))⟩
          case measure => simp [intOf]
      · obtain rfl : k = 3 := by omega
        go_wp2_with fail
        go_ret
        exact Ret.mk (by simp) (below_next B0 (below_next M.out BL.out))
end Go.Proofs.Ytdmieedfddgmjaa
