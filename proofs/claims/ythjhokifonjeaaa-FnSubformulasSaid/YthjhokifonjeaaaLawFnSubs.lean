/- FnSubformulas returns true for every argument. Conditions: none. -/
import Derived.Test.YthjhokifonjeaaaDrawSubformulas
import Derived.Test.YthjhokifonjeaaaSubLaw
import Derived.Test.YthjhokifonjeaaaFormulaImplN
import Derived.Test.YthjhokifonjeaaaKidsPlain
namespace Go.Proofs.Ythjhokifonjeaaa
open Go.RowKit
open Go.Proofs.Ythjhokifonjeaaa.Formula

set_option maxRecDepth 100000 in
set_option maxHeartbeats 4000000 in
theorem walk_FnSubformulas (w : World) (a : Option Addr) (len cap : Nat) (hb : ByteArg w a len cap) : Calls Try.prog 4 #[.slice a len cap] w (Ret (.bool true) w) := by
  have hcap := hb.2.1
  have hcap1 := hb.1
  unfold maxLen at hcap
  by_cases hlen : len > 1048576
  · have hlen2 : (len : Int) > 1048576 := by omega
    go_enter Try.func4, Try.ntmps4
    go_wp2_with fail
    go_ret
    exact Ret.mk rfl (by repeat (first | exact Below.refl _ _ | assumption | refine below_a ?_ _ | refine below_o ?_ _ | refine below_d ?_ | refine below_n ?_ _ | refine below_s ?_ (by first | (simp; done) | (simp; omega) | omega) _))
  have hlen2 : ¬ ((len : Int) > 1048576) := by omega
  go_enter Try.func4, Try.ntmps4
  go_wp2_with fail
  refine (Formula.drawSubformulas_any _ a len cap hb).mono ?_
  rintro e w1 ⟨v, rfl, ⟨t, hn, hnt⟩, B1⟩
  obtain ⟨a1, n1, rfl⟩ := TrIn_shape hn.any
  have hx := hn.any
  have hsm := small_nodes t (by omega)
  clear hn hb
  go_wp2_with fail
  refine (Formula.subs_any t _ _ (TrIn_below (by repeat (first | exact Below.refl _ _ | assumption | refine below_a ?_ _ | refine below_o ?_ _ | refine below_d ?_ | refine below_n ?_ _ | refine below_s ?_ (by first | (simp; done) | (simp; omega) | omega) _)) hx) hsm).mono ?_
  rintro e w2 ⟨vG, rfl, ⟨aG, cG, bsG, rfl, cG1, cG2, oG, _⟩, hb2⟩
  have b3 := box3_next hb2 (box3_new w1 (.int .i64 t.kind) (.int .i64 t.val) (.slice a1 t.kids.length n1) 25)
  replace hb2 := below_next (below_alloc _ _) hb2
  have hx2 := TrIn_below hb2 hx
  replace B1 := below_next B1 hb2
  clear hb2 hx
  go_wp2_with fail
  refine (Formula.specSubsR_any t _ _ (TrIn_below (by repeat (first | exact Below.refl _ _ | assumption | refine below_a ?_ _ | refine below_o ?_ _ | refine below_d ?_ | refine below_n ?_ _ | refine below_s ?_ (by first | (simp; done) | (simp; omega) | omega) _)) hx2) hsm).mono ?_
  rintro e w3 ⟨vW, rfl, ⟨aW, cW, bsW, rfl, cW1, cW2, oW, _⟩, hb3⟩
  replace b3 := box3_next hb3 b3
  replace hx2 := TrIn_below hb3 hx2
  replace B1 := below_next B1 hb3
  have tG := hid (oG.below hb3).any
  have tW := hid oW.any
  clear hb3 oG oW
  have hbd := subsT_len t []
  simp only [List.length_nil] at hbd
  cases hv : formL.valid t with
  | false =>
    have E : subsV t = [] := by simp [subsV, hv]
    rw [E] at tG tW cG1 cW1 ⊢
    clear hv
    go_wp2_with fail
    go_ret
    exact Ret.mk rfl B1
  | true =>
    have E : subsV t = subsT [] t := by simp [subsV, hv]
    rw [E] at tG tW cG1 cW1 ⊢
    have hsz := formL.size_valid hv
    have HG := hid (subsT_good t [] Good.nil).1
    obtain ⟨L0, hL⟩ := subsT_last t
    have HL := hid hL
    have hlen3 : (subsT [] t).length = L0.length + 1 := by rw [hL]; simp
    have hpos : ¬ ((subsT [] t).length : Int) = 0 := by omega
    have ne1 : ((subsT [] t).length != (subsT [] t).length) = false := by simp
    have cG3 := cG2
    have cW3 := cW2
    unfold maxLen at cG3 cW3
    have HLEN := hid hlen3
    clear hL E hv hlen3
    generalize subsT [] t = L at *
    go_wp2_with fail
    go_loopw [6] (fun i wr => ∃ j : Nat, j ≤ L.length ∧ i = .int .i64 j ∧ Hid (Below w3.heap.size w3 wr)) (fun i _ => L.length - (intOf i).toNat)
    case atStart => exact ⟨0, Nat.zero_le _, rfl, hid (Below.refl _ _)⟩
    case round =>
      obtain ⟨j, hj, rfl, HB⟩ := hrel
      by_cases hlt : j < L.length
      · obtain ⟨b, o, c0, c1, c2, u, rfl, gb, g0, g1, g2, hT⟩ := TrsIn_round tG.out HB.out hlt
        obtain ⟨b', o', d0, d1, d2, u2, rfl, fb, f0, f1, f2, hU⟩ := TrsIn_round tW.out HB.out hlt
        obtain rfl : u2 = u := by
          have h1 := hU.out.2.2.2
          rw [hT.out.2.2.2] at h1
          simpa using h1.symm
        have hgood := hid (HG.out j u2 hT.out.2.2.2)
        have hlt2 : (j : Int) < (L.length : Int) := by omega
        have HTk := hid (TrsIn_take L j _ (TrsIn_below HB.out tG.out))
        have hjc : j ≤ cG := by omega
        have htk : j = (L.take j).length := by simp; omega
        have HTKL := hid htk
        have HE := hid (fun (w : World) x y (h1 : TrIn Any w u2 x) (h2 : TrIn Any w u2 y) => Formula.same_any u2 w u2 x y h1 h2)
        have HE2 := HE.out
        simp only [eqT_refl] at HE2
        replace HE := hid HE2
        clear HE2
        have HW := hid (fun (w : World) (h : TrsIn Any w (L.take j) (some ⟨b, o, none⟩)) y (h2 : TrIn Any w u2 y) => wpForm_any (L.take j) u2 w (some ⟨b, o, none⟩) j cG y HTKL.out h h2 (by rw [← HTKL.out]; exact hjc) cG2)
        have HW2 := HW.out
        rw [hgood.out.1] at HW2
        replace HW := hid HW2
        clear HW2 htk
        go_wp2_with fail
        refine wp_region_over (by kernel_rfl) (by kernel_rfl) ?_; (repeat (go_big_quiet_step ((first | (go_at_call 17; with_reducible exact Calls.over (HE.out _ _ _ (TrIn_over hT.out.1 _) (TrIn_over hU.out.1 _))) | (go_at_call 18; with_reducible exact Calls.over (HW.out _ (TrsIn_over HTk.out _) _ (TrIn_over hT.out.1 _))))))); refine wpQuiet_nil ?_; rintro _ ⟨xq, rfl⟩
        have HB2 := hid (below_next HB.out (over_below wr xq))
        have HTx := hid (TrIn_over hT.out.1 xq)
        have hmem := hgood.out.2
        clear HE HW hU f0 f1 f2 fb
        have hg0 := g0
        have hg1 := g1
        have hg2 := g2
        have HTw := hid hT.out.1
        clear hT
        cases u2 with
        | mk ku vu kids =>
        obtain ⟨a5, c5, rfl, rfl, rfl, _, _, hc5, hc52, hks⟩ := TrIn_kids HTw.out
        have HK := hid hks
        have HM := hid hmem
        have hc53 := hc52
        unfold maxLen at hc53
        clear hks hmem HTw HTx hgood hg0 hg1 hg2
        go_wp2_with fail
        go_loopw [7] (fun i wq => ∃ q : Nat, q ≤ kids.length ∧ i = .int .i64 q ∧ Hid (Below wr.heap.size wr wq)) (fun i _ => kids.length - (intOf i).toNat)
        case atStart => exact ⟨0, Nat.zero_le _, rfl, hid (over_below _ _)⟩
        case round =>
          obtain ⟨q, hq, rfl, HBq⟩ := hrel
          have gbq := Nat.lt_of_lt_of_le gb HBq.out.size
          have k2 : wr.cell? ⟨b, o + j * 3 + 2, none⟩ = some (.slice a5 kids.length c5) := by rw [HBq.out.cell (p := ⟨b, _, none⟩) gb]; exact g2
          by_cases hltq : q < kids.length
          · obtain ⟨bk, ok, e0, e1, e2, tk, rfl, kb, m0, m1, m2, hTK⟩ := TrsIn_round HK.out HBq.out hltq
            have hltq2 : (q : Int) < (kids.length : Int) := by omega
            have HTkq := hid (TrsIn_below HBq.out HTk.out)
            have HW := hid (fun (w : World) (h : TrsIn Any w (L.take j) (some ⟨b, o, none⟩)) y (h2 : TrIn Any w tk y) => wpForm_any (L.take j) tk w (some ⟨b, o, none⟩) j cG y HTKL.out h h2 (by rw [← HTKL.out]; exact hjc) cG2)
            have HW2 := HW.out
            rw [HM.out tk hTK.out.2.1] at HW2
            replace HW := hid HW2
            clear HW2
            go_wp2_with fail
            refine wp_region_over (by kernel_rfl) (by kernel_rfl) ?_; (repeat (go_big_quiet_step ((go_at_call 18; with_reducible exact Calls.over (HW.out _ (TrsIn_over HTkq.out _) _ (TrIn_over hTK.out.1 _)))))); refine wpQuiet_nil ?_; rintro _ ⟨xq, rfl⟩
            have HF := hid (below_next HBq.out (over_below wr xq))
            clear HW hTK m0 m1 m2 HTkq
            go_wp2_with fail
            go_roundw
            case rel => exact ⟨q + 1, by omega, by go_num, HF⟩
            case measure => simp [intOf]; omega
          · have HF := hid (below_next HB.out HBq.out)
            go_wp2_with fail
            go_roundw
            case rel => exact ⟨j + 1, by omega, by go_num, HF⟩
            case measure => simp [intOf]; omega
      · have hlast : L[L0.length]? = some t := by rw [HL.out]; simp
        obtain ⟨b, o, c0, c1, c2, u, rfl, gb, g0, g1, g2, hT⟩ := TrsIn_round tG.out HB.out (show L0.length < L.length by have := HLEN.out; omega)
        obtain rfl : u = t := by
          have h1 := hT.out.2.2.2
          rw [hlast] at h1
          simpa using h1.symm
        have hm1 : (L.length : Int) - 1 = (L0.length : Int) := by have := HLEN.out; omega
        have hm2 : (L0.length : Int) < (L.length : Int) := by have := HLEN.out; omega
        have hle : (L.length : Int) ≤ formL.size u := by rw [hsz]; omega
        obtain ⟨p0, p1, p2, p3, _⟩ := box3_next HB.out b3
        have HX := hid (TrIn_below HB.out hx2)
        have HE := hid (fun (w : World) x y (h1 : TrIn Any w u x) (h2 : TrIn Any w u y) => Formula.same_any u w u x y h1 h2)
        have HE2 := HE.out
        simp only [eqT_refl] at HE2
        replace HE := hid HE2
        clear HE2
        go_wp2_with fail
        refine wp_region_over (by kernel_rfl) (by kernel_rfl) ?_; (repeat (go_big_quiet_step ((first | (go_at_call 17; with_reducible exact Calls.over (HE.out _ _ _ (TrIn_over hT.out.1 _) (TrIn_over HX.out _))) | (go_at_call 11; with_reducible exact Calls.over (Formula.nodes_any u _ _ (TrIn_over HX.out _))))))); refine wpQuiet_nil ?_; rintro _ ⟨xq, rfl⟩
        have HF := hid (below_next B1 (below_next HB.out (over_below wr xq)))
        go_wp2_with fail
        go_ret
        exact Ret.mk (bool_val (decide_eq_true (by omega))) HF.out
end Go.Proofs.Ythjhokifonjeaaa
