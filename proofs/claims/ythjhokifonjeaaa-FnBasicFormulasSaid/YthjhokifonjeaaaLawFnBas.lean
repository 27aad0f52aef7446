/- FnBasicFormulas returns true for every argument. Conditions: none. -/
import Derived.Test.YthjhokifonjeaaaDrawBasicFormulas
import Derived.Test.YthjhokifonjeaaaSubLaw
import Derived.Test.YthjhokifonjeaaaBasY
import Derived.Test.YthjhokifonjeaaaFormulaImplN
namespace Go.Proofs.Ythjhokifonjeaaa
open Go.RowKit
open Go.Proofs.Ythjhokifonjeaaa.Formula

theorem nodup_of {L : List Tr} (h : ∀ i u, L[i]? = some u → u ∉ L.take i) : L.Nodup := by
  unfold List.Nodup
  rw [List.pairwise_iff_getElem]
  intro i j hi hj hij e
  have hu : L[j]? = some L[j] := List.getElem?_eq_getElem hj
  refine h j _ hu ?_
  have : (L.take j)[i]? = some L[j] := by rw [List.getElem?_take, if_pos hij, List.getElem?_eq_getElem hi, e]
  exact List.mem_of_getElem? this
theorem nodup_to {L : List Tr} (h : L.Nodup) {i : Nat} {u : Tr} (hu : L[i]? = some u) : u ∉ L.take i := by
  intro hm
  unfold List.Nodup at h
  rw [List.pairwise_iff_getElem] at h
  obtain ⟨k, hk⟩ := List.mem_iff_getElem?.1 hm
  rw [List.getElem?_take] at hk
  split at hk
  · rename_i hki
    have hl : i < L.length := by
      rcases Nat.lt_or_ge i L.length with h | h
      · exact h
      · rw [List.getElem?_eq_none h] at hu; cases hu
    rw [List.getElem?_eq_getElem (by omega)] at hk
    rw [List.getElem?_eq_getElem hl] at hu
    exact h k i (by omega) hl hki (by simp at hk hu; rw [hk, hu])
  · cases hk
theorem bas_diff {L : List Tr} (h : Formula.Good L) {i : Nat} {u : Tr} (hu : (basL L)[i]? = some u) : memL ((basL L).take i) u = false ∧ memL L u = true ∧ basT u = true := by
  have h1 : L.Nodup := nodup_of fun i u hu => memL_false.1 (h i u hu).1
  have h2 : (basL L).Nodup := h1.filter _
  have hm : u ∈ basL L := List.mem_of_getElem? hu
  unfold basL at hm
  rw [List.mem_filter] at hm
  exact ⟨memL_false.2 (nodup_to h2 hu), memL_iff.2 hm.1, hm.2⟩

set_option maxRecDepth 100000 in
set_option maxHeartbeats 8000000 in
theorem walk_FnBasicFormulas (w : World) (a : Option Addr) (len cap : Nat) (hb : ByteArg w a len cap) : Calls Try.prog 7 #[.slice a len cap] w (Ret (.bool true) w) := by
  have hcap := hb.2.1
  have hcap1 := hb.1
  unfold maxLen at hcap
  by_cases hlen : len > 1048576
  · have hlen2 : (len : Int) > 1048576 := by omega
    go_enter Try.func7, Try.ntmps7
    go_wp2_with fail
    go_ret
    exact Ret.mk rfl (by repeat (first | exact Below.refl _ _ | assumption | refine below_a ?_ _ | refine below_o ?_ _ | refine below_d ?_ | refine below_n ?_ _ | refine below_s ?_ (by first | (simp; done) | (simp; omega) | omega) _))
  have hlen2 : ¬ ((len : Int) > 1048576) := by omega
  go_enter Try.func7, Try.ntmps7
  go_wp2_with fail
  refine (Formula.drawBasicFormulas_any _ a len cap hb).mono ?_
  rintro e w1 ⟨v, rfl, ⟨t, hn, hnt⟩, B1⟩
  obtain ⟨a1, n1, rfl⟩ := TrIn_shape hn.any
  have hx := hn.any
  have hsm := small_nodes t (by omega)
  clear hn hb
  go_wp2_with fail
  refine (Formula.bas_any t _ _ (TrIn_below (by repeat (first | exact Below.refl _ _ | assumption | refine below_a ?_ _ | refine below_o ?_ _ | refine below_d ?_ | refine below_n ?_ _ | refine below_s ?_ (by first | (simp; done) | (simp; omega) | omega) _)) hx) hsm).mono ?_
  rintro e w2 ⟨vG, rfl, ⟨aG, cG, bsG, rfl, cG1, cG2, oG, _⟩, hb2⟩
  have b3 := box3_next hb2 (box3_new w1 (.int .i64 t.kind) (.int .i64 t.val) (.slice a1 t.kids.length n1) 25)
  replace hb2 := below_next (below_alloc _ _) hb2
  have hx2 := TrIn_below hb2 hx
  replace B1 := below_next B1 hb2
  clear hb2 hx
  go_wp2_with fail
  refine (Formula.specBas_any t _ _ (TrIn_below (by repeat (first | exact Below.refl _ _ | assumption | refine below_a ?_ _ | refine below_o ?_ _ | refine below_d ?_ | refine below_n ?_ _ | refine below_s ?_ (by first | (simp; done) | (simp; omega) | omega) _)) hx2) hsm).mono ?_
  rintro e w3 ⟨vW, rfl, ⟨aW, cW, bsW, rfl, cW1, cW2, oW, _⟩, hb3⟩
  replace b3 := box3_next hb3 b3
  replace hx2 := TrIn_below hb3 hx2
  replace B1 := below_next B1 hb3
  have tG := hid (oG.below hb3).any
  have tW := hid oW.any
  clear hb3 oG oW
  have hbb : (basOk t != basOk t) = false := by simp
  cases hv : basOk t with
  | false =>
    have E : basV t = [] := by simp [basV, hv]
    rw [hv] at *
    rw [E] at tG tW cG1 cW1 ⊢
    clear hv
    go_wp2_with fail
    go_ret
    exact Ret.mk rfl B1
  | true =>
    have E : basV t = basN t := by simp [basV, hv]
    have hv2 := hv
    rw [basOk, Bool.and_eq_true, decide_eq_true_eq] at hv2
    obtain ⟨hok, h5⟩ := hv2
    have hn12 := normV_nodes t hok
    have hval : formL.valid (normV t) = true := by
      have h2 := hok
      unfold normV
      rw [if_pos hok]
      rw [normOk, Bool.and_eq_true] at h2
      exact h2.2
    have hsm2 : Small (normV t) := small_nodes _ (by omega)
    have HV := hid hval
    have HG := hid (subsT_good (normV t) [] Formula.Good.nil).1
    have E2 : basN t = basL (subsT [] (normV t)) := rfl
    have ES := hid (show subsV (normV t) = subsT [] (normV t) by simp [subsV, hval])
    have hbd := subsT_len (normV t) []
    simp only [List.length_nil] at hbd
    rw [hv] at *
    rw [E, E2] at tG tW cG1 cW1 ⊢
    rw [E2] at h5
    have HOK := hid hok
    clear hv E E2 hval hok
    have ne1 : ((basL (subsT [] (normV t))).length != (basL (subsT [] (normV t))).length) = false := by simp
    obtain ⟨p0, p1, p2, p3, _⟩ := b3
    go_wp2_with fail
    refine (Formula.norm_any t _ _ hx2 hsm).mono ?_
    rintro e w4 ⟨vN, rfl, hN, hb4⟩
    obtain ⟨aN, nN, rfl⟩ := TrIn_shape hN.any
    rw [HOK.out]
    have hNx := hN.any
    have B4 := below_next B1 hb4
    replace tG := hid (TrsIn_below hb4 tG.out)
    replace tW := hid (TrsIn_below hb4 tW.out)
    clear hb4 hN p0 p1 p2 p3
    go_wp2_with fail
    refine (Formula.subs_any (normV t) _ _ (TrIn_below (by repeat (first | exact Below.refl _ _ | assumption | refine below_a ?_ _ | refine below_o ?_ _ | refine below_d ?_ | refine below_n ?_ _ | refine below_s ?_ (by first | (simp; done) | (simp; omega) | omega) _)) hNx) hsm2).mono ?_
    rintro e w5 ⟨vS, rfl, ⟨aS, cS, bsS, rfl, cS1, cS2, oS, _⟩, hb5⟩
    replace hb5 := below_next (below_alloc _ _) hb5
    replace B4 := below_next B4 hb5
    replace tG := hid (TrsIn_below hb5 tG.out)
    replace tW := hid (TrsIn_below hb5 tW.out)
    have tS := oS.any
    rw [ES.out] at tS cS1 ⊢
    have TS := hid tS
    have HBD := hid (fun (i : Nat) (u : Tr) hu => bas_diff HG.out (i := i) (u := u) hu)
    clear hb5 oS hNx tS
    have cG3 := cG2
    have cW3 := cW2
    have cS3 := cS2
    unfold maxLen at cG3 cW3 cS3
    generalize hLL : basL (subsT [] (normV t)) = L at *
    clear hLL
    go_wp2_with fail
    go_loopw [11] (fun i wr => ∃ j : Nat, j ≤ L.length ∧ i = .int .i64 j ∧ Hid (Below w5.heap.size w5 wr)) (fun i _ => L.length - (intOf i).toNat)
    case atStart => exact ⟨0, Nat.zero_le _, rfl, hid (Below.refl _ _)⟩
    case round =>
      obtain ⟨j, hj, rfl, HB⟩ := hrel
      by_cases hlt : j < L.length
      · obtain ⟨b, o, c0, c1, c2, u, rfl, gb, g0, g1, g2, hT⟩ := TrsIn_round tG.out HB.out hlt
        obtain ⟨b', o', d0, d1, d2, u2, rfl, fb, f0, f1, f2, hU⟩ := TrsIn_round tW.out HB.out hlt
        obtain rfl : u2 = u := by
          have h1 := hU.out.2.2.2
          rw [hT.out.2.2.2] at h1
          simpa using h1.symm
        have hgood := hid (HBD.out j u2 hT.out.2.2.2)
        have hlt2 : (j : Int) < (L.length : Int) := by omega
        have HTk := hid (TrsIn_take L j _ (TrsIn_below HB.out tG.out))
        have HTS := hid (TrsIn_below HB.out TS.out)
        have hjc : j ≤ cG := by omega
        have htk : j = (L.take j).length := by simp; omega
        have HTKL := hid htk
        have HE := hid (fun (w : World) x y (h1 : TrIn Any w u2 x) (h2 : TrIn Any w u2 y) => Formula.same_any u2 w u2 x y h1 h2)
        have HE2 := HE.out
        simp only [eqT_refl] at HE2
        replace HE := hid HE2
        clear HE2
        have HW := hid (fun (w : World) (h : TrsIn Any w (L.take j) (some ⟨b, o, none⟩)) y (h2 : TrIn Any w u2 y) => wpForm_any (L.take j) u2 w (some ⟨b, o, none⟩) j cG y HTKL.out h h2 (by rw [← HTKL.out]; exact hjc) cG2)
        have HW2 := HW.out
        rw [hgood.out.1] at HW2
        replace HW := hid HW2
        clear HW2 htk
        have HY := hid (fun (w : World) (h : TrsIn Any w (subsT [] (normV t)) aS) y (h2 : TrIn Any w u2 y) => wpForm_any (subsT [] (normV t)) u2 w aS _ cS y rfl h h2 cS1 cS2)
        have HY2 := HY.out
        rw [hgood.out.2.1] at HY2
        replace HY := hid HY2
        clear HY2
        have hkind : u2.kind = 2 ∨ u2.kind = 6 ∨ u2.kind = 7 ∨ u2.kind = 8 := by
          have := hgood.out.2.2
          unfold basT at this; simp at this; omega
        have hTT := hid hT.out.1
        have hUU := hid hU.out.1
        clear hT hU hgood
        generalize subsT [] (normV t) = LS at *
        cases u2 with
        | mk ku vu kids =>
        obtain ⟨a5, c5, rfl, rfl, rfl, _, _, _, _, _⟩ := TrIn_kids hTT.out
        obtain ⟨a6, c6, rfl, rfl, rfl, _, _, _, _, _⟩ := TrIn_kids hUU.out
        simp only [Tr.kind] at hkind
        rcases hkind with rfl | rfl | rfl | rfl
        all_goals
          go_wp2_with fail
          refine wp_region_over (by kernel_rfl) (by kernel_rfl) ?_; (repeat (go_big_quiet_step ((first | (go_at_call 17; with_reducible exact Calls.over (HE.out _ _ _ (TrIn_over hTT.out _) (TrIn_over hUU.out _))) | (go_at_call 18; first | with_reducible exact Calls.over (HW.out _ (TrsIn_over HTk.out _) _ (TrIn_over hTT.out _)) | with_reducible exact Calls.over (HY.out _ (TrsIn_over HTS.out _) _ (TrIn_over hTT.out _))))))); refine wpQuiet_nil ?_; rintro _ ⟨xq, rfl⟩
          have HF := hid (below_next HB.out (over_below wr xq))
          go_wp2_with fail
          go_roundw
          case rel => exact ⟨j + 1, by omega, by go_num, HF⟩
          case measure => simp [intOf]; omega
      · have HF := hid (below_next B4 HB.out)
        have hl5 : (L.length : Int) ≤ 5 := by omega
        go_wp2_with fail
        go_ret
        exact Ret.mk rfl HF.out
end Go.Proofs.Ythjhokifonjeaaa
