/- FnSystemVars returns true for every argument. Conditions: none. -/
import Derived.Test.YtffadknollkgiaaJS10
import Derived.Test.YtffadknollkgiaazSysVarsV
import Derived.Test.YtffadknollkgiaazWpOcc
import Derived.Deep.DeepCutAuto
set_option linter.unusedVariables false
set_option linter.unusedSimpArgs false
namespace Go.Proofs.Ytffadknollkgiaa
open Go.RowKit
open Go.Proofs.Ytffadknollkgiaa.Sys
set_option linter.unusedVariables false
set_option linter.unusedSimpArgs false

theorem okSy_ed {s : Sy} (h : okSy s = true) {q : Pr} (hq : q ∈ s.procs) {e : Ed} (he : e ∈ q.edges) : exprL.valid e.guard = true ∧ (0 ≤ e.var → exprL.valid e.val = true) := by
  simp only [okSy, Bool.and_eq_true, List.all_eq_true] at h
  have h1 := h.1 q hq
  simp only [okP, Bool.and_eq_true, List.all_eq_true] at h1
  have h2 := h1.1 e he
  simp only [Edge.okB, Edge.okV, Bool.and_eq_true] at h2
  refine ⟨h2.2.1, fun hv => ?_⟩
  have h3 := h2.2.2.2.2
  rw [if_neg (by omega)] at h3
  exact h3
theorem varsS_at (g : Ed → Nat → Bool) {s : Sy} {v : Nat} (hv : v < (varsS g s).length) : okSy s = true ∧ v < 3 ∧ (varsS g s)[v] = anyP g s.procs v := by
  by_cases h : okSy s = true
  · have e : varsS g s = [anyP g s.procs 0, anyP g s.procs 1, anyP g s.procs 2] := by rw [varsS, if_pos h]
    have hv3 : v < 3 := by rw [e] at hv; simpa using hv
    refine ⟨h, hv3, ?_⟩
    rcases (by omega : v = 0 ∨ v = 1 ∨ v = 2) with rfl | rfl | rfl <;> simp [e]
  · have e : varsS g s = [] := by rw [varsS, if_neg h]
    rw [e] at hv
    simp at hv

set_option maxRecDepth 100000 in
set_option maxHeartbeats 4000000 in
theorem walk_FnSystemVars (w : World) (a : Option Addr) (len cap : Nat) (hb : ByteArg w a len cap) : Calls Try.prog 6 #[.slice a len cap] w (Ret (.bool true) w) := by
  have hcap := hb.2.1
  have hcap1 := hb.1
  unfold maxLen at hcap
  by_cases hlen : len > 1048576
  · have hlen2 : (len : Int) > 1048576 := by omega
    go_enter Try.func6, Try.ntmps6
    go_wp2_with fail
    go_ret
    exact Ret.mk rfl (by repeat (first | exact Below.refl _ _ | assumption | refine below_a ?_ _ | refine below_o ?_ _ | refine below_d ?_ | refine below_n ?_ _ | refine below_s ?_ (by first | (simp; done) | (simp; omega) | omega) _))
  have hlen2 : ¬ ((len : Int) > 1048576) := by omega
  have HB := hid hb
  clear hb
  go_enter Try.func6, Try.ntmps6
  go_wp2_with fail
  refine (drawSysVars_any _ a len cap HB.out).mono ?_
  rintro e w1 ⟨v, rfl, ⟨s, hs, hbn⟩, B0⟩
  replace hs := hs.any
  obtain ⟨a1, c1, a2, c2, rfl⟩ := hs.shape
  have HX := hid hs
  have HI := hid (fun (W : World) (M : Below w1.heap.size w1 W) => sysVars_any s W _ (hs.below M))
  have HS := hid (fun (W : World) (M : Below w1.heap.size w1 W) => specSysVars_any s W _ (hs.below M))
  have hln := varsS_lens Sys.rdE Sys.wrE s
  have hlr : (varsS Sys.rdE s).length ≤ 3 := by unfold varsS; split <;> simp
  have hpb : s.procs.length ≤ 6 := hbn.2.1
  have HEB := hid (fun q (hq : q ∈ s.procs) => (hbn.2.2 q hq).1)
  have HR := hid (fun v (hv : v < (varsS Sys.rdE s).length) => varsS_at Sys.rdE hv)
  have HW := hid (fun v (hv : v < (varsS Sys.wrE s).length) => varsS_at Sys.wrE hv)
  obtain ⟨lr, hlrE⟩ : ∃ l, l = varsS Sys.rdE s := ⟨_, rfl⟩
  obtain ⟨lw, hlwE⟩ : ∃ l, l = varsS Sys.wrE s := ⟨_, rfl⟩
  rw [← hlrE] at HI HS HR hln hlr
  rw [← hlwE] at HI HS HW hln
  clear HB hs hbn hlrE hlwE
  go_wp2_with fail
  have h0 := below_alloc w1 (.cells #[.slice a1 s.init.length c1, .slice a2 s.procs.length c2] 36)
  refine (HI.out _ h0).mono ?_
  rintro e w2 ⟨vG, rfl, ⟨aG, cG, bsG, aH, cH, bsH, rfl, ⟨cG1, cG2, oG, gG⟩, ⟨cH1, cH2, oH, gH⟩, _⟩, hb⟩
  rw [List.length_map] at cG1 cH1
  rw [List.length_map, List.length_map]
  have P := hid (boxp_next hb (boxp_at (w := w1) (a := .slice a1 s.init.length c1) (b := .slice a2 s.procs.length c2) (t := 36) rfl))
  have M := hid (below_next h0 hb)
  have OG := hid (show BoolsIn Any w2 aG lr from oG.any)
  have OH := hid (show BoolsIn Any w2 aH lw from oH.any)
  clear hb h0 oG gG oH gH
  obtain ⟨p0, p1, p2, p3, p4⟩ := id P.out
  go_wp2_with fail
  refine (HS.out _ M.out).mono ?_
  rintro e w3 ⟨vW, rfl, ⟨aV, cV, bsV, aW, cW, bsW, rfl, _, _, _⟩, hb⟩
  rw [List.length_map, List.length_map]
  replace P := hid (boxp_next hb P.out)
  replace M := hid (below_next M.out hb)
  replace OG := hid (OG.out.below hb)
  replace OH := hid (OH.out.below hb)
  have HLN := hid hln
  have HXX := hid (HX.out.below M.out)
  have hlw : lw.length ≤ 3 := by omega
  rw [← hln]
  clear hb p0 p1 p2 p3 p4 HI HS HX
  rw [← hln] at cH1
  clear hln
  obtain ⟨p0, p1, p2, p3, p4⟩ := id P.out
  go_wp2_with fail
  go_loopw [8] (fun i wr => ∃ v : Nat, v ≤ lr.length ∧ i = .int .i64 v ∧ Hid (Below w3.heap.size w3 wr)) (fun i _ => lr.length - (intOf i).toNat)
  case atStart => exact ⟨0, Nat.zero_le _, rfl, hid (Below.refl _ _)⟩
  case round =>
    obtain ⟨v, hv, rfl, BL⟩ := hrel
    clear p0 p1 p2 p3 p4
    obtain ⟨wo, rfl⟩ : ∃ wo : World, wo = wr := ⟨_, rfl⟩
    by_cases hlt : v < lr.length
    · have hlt2 : (v : Int) < (lr.length : Int) := by omega
      obtain ⟨hok, hv3, hrd⟩ := HR.out v hlt
      have hltw : v < lw.length := by have := HLN.out; omega
      obtain ⟨_, _, hwr⟩ := HW.out v hltw
      have HOK := hid hok
      have HRD := hid hrd
      have HWR := hid hwr
      clear hok hrd hwr
      go_wp2_with fail
      go_loopw [9, 10, 11] (fun r9 r10 i wi => ∃ p : Nat, p ≤ s.procs.length ∧ i = .int .i64 p ∧ Hid (r9 = .bool (acc Sys.rdE (s.procs.take p) [] v) ∧ r10 = .bool (acc Sys.wrE (s.procs.take p) [] v)) ∧ Hid (Below w3.heap.size w3 wi)) (fun _ _ i _ => s.procs.length - (intOf i).toNat)
      case atStart => exact ⟨0, Nat.zero_le _, rfl, hid ⟨by simp [acc, anyP, anyE], by simp [acc, anyP, anyE]⟩, BL⟩
      case round =>
        obtain ⟨p, hp, rfl, H9, B2⟩ := hrel
        obtain ⟨h9, h10⟩ := H9.out
        subst h9
        subst h10
        clear H9
        obtain ⟨p0, p1, p2, p3, p4⟩ := boxp_next B2.out P.out
        obtain ⟨wm, rfl⟩ : ∃ wm : World, wm = wr := ⟨_, rfl⟩
        by_cases hpl : p < s.procs.length
        · have hpl2 : (p : Int) < (s.procs.length : Int) := by omega
          obtain ⟨_, _, _, _, he, _, _, _, _, _, hPr⟩ := HXX.out
          simp at he
          obtain ⟨⟨rfl, rfl⟩, rfl, rfl⟩ := he
          obtain ⟨b', o, rfl, _, hbp, ea, ec, ⟨g0, g1⟩, _, _, he, i1, i2, i3, i4⟩ := SeqIn.at hPr hpl
          simp at he
          obtain ⟨rfl, rfl⟩ := he
          have HE := hid i4
          unfold maxLen at i3
          have hqe := HEB.out s.procs[p] (List.getElem_mem hpl)
          have HED := hid (fun e (he : e ∈ s.procs[p].edges) => okSy_ed HOK.out (List.getElem_mem hpl) he)
          have HN1 := hid (fun i => acc_next Sys.rdE hpl i)
          have HN2 := hid (fun i => acc_next Sys.wrE hpl i)
          have HS1 := hid (acc_start Sys.rdE (s.procs.take p) s.procs[p].edges v)
          have HS2 := hid (acc_start Sys.wrE (s.procs.take p) s.procs[p].edges v)
          generalize s.procs[p] = q at *
          clear i4 hPr
          have g1' := cell_below B2.out hbp g1
          go_wp2_with fail
          go_loopw [9, 10, 12] (fun r9 r10 i wj => ∃ k : Nat, k ≤ q.edges.length ∧ i = .int .i64 k ∧ Hid (r9 = .bool (acc Sys.rdE (s.procs.take p) (q.edges.take k) v) ∧ r10 = .bool (acc Sys.wrE (s.procs.take p) (q.edges.take k) v)) ∧ Hid (Below w3.heap.size w3 wj)) (fun _ _ i _ => q.edges.length - (intOf i).toNat)
          case atStart => exact ⟨0, Nat.zero_le _, rfl, hid ⟨by rw [HS1.out], by rw [HS2.out]⟩, B2⟩
          case round =>
            obtain ⟨k, hk, rfl, H9, B3⟩ := hrel
            obtain ⟨h9, h10⟩ := H9.out
            subst h9
            subst h10
            clear H9 p0 p1 p2 p3 p4 g1'
            obtain ⟨p0, p1, p2, p3, p4⟩ := boxp_next B3.out P.out
            have g1' := cell_below B3.out hbp g1
            obtain ⟨wn, rfl⟩ : ∃ wn : World, wn = wr := ⟨_, rfl⟩
            by_cases hkl : k < q.edges.length
            · have hkl2 : (k : Int) < (q.edges.length : Int) := by omega
              obtain ⟨be, oe, rfl, _, hbe, a3, c3, a4, c4, ⟨e0, e1, e2, e3, e4, e5, e6, e7, e8, e9⟩, hEd⟩ := SeqIn.at HE.out hkl
              obtain ⟨_, _, _, _, he, _, _, _, _, hg, hvl⟩ := hEd
              simp only [Value.agg.injEq, Array.mk.injEq, List.cons.injEq, and_true, Value.slice.injEq, true_and] at he
              obtain ⟨⟨rfl, rfl⟩, rfl, rfl⟩ := he
              have HGd := hid hg
              have HVl := hid hvl
              have HVV := hid (HED.out q.edges[k] (List.getElem_mem hkl))
              have HA1 := hid (acc_step Sys.rdE (s.procs.take p) hkl v)
              have HA2 := hid (acc_step Sys.wrE (s.procs.take p) hkl v)
              generalize q.edges[k] = e at *
              replace e0 := cell_below B3.out hbe e0
              replace e1 := cell_below B3.out hbe e1
              replace e2 := cell_below B3.out hbe e2
              replace e3 := cell_below B3.out hbe e3
              replace e4 := cell_below B3.out hbe e4
              replace e5 := cell_below B3.out hbe e5
              replace e6 := cell_below B3.out hbe e6
              replace e7 := cell_below B3.out hbe e7
              replace e8 := cell_below B3.out hbe e8
              replace e9 := cell_below B3.out hbe e9
              clear hg hvl
              go_upto_region 20 with fail
              obtain ⟨E, hE⟩ : ∃ E, E = wn.heap.size := ⟨_, rfl⟩
              rw [← hE]
              refine wp_gen (fun W => Below wn.heap.size wn W ∧ Box10 W E (.int .i64 e.src) (.int .i64 e.dst) (.int .i64 e.guard.kind) (.int .i64 e.guard.val) (.slice a3 e.guard.kids.length c3) (.int .i64 e.var) (.int .i64 e.val.kind) (.int .i64 e.val.val) (.slice a4 e.val.kids.length c4) (.int .i64 e.sync)) ⟨below_alloc _ _, box10_at hE _ _ _ _ _ _ _ _ _ _ _⟩ ?_
              rintro W1 ⟨h1, h2⟩
              have B4 := hid (below_next B3.out h1)
              have X4 := hid h2
              clear h1 h2 hE e0 e1 e2 e3 e4 e5 e6 e7 e8 e9 p0 p1 p2 p3 p4 g1'
              generalize hR1 : acc Sys.rdE (s.procs.take p) (q.edges.take k) v = R1 at *
              generalize hR2 : acc Sys.wrE (s.procs.take p) (q.edges.take k) v = R2 at *
              clear hR1 hR2
              go_cut [9] (fun s9 wx => Hid (s9 = .bool (R1 || Sys.rdE e v)) ∧ Hid (Below w3.heap.size w3 wx) ∧ Hid (Box10 wx E (.int .i64 e.src) (.int .i64 e.dst) (.int .i64 e.guard.kind) (.int .i64 e.guard.val) (.slice a3 e.guard.kids.length c3) (.int .i64 e.var) (.int .i64 e.val.kind) (.int .i64 e.val.val) (.slice a4 e.val.kids.length c4) (.int .i64 e.sync)))
              case first =>
                obtain ⟨xl, ⟨x0, x1, x2, x3, x4, x5, x6, x7, x8, x9⟩, _⟩ := id X4.out
                cases R1 with
                | true =>
                  go_wp2_with fail
                  go_meet
                  exact ⟨hid (by rw [Bool.true_or]), B4, X4⟩
                | false =>
                  go_wp2_with fail
                  refine (wpOcc_any e.guard v _ _ (TrIn_below B4.out HGd.out) HVV.out.1 hv3).mono ?_
                  rintro y W2 ⟨rfl, hb⟩
                  have B5 := hid (below_next B4.out hb)
                  have X5 := hid (box10_next hb X4.out)
                  clear hb xl x0 x1 x2 x3 x4 x5 x6 x7 x8 x9
                  obtain ⟨xl, ⟨x0, x1, x2, x3, x4, x5, x6, x7, x8, x9⟩, _⟩ := id X5.out
                  have HRd := hid (show Sys.rdE e v = (occT v e.guard || (decide (0 ≤ e.var) && occT v e.val)) from rfl)
                  generalize occT v e.guard = G at *
                  cases G with
                  | true =>
                    go_wp2_with fail
                    go_meet
                    exact ⟨hid (by rw [HRd.out]; rfl), B5, X5⟩
                  | false =>
                    by_cases hvar : 0 ≤ e.var
                    · go_wp2_with fail
                      refine (wpOcc_any e.val v _ _ (TrIn_below B5.out HVl.out) (HVV.out.2 hvar) hv3).mono ?_
                      rintro y W3 ⟨rfl, hb⟩
                      have B6 := hid (below_next B5.out hb)
                      have X6 := hid (box10_next hb X5.out)
                      have hd := hid (show decide (0 ≤ e.var) = true by simpa using hvar)
                      clear hb xl x0 x1 x2 x3 x4 x5 x6 x7 x8 x9
                      generalize occT v e.val = V at *
                      go_wp2_with fail
                      go_meet
                      exact ⟨hid (by rw [HRd.out, hd.out]; simp), B6, X6⟩
                    · have hd := hid (show decide (0 ≤ e.var) = false by simpa using hvar)
                      go_wp2_with fail
                      go_meet
                      exact ⟨hid (by rw [HRd.out, hd.out]; simp), B5, X5⟩
              case rest =>
              obtain ⟨H9, B7, X7⟩ := hcut
              obtain ⟨xl, ⟨x0, x1, x2, x3, x4, x5, x6, x7, x8, x9⟩, _⟩ := id X7.out
              have h9 := H9.out
              subst h9
              clear H9 B4 X4
              cases R2 with
              | true =>
                go_wp2_with fail
                go_roundw
                case rel => exact ⟨k + 1, hkl, by go_num, hid ⟨by rw [HA1.out], by rw [HA2.out]; simp⟩, B7⟩
                case measure => simp [intOf]; omega
              | false =>
                by_cases hvv : e.var = (v : Int)
                · have hve : (e.var == (v : Int)) = true := by simpa using hvv
                  have hw := hid (show Sys.wrE e v = true by simp [Sys.wrE, hvv])
                  clear hvv
                  go_wp2_with fail
                  go_roundw
                  case rel => exact ⟨k + 1, hkl, by go_num, hid ⟨by rw [HA1.out], by rw [HA2.out, hw.out]; simp⟩, B7⟩
                  case measure => simp [intOf]; omega
                · have hve : (e.var == (v : Int)) = false := by simpa using hvv
                  have hw := hid (show Sys.wrE e v = false by simp [Sys.wrE, hvv])
                  clear hvv
                  go_wp2_with fail
                  go_roundw
                  case rel => exact ⟨k + 1, hkl, by go_num, hid ⟨by rw [HA1.out], by rw [HA2.out, hw.out]; simp⟩, B7⟩
                  case measure => simp [intOf]; omega
            · obtain rfl : k = q.edges.length := by omega
              clear hk hkl
              go_wp2_with fail
              go_roundw
              case rel => exact ⟨p + 1, hpl, by go_num, hid ⟨by rw [HN1.out], by rw [HN2.out]⟩, B3⟩
              case measure => simp [intOf]; omega
        · obtain rfl : p = s.procs.length := by omega
          have hnl : ¬ ((s.procs.length : Int) < (s.procs.length : Int)) := by omega
          rw [acc_done, acc_done]
          obtain ⟨b5, o5, rfl, _, _, g5⟩ := bools_at OG.out B2.out hlt
          obtain ⟨b6, o6, rfl, _, _, g6⟩ := bools_at OH.out B2.out hltw
          rw [HRD.out] at g5
          rw [HWR.out] at g6
          generalize anyP Sys.rdE s.procs v = R1 at *
          generalize anyP Sys.wrE s.procs v = R2 at *
          clear hp hpl
          go_wp2_with fail
          go_roundw
          case rel => exact ⟨v + 1, hlt, by go_num, B2⟩
          case measure => simp [intOf]; omega
    · obtain rfl : v = lr.length := by omega
      have hnl : ¬ ((lr.length : Int) < (lr.length : Int)) := by omega
      clear hv hlt
      go_wp2_with fail
      go_ret
      exact Ret.mk rfl (below_next B0 (below_next M.out BL.out))
end Go.Proofs.Ytffadknollkgiaa
