/- FnSystemReach returns true for every argument. Conditions: none. -/
import Derived.Test.YtffadknollkgiaaJS10
import Derived.Test.YtffadknollkgiaazReachX
set_option linter.unusedVariables false
set_option linter.unusedSimpArgs false
namespace Go.Proofs.Ytffadknollkgiaa
open Go.RowKit
open Go.Proofs.Ytffadknollkgiaa.Sys
set_option linter.unusedVariables false
set_option linter.unusedSimpArgs false

theorem okSy_proc {s : Sy} (h : okSy s = true) {q : Pr} (hq : q ∈ s.procs) : okP q = true := by
  simp only [okSy, Bool.and_eq_true, List.all_eq_true] at h
  exact h.1 q hq
theorem okP_locs {q : Pr} (h : okP q = true) : 1 ≤ q.locs ∧ q.locs ≤ 4 ∧ q.edges.length ≤ 6 := by
  simp only [okP, Bool.and_eq_true, decide_eq_true_eq] at h
  exact ⟨h.2.1, h.2.2.1, h.2.2.2⟩
theorem okP_ed {q : Pr} (h : okP q = true) {e : Ed} (he : e ∈ q.edges) : (0 ≤ e.src ∧ e.src < q.locs) ∧ (0 ≤ e.dst ∧ e.dst < q.locs) := by
  simp only [okP, Bool.and_eq_true, List.all_eq_true] at h
  have h2 := h.1 e he
  simp only [Edge.okB, Bool.and_eq_true, decide_eq_true_eq] at h2
  exact ⟨h2.1.1, h2.1.2.1⟩
theorem rchB_zero (es : List Ed) : rchB es 0 = true := decP_iff.2 .zero
theorem rchB_step {es : List Ed} {e : Ed} (he : e ∈ es) (h : rchB es e.src.toNat = true) : rchB es e.dst.toNat = true := decP_iff.2 (.step e he (decP_iff.1 h))

set_option maxRecDepth 100000 in
set_option maxHeartbeats 4000000 in
theorem walk_FnSystemReach (w : World) (a : Option Addr) (len cap : Nat) (hb : ByteArg w a len cap) : Calls Try.prog 5 #[.slice a len cap] w (Ret (.bool true) w) := by
  have hcap := hb.2.1
  have hcap1 := hb.1
  unfold maxLen at hcap
  by_cases hlen : len > 1048576
  · have hlen2 : (len : Int) > 1048576 := by omega
    go_enter Try.func5, Try.ntmps5
    go_wp2_with fail
    go_ret
    exact Ret.mk rfl (by repeat (first | exact Below.refl _ _ | assumption | refine below_a ?_ _ | refine below_o ?_ _ | refine below_d ?_ | refine below_n ?_ _ | refine below_s ?_ (by first | (simp; done) | (simp; omega) | omega) _))
  have hlen2 : ¬ ((len : Int) > 1048576) := by omega
  have HB := hid hb
  clear hb
  go_enter Try.func5, Try.ntmps5
  go_wp2_with fail
  refine (drawReach_any _ a len cap HB.out).mono ?_
  rintro e w1 ⟨v, rfl, ⟨x, n, rfl, ⟨s, hs, hbn⟩, hn1, hn2⟩, B0⟩
  replace hs := hs.any
  obtain ⟨a1, c1, a2, c2, rfl⟩ := hs.shape
  have HX := hid hs
  have HI := hid (fun (W : World) (M : Below w1.heap.size w1 W) => sysReach_any s n W _ (hs.below M))
  have HS := hid (fun (W : World) (M : Below w1.heap.size w1 W) => specReach_any s n W _ (hs.below M))
  have HRR := hid (show (¬(okSy s = true ∧ 0 ≤ n ∧ n < s.procs.length) ∧ reachV s n = []) ∨ (∃ (m : Nat) (h : m < s.procs.length), n = m ∧ okP s.procs[m] = true ∧ reachV s n = rchL s.procs[m]) from by
    by_cases hg : okSy s = true ∧ 0 ≤ n ∧ n < s.procs.length
    · obtain ⟨g1, g2, g3⟩ := hg
      obtain ⟨m, rfl⟩ := Int.eq_ofNat_of_zero_le g2
      have hm : m < s.procs.length := by omega
      exact .inr ⟨m, hm, rfl, okSy_proc g1 (List.getElem_mem hm), reachV_good g1 hm⟩
    · exact .inl ⟨hg, reachV_bad hg⟩)
  obtain ⟨r, hr⟩ : ∃ r, r = reachV s n := ⟨_, rfl⟩
  rw [← hr] at HI HS HRR
  clear HB hs hr hbn
  go_wp2_with fail
  have h0 := below_alloc w1 (.cells #[.slice a1 s.init.length c1, .slice a2 s.procs.length c2] 36)
  refine (HI.out _ h0).mono ?_
  rintro e w2 ⟨vG, rfl, ⟨aG, cG, bsG, rfl, cG1, cG2, oG, gG⟩, hb⟩
  rw [List.length_map] at cG1 ⊢
  have P := hid (boxp_next hb (boxp_at (w := w1) (a := .slice a1 s.init.length c1) (b := .slice a2 s.procs.length c2) (t := 36) rfl))
  have M := hid (below_next h0 hb)
  have OG := hid oG.any
  clear hb h0 oG gG
  obtain ⟨p0, p1, p2, p3, p4⟩ := id P.out
  go_wp2_with fail
  refine (HS.out _ M.out).mono ?_
  rintro e w3 ⟨vW, rfl, ⟨aW, cW, bsW, rfl, cW1, cW2, oW, gW⟩, hb⟩
  rw [List.length_map] at cW1 ⊢
  replace P := hid (boxp_next hb P.out)
  replace M := hid (below_next M.out hb)
  replace OG := hid (OG.out.below hb)
  have OW := hid oW.any
  clear hb oW gW p0 p1 p2 p3 p4 HI HS
  rcases HRR.out with ⟨_, rfl⟩ | ⟨m, hm, rfl, hok, hr⟩
  · simp only [List.length_nil]
    go_wp2_with fail
    go_ret
    exact Ret.mk rfl (below_next B0 M.out)
  · obtain ⟨q1, q2, q3⟩ := okP_locs hok
    obtain ⟨ln, hln⟩ := Int.eq_ofNat_of_zero_le (show 0 ≤ s.procs[m].locs by omega)
    have hrl : r.length = ln := by rw [hr, rchL_len, hln]; rfl
    have HAt := hid (show ∀ k (hk : k < r.length), r[k] = rchB s.procs[m].edges k from fun k hk => by
      have h1 := rchL_at (q := s.procs[m]) (i := k) (by rw [hln]; simp; omega)
      rw [← hr, List.getElem?_eq_getElem hk] at h1
      exact Option.some.inj h1)
    have HOK := hid hok
    have hr4 : r.length ≤ 4 := by omega
    have hr0 : ((r.length : Int) == 0) = false := by simp; intro e; rw [e] at hrl; simp at hrl; omega
    have hlp : 0 < r.length := by omega
    have HRL := hid hrl
    clear hr hok HRR hrl
    obtain ⟨p0, p1, p2, p3, p4⟩ := id P.out
    go_wp2_with fail
    go_loopw [7] (fun i wr => ∃ k : Nat, k ≤ r.length ∧ i = .int .i64 k ∧ Hid (Below w3.heap.size w3 wr)) (fun i _ => r.length - (intOf i).toNat)
    case atStart => exact ⟨0, Nat.zero_le _, rfl, hid (Below.refl _ _)⟩
    case round =>
      obtain ⟨k, hk, rfl, BL⟩ := hrel
      by_cases hlt : k < r.length
      · have hlt2 : (k : Int) < (r.length : Int) := by omega
        obtain ⟨bG, oG, rfl, _, _, gG⟩ := bools_at OG.out BL.out hlt
        obtain ⟨bW, oW, rfl, _, _, gW⟩ := bools_at OW.out BL.out hlt
        generalize r[k] = rk at *
        go_wp2_with fail
        refine wp_region_over (by kernel_rfl) (by kernel_rfl) ?_; (repeat (go_big_quiet_step ((fail)))); refine wpQuiet_nil ?_; rintro _ ⟨xq, rfl⟩
        have BL2 := hid (below_next BL.out (over_below wr xq))
        go_wp2_with fail
        go_roundw
        case rel => exact ⟨k + 1, hlt, by go_num, BL2⟩
        case measure => simp [intOf]; omega
      · obtain rfl : k = r.length := by omega
        have hnl : ¬ ((r.length : Int) < (r.length : Int)) := by omega
        have hmI : (m : Int) < (s.procs.length : Int) := by omega
        have MM := hid (below_next M.out BL.out)
        have OGG := hid (OG.out.below BL.out)
        have PP := hid (boxp_next BL.out P.out)
        clear p0 p1 p2 p3 p4
        obtain ⟨p0, p1, p2, p3, p4⟩ := id PP.out
        obtain ⟨_, _, _, _, he, _, _, _, _, _, hPr⟩ := HX.out.below MM.out
        simp at he
        obtain ⟨⟨rfl, rfl⟩, rfl, rfl⟩ := he
        obtain ⟨b', o, rfl, _, hbp, ea, ec, ⟨g0, g1⟩, _, _, he, i1, i2, i3, i4⟩ := SeqIn.at hPr hm
        simp at he
        obtain ⟨rfl, rfl⟩ := he
        have HE := hid i4
        unfold maxLen at i3
        clear i4 hPr hk
        have hfin : ((r.length : Int) == s.procs[m].locs) = true := by rw [HRL.out, hln]; simp
        have HLN := hid hln
        clear hln
        generalize s.procs[m] = q at *
        go_upto_region 14 with fail
        have hB4 := below_alloc wr (.cells #[.int .i64 q.locs, .slice ea q.edges.length ec] 41)
        have P4 := hid (boxp_at (w := wr) (a := .int .i64 q.locs) (b := .slice ea q.edges.length ec) (t := 41) rfl)
        obtain ⟨O, hO⟩ : ∃ O, O = wr.heap.size := ⟨_, rfl⟩
        obtain ⟨W4, hW4⟩ : ∃ W, W = wr.alloc (.cells #[.int .i64 q.locs, .slice ea q.edges.length ec] 41) := ⟨_, rfl⟩
        rw [← hW4] at hB4 P4 ⊢
        rw [← hO] at P4 ⊢
        have M4 := hid hB4
        clear hB4 hW4 hO p0 p1 p2 p3 p4 g0 g1
        go_wp2_with fail
        go_loopw [9] (fun i wr => ∃ k : Nat, k ≤ q.edges.length ∧ i = .int .i64 k ∧ Hid (W4 = wr)) (fun i _ => q.edges.length - (intOf i).toNat)
        case atStart => exact ⟨0, Nat.zero_le _, rfl, hid rfl⟩
        case round =>
          obtain ⟨k, hk, rfl, hw4⟩ := hrel
          obtain rfl := hw4.out
          clear hw4
          by_cases hlt : k < q.edges.length
          · have hlt2 : (k : Int) < (q.edges.length : Int) := by omega
            obtain ⟨be, oe, rfl, _, hbe, a3, c3, a4, c4, ⟨c0, c1, _⟩, _⟩ := SeqIn.at (EdsIn.below HE.out M4.out) hlt
            have hmem : q.edges[k] ∈ q.edges := List.getElem_mem hlt
            obtain ⟨⟨s1, s2⟩, d1, d2⟩ := okP_ed HOK.out hmem
            have hst := rchB_step hmem
            generalize q.edges[k] = e at *
            obtain ⟨sn, hsn⟩ := Int.eq_ofNat_of_zero_le s1
            obtain ⟨dn, hdn⟩ := Int.eq_ofNat_of_zero_le d1
            rw [hsn, hdn, Int.toNat_natCast, Int.toNat_natCast] at hst
            rw [hsn] at c0
            rw [hdn] at c1
            have hs' : sn < r.length := by have := HRL.out; have := HLN.out; omega
            have hd' : dn < r.length := by have := HRL.out; have := HLN.out; omega
            obtain ⟨bG, oG, rfl, _, _, gS⟩ := bools_at OGG.out M4.out hs'
            obtain ⟨_, _, he, _, _, gD⟩ := bools_at OGG.out M4.out hd'
            simp at he
            obtain ⟨rfl, rfl⟩ := he
            rw [HAt.out] at gS gD
            have hsI : (sn : Int) < (r.length : Int) := by omega
            have hdI : (dn : Int) < (r.length : Int) := by omega
            obtain ⟨y0, y1, y2, y3, y4⟩ := id P4.out
            clear hsn hdn s1 s2 d1 d2 hmem hfin
            by_cases hh : rchB q.edges sn = true
            · have hh2 := hst hh
              rw [hh] at gS
              rw [hh2] at gD
              clear hh hh2 hst
              go_wp2_with fail
              go_roundw
              case rel => exact ⟨k + 1, hlt, by go_num, hid trivial⟩
              case measure => simp [intOf]; omega
            · rw [Bool.eq_false_iff.2 hh] at gS
              clear hh hst
              go_wp2_with fail
              go_roundw
              case rel => exact ⟨k + 1, hlt, by go_num, hid trivial⟩
              case measure => simp [intOf]; omega
          · obtain rfl : k = q.edges.length := by omega
            obtain ⟨y0, y1, y2, y3, y4⟩ := id P4.out
            obtain ⟨bG, oG, rfl, _, _, gS⟩ := bools_at OGG.out M4.out hlp
            rw [HAt.out, rchB_zero, Nat.add_zero] at gS
            have hlp2 : (0 : Int) < (r.length : Int) := by omega
            clear hk hlt
            go_wp2_with fail
            go_ret
            exact Ret.mk rfl (below_next B0 (below_next MM.out M4.out))
end Go.Proofs.Ytffadknollkgiaa
