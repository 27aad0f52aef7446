/- FnInitialState returns true for every argument. Conditions: none. -/
import Derived.Test.YtffadknollkgiaaJS10
import Derived.Test.YtffadknollkgiaazInitV
import Derived.Test.YtffadknollkgiaazStateV
import Derived.Test.YtffadknollkgiaazStSame
set_option linter.unusedVariables false
set_option linter.unusedSimpArgs false
namespace Go.Proofs.Ytffadknollkgiaa
open Go.RowKit
open Go.Proofs.Ytffadknollkgiaa.Sys
set_option linter.unusedVariables false
set_option linter.unusedSimpArgs false

theorem locsOk_zero : ∀ (l : List Pr), (∀ q, q ∈ l → 1 ≤ q.locs) → State.locsOk (List.replicate l.length 0) l = true
  | [], _ => rfl
  | q :: qs, h => by
    have h1 := h q (by simp)
    have h2 := locsOk_zero qs (fun r hr => h r (by simp [hr]))
    simp only [List.length_cons, List.replicate_succ, State.locsOk, h2, Bool.and_true, decide_eq_true_eq]
    omega
theorem okSt_init {s : Sy} (h : okSy s = true) : State.okSt s (List.replicate s.procs.length 0) s.init = true := by
  have h0 := h
  simp only [okSy, Bool.and_eq_true, List.all_eq_true] at h
  have h1 : ∀ q, q ∈ s.procs → 1 ≤ q.locs := fun q hq => by
    have := h.1 q hq
    simp only [okP, Bool.and_eq_true, decide_eq_true_eq] at this
    exact this.2.1
  simp only [State.okSt, State.hasB, h0, h.2.1, locsOk_zero _ h1, List.length_replicate, decide_true, Bool.and_self]

theorem st_refl (l m : List Int) (w : World) (a b a' b' : Option Addr) (c d c' d' : Nat) (hl : IntsIn Any w a l) (hm : IntsIn Any w b m) (hl' : IntsIn Any w a' l) (hm' : IntsIn Any w b' m) (h1 : l.length ≤ c ∧ c ≤ maxLen) (h2 : m.length ≤ d ∧ d ≤ maxLen) (h1' : l.length ≤ c' ∧ c' ≤ maxLen) (h2' : m.length ≤ d' ∧ d' ≤ maxLen) :
    Calls Try.prog 27 #[.agg #[.slice a l.length c, .slice b m.length d], .agg #[.slice a' l.length c', .slice b' m.length d']] w (Ret (.bool true) w) := by
  have h := stSame_any l m l m w a b a' b' c d c' d' hl hm hl' hm' h1 h2 h1' h2'
  rw [show (decide (l = l) && decide (m = m)) = true by simp] at h
  exact h

set_option maxRecDepth 100000 in
set_option maxHeartbeats 4000000 in
theorem walk_FnInitialState (w : World) (a : Option Addr) (len cap : Nat) (hb : ByteArg w a len cap) : Calls Try.prog 7 #[.slice a len cap] w (Ret (.bool true) w) := by
  have hcap := hb.2.1
  have hcap1 := hb.1
  unfold maxLen at hcap
  by_cases hlen : len > 1048576
  · have hlen2 : (len : Int) > 1048576 := by omega
    go_enter Try.func7, Try.ntmps7
    go_wp2_with fail
    go_ret
    exact Ret.mk rfl (by repeat (first | exact Below.refl _ _ | assumption | refine below_a ?_ _ | refine below_o ?_ _ | refine below_d ?_ | refine below_n ?_ _ | refine below_s ?_ (by first | (simp; done) | (simp; omega) | omega) _))
  have hlen2 : ¬ ((len : Int) > 1048576) := by omega
  have HB := hid hb
  clear hb
  go_enter Try.func7, Try.ntmps7
  go_wp2_with fail
  refine (drawInit_any _ a len cap HB.out).mono ?_
  rintro e w1 ⟨v, rfl, ⟨s, hs, hbn⟩, B0⟩
  replace hs := hs.any
  obtain ⟨a1, c1, a2, c2, rfl, hc1, hc2, hI, _⟩ := id hs
  have hil : ∀ n, n ∈ s.init → i64 n := hI.2
  have HX := hid hs
  have HII := hid hI
  have HI := hid (fun (W : World) (M : Below w1.heap.size w1 W) => init_any s W _ (hs.below M))
  have HS := hid (fun (W : World) (M : Below w1.heap.size w1 W) => specInit_any s W _ (hs.below M))
  have HRR := hid (show (okSy s = false ∧ initL s = [] ∧ initM s = []) ∨ (okSy s = true ∧ initL s = List.replicate s.procs.length 0 ∧ initM s = s.init) from by
    by_cases hg : okSy s = true
    · exact .inr ⟨hg, by rw [initL, if_pos hg], by rw [initM, if_pos hg]⟩
    · exact .inl ⟨by simpa using hg, by rw [initL, if_neg hg], by rw [initM, if_neg hg]⟩)
  have hLi : ∀ n, n ∈ initL s → i64 n := fun n hn => by
    rcases HRR.out with ⟨_, h, _⟩ | ⟨_, h, _⟩
    · rw [h] at hn; cases hn
    · rw [h] at hn; have := List.eq_of_mem_replicate hn; subst this; unfold i64; omega
  have hMi : ∀ n, n ∈ initM s → i64 n := fun n hn => by
    rcases HRR.out with ⟨_, _, h⟩ | ⟨_, _, h⟩
    · rw [h] at hn; cases hn
    · rw [h] at hn; exact hil n hn
  obtain ⟨l, hl⟩ : ∃ l, l = initL s := ⟨_, rfl⟩
  obtain ⟨m, hm⟩ : ∃ m, m = initM s := ⟨_, rfl⟩
  rw [← hl] at HI HS HRR hLi
  rw [← hm] at HI HS HRR hMi
  clear HB hs hl hm hbn hI hil
  obtain ⟨ok, hok⟩ : ∃ b, b = okSy s := ⟨_, rfl⟩
  rw [← hok] at HI HS HRR
  have HOK := hid hok
  clear hok
  go_wp2_with fail
  have h0 := below_alloc w1 (.cells #[.slice a1 s.init.length c1, .slice a2 s.procs.length c2] 36)
  refine (HI.out _ h0).mono ?_
  rintro e w2 ⟨vG, rfl, ⟨aG, cG, bsG, aH, cH, bsH, rfl, ⟨cG1, cG2, oG, gG⟩, ⟨cH1, cH2, oH, gH⟩, _⟩, hb⟩
  have P := hid (boxp_next hb (boxp_at (w := w1) (a := .slice a1 s.init.length c1) (b := .slice a2 s.procs.length c2) (t := 36) rfl))
  have M := hid (below_next h0 hb)
  have OG := hid (show IntsIn Any w2 aG l from ⟨oG.any, hLi⟩)
  have OH := hid (show IntsIn Any w2 aH m from ⟨oH.any, hMi⟩)
  clear hb h0 oG gG oH gH
  have h0 := below_alloc w2 (.cells #[.slice aG l.length cG, .slice aH m.length cH] 50)
  obtain ⟨p0, p1, p2, p3, p4⟩ := id P.out
  go_wp2_with fail
  refine (HS.out _ (below_next M.out h0)).mono ?_
  rintro e w3 ⟨vW, rfl, ⟨aV, cV, bsV, aW, cW, bsW, rfl, ⟨cV1, cV2, oV, gV⟩, ⟨cW1, cW2, oW, gW⟩, _⟩, hb⟩
  have Q := hid (boxp_next hb (boxp_at (w := w2) (a := .slice aG l.length cG) (b := .slice aH m.length cH) (t := 50) rfl))
  replace hb := below_next h0 hb
  replace P := hid (boxp_next hb P.out)
  replace M := hid (below_next M.out hb)
  replace OG := hid (OG.out.below hb)
  replace OH := hid (OH.out.below hb)
  have OV := hid (show IntsIn Any w3 aV l from ⟨oV.any, hLi⟩)
  have OW := hid (show IntsIn Any w3 aW m from ⟨oW.any, hMi⟩)
  clear hb h0 oV gV oW gW p0 p1 p2 p3 p4 HI HS
  have h0 := below_alloc w3 (.cells #[.slice aV l.length cV, .slice aW m.length cW] 50)
  go_upto_region 6 with fail
  obtain ⟨O2, hO2⟩ : ∃ O, O = w2.heap.size := ⟨_, rfl⟩
  obtain ⟨O3, hO3⟩ : ∃ O, O = w3.heap.size := ⟨_, rfl⟩
  have FF := hid (show BoxP (w3.alloc (.cells #[.slice aV l.length cV, .slice aW m.length cW] 50)) w1.heap.size (.slice a1 s.init.length c1) (.slice a2 s.procs.length c2) ∧ BoxP (w3.alloc (.cells #[.slice aV l.length cV, .slice aW m.length cW] 50)) O2 (.slice aG l.length cG) (.slice aH m.length cH) ∧ BoxP (w3.alloc (.cells #[.slice aV l.length cV, .slice aW m.length cW] 50)) O3 (.slice aV l.length cV) (.slice aW m.length cW) ∧ Below w1.heap.size w1 (w3.alloc (.cells #[.slice aV l.length cV, .slice aW m.length cW] 50)) ∧
    IntsIn Any (w3.alloc (.cells #[.slice aV l.length cV, .slice aW m.length cW] 50)) aG l ∧ IntsIn Any (w3.alloc (.cells #[.slice aV l.length cV, .slice aW m.length cW] 50)) aH m ∧ IntsIn Any (w3.alloc (.cells #[.slice aV l.length cV, .slice aW m.length cW] 50)) aV l ∧ IntsIn Any (w3.alloc (.cells #[.slice aV l.length cV, .slice aW m.length cW] 50)) aW m from
    ⟨boxp_next h0 P.out, hO2 ▸ boxp_next h0 Q.out, boxp_at hO3, below_next M.out h0, OG.out.below h0, OH.out.below h0, OV.out.below h0, OW.out.below h0⟩)
  rw [← hO2, ← hO3]
  clear h0 P Q M OG OH OV OW hO2 hO3
  refine wp_gen (fun W => BoxP W w1.heap.size (.slice a1 s.init.length c1) (.slice a2 s.procs.length c2) ∧ BoxP W O2 (.slice aG l.length cG) (.slice aH m.length cH) ∧ BoxP W O3 (.slice aV l.length cV) (.slice aW m.length cW) ∧ Below w1.heap.size w1 W ∧ IntsIn Any W aG l ∧ IntsIn Any W aH m ∧ IntsIn Any W aV l ∧ IntsIn Any W aW m) FF.out ?_
  clear FF
  rintro W0 ⟨P1, P2, P3, M0, i1, i2, i3, i4⟩
  have HE := hid (fun (W : World) (M : Below W0.heap.size W0 W) => st_refl l m W aG aH aV aW cG cH cV cW (i1.below M) (i2.below M) (i3.below M) (i4.below M) ⟨cG1, cG2⟩ ⟨cH1, cH2⟩ ⟨cV1, cV2⟩ ⟨cW1, cW2⟩)
  have P1' := hid P1
  have P2' := hid P2
  have P3' := hid P3
  have I1 := hid i1
  have I2 := hid i2
  clear i1 i2 i3 i4
  obtain ⟨x0, x1, x2, x3, x4⟩ := P1
  obtain ⟨y0, y1, y2, y3, y4⟩ := P2
  obtain ⟨z0, z1, z2, z3, z4⟩ := P3
  rcases HRR.out with ⟨rfl, hL, hM⟩ | ⟨rfl, hL, hM⟩
  · clear hL hM
    go_wp2_with fail
    refine (HE.out _ (Below.refl _ _)).mono ?_
    rintro e w4 ⟨rfl, hb⟩
    replace P2' := hid (boxp_next hb P2'.out)
    replace P3' := hid (boxp_next hb P3'.out)
    have hb4 := hid hb
    clear x0 x1 x2 x3 x4 y0 y1 y2 y3 y4 z0 z1 z2 z3 z4 hb
    obtain ⟨y0, y1, y2, y3, y4⟩ := id P2'.out
    obtain ⟨z0, z1, z2, z3, z4⟩ := id P3'.out
    go_wp2_with fail
    refine (HE.out _ hb4.out).mono ?_
    rintro e w5 ⟨rfl, hb⟩
    go_wp2_with fail
    go_ret
    exact Ret.mk rfl (below_next B0 (below_next M0 (below_next hb4.out hb)))
  · have HM := hid hM
    have HL := hid hL
    have hm3 : m.length = s.init.length := by rw [hM]
    have hm4 : m.length ≤ 3 := by rw [hM, init_some HOK.out.symm]; omega
    have hl3 : ((l.length : Int) == (s.procs.length : Int)) = true := by rw [hL]; simp
    have HM3 := hid hm3
    clear hM hL hm3
    go_wp2_with fail
    refine (HE.out _ (Below.refl _ _)).mono ?_
    rintro e w4 ⟨rfl, hb⟩
    replace P1' := hid (boxp_next hb P1'.out)
    replace P2' := hid (boxp_next hb P2'.out)
    replace I1 := hid (I1.out.below hb)
    replace I2 := hid (I2.out.below hb)
    have M4 := hid (below_next M0 hb)
    clear x0 x1 x2 x3 x4 y0 y1 y2 y3 y4 z0 z1 z2 z3 z4 hb HE P3'
    go_wp2_with fail
    go_loopw [8] (fun i wr => ∃ k : Nat, k ≤ m.length ∧ i = .int .i64 k ∧ Hid (Below w4.heap.size w4 wr)) (fun i _ => m.length - (intOf i).toNat)
    case atStart => exact ⟨0, Nat.zero_le _, rfl, hid (Below.refl _ _)⟩
    case round =>
      obtain ⟨k, hk, rfl, BL⟩ := hrel
      obtain ⟨x0, x1, x2, x3, x4⟩ := boxp_next BL.out P1'.out
      obtain ⟨y0, y1, y2, y3, y4⟩ := boxp_next BL.out P2'.out
      by_cases hlt : k < m.length
      · have hlt2 : (k : Int) < (m.length : Int) := by omega
        have hlt3 : k < s.init.length := by have := HM3.out; omega
        have hlt4 : (k : Int) < (s.init.length : Int) := by omega
        obtain ⟨b, o, rfl, _, _, g1, _⟩ := ints_at I2.out BL.out hlt
        obtain ⟨b', o', rfl, _, _, g2, _⟩ := ints_at HII.out (below_next M4.out BL.out) hlt3
        have he : m[k] = s.init[k] := by have := HM.out; subst this; rfl
        rw [he] at g1
        clear he
        generalize s.init[k] = x at *
        go_wp2_with fail
        refine wp_region_over (by kernel_rfl) (by kernel_rfl) ?_; (repeat (go_big_quiet_step ((fail)))); refine wpQuiet_nil ?_; rintro _ ⟨xq, rfl⟩
        have BL2 := hid (below_next BL.out (over_below wr xq))
        go_wp2_with fail
        go_roundw
        case rel => exact ⟨k + 1, hlt, by go_num, BL2⟩
        case measure => simp [intOf]; omega
      · obtain rfl : k = m.length := by omega
        have hnl : ¬ ((m.length : Int) < (m.length : Int)) := by omega
        go_wp2_with fail
        refine (State.state_any s l m wr _ _ (HX.out.below (below_next M4.out BL.out)) ⟨_, _, _, _, rfl, I1.out.below BL.out, I2.out.below BL.out, cG1, cG2, cH1, cH2⟩).mono ?_
        rintro e w5 ⟨rfl, hb⟩
        have hst : State.okSt s l m = true := by
          rw [HL.out, HM.out]
          exact okSt_init HOK.out.symm
        rw [hst]
        clear hst
        have P5 := boxp_next hb (boxp_next BL.out P1'.out)
        have Q5 := boxp_next hb (boxp_next BL.out P2'.out)
        have MB := hid (below_next M4.out (below_next BL.out hb))
        clear hb x0 x1 x2 x3 x4 y0 y1 y2 y3 y4
        obtain ⟨x0, x1, x2, x3, x4⟩ := P5
        obtain ⟨y0, y1, y2, y3, y4⟩ := Q5
        go_wp2_with fail
        go_ret
        exact Ret.mk rfl (below_next B0 MB.out)
end Go.Proofs.Ytffadknollkgiaa
