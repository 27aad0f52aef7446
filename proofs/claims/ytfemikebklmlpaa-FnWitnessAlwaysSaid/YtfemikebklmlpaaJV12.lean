/- Joined texts (BuildG): contracts and plain laws. Conditions: those of each theorem. -/
import Derived.Test.YtfemikebklmlpaaJV11
import Derived.Deep.DeepCutAuto
import Derived.Deep.CutBlock
set_option linter.unusedVariables false
set_option linter.unusedSimpArgs false
namespace Go.Proofs.Ytfemikebklmlpaa
open Go.RowKit
open Go.Proofs.Ytfemikebklmlpaa.State (PairIn)
open Go.Proofs.Ytfemikebklmlpaa.Sys
set_option linter.unusedVariables false
set_option linter.unusedSimpArgs false
namespace Gr

theorem rowI_rn {p : Nat → Prop} {w : World} {g c : Nat} {l : List Int} (h : RowI w g l) (hi : ∀ n, n ∈ l → i64 n) (hp : p g) (hc : l.length ≤ c) (hc2 : c ≤ maxLen) (hl : l.length ≤ 1000) : RN p w l (some ⟨g, 0, none⟩) c :=
  ⟨hc, hc2, h.ints hi hp, fun e => (by cases e), hl⟩
set_option maxRecDepth 100000 in
set_option maxHeartbeats 8000000 in
theorem build_any (s : Sy) (w : World) (x : Value) (hx : SyIn Any w s x) : Calls Try.prog 62 #[x] w (RetP (BgV w) w) := by
  obtain ⟨ax, cx, bx, dx, rfl, hcx1, hcx2, hin, hdx, hdx2, hP⟩ := id hx
  have HSY := hid (fun (W : World) (M : Below w.heap.size w W) => (hx.frame (q := Any) M.size (fun b hb hl => ⟨trivial, M.block b hl⟩)))
  have HIL := hid (show ∀ n, n ∈ s.init → i64 n from hin.2)
  clear hx hP hin
  go_enter Try.func62, Try.ntmps62
  go_upto_region 1 with fail
  refine wp_gen (fun W => Below w.heap.size w W ∧ BoxP W w.heap.size (.slice ax s.init.length cx) (.slice bx s.procs.length dx) ∧ BoxP W (w.heap.size + 1) (.slice none 0 0) (.slice none 0 0)) ⟨(by repeat (first | exact Below.refl _ _ | assumption | refine below_a ?_ _ | refine below_o ?_ _ | refine below_d ?_ | refine below_n ?_ _ | refine below_s ?_ (by first | (simp; done) | (simp; omega) | omega) _)), boxp_next (below_alloc _ _) (boxp_at rfl), boxp_at (by simp)⟩ ?_
  rintro W0 ⟨B0, P0, Z0⟩
  have HB0 := hid B0
  have HP0 := hid P0
  have HZ0 := hid Z0
  have hZ0 := Z0.1
  clear B0 Z0
  obtain ⟨p0, p1, p2, p3, p4⟩ := P0
  go_wp2_with fail
  refine (specInit_any s W0 _ (HSY.out _ HB0.out)).mono ?_
  rintro e w1 ⟨vG, rfl, ⟨aG, cG, bsG, aH, cH, bsH, rfl, ⟨cG1, cG2, oG, gG⟩, ⟨cH1, cH2, oH, gH⟩, hdis⟩, hb⟩
  have HB1 := hid hb
  clear hb p0 p1 p2 p3 p4
  by_cases hok : okSy s = true
  · have hL : initL s = List.replicate s.procs.length 0 := by rw [initL, if_pos hok]
    have hM : initM s = s.init := by rw [initM, if_pos hok]
    rw [hL] at cG1 oG ⊢
    rw [hM] at cH1 oH ⊢
    rw [hok]
    have hst0 := okSt_zero hok
    have hle0 := okSt_lens hst0
    clear hL hM
    obtain ⟨g1, rfl, hbs1, hR1⟩ : ∃ g1, aG = some ⟨g1, 0, none⟩ ∧ bsG = [g1] ∧ RowI w1 g1 (List.replicate s.procs.length 0) := by
      rcases oG with ⟨h, _⟩ | ⟨g, h1, h2, h3⟩
      · have := congrArg List.length h; rw [List.length_map, List.length_replicate, List.length_nil] at this; omega
      · exact ⟨g, h1, h2, by rw [List.length_map] at h3; exact h3⟩
    obtain ⟨g2, rfl, hbs2, hR2⟩ : ∃ g2, aH = some ⟨g2, 0, none⟩ ∧ bsH = [g2] ∧ RowI w1 g2 s.init := by
      rcases oH with ⟨h, _⟩ | ⟨g, h1, h2, h3⟩
      · have := congrArg List.length h; rw [List.length_map, List.length_nil] at this; omega
      · exact ⟨g, h1, h2, by rw [List.length_map] at h3; exact h3⟩
    have hg1 := gG g1 (by rw [hbs1]; simp)
    have hg2 := gH g2 (by rw [hbs2]; simp)
    have hR1l := hR1.1
    have hR2l := hR2.1
    have O1 := hid (GOwn.one (L := W0.heap.size) (O := w1.heap.size + 1 + 1) (W := w1.alloc (.cells #[.slice (some ⟨g1, 0, none⟩) (List.replicate s.procs.length (0 : Int)).length cG, .slice (some ⟨g2, 0, none⟩) s.init.length cH] 91)) (t := ⟨List.replicate s.procs.length 0, s.init⟩) (a1 := some ⟨g1, 0, none⟩) (a2 := some ⟨g2, 0, none⟩) (n1 := cG) (n2 := cH) (by have := HB1.out.size; simp; omega) (by simp)
      (rowI_rn (hR1.next (below_alloc _ _)) (fun n hn => by have := List.eq_of_mem_replicate hn; subst this; unfold i64; omega) ⟨by omega, by omega⟩ cG1 cG2 (show (List.replicate s.procs.length (0 : Int)).length ≤ 1000 by omega))
      (rowI_rn (hR2.next (below_alloc _ _)) HIL.out ⟨by omega, by omega⟩ cH1 cH2 (show s.init.length ≤ 1000 by omega)))
    simp only [World.size_alloc] at O1
    have hok0 := hid hst0
    have hw1 := HB1.out.size
    clear hst0 hbs1 hbs2 hdis gG gH oG oH hR1 hR2
    rw [List.length_replicate] at cG1 O1 ⊢
    have hp1 := hle0.2.2
    have BX := hid (show BSt s W0 (w1.heap.size + 1 + 1) none (.slice (some ⟨w1.heap.size + 1, 0, none⟩) 1 1) (.slice none 0 0) [⟨List.replicate s.procs.length 0, s.init⟩] [] (((w1.alloc (.cells #[.slice (some ⟨g1, 0, none⟩) s.procs.length cG, .slice (some ⟨g2, 0, none⟩) s.init.length cH] 91)).alloc (.cells #[.slice (some ⟨g1, 0, none⟩) s.procs.length cG, .slice (some ⟨g2, 0, none⟩) s.init.length cH] 91)).alloc (.cells #[.slice (some ⟨w1.heap.size + 1, 0, none⟩) 1 1, .slice none 0 0] 26)) from
      ⟨⟨O1.out.next (below_alloc _ _), boxp_at (by simp), by omega, by simp⟩, below_next HB1.out (below_next (below_next (below_alloc _ _) (below_alloc _ _)) (below_alloc _ _)), fun t ht => by simp at ht; subst ht; exact hok0.out⟩)
    clear O1 hok0 hle0
    go_upto_region 5 with fail
    obtain ⟨O6, hO6⟩ : ∃ O, O = w1.heap.size + 1 + 1 := ⟨_, rfl⟩
    rw [← hO6] at BX ⊢
    refine wp_gen (fun W => ∃ vs vn sts nx, BSt s W0 O6 none vs vn sts nx W ∧ sts.length = 1 ∧ nx.length = 0) ⟨_, _, [⟨List.replicate s.procs.length 0, s.init⟩], [], BX.out, rfl, rfl⟩ ?_
    clear BX hO6
    rintro w2 ⟨vs, vn, sts, nx, hB2, hl1, hl2⟩
    have HB2 := hid hB2
    have HL2 := hid hl1
    have HN2 := hid hl2
    clear hB2 hl1 hl2
    go_wp2_with fail
    go_loopw [7] (fun i wr => ∃ (k : Nat) (vs vn : Value) (sts : List S2) (nx : List (List Int)), i = .int .i64 k ∧ k ≤ sts.length ∧ nx.length = k ∧ Hid (sts.length ≤ 60 ∧ 1 ≤ sts.length) ∧ Hid (BSt s W0 O6 none vs vn sts nx wr)) (fun i _ => 61 - (intOf i).toNat)
    case atStart => exact ⟨0, vs, vn, sts, nx, rfl, Nat.zero_le _, HN2.out, hid (by have := HL2.out; omega), HB2⟩
    case round =>
      clear HB2 HL2 HN2 vs vn sts nx
      obtain ⟨k, vs, vn, sts, nx, rfl, hk, hnx, HSL, HB⟩ := hrel
      obtain ⟨wi, rfl⟩ : ∃ wi : World, wi = wr := ⟨_, rfl⟩
      have HNX := hid hnx
      clear hnx
      have hs60 := HSL.out
      obtain ⟨x0, x1, x2, x3, x4⟩ := HB.out.1.2.1
      obtain ⟨p0, p1, p2, p3, p4⟩ := boxp_next HB.out.2.1 HP0.out
      by_cases hks : k < sts.length
      · have hks2 : (k : Int) < (sts.length : Int) := by omega
        obtain ⟨bs, cs, a1, n1, a2, n2, e, hbs, c0, c1, hpi, hno, hok⟩ := HB.out.stAt hks
        subst e
        obtain ⟨aZ, csZ, bN, dN, e, hvn, g1', g2', g3', g4', hZ⟩ := HB.out.shape
        simp at e
        obtain ⟨rfl, rfl⟩ := e
        clear hZ
        subst hvn
        have HBW := hid (below_next HB0.out HB.out.2.1)
        have hpr := okSt_lens hok
        obtain ⟨lx, hlx⟩ : ∃ l, l = sts[k].locs := ⟨_, rfl⟩
        obtain ⟨vx, hvx⟩ : ∃ l, l = sts[k].vals := ⟨_, rfl⟩
        have HOK := hid hok
        have HPI := hid hpi
        have HNO := hid hno
        rw [← hlx, ← hvx] at HOK HPI HNO
        rw [← hlx] at c0
        rw [← hvx] at c1
        have HSI := hid hs60
        clear hok hpi hno hpr hlx hvx
        unfold maxLen at g2' g4'
        go_wp2_with fail
        refine wp_region_ord (C := fun wZ => ∃ xZ, wZ = World.over _ xZ) [0,1,2,3,4,5] (.one 6 (.fre 7 .done)) [7] (by kernel_rfl) (by kernel_rfl) (fun d _ _ _ _ h => by cases d <;> exact h) (bex (Below.refl _ _).drew) ?_; simp only [pick, List.getElem?_cons_succ, List.getElem?_cons_zero]; (repeat (go_big_quiet_step (fail))); refine wpQuiet_nil ?_; simp only [ordW, pick, List.getElem?_cons_succ, List.getElem?_cons_zero]
        have hd := below_d (Below.refl wi.heap.size wi)
        go_wp2_with fail
        refine (specSteps_any s lx vx HOK.out hp1 wi.drew _ _ (HSY.out _ (below_next HBW.out hd)) (HPI.out.below hd)).mono ?_
        rintro e w3 ⟨gS, cS, rfl, hOwn, hb3⟩
        have hlen := steps_len (okSt_facts HOK.out).1 lx vx s.procs.length
        have hp3 := (okSy_procs (okSt_facts HOK.out).1).1
        have HMem := hid (fun t (ht : t ∈ steps s lx vx s.procs.length) => steps_mem ht)
        generalize hL : steps s lx vx s.procs.length = L at *
        clear hL
        have hgS := World.ownsRow.lt hOwn gS rfl
        have hsh := hOwn.shape
        have hcS : L.length ≤ cS ∧ cS ≤ 2 ^ 63 - 1 := by
          rcases hsh with ⟨h, _⟩ | ⟨g, c, h, _, _, h2, h3⟩
          · cases h
          · simp at h
            obtain ⟨_, rfl⟩ := h
            exact ⟨h2, h3⟩
        have hG3 := SG.of hOwn hgS.2
        have hbW := below_next hd hb3
        have hl324 : L.length ≤ 324 := by omega
        have h4 := below_alloc w3 (.cells #[] 3)
        have HB4 := hid (show BSt s W0 O6 (Value.slice (some ⟨w3.heap.size, 0, none⟩) 0 0).ownBlock (.slice (some ⟨bs, 0, none⟩) sts.length cs) (.slice bN nx.length dN) sts nx (w3.alloc (.cells #[] 3)) from (HB.out.next hbW).apart h4 (fun b e => by simp [Value.ownBlock] at e; subst e; simp))
        have HV4 := hid (show OwnI W0.heap.size (.slice (some ⟨w3.heap.size, 0, none⟩) 0 0) [] (w3.alloc (.cells #[] 3)) from (OwnI.made w3).mono (Nat.le_trans HB.out.2.1.size hbW.size))
        have HO4 := hid (show (Value.slice (some ⟨w3.heap.size, 0, none⟩) 0 0).ownBlock ≠ some O6 from fun e => by simp [Value.ownBlock] at e; have := HB.out.noown.2.2.2; have := hbW.size; omega)
        have HG4 := hid (show SG gS L (w3.alloc (.cells #[] 3)) ∧ (Value.slice (some ⟨bs, 0, none⟩) sts.length cs).ownBlock ≠ some gS ∧ (Value.slice (some ⟨w3.heap.size, 0, none⟩) 0 0).ownBlock ≠ some gS from ⟨hG3.next h4, fun e => by simp [Value.ownBlock] at e; have := hgS.1; simp at this; omega, fun e => by simp [Value.ownBlock] at e; omega⟩)
        have KW := hid hbW
        have HGO := hid (show gS ≠ O6 by have := HB.out.noown.2.2.2; have := hgS.1; simp at this; omega)
        have hcS1 := hcS.1
        have hcS2 := hcS.2
        clear hOwn hgS hsh hcS hG3 hbW h4 hb3 hd HPI HNO x0 x1 x2 x3 x4 p0 p1 p2 p3 p4 c0 c1 hbs HBW HB hlen HSL
        go_wp2_with fail
        refine ⟨bex KW.out, ?_⟩
        clear KW
        go_wp2_with fail
        go_loopw [9, 10] (fun vo i wr => ∃ (j : Nat) (v : Value) (l : List Int) (vs vn : Value) (sts2 : List S2), v = vo ∧ i = .int .i64 j ∧ j ≤ L.length ∧ l.length ≤ j ∧ k < sts2.length ∧ sts2.length ≤ 60 ∧ Hid (BSt s W0 O6 v.ownBlock vs vn sts2 nx wr) ∧ Hid (OwnI W0.heap.size v l wr) ∧ Hid (∀ n, n ∈ l → i64 n) ∧ Hid (v.ownBlock ≠ some O6) ∧ Hid (SG gS L wr ∧ vs.ownBlock ≠ some gS ∧ v.ownBlock ≠ some gS)) (fun _ i _ => L.length - (intOf i).toNat)
        case atStart => exact ⟨0, _, [], _, _, sts, rfl, rfl, Nat.zero_le _, Nat.le_refl _, hks, HSI.out.1, HB4, HV4, hid (by simp), HO4, HG4⟩
        case round =>
          clear HB4 HV4 HO4 HG4 HOK
          obtain ⟨j, v, l, vs, vn, sts2, rfl, rfl, hj, hlj, hk2, hs2, HB, HV, HI, HVO, HG⟩ := hrel
          obtain ⟨wj, rfl⟩ : ∃ wj : World, wj = wr := ⟨_, rfl⟩
          by_cases hjl : j < L.length
          · have hjl2 : (j : Int) < (L.length : Int) := by omega
            obtain ⟨av, cv, hve, e1, e2, e3⟩ := HV.out.shape
            subst hve
            obtain ⟨bs2, cs2, a1, n1, a2, n2, e, hbs, c0, c1, hpi, hno, hok⟩ := HB.out.stAt hk2
            subst e
            obtain ⟨aZ, csZ, bN2, dN2, e, hvn, g1', g2', g3', g4', hZ⟩ := HB.out.shape
            simp at e
            obtain ⟨rfl, rfl⟩ := e
            subst hvn
            clear hZ
            obtain ⟨x0, x1, x2, x3, x4⟩ := HB.out.1.2.1
            obtain ⟨p0, p1, p2, p3, p4⟩ := boxp_next HB.out.2.1 HP0.out
            obtain ⟨s1, s2, s3, s4⟩ := HG.out.1.2 j hjl
            have hgS := HG.out.1.1
            obtain ⟨pi, pk, hpi1, hp1', hp2', hpk, hqf⟩ := HMem.out _ (List.getElem_mem hjl)
            rw [hp1'] at s1
            rw [hp2'] at s2
            have HQF := hid hqf
            obtain ⟨tt, htt⟩ : ∃ t, t = L[j] := ⟨_, rfl⟩
            rw [← htt] at HQF s3 s4
            obtain ⟨lx, hlx⟩ : ∃ l, l = sts2[k].locs := ⟨_, rfl⟩
            obtain ⟨vx, hvx⟩ : ∃ l, l = sts2[k].vals := ⟨_, rfl⟩
            have HOK := hid hok
            have HPI := hid hpi
            have HNO := hid hno
            rw [← hlx, ← hvx] at HOK HPI HNO
            rw [← hlx] at c0
            rw [← hvx] at c1
            have HSL := hid (show k < sts2.length ∧ sts2.length ≤ 60 from ⟨hk2, hs2⟩)
            have HBW0 := hid (below_next HB0.out HB.out.2.1)
            have hk22 : (k : Int) < (sts2.length : Int) := by omega
            unfold maxLen at g2' g4'
            clear hok hpi hno hlx hvx htt hp1' hp2' hqf
            go_upto_region 13 with fail
            go_cut [11] (fun s11 wx => ∃ (O11 : Nat) (a : Option Addr) (c : Nat) (b : Option Addr) (d : Nat) (ls' vs' : List Int), s11 = .pointer (some ⟨O11, 0, none⟩) ∧ Hid (BoxP wx O11 (.slice a ls'.length c) (.slice b vs'.length d)) ∧ Hid (Below wj.heap.size wj wx) ∧ Hid (State.okSt s ls' vs' = true) ∧ Hid (RN (fun b => wj.heap.size ≤ b) wx ls' a c ∧ RN (fun b => wj.heap.size ≤ b) wx vs' b d))
            case first =>
              refine wp_region_ord (C := fun wZ => ∃ xZ, wZ = World.over _ xZ) [0,1,2,3,4,5,6,7,8,9] (.two 10 11 (.one 11 (.fre 12 .done)) (.one 10 (.fre 12 .done))) [12] (by kernel_rfl) (by kernel_rfl) (fun d _ _ _ _ h => by cases d <;> exact h) (bex (Below.refl _ _).drew) ?_; simp only [pick, List.getElem?_cons_succ, List.getElem?_cons_zero]; (repeat (go_big_quiet_step (fail))); refine wpQuiet_nil ?_; simp only [ordW, pick, List.getElem?_cons_succ, List.getElem?_cons_zero]
              have hd := below_d (Below.refl wj.heap.size wj)
              refine ⟨?_, ?_⟩
              · go_wp2_with fail
                refine (apply_any s lx vx pi pk tt.q tt.f wj.drew _ _ HOK.out hpi1 hpk HQF.out (HSY.out _ (below_next HBW0.out hd)) (HPI.out.below hd) HNO.out).mono ?_
                rintro e w5 ⟨v, lx', vx', rfl, hok', hpi', hni', hb5⟩
                obtain ⟨aL, aV, cL, cV, rfl, _⟩ := id hpi'
                have hr := rn_pair hpi' hni' hok'
                have h0 := below_alloc w5 (.cells #[.slice aL lx'.length cL, .slice aV vx'.length cV] 91)
                have h1 := below_alloc w5 (.cells #[.slice none 0 0, .slice none 0 0] 91)
                have K1 := hid (below_next hd hb5)
                have K2 := hid (below_next K1.out h1)
                have K3 := hid (below_next K1.out h0)
                have KX := hid (boxp_at (w := w5) (B := w5.heap.size) (a := .slice aL lx'.length cL) (b := .slice aV vx'.length cV) (t := 91) rfl)
                have KO := hid hok'
                have KR := hid (show RN (fun b => wj.heap.size ≤ b) (w5.alloc (.cells #[.slice aL lx'.length cL, .slice aV vx'.length cV] 91)) lx' aL cL ∧ RN (fun b => wj.heap.size ≤ b) (w5.alloc (.cells #[.slice aL lx'.length cL, .slice aV vx'.length cV] 91)) vx' aV cV from
                  ⟨hr.1.frame h0.size (fun b hp hl => ⟨hp, h0.block b hl⟩), hr.2.frame h0.size (fun b hp hl => ⟨hp, h0.block b hl⟩)⟩)
                clear hok' hpi' hni' hb5 hr h0 h1 hd x0 x1 x2 x3 x4 p0 p1 p2 p3 p4 s1 s2 s3 s4 c0 c1
                go_wp2_with fail
                refine ⟨bex K1.out, ?_⟩
                go_wp2_with fail
                refine ⟨bex K2.out, ?_⟩
                go_wp2_with fail
                go_meet
                exact ⟨w5.heap.size, aL, cL, aV, cV, lx', vx', rfl, KX, K3, KO, KR⟩
              · have h0 := below_alloc wj.drew (.cells #[.slice none 0 0, .slice none 0 0] 91)
                have K1 := hid (below_next hd h0)
                have X1 := hid (boxp_at (w := wj.drew) (B := wj.heap.size) (a := .slice none 0 0) (b := .slice none 0 0) (t := 91) rfl)
                have hO := K1.out.size
                go_wp2_with fail
                refine ⟨bex K1.out, ?_⟩
                go_wp2_with fail
                refine (apply_any s lx vx pi pk tt.q tt.f (wj.drew.alloc (.cells #[.slice none 0 0, .slice none 0 0] 91)) _ _ HOK.out hpi1 hpk HQF.out (HSY.out _ (below_next HBW0.out K1.out)) (HPI.out.below K1.out) HNO.out).mono ?_
                rintro e w5 ⟨v, lx', vx', rfl, hok', hpi', hni', hb5⟩
                obtain ⟨aL, aV, cL, cV, rfl, _⟩ := id hpi'
                have hr := rn_pair hpi' hni' hok'
                have hsz : (wj.drew.alloc (.cells #[.slice none 0 0, .slice none 0 0] 91)).heap.size = wj.heap.size + 1 := by simp
                have X2 := hid (boxp_next hb5 X1.out)
                have K2 := hid (below_next K1.out hb5)
                have KX := hid (boxp_set1 (boxp_set0 X2.out (.slice aL lx'.length cL)) (.slice aV vx'.length cV))
                have K3 := hid (below_set2 K2.out (Nat.le_refl _) (.slice aL lx'.length cL) (.slice aV vx'.length cV))
                have KO := hid hok'
                have KR := hid (show RN (fun b => wj.heap.size ≤ b) ((w5.setCell ⟨wj.heap.size, 0, none⟩ (.slice aL lx'.length cL)).setCell ⟨wj.heap.size, 1, none⟩ (.slice aV vx'.length cV)) lx' aL cL ∧ RN (fun b => wj.heap.size ≤ b) ((w5.setCell ⟨wj.heap.size, 0, none⟩ (.slice aL lx'.length cL)).setCell ⟨wj.heap.size, 1, none⟩ (.slice aV vx'.length cV)) vx' aV cV from
                  ⟨hr.1.frame (by simp) (fun b hp hl => ⟨by omega, (Below.heap_setCell _ _ _ _ (show b ≠ wj.heap.size by omega)).trans (Below.heap_setCell _ _ _ _ (show b ≠ wj.heap.size by omega))⟩), hr.2.frame (by simp) (fun b hp hl => ⟨by omega, (Below.heap_setCell _ _ _ _ (show b ≠ wj.heap.size by omega)).trans (Below.heap_setCell _ _ _ _ (show b ≠ wj.heap.size by omega))⟩)⟩)
                clear hok' hpi' hni' hb5 hr h0 hd x0 x1 x2 x3 x4 p0 p1 p2 p3 p4 s1 s2 s3 s4 c0 c1 hsz
                obtain ⟨x0, x1, x2, x3, x4⟩ := X2.out
                go_wp2_with fail
                refine ⟨bex K2.out, ?_⟩
                go_wp2_with fail
                go_meet
                exact ⟨wj.heap.size, aL, cL, aV, cV, lx', vx', rfl, KX, K3, KO, KR⟩
            case rest =>
              obtain ⟨O11, a3, c3, b3, d3, ls', vs', rfl, HX11, HWX, HOK', HRN⟩ := hcut
              obtain ⟨w5, hw5⟩ : ∃ w5 : World, w5 = wc := ⟨_, rfl⟩
              subst hw5
              have HPX := hid (show ∀ b, wj.heap.size ≤ b → pX W0.heap.size O6 (Value.slice av l.length cv).ownBlock (.slice (some ⟨bs2, 0, none⟩) sts2.length cs2) (.slice bN2 nx.length dN2) b from fun b hb => by
                have hno := HB.out.noown
                refine ⟨by have := HB.out.2.1.size; omega, by omega, fun e => by have := (HV.out.blk b e).2; omega, fun e => by have := (hno.1 b e).2.1; omega, fun e => by have := (hno.2.1 b e).2.1; omega⟩)
              replace HB := hid (HB.out.next HWX.out)
              replace HV := hid (HV.out.next HWX.out)
              replace HG := hid (⟨HG.out.1.next HWX.out, HG.out.2⟩ : SG gS L w5 ∧ (Value.slice (some ⟨bs2, 0, none⟩) sts2.length cs2).ownBlock ≠ some gS ∧ (Value.slice av l.length cv).ownBlock ≠ some gS)
              clear HWX HPI HNO HOK HQF x0 x1 x2 x3 x4 p0 p1 p2 p3 p4 s1 s2 s3 s4 c0 c1 hbs HBW0
              obtain ⟨x0, x1, x2, x3, x4⟩ := HB.out.1.2.1
              obtain ⟨t0, t1, t2, t3, t4⟩ := HX11.out
              have HSI := hid (show StsIn Any w5 sts2 (some ⟨bs2, 0, none⟩) from by
                obtain ⟨a', c', _, _, h1, _, _, _, _, _, h2⟩ := HB.out.shape
                simp at h1
                obtain ⟨rfl, rfl⟩ := h1
                exact h2)
              go_wp2_with fail
              refine (find_any sts2 ls' vs' w5 (some ⟨bs2, 0, none⟩) a3 b3 cs2 c3 d3 HSI.out g1' (by unfold maxLen; omega) (ints_frame HRN.out.1.2.2.1 (Nat.le_refl _) fun _ _ _ => ⟨trivial, rfl⟩) (ints_frame HRN.out.2.2.2.1 (Nat.le_refl _) fun _ _ _ => ⟨trivial, rfl⟩) ⟨HRN.out.1.1, HRN.out.1.2.1⟩ ⟨HRN.out.2.1, HRN.out.2.2.1⟩).mono ?_
              rintro e w6 ⟨_, rfl, ⟨n, rfl, hn0, hn1⟩, hb⟩
              replace HB := hid (HB.out.next hb)
              replace HV := hid (HV.out.next hb)
              replace HG := hid (⟨HG.out.1.next hb, HG.out.2⟩ : SG gS L w6 ∧ (Value.slice (some ⟨bs2, 0, none⟩) sts2.length cs2).ownBlock ≠ some gS ∧ (Value.slice av l.length cv).ownBlock ≠ some gS)
              replace HX11 := hid (boxp_next hb HX11.out)
              replace HRN := hid (show RN (fun b => wj.heap.size ≤ b) w6 ls' a3 c3 ∧ RN (fun b => wj.heap.size ≤ b) w6 vs' b3 d3 from ⟨HRN.out.1.frame hb.size (fun b hp hl => ⟨hp, hb.block b hl⟩), HRN.out.2.frame hb.size (fun b hp hl => ⟨hp, hb.block b hl⟩)⟩)
              clear HSI hb x0 x1 x2 x3 x4 t0 t1 t2 t3 t4
              by_cases hneg : n < 0
              · obtain rfl : n = -1 := by omega
                clear hneg hn0 hn1
                have h0 := below_alloc w6 (.cells #[.slice a3 ls'.length c3, .slice b3 vs'.length d3] 91)
                have HB7 := hid (HB.out.next h0)
                have HV7 := hid (HV.out.next h0)
                have HG7 := hid (show SG gS L (w6.alloc (.cells #[.slice a3 ls'.length c3, .slice b3 vs'.length d3] 91)) ∧ (Value.slice (some ⟨bs2, 0, none⟩) sts2.length cs2).ownBlock ≠ some gS ∧ (Value.slice av l.length cv).ownBlock ≠ some gS from ⟨HG.out.1.next h0, HG.out.2⟩)
                have C7 := hid (And.intro (show (w6.alloc (.cells #[.slice a3 ls'.length c3, .slice b3 vs'.length d3] 91)).cell? ⟨w6.heap.size, 0, none⟩ = some (.slice a3 ls'.length c3) by simp) (show (w6.alloc (.cells #[.slice a3 ls'.length c3, .slice b3 vs'.length d3] 91)).cell? ⟨w6.heap.size, 1, none⟩ = some (.slice b3 vs'.length d3) by simp))
                have R7 := hid (show RN (pX W0.heap.size O6 (Value.slice av l.length cv).ownBlock (.slice (some ⟨bs2, 0, none⟩) sts2.length cs2) (.slice bN2 nx.length dN2)) (w6.alloc (.cells #[.slice a3 ls'.length c3, .slice b3 vs'.length d3] 91)) ls' a3 c3 ∧ RN (pX W0.heap.size O6 (Value.slice av l.length cv).ownBlock (.slice (some ⟨bs2, 0, none⟩) sts2.length cs2) (.slice bN2 nx.length dN2)) (w6.alloc (.cells #[.slice a3 ls'.length c3, .slice b3 vs'.length d3] 91)) vs' b3 d3 from
                  ⟨HRN.out.1.frame h0.size (fun b hp hl => ⟨HPX.out b hp, h0.block b hl⟩), HRN.out.2.frame h0.size (fun b hp hl => ⟨HPX.out b hp, h0.block b hl⟩)⟩)
                obtain ⟨x0, x1, x2, x3, x4⟩ := HB.out.1.2.1
                obtain ⟨t0, t1, t2, t3, t4⟩ := HX11.out
                have hOz : O6 ≠ w.heap.size + 1 := by have := HB.out.noown.2.2.1; omega
                have hOz2 := Ne.symm hOz
                have hL1000 : sts2.length ≤ 1000 := by omega
                have PACK := hid (fun (v' : Value) (w' : World) (i1 : BSt s W0 O6 (Value.slice av l.length cv).ownBlock v' (.slice bN2 nx.length dN2) (sts2 ++ [⟨ls', vs'⟩]) nx (w'.setCell ⟨O6, 0, none⟩ v')) (i2 : BoxP w' O6 (.slice (some ⟨bs2, 0, none⟩) sts2.length cs2) (.slice bN2 nx.length dN2)) (i3 : (w6.alloc (.cells #[.slice a3 ls'.length c3, .slice b3 vs'.length d3] 91)).grownBy w' (Value.slice (some ⟨bs2, 0, none⟩) sts2.length cs2).ownBlock) (i4 : v'.ownBlock = (Value.slice (some ⟨bs2, 0, none⟩) sts2.length cs2).ownBlock ∨ v'.ownBlock = some (w6.alloc (.cells #[.slice a3 ls'.length c3, .slice b3 vs'.length d3] 91)).heap.size) =>
                  show BoxP w' (w.heap.size + 1) (.slice none 0 0) (.slice none 0 0) ∧ OwnI W0.heap.size (.slice av l.length cv) l (w'.setCell ⟨O6, 0, none⟩ v') ∧ (SG gS L (w'.setCell ⟨O6, 0, none⟩ v') ∧ v'.ownBlock ≠ some gS ∧ (Value.slice av l.length cv).ownBlock ≠ some gS) from by
                    have hno := HB7.out.noown
                    refine ⟨boxp_next (below_grown HB7.out.2.1 HB7.out.2.1.size i3 fun b e => (hno.1 b e).1) HZ0.out, (HV7.out.keep fun g e _ hl => i3.block g hl (fun e' => (hno.1 g e'.symm).2.2.2 e)).set (fun g e _ e' => HVO.out (by rw [e]; exact congrArg some e')) _, HG7.out.1.keep (by simpa using i3.size) ((Below.heap_setCell _ _ _ _ (show gS ≠ O6 from HGO.out)).trans (i3.block gS HG7.out.1.1 (fun e => HG7.out.2.1 e.symm))), ?_, HG7.out.2.2⟩
                    rcases i4 with h | h
                    · rw [h]; exact HG7.out.2.1
                    · rw [h]; intro e; simp at e; have := HG7.out.1.1; simp at this; omega)
                clear h0 HB HV HG HX11 HRN HPX
                by_cases h60 : sts2.length = 60
                · have h61 : (sts2.length : Int) ≥ 60 := by omega
                  clear h60
                  go_wp2_with (at_builtin; refine wp_b_st rfl _ _ rfl s W0 O6 (Value.slice av l.length cv).ownBlock (.slice (some ⟨bs2, 0, none⟩) sts2.length cs2) (.slice bN2 nx.length dN2) sts2 nx ⟨ls', vs'⟩ w6.heap.size 1 a3 b3 c3 d3 rfl rfl HB7.out C7.out.1 C7.out.2 R7.out.1 R7.out.2 HOK'.out hL1000 ?_; intro v' w' i1 i2 i3 i4; obtain ⟨aS, lS, cS', hS⟩ := i1.1.1.shS; subst hS; have PP := hid (PACK.out _ _ i1 i2 i3 i4); have HBz := hid i1.2.1; obtain ⟨y0, y1, y2, y3, y4⟩ := i2; obtain ⟨z0, z1, z2, z3, z4⟩ := PP.out.1; clear i1 i3 i4 x0 x1 x2 x3 x4)
                  have ZN := hid (boxp_next HBz.out HZ0.out)
                  have BN := hid (below_set2 (below_next HB0.out HBz.out) (show w.heap.size ≤ w.heap.size + 1 by omega) (.slice none 0 0) (.slice none 0 0))
                  obtain ⟨y0, y1, y2, _⟩ := boxp_set1 (boxp_set0 ZN.out (.slice none 0 0)) (.slice none 0 0)
                  refine bodyPost_ret (v := .tuple #[.agg #[.slice none 0 0, .slice none 0 0], .bool false]) (by simp [results, Try.results62, go_sem, y1, y2]) rfl ?_
                  exact RetP.mk (BgV.no _ _) BN.out
                · have h61 : ¬ ((sts2.length : Int) ≥ 60) := by omega
                  have HSL9 := hid (show k < (sts2 ++ [(⟨ls', vs'⟩ : S2)]).length ∧ (sts2 ++ [(⟨ls', vs'⟩ : S2)]).length ≤ 60 from by simp; omega)
                  clear h60
                  go_wp2_with (at_builtin; refine wp_b_st rfl _ _ rfl s W0 O6 (Value.slice av l.length cv).ownBlock (.slice (some ⟨bs2, 0, none⟩) sts2.length cs2) (.slice bN2 nx.length dN2) sts2 nx ⟨ls', vs'⟩ w6.heap.size 1 a3 b3 c3 d3 rfl rfl HB7.out C7.out.1 C7.out.2 R7.out.1 R7.out.2 HOK'.out hL1000 ?_; intro v' w' i1 i2 i3 i4; obtain ⟨aS, lS, cS', hS⟩ := i1.1.1.shS; subst hS; have PP := hid (PACK.out _ _ i1 i2 i3 i4); have HB := hid i1; obtain ⟨y0, y1, y2, y3, y4⟩ := i2; clear i1 i3 i4 x0 x1 x2 x3 x4)
                  have HV := hid PP.out.2.1
                  have HG := hid PP.out.2.2
                  clear PP PACK HB7 HV7 HG7 C7 R7 t0 t1 t2 t3 t4 y0 y1 y2 y3 y4 HSL
                  have HSL := hid HSL9.out
                  clear HSL9
                  refine (l4In_any l (sts2.length : Int) (w'.setCell ⟨O6, 0, none⟩ (.slice aS lS cS')) av cv (HV.out.ints2 HI.out) e1 e2).mono ?_
                  rintro e wq ⟨rfl, hb⟩
                  replace HB := hid (HB.out.next hb)
                  replace HV := hid (HV.out.next hb)
                  replace HG := hid (⟨HG.out.1.next hb, HG.out.2⟩ : SG gS L wq ∧ (Value.slice aS lS cS').ownBlock ≠ some gS ∧ (Value.slice av l.length cv).ownBlock ≠ some gS)
                  clear hb
                  cases hin : hasI l (sts2.length : Int) with
                  | true =>
                    clear hin
                    go_wp2_with fail
                    go_roundw
                    case rel => exact ⟨j + 1, _, l, _, _, (sts2 ++ [⟨ls', vs'⟩]), rfl, by go_num, by omega, by omega, HSL.out.1, HSL.out.2, HB, HV, HI, HVO, HG⟩
                    case measure => (simp [intOf]; try omega)
                  | false =>
                    clear hin
                    have h0 := below_alloc wq (.cells #[.int .i64 (sts2.length : Int)] 3)
                    have IQ := hid (row_one wq (sts2.length : Int) (by unfold i64; omega))
                    have HB5 := hid (HB.out.next h0)
                    have HV5 := hid (HV.out.next h0)
                    have HG5 := hid (⟨HG.out.1.next h0, HG.out.2⟩ : SG gS L (wq.alloc (.cells #[.int .i64 (sts2.length : Int)] 3)) ∧ (Value.slice aS lS cS').ownBlock ≠ some gS ∧ (Value.slice av l.length cv).ownBlock ≠ some gS)
                    have hW5 : W0.heap.size ≤ (wq.alloc (.cells #[.int .i64 (sts2.length : Int)] 3)).heap.size := HB5.out.2.1.size
                    clear h0 HB HV HG
                    go_wp2_with (at_builtin; refine wp_app_own2 rfl _ _ rfl W0.heap.size (.slice av l.length cv) l [(sts2.length : Int)] (some ⟨wq.heap.size, 0, none⟩) 1 rfl rfl (fun h => by cases h) HV5.out hW5 IQ.out (by omega) (by simp) ?_; intro v' w' hv hg hor; have NB := hid (HB5.out.other HV5.out hg hor HVO.out hv); have NV := hid hv; have NO := hid (show v'.ownBlock ≠ some O6 by rcases hor with h | h; (rw [h]; exact HVO.out); (rw [h]; intro e; have e := Option.some.inj e; have := HB5.out.noown.2.2.2; omega)); have NG := hid (show SG gS L w' ∧ (Value.slice aS lS cS').ownBlock ≠ some gS ∧ v'.ownBlock ≠ some gS from ⟨HG5.out.1.keep hg.size (hg.block gS HG5.out.1.1 (fun e => HG5.out.2.2 e.symm)), HG5.out.2.1, by rcases hor with h | h; (rw [h]; exact HG5.out.2.2); (rw [h]; intro e; have e := Option.some.inj e; have := HG5.out.1.1; omega)⟩); clear hv hg hor HB5 HV5 HG5)
                    have NI := hid (show ∀ n, n ∈ l ++ [(sts2.length : Int)] → i64 n from fun n hn => by
                      rcases List.mem_append.1 hn with h | h
                      · exact HI.out n h
                      · simp at h; subst h; unfold i64; omega)
                    go_wp2_with fail
                    go_roundw
                    case rel => exact ⟨j + 1, _, l ++ [(sts2.length : Int)], _, _, (sts2 ++ [⟨ls', vs'⟩]), rfl, by go_num, by omega, by simp; omega, HSL.out.1, HSL.out.2, NB, NV, NI, NO, NG⟩
                    case measure => (simp [intOf]; try omega)
              · obtain ⟨nn, rfl⟩ : ∃ m : Nat, n = m := ⟨n.toNat, by omega⟩
                have h61 : ¬ ((nn : Int) ≥ 60) := by omega
                clear hn0 HPX HRN HX11
                go_wp2_with fail
                refine (l4In_any l (nn : Int) w6 av cv (HV.out.ints2 HI.out) e1 e2).mono ?_
                rintro e wq ⟨rfl, hb⟩
                replace HB := hid (HB.out.next hb)
                replace HV := hid (HV.out.next hb)
                replace HG := hid (⟨HG.out.1.next hb, HG.out.2⟩ : SG gS L wq ∧ (Value.slice (some ⟨bs2, 0, none⟩) sts2.length cs2).ownBlock ≠ some gS ∧ (Value.slice av l.length cv).ownBlock ≠ some gS)
                clear hb
                cases hin : hasI l (nn : Int) with
                | true =>
                  clear hin
                  go_wp2_with fail
                  go_roundw
                  case rel => exact ⟨j + 1, _, l, _, _, sts2, rfl, by go_num, by omega, by omega, HSL.out.1, HSL.out.2, HB, HV, HI, HVO, HG⟩
                  case measure => (simp [intOf]; try omega)
                | false =>
                  clear hin
                  have h0 := below_alloc wq (.cells #[.int .i64 (nn : Int)] 3)
                  have IQ := hid (row_one wq (nn : Int) (by unfold i64; omega))
                  have HB5 := hid (HB.out.next h0)
                  have HV5 := hid (HV.out.next h0)
                  have HG5 := hid (⟨HG.out.1.next h0, HG.out.2⟩ : SG gS L (wq.alloc (.cells #[.int .i64 (nn : Int)] 3)) ∧ (Value.slice (some ⟨bs2, 0, none⟩) sts2.length cs2).ownBlock ≠ some gS ∧ (Value.slice av l.length cv).ownBlock ≠ some gS)
                  have hW5 : W0.heap.size ≤ (wq.alloc (.cells #[.int .i64 (nn : Int)] 3)).heap.size := HB5.out.2.1.size
                  clear h0 HB HV HG
                  go_wp2_with (at_builtin; refine wp_app_own2 rfl _ _ rfl W0.heap.size (.slice av l.length cv) l [(nn : Int)] (some ⟨wq.heap.size, 0, none⟩) 1 rfl rfl (fun h => by cases h) HV5.out hW5 IQ.out (by omega) (by simp) ?_; intro v' w' hv hg hor; have NB := hid (HB5.out.other HV5.out hg hor HVO.out hv); have NV := hid hv; have NO := hid (show v'.ownBlock ≠ some O6 by rcases hor with h | h; (rw [h]; exact HVO.out); (rw [h]; intro e; have e := Option.some.inj e; have := HB5.out.noown.2.2.2; omega)); have NG := hid (show SG gS L w' ∧ (Value.slice (some ⟨bs2, 0, none⟩) sts2.length cs2).ownBlock ≠ some gS ∧ v'.ownBlock ≠ some gS from ⟨HG5.out.1.keep hg.size (hg.block gS HG5.out.1.1 (fun e => HG5.out.2.2 e.symm)), HG5.out.2.1, by rcases hor with h | h; (rw [h]; exact HG5.out.2.2); (rw [h]; intro e; have e := Option.some.inj e; have := HG5.out.1.1; omega)⟩); clear hv hg hor HB5 HV5 HG5)
                  have NI := hid (show ∀ n, n ∈ l ++ [(nn : Int)] → i64 n from fun n hn => by
                    rcases List.mem_append.1 hn with h | h
                    · exact HI.out n h
                    · simp at h; subst h; unfold i64; omega)
                  go_wp2_with fail
                  go_roundw
                  case rel => exact ⟨j + 1, _, l ++ [(nn : Int)], _, _, sts2, rfl, by go_num, by omega, by simp; omega, HSL.out.1, HSL.out.2, NB, NV, NI, NO, NG⟩
                  case measure => (simp [intOf]; try omega)
          · obtain rfl : j = L.length := by omega
            have hjj : ¬ ((L.length : Int) < (L.length : Int)) := by omega
            obtain ⟨av, cv, hve, e1, e2, e3⟩ := HV.out.shape
            subst hve
            obtain ⟨aZ, csZ, bN2, dN2, hvs, hvn, g1', g2', g3', g4', hZ⟩ := HB.out.shape
            subst hvs hvn
            clear hZ
            unfold maxLen at g2' g4' e2
            have HSL := hid (show k < sts2.length ∧ sts2.length ≤ 60 from ⟨hk2, hs2⟩)
            have hnx1000 : nx.length ≤ 1000 := by have := HNX.out; omega
            have hkp : k + 1 ≤ sts2.length := hk2
            clear HMem
            by_cases hL0 : L.length = 0
            · have hL1 : ((L.length : Int) == 0) = true := by rw [hL0]; rfl
              clear hL0
              have h0 := below_alloc wj (.cells #[.int .i64 (k : Int)] 3)
              have IQ := hid (row_one wj (k : Int) (by unfold i64; omega))
              have HB5 := hid (HB.out.next h0)
              have HV5 := hid (HV.out.next h0)
              have hW5 : W0.heap.size ≤ (wj.alloc (.cells #[.int .i64 (k : Int)] 3)).heap.size := HB5.out.2.1.size
              have hl9 : l.length ≤ 900 := by omega
              clear h0 HB HV HG
              go_upto_region 24 with (at_builtin; refine wp_app_own2 rfl _ _ rfl W0.heap.size (.slice av l.length cv) l [(k : Int)] (some ⟨wj.heap.size, 0, none⟩) 1 rfl rfl (fun h => by cases h) HV5.out hW5 IQ.out (by omega) (by simp) ?_; intro v' w' hv hg hor; have NB := hid (HB5.out.other HV5.out hg hor HVO.out hv); have NV := hid hv; have NO := hid (show v'.ownBlock ≠ some O6 by rcases hor with h | h; (rw [h]; exact HVO.out); (rw [h]; intro e; have e := Option.some.inj e; have := HB5.out.noown.2.2.2; omega)); clear hv hg hor HB5 HV5)
              have NI := hid (show ∀ n, n ∈ l ++ [(k : Int)] → i64 n from fun n hn => by
                rcases List.mem_append.1 hn with h | h
                · exact HI.out n h
                · simp at h; subst h; unfold i64; omega)
              have hl91 : (l ++ [(k : Int)]).length ≤ 901 := by simp; omega
              obtain ⟨l2, hl2⟩ : ∃ l2, l2 = l ++ [(k : Int)] := ⟨_, rfl⟩
              rw [← hl2] at NV NI hl91
              clear hl2
              obtain ⟨x0, x1, x2, x3, x4⟩ := NB.out.1.2.1
              obtain ⟨aR, cR, hvR, f1, f2, f3⟩ := NV.out.shape
              subst hvR
              have h0 := below_alloc w' (.cells #[.slice aR l2.length cR] 30)
              have NB5 := hid (NB.out.next h0)
              have NV5 := hid (NV.out.next h0)
              have C5 := hid (show (w'.alloc (.cells #[.slice aR l2.length cR] 30)).cell? ⟨w'.heap.size, 0, none⟩ = some (.slice aR l2.length cR) by simp)
              clear h0
              go_wp2_with (at_builtin; refine wp_b_ro rfl _ _ rfl s W0 O6 _ _ (.slice aR l2.length cR) sts2 nx l2 w'.heap.size 1 rfl rfl NB5.out NV5.out NI.out (by omega) NO.out C5.out hnx1000 ?_; intro v9 w9 i1 i2; obtain ⟨b9, l9, d9, h9⟩ := i1.1.1.shN; subst h9; have HB9 := hid i1; obtain ⟨y0, y1, y2, y3, y4⟩ := i2; clear i1 x0 x1 x2 x3 x4)
              go_roundw
              case rel => exact ⟨k + 1, _, _, sts2, nx ++ [l2], by go_num, hkp, by rw [List.length_append, HNX.out]; rfl, hid (by have := HSL.out; omega), HB9⟩
              case measure => (simp [intOf]; try omega)
            · have hL1 : ((L.length : Int) == 0) = false := by simp; intro e; rw [e] at hL0; exact hL0 rfl
              clear hL0
              have NB := hid HB.out
              have NV := hid HV.out
              have NO := hid HVO.out
              have NI := hid HI.out
              have hl91 : l.length ≤ 901 := by omega
              clear HB HV HG
              obtain ⟨x0, x1, x2, x3, x4⟩ := NB.out.1.2.1
              have h0 := below_alloc wj (.cells #[.slice av l.length cv] 30)
              have NB5 := hid (NB.out.next h0)
              have NV5 := hid (NV.out.next h0)
              have C5 := hid (show (wj.alloc (.cells #[.slice av l.length cv] 30)).cell? ⟨wj.heap.size, 0, none⟩ = some (.slice av l.length cv) by simp)
              clear h0
              go_wp2_with (at_builtin; refine wp_b_ro rfl _ _ rfl s W0 O6 _ _ (.slice av l.length cv) sts2 nx l wj.heap.size 1 rfl rfl NB5.out NV5.out NI.out (by omega) NO.out C5.out hnx1000 ?_; intro v9 w9 i1 i2; obtain ⟨b9, l9, d9, h9⟩ := i1.1.1.shN; subst h9; have HB9 := hid i1; obtain ⟨y0, y1, y2, y3, y4⟩ := i2; clear i1 x0 x1 x2 x3 x4)
              go_roundw
              case rel => exact ⟨k + 1, _, _, sts2, nx ++ [l], by go_num, hkp, by rw [List.length_append, HNX.out]; rfl, hid (by have := HSL.out; omega), HB9⟩
              case measure => (simp [intOf]; try omega)
      · obtain rfl : k = sts.length := by omega
        have hkk : ¬ ((sts.length : Int) < (sts.length : Int)) := by omega
        obtain ⟨aZ, csZ, bN2, dN2, hvs, hvn, g1', g2', g3', g4', hZ⟩ := HB.out.shape
        subst hvs hvn
        clear hZ
        have ZN := hid (boxp_next HB.out.2.1 HZ0.out)
        obtain ⟨z0, z1, z2, z3, z4⟩ := ZN.out
        have HNE := HB.out.noown.2.2.1
        have BN := hid (below_set2 (below_next HB0.out HB.out.2.1) (show w.heap.size ≤ w.heap.size + 1 by omega) (.slice aZ sts.length csZ) (.slice bN2 nx.length dN2))
        have GN := hid (show GOwn w.heap.size O6 none (.slice aZ sts.length csZ) (.slice bN2 nx.length dN2) ⟨sts, nx⟩ ((wi.setCell ⟨w.heap.size + 1, 0, none⟩ (.slice aZ sts.length csZ)).setCell ⟨w.heap.size + 1, 1, none⟩ (.slice bN2 nx.length dN2)) from
          (HB.out.1.1.keep (by simp) fun b hb _ _ _ => (Below.heap_setCell _ _ _ _ (show b ≠ w.heap.size + 1 by omega)).trans (Below.heap_setCell _ _ _ _ (show b ≠ w.heap.size + 1 by omega))).re (by omega) fun b _ h2 _ _ => ⟨h2, by simp⟩)
        go_wp2_with fail
        obtain ⟨y0, y1, y2, _⟩ := boxp_set1 (boxp_set0 ZN.out (.slice aZ sts.length csZ)) (.slice bN2 nx.length dN2)
        refine bodyPost_ret (v := .tuple #[.agg #[.slice aZ sts.length csZ, .slice bN2 nx.length dN2], .bool true]) (by simp [results, Try.results62, go_sem, y1, y2]) rfl ?_
        exact RetP.mk ⟨_, _, ⟨sts, nx⟩, true, O6, rfl, GN.out, hs60.1, HNX.out, fun _ => hs60.2⟩ BN.out
  · have hok2 : okSy s = false := by simpa using hok
    rw [hok2]
    have hL : initL s = [] := by rw [initL, if_neg hok]
    have hM : initM s = [] := by rw [initM, if_neg hok]
    rw [hL, hM]
    clear hL hM oG oH gG gH hdis hok hok2 cG1 cG2 cH1 cH2
    have HB2 := hid (below_next HB1.out (below_alloc w1 (.cells #[.slice aG ([] : List Int).length cG, .slice aH ([] : List Int).length cH] 91)))
    go_upto_region 2 with fail
    refine wp_gen (fun W => Below W0.heap.size W0 W) HB2.out ?_
    clear HB2 HB1
    intro w2 hb2
    have HBz := hid hb2
    clear hb2
    have ZN := hid (boxp_next HBz.out HZ0.out)
    obtain ⟨z0, z1, z2, z3, z4⟩ := ZN.out
    have BN := hid (below_set2 (below_next HB0.out HBz.out) (show w.heap.size ≤ w.heap.size + 1 by omega) (.slice none 0 0) (.slice none 0 0))
    go_wp2_with fail
    obtain ⟨y0, y1, y2, _⟩ := boxp_set1 (boxp_set0 ZN.out (.slice none 0 0)) (.slice none 0 0)
    refine bodyPost_ret (v := .tuple #[.agg #[.slice none 0 0, .slice none 0 0], .bool false]) (by simp [results, Try.results62, go_sem, y1, y2]) rfl ?_
    exact RetP.mk (BgV.no _ _) BN.out
end Gr
end Go.Proofs.Ytfemikebklmlpaa
