/- Joined texts (CopyG, MutG, Box, SubstS, DrawsPlain): contracts and plain laws. Conditions: those of each theorem. -/
import Derived.Test.YtfemikebklmlpaaJV13
import Derived.Test.YtfemikebklmlpaaJV14
import Derived.Test.YtfemikebklmlpaaJV4
import Derived.Test.YtfemikebklmlpaaJV1
import Derived.Test.YtfemikebklmlpaaJV3
import Derived.Test.YtfemikebklmlpaaRows
import Derived.Test.YtfemikebklmlpaaJV6
import Derived.Test.YtfemikebklmlpaaJV2
import Derived.Deep.DeepCutAuto
import Derived.Deep.CutBlock
import Derived.WalkSpells
import Derived.WalkLawsBesides
import Derived.Deep.QuietTactic
import Derived.BigQuiet
set_option linter.unusedVariables false
set_option linter.unusedSimpArgs false
namespace Go.Proofs.Ytfemikebklmlpaa
open Go.RowKit
set_option linter.unusedVariables false
set_option linter.unusedSimpArgs false
namespace Gr

theorem range_i64 {n : Nat} (hn : n ≤ 900) : ∀ i, i ∈ Bfs.ints (List.range n) → i64 i := fun i hi => by
  simp [Bfs.ints] at hi
  obtain ⟨a, h1, rfl⟩ := hi
  unfold i64; omega
/-- what a copy comes to -/
def CpPost (n m : Nat) (w : World) (v : Value) (w' : World) : Prop := ∃ N O vs vn sts nx, v = .agg #[vs, vn] ∧ sts.length = n ∧ nx.length = m ∧ COwn w.heap.size N O vs vn ⟨sts, nx⟩ w'
set_option maxRecDepth 100000 in
set_option maxHeartbeats 4000000 in
theorem copy_any (L O x) (vs vn : Value) (g : G2) (w : World) (h : GOwn L O x vs vn g w) (hn : g.states.length ≤ 900) (hm : g.next.length ≤ 900) : Calls Try.prog 61 #[.agg #[vs, vn]] w (RetP (CpPost g.states.length g.next.length w) w) := by
  have HG := hid h
  obtain ⟨av, cv, bv, dv, rfl, rfl, q1, q2, q3, q4, _, _⟩ := h.shape
  have HRO := hid (fun (W : World) (M : Below w.heap.size w W) (k : Nat) (hk : k < g.next.length) => by
    obtain ⟨b, c, a1, n1, e1, e2, e3, e4⟩ := (HG.out.next M).roAt hk
    exact (⟨b, c, a1, n1, e1, e2, e3, e4, (HG.out.blk.2 b (by rw [e1]; rfl)).2⟩ : ∃ b c a1 n1, Value.slice bv g.next.length dv = .slice (some ⟨b, 0, none⟩) g.next.length c ∧ b < W.heap.size ∧ W.cell? ⟨b, k, none⟩ = some (.slice a1 g.next[k].length n1) ∧ RN (pX L O x (.slice av g.states.length cv) (.slice bv g.next.length dv)) W g.next[k] a1 n1 ∧ b < w.heap.size))
  have HSS := hid (fun (W W' : World) (M : Below w.heap.size w W) (a : Option Addr) (c : Nat) (hi : IntsIn Any W a (Bfs.ints (List.range g.states.length))) (hc : g.states.length ≤ c) (hc2 : c ≤ maxLen) => states_any L O x _ _ g W a c (HG.out.next M) hn hi hc hc2)
  obtain ⟨n, hn0⟩ : ∃ n, n = g.states.length := ⟨_, rfl⟩
  obtain ⟨m, hm0⟩ : ∃ m, m = g.next.length := ⟨_, rfl⟩
  have HM := hid hm0
  rw [← hn0] at hn q1 HSS ⊢
  rw [← hm0] at hm q3 HSS ⊢
  unfold maxLen at q2 q4
  clear h HG hn0 hm0
  go_enter Try.func61, Try.ntmps61
  go_upto_region 1 with fail
  refine wp_gen (fun W => Below w.heap.size w W ∧ BoxP W w.heap.size (.slice av n cv) (.slice bv m dv) ∧ BoxP W (w.heap.size + 1) (.slice none 0 0) (.slice none 0 0)) ⟨(by repeat (first | exact Below.refl _ _ | assumption | refine below_a ?_ _ | refine below_o ?_ _ | refine below_d ?_ | refine below_n ?_ _ | refine below_s ?_ (by first | (simp; done) | (simp; omega) | omega) _)), boxp_next (below_alloc _ _) (boxp_at rfl), boxp_at (by simp)⟩ ?_
  rintro W0 ⟨B0, P0, Z0⟩
  have HB0 := hid B0
  have HP0 := hid P0
  have HZ0 := hid Z0
  have hB0 := B0.size
  have hZ0 := Z0.1
  clear B0 Z0
  go_cut [3] (fun s3 wx => ∃ O3 v sts, s3 = .pointer (some ⟨O3, 0, none⟩) ∧ Hid (CG W0 n O3 v sts wx))
  case first =>
    obtain ⟨p0, p1, p2, p3, p4⟩ := P0
    refine wp_region_ord (C := fun wZ => ∃ xZ, wZ = World.over _ xZ) [0,1,2,3] (.two 4 7 (.two 5 7 (.two 6 7 (.one 7 (.fre 8 .done)) (.one 6 (.fre 8 .done))) (.one 5 (.one 6 (.fre 8 .done)))) (.one 4 (.one 5 (.one 6 (.fre 8 .done))))) [8] (by kernel_rfl) (by kernel_rfl) (fun d _ _ _ _ h => by cases d <;> exact h) (bex (Below.refl _ _).drew) ?_; simp only [pick, List.getElem?_cons_succ, List.getElem?_cons_zero]; (repeat (go_big_quiet_step (fail))); refine wpQuiet_nil ?_; simp only [ordW, pick, List.getElem?_cons_succ, List.getElem?_cons_zero]
    have C := hid (below_d (Below.refl W0.heap.size W0))
    generalize W0.drew = v0 at *
    clear p0 p1 p2 p3 p4
    refine ⟨?_, ?_⟩
    · go_wp2_with fail
      refine (Bfs.count_any n (by omega) v0).mono ?_
      rintro e v1 ⟨vC, rfl, hO, hb⟩
      obtain ⟨aC, cC, rfl, e1, e2, e3⟩ := hO.shape
      have HI := hid (hO.ints2 (range_i64 hn))
      rw [Bfs.ints_len, List.length_range] at e1 ⊢
      have HC1 := hid e1
      have HC2 := hid e2
      replace C := hid (below_next C.out hb)
      clear hO hb e1 e2 e3
      go_wp2_with fail
      refine ⟨bex C.out, ?_⟩
      refine ⟨?_, ?_⟩
      · go_wp2_with fail
        refine (HSS.out v1 v1 (below_next HB0.out C.out) _ _ HI.out HC1.out HC2.out).mono ?_
        rintro e v2 ⟨v, rfl, ⟨sts, hls, hS⟩, hb⟩
        obtain ⟨aS, cS, hv⟩ : ∃ aS cS, v = .slice aS sts.length cS := by obtain ⟨a, c, _, _, h, _⟩ := hS.shape; exact ⟨a, c, h⟩
        rw [hls] at hv
        subst hv
        have HS := hid hS
        have HLN := hid hls
        have HL1 := hid C.out.size
        have DS := hid (Below.refl v2.heap.size v2)
        replace C := hid (below_next C.out hb)
        clear hS hls hb HI HC1 HC2
        go_wp2_with fail
        refine ⟨bex C.out, ?_⟩
        refine ⟨?_, ?_⟩
        · go_wp2_with fail
          refine ⟨bex C.out, ?_⟩
          have h0 := below_alloc v2 (.cells #[.slice none 0 0, .slice none 0 0] 26)
          have X := hid (boxp_at (w := v2) (B := v2.heap.size) (a := .slice none 0 0) (b := .slice none 0 0) (t := 26) rfl)
          have HO3 := hid (show W0.heap.size ≤ v2.heap.size from C.out.size)
          have hlt := DS.out.size
          replace DS := hid (below_next DS.out h0)
          replace C := hid (below_next C.out h0)
          go_wp2_with fail
          refine ⟨bex C.out, ?_⟩
          clear h0
          obtain ⟨O3, hO3⟩ : ∃ O3, O3 = v2.heap.size := ⟨_, rfl⟩
          have HLT := hid (show v2.heap.size ≤ O3 by omega)
          clear hlt
          rw [← hO3] at X HO3  ⊢
          clear hO3
          generalize v2.alloc (.cells #[.slice none 0 0, .slice none 0 0] 26) = v4 at *
          have hC := CG.mk (W0 := W0) (n := n) (O := O3) HS.out (.inr HLT.out) DS.out X.out C.out HL1.out HO3.out HLN.out
          have HC := hid hC
          clear hC
          obtain ⟨x0, x1, x2, x3, x4⟩ := id X.out
          go_wp2_with fail
          go_meet
          exact ⟨O3, _, sts, rfl, HC⟩
        · have h0 := below_alloc v2 (.cells #[.slice none 0 0, .slice none 0 0] 26)
          have X := hid (boxp_at (w := v2) (B := v2.heap.size) (a := .slice none 0 0) (b := .slice none 0 0) (t := 26) rfl)
          have HO3 := hid (show W0.heap.size ≤ v2.heap.size from C.out.size)
          have hlt := DS.out.size
          replace DS := hid (below_next DS.out h0)
          replace C := hid (below_next C.out h0)
          go_wp2_with fail
          refine ⟨bex C.out, ?_⟩
          clear h0
          obtain ⟨O3, hO3⟩ : ∃ O3, O3 = v2.heap.size := ⟨_, rfl⟩
          have HLT := hid (show v2.heap.size ≤ O3 by omega)
          clear hlt
          rw [← hO3] at X HO3  ⊢
          clear hO3
          generalize v2.alloc (.cells #[.slice none 0 0, .slice none 0 0] 26) = v5 at *
          go_wp2_with fail
          refine ⟨bex C.out, ?_⟩
          have hC := CG.mk (W0 := W0) (n := n) (O := O3) HS.out (.inr HLT.out) DS.out X.out C.out HL1.out HO3.out HLN.out
          have HC := hid hC
          clear hC
          obtain ⟨x0, x1, x2, x3, x4⟩ := id X.out
          go_wp2_with fail
          go_meet
          exact ⟨O3, _, sts, rfl, HC⟩
      · have h0 := below_alloc v1 (.cells #[.slice none 0 0, .slice none 0 0] 26)
        have X := hid (boxp_at (w := v1) (B := v1.heap.size) (a := .slice none 0 0) (b := .slice none 0 0) (t := 26) rfl)
        have HO3 := hid (show W0.heap.size ≤ v1.heap.size from C.out.size)
        replace HI := hid (HI.out.below h0)
        have HLT0 := hid (show v1.heap.size < (v1.alloc (.cells #[.slice none 0 0, .slice none 0 0] 26)).heap.size by simp)
        replace C := hid (below_next C.out h0)
        go_wp2_with fail
        refine ⟨bex C.out, ?_⟩
        clear h0
        obtain ⟨O3, hO3⟩ : ∃ O3, O3 = v1.heap.size := ⟨_, rfl⟩
        rw [← hO3] at X HO3 HLT0 ⊢
        clear hO3
        generalize v1.alloc (.cells #[.slice none 0 0, .slice none 0 0] 26) = v7 at *
        go_wp2_with fail
        refine (HSS.out v7 v7 (below_next HB0.out C.out) _ _ HI.out HC1.out HC2.out).mono ?_
        rintro e v8 ⟨v, rfl, ⟨sts, hls, hS⟩, hb⟩
        obtain ⟨aS, cS, hv⟩ : ∃ aS cS, v = .slice aS sts.length cS := by obtain ⟨a, c, _, _, h, _⟩ := hS.shape; exact ⟨a, c, h⟩
        rw [hls] at hv
        subst hv
        have HS := hid hS
        have HLN := hid hls
        have HL1 := hid C.out.size
        have DS := hid (Below.refl v8.heap.size v8)
        replace X := hid (boxp_next hb X.out)
        have HLT := hid HLT0.out
        replace C := hid (below_next C.out hb)
        clear hS hls hb HI HC1 HC2
        go_wp2_with fail
        refine ⟨bex C.out, ?_⟩
        go_wp2_with fail
        refine ⟨bex C.out, ?_⟩
        have hC := CG.mk (W0 := W0) (n := n) (O := O3) HS.out (.inl HLT.out) DS.out X.out C.out HL1.out HO3.out HLN.out
        have HC := hid hC
        clear hC
        obtain ⟨x0, x1, x2, x3, x4⟩ := id X.out
        go_wp2_with fail
        go_meet
        exact ⟨O3, _, sts, rfl, HC⟩
    · have h0 := below_alloc v0 (.cells #[.slice none 0 0, .slice none 0 0] 26)
      have X := hid (boxp_at (w := v0) (B := v0.heap.size) (a := .slice none 0 0) (b := .slice none 0 0) (t := 26) rfl)
      have HO3 := hid (show W0.heap.size ≤ v0.heap.size from C.out.size)
      have HLT0 := hid (show v0.heap.size < (v0.alloc (.cells #[.slice none 0 0, .slice none 0 0] 26)).heap.size by simp)
      replace C := hid (below_next C.out h0)
      go_wp2_with fail
      refine ⟨bex C.out, ?_⟩
      clear h0
      obtain ⟨O3, hO3⟩ : ∃ O3, O3 = v0.heap.size := ⟨_, rfl⟩
      rw [← hO3] at X HO3 HLT0 ⊢
      clear hO3
      generalize v0.alloc (.cells #[.slice none 0 0, .slice none 0 0] 26) = v10 at *
      go_wp2_with fail
      refine (Bfs.count_any n (by omega) v10).mono ?_
      rintro e v11 ⟨vC, rfl, hO, hb⟩
      obtain ⟨aC, cC, rfl, e1, e2, e3⟩ := hO.shape
      have HI := hid (hO.ints2 (range_i64 hn))
      rw [Bfs.ints_len, List.length_range] at e1 ⊢
      have HC1 := hid e1
      have HC2 := hid e2
      replace X := hid (boxp_next hb X.out)
      replace HLT0 := hid (Nat.lt_of_lt_of_le HLT0.out hb.size)
      replace C := hid (below_next C.out hb)
      clear hO hb e1 e2 e3
      go_wp2_with fail
      refine ⟨bex C.out, ?_⟩
      go_wp2_with fail
      refine (HSS.out v11 v11 (below_next HB0.out C.out) _ _ HI.out HC1.out HC2.out).mono ?_
      rintro e v12 ⟨v, rfl, ⟨sts, hls, hS⟩, hb⟩
      obtain ⟨aS, cS, hv⟩ : ∃ aS cS, v = .slice aS sts.length cS := by obtain ⟨a, c, _, _, h, _⟩ := hS.shape; exact ⟨a, c, h⟩
      rw [hls] at hv
      subst hv
      have HS := hid hS
      have HLN := hid hls
      have HL1 := hid C.out.size
      have DS := hid (Below.refl v12.heap.size v12)
      replace X := hid (boxp_next hb X.out)
      have HLT := hid HLT0.out
      replace C := hid (below_next C.out hb)
      clear hS hls hb HI HC1 HC2
      go_wp2_with fail
      refine ⟨bex C.out, ?_⟩
      go_wp2_with fail
      refine ⟨bex C.out, ?_⟩
      have hC := CG.mk (W0 := W0) (n := n) (O := O3) HS.out (.inl HLT.out) DS.out X.out C.out HL1.out HO3.out HLN.out
      have HC := hid hC
      clear hC
      obtain ⟨x0, x1, x2, x3, x4⟩ := id X.out
      go_wp2_with fail
      go_meet
      exact ⟨O3, _, sts, rfl, HC⟩
  case rest =>
    obtain ⟨O3, v, sts, rfl, HC⟩ := hcut
    obtain ⟨w1, hw1⟩ : ∃ w1 : World, w1 = wc := ⟨_, rfl⟩
    subst hw1
    have HLS := hid HC.out.2.2.2.2
    have HO3 := hid HC.out.2.2.2.1
    have C0 := hid (COwn.of HC.out.1 (Nat.le_refl _) HC.out.2.2.2.1 HC.out.2.1.1)
    have X0 := hid HC.out.2.1
    have B1 := hid HC.out.2.2.1
    obtain ⟨N, hN⟩ : ∃ N, N = w1.heap.size := ⟨_, rfl⟩
    rw [← hN] at C0
    have HN := hid (show N ≤ w1.heap.size by omega)
    have HN3 := hid (show O3 < N by have := X0.out.1; omega)
    clear HC hN P0
    go_wp2_with fail
    go_loopw [4] (fun i wr => ∃ (k : Nat) (vn : Value) (nx : List (List Int)), k ≤ m ∧ i = .int .i64 k ∧ nx.length = k ∧ Hid (COwn W0.heap.size N O3 v vn ⟨sts, nx⟩ wr) ∧ Hid (BoxP wr O3 v vn) ∧ Hid (Below W0.heap.size W0 wr) ∧ Hid (N ≤ wr.heap.size)) (fun i _ => m - (intOf i).toNat)
    case atStart => exact ⟨0, _, [], Nat.zero_le _, rfl, rfl, C0, X0, B1, HN⟩
    case round =>
      obtain ⟨k, vn, nx, hk, rfl, hlx, HC, HX, HB, HNS⟩ := hrel
      obtain ⟨wi, rfl⟩ : ∃ wi : World, wi = wr := ⟨_, rfl⟩
      have HLX := hid hlx
      clear C0 X0 B1 HN hlx
      have HP := hid (boxp_next HB.out HP0.out)
      obtain ⟨p0, p1, p2, p3, p4⟩ := HP.out
      obtain ⟨x0, x1, x2, x3, x4⟩ := HX.out
      by_cases hkm : k < m
      · have hkm2 : (k : Int) < (m : Int) := by omega
        obtain ⟨bs, cs, a1, n1, e, hbs, c0, r1, hbs0⟩ := HRO.out wi (below_next HB0.out HB.out) k (by have := HM.out; omega)
        simp at e
        obtain ⟨rfl, _, rfl⟩ := e
        obtain ⟨lX, hlX⟩ : ∃ lX, lX = g.next[k] := ⟨_, rfl⟩
        have KBS := hid (show bs < w.heap.size from hbs0)
        rw [← hlX] at c0 r1
        have RX0 := hid (r1.frame (q := Any) (Nat.le_refl _) fun b _ _ => ⟨trivial, rfl⟩)
        clear hlX r1
        go_wp2_with fail
        refine wp_region_ord (C := fun wZ => ∃ xZ, wZ = World.overP _ ([w.heap.size, O3, bs]) xZ) [0,1,3,4,5,6,7] (.one 2 (.one 8 (.one 9 (.one 10 (.fre 11 (.fre 12 .done)))))) [11,12] (by kernel_rfl) (by kernel_rfl) (fun d _ _ _ _ h => by cases d <;> exact h) (KeepP.refl _ _).drew.ex ?_; simp only [pick, List.getElem?_cons_succ, List.getElem?_cons_zero]; (repeat (go_big_quiet_step (fail))); refine wpQuiet_nil ?_; simp only [ordW, pick, List.getElem?_cons_succ, List.getElem?_cons_zero]
        obtain ⟨v0, hv0⟩ : ∃ v0, v0 = wi.drew := ⟨_, rfl⟩
        rw [← hv0]
        have h1 := below_d (Below.refl wi.heap.size wi)
        rw [← hv0] at h1
        have K := hid (show KeepP [w.heap.size, O3, bs] wi v0 by rw [hv0]; exact (KeepP.refl _ wi).drew)
        replace HC := hid (HC.out.next h1)
        replace HX := hid (boxp_next h1 HX.out)
        replace HB := hid (below_next HB.out h1)
        replace HNS := hid (Nat.le_trans HNS.out h1.size)
        have RX := hid (RX0.out.frame h1.size (fun b hp hl => ⟨hp, h1.block b hl⟩))
        clear h1 hv0 RX0 p0 p1 p2 p3 p4 x0 x1 x2 x3 x4 c0 hbs HP
        have h0 := below_alloc v0 (.cells #[] 3)
        have EX := hid (OwnI.made v0)
        have SX := hid (show v0.heap.size < (v0.alloc (.cells #[] 3)).heap.size by simp)
        have D := hid h0
        have K1 := hid (K.out.trans (KeepP.below h0))
        clear h0 K
        go_wp2_with fail
        refine ⟨K1.out.ex, ?_⟩
        generalize v0.alloc (.cells #[] 3) = v1 at *
        go_wp2_with (at_builtin; refine wp_app_clone rfl _ _ rfl v0.heap.size lX a1 n1 rfl rfl EX.out SX.out RX.out.2.2.2.1 ((RX.out.2.2.1).below D.out) (by have := RX.out.2.2.2.2; omega) ?_; intro hX cX v2 hor hown hg hlt)
        have OX := hid hown
        have GX := hid (show v0.heap.size ≤ hX by rcases hor with rfl | rfl; exact Nat.le_refl _; exact D.out.size)
        have LX := hid hlt
        have D2 := hid (below_own D.out EX.out (Nat.le_refl _) hg)
        have K2 := hid (K1.out.trans (KeepP.grown hg (fun b hb e => by simp at e; simp at hb; have := HX.out.1; have := HB.out.size; have := HP0.out.1; have := KBS.out; omega)))
        clear hor hown hg hlt EX SX D K1
        go_wp2_with fail
        refine ⟨K2.out.ex, ?_⟩
        have h0 := below_alloc v2 (.cells #[.slice (some ⟨hX, 0, none⟩) lX.length cX] 30)
        have D3 := hid (below_next D2.out h0)
        have K3 := hid (K2.out.trans (KeepP.below h0))
        have OX3 := hid (OX.out.next h0)
        have CC := hid (show (v2.alloc (.cells #[.slice (some ⟨hX, 0, none⟩) lX.length cX] 30)).cell? ⟨v2.heap.size, 0, none⟩ = some (.slice (some ⟨hX, 0, none⟩) lX.length cX) by simp)
        clear h0 D2 K2 OX
        go_wp2_with fail
        refine ⟨K3.out.ex, ?_⟩
        obtain ⟨bz, hbz⟩ : ∃ bz, bz = v2.heap.size := ⟨_, rfl⟩
        rw [← hbz] at CC ⊢
        clear hbz
        generalize v2.alloc (.cells #[.slice (some ⟨hX, 0, none⟩) lX.length cX] 30) = v3 at *
        go_wp2_with (at_builtin; refine wp_push_cp rfl _ _ rfl W0.heap.size N O3 v0.heap.size v vn (.slice (some ⟨hX, 0, none⟩) lX.length cX) sts nx lX bz 1 rfl rfl v0 HC.out HNS.out D3.out OX3.out (Nat.le_refl _) RX.out.2.2.1.2 RX.out.2.2.2.2 CC.out (by have := HLX.out; omega) ?_; intro v' w' i1 i2 i3)
        obtain ⟨bN, ln, dN, hN⟩ : ∃ b l d, v' = .slice b l d := by obtain ⟨_, _, b, d, _, h, _⟩ := i1.gown.shape; exact ⟨b, _, d, h⟩
        subst hN
        have LO := hid (show ∀ b, b ∈ [w.heap.size, O3, bs] → some b ≠ vn.ownBlock by
          intro b hb e
          have h3 := i3 b e.symm
          have := HN3.out; have := HO3.out; have := HP0.out.1; have := KBS.out
          simp at hb
          omega)
        have K4 := hid (K3.out.trans (KeepP.grown i2 (fun b hb e => LO.out b hb e.symm)))
        have NX := hid (boxp_keep i2.size (i2.block O3 (Nat.lt_of_lt_of_le HX.out.1 D3.out.size) (LO.out O3 (by simp))) (boxp_next D3.out HX.out))
        have NB := hid (show Below W0.heap.size W0 w' from
          have hb := below_next HB.out D3.out
          ⟨i2.os.trans hb.os, i2.tape.trans hb.tape, i2.output.trans hb.output, Nat.le_trans hb.size i2.size, fun x hx => (i2.block x (Nat.lt_of_lt_of_le hx hb.size) (fun e => by have := i3 x e.symm; have := HN3.out; have := HO3.out; omega)).trans (hb.block x hx)⟩)
        have NS := hid (Nat.le_trans HNS.out (Nat.le_trans D3.out.size i2.size))
        have NC := hid (show COwn W0.heap.size N O3 v (.slice bN ln dN) ⟨sts, nx ++ [lX]⟩ (w'.setCell ⟨O3, 1, none⟩ (.slice bN ln dN)) from i1.keep (by simp) fun b _ hne _ => Below.heap_setCell _ _ _ _ hne)
        have NX1 := hid (boxp_set1 NX.out (.slice bN ln dN))
        have NB1 := hid (NB.out.setCell (show W0.heap.size ≤ (⟨O3, 1, none⟩ : Addr).block from HO3.out) (.slice bN ln dN))
        have NS1 := hid (show N ≤ (w'.setCell ⟨O3, 1, none⟩ (.slice bN ln dN)).heap.size by simpa using NS.out)
        clear i1 i2 i3 HC HB HX HNS D3 K3 OX3 CC RX LO NB NS GX LX
        obtain ⟨x0, x1, x2, x3, x4⟩ := NX.out
        go_wp2_with fail
        refine ⟨K4.out.ex, ?_⟩
        go_wp2_with fail
        go_roundw
        case rel => exact ⟨k + 1, .slice bN ln dN, nx ++ [lX], by omega, by go_num, by rw [List.length_append, HLX.out]; rfl, NC, NX1, NB1, NS1⟩
        case measure => (simp [intOf]; try omega)
      · obtain rfl : k = m := by omega
        have hkk : ¬ ((k : Int) < (k : Int)) := by omega
        obtain ⟨aS, cS, bS, dS, hv, hvn, _⟩ := HC.out.gown.shape
        rw [HLS.out] at hv
        rw [HLX.out] at hvn
        subst hv hvn
        have HZ := hid (boxp_next HB.out HZ0.out)
        obtain ⟨z0, z1, z2, z3, z4⟩ := HZ.out
        have RC := hid (show COwn w.heap.size N O3 (.slice aS n cS) (.slice bS k dS) ⟨sts, nx⟩ ((wi.setCell ⟨w.heap.size + 1, 0, none⟩ (.slice aS n cS)).setCell ⟨w.heap.size + 1, 1, none⟩ (.slice bS k dS)) from (HC.out.keep (by simp) fun b hb _ _ => (Below.heap_setCell _ _ _ _ (show b ≠ w.heap.size + 1 by omega)).trans (Below.heap_setCell _ _ _ _ (show b ≠ w.heap.size + 1 by omega))).low hB0)
        go_wp2_with fail
        obtain ⟨y0, y1, y2, _⟩ := boxp_set1 (boxp_set0 HZ.out (.slice aS n cS)) (.slice bS k dS)
        refine bodyPost_ret (v := .agg #[.slice aS n cS, .slice bS k dS]) (by simp [results, Try.results61, go_sem, y1, y2]) rfl ?_
        exact RetP.mk ⟨N, O3, _, _, sts, nx, rfl, HLS.out, HLX.out, RC.out⟩ (below_set2 (below_next HB0.out HB.out) (by omega) _ _)
end Gr
end Go.Proofs.Ytfemikebklmlpaa
namespace Go.Proofs.Ytfemikebklmlpaa
open Go.RowKit
set_option linter.unusedVariables false
set_option linter.unusedSimpArgs false
namespace Gr

/-- what a changed graph comes to -/
def MutG (B R p : Nat) (w : World) (e : Ending) (w' : World) : Prop := ∃ v g' p', e = .returned v ∧ GrIn (fun b => w.heap.size ≤ b) w' g' v ∧ g'.states.length ≤ 1000 ∧ But w R w' ∧ Rd B w' R p' ∧ p' ≤ p + 10
theorem mut_last {w W : World} {g : G2} {a b : Value} {R B p p' : Nat} (h : GrIn (fun b => w.heap.size + 2 ≤ b) W g (.agg #[a, b])) (hn : g.states.length ≤ 1000) (hb : But w R W) (hr : Rd B W R p') (hB : B ≤ w.heap.size) (hp : p' ≤ p + 10) :
    MutG B R p w (.returned (.agg #[a, b])) ((W.setCell ⟨w.heap.size + 1, 0, none⟩ a).setCell ⟨w.heap.size + 1, 1, none⟩ b) :=
  ⟨_, g, p', rfl, h.frame (by simp) fun j hj _ => ⟨by omega, (Below.heap_setCell _ _ _ _ (show j ≠ w.heap.size + 1 by omega)).trans (Below.heap_setCell _ _ _ _ (show j ≠ w.heap.size + 1 by omega))⟩, hn,
    But.setNew (But.setNew hb (show w.heap.size ≤ w.heap.size + 1 by omega) _) (show w.heap.size ≤ w.heap.size + 1 by omega) _, (hr.set (show B ≤ w.heap.size + 1 by omega) _).set (show B ≤ w.heap.size + 1 by omega) _, hp⟩
theorem mut_push {w W w' : World} {R B p' O5 : Nat} {vs vn v' : Value} {g g' : G2} (hg : GOwn (w.heap.size + 2) O5 none vs vn g W) (hx : BoxP W O5 vs vn) (hz : BoxP W (w.heap.size + 1) (.slice none 0 0) (.slice none 0 0)) (hb : But w R W) (hr : Rd B W R p') (hR : R < B ∧ B ≤ w.heap.size) (hO : w.heap.size + 2 ≤ O5)
    (i1 : GOwn (w.heap.size + 2) O5 none vs v' g' w') (i2 : W.grownBy w' vn.ownBlock) : (BoxP w' O5 vs vn ∧ BoxP w' (w.heap.size + 1) (.slice none 0 0) (.slice none 0 0)) ∧ Hid (BoxP (w'.setCell ⟨O5, 1, none⟩ v') O5 vs v') ∧ Hid (BoxP (w'.setCell ⟨O5, 1, none⟩ v') (w.heap.size + 1) (.slice none 0 0) (.slice none 0 0)) ∧ Hid (GrIn (fun b => w.heap.size + 2 ≤ b) (w'.setCell ⟨O5, 1, none⟩ v') g' (.agg #[vs, v'])) ∧ Hid (But w R (w'.setCell ⟨O5, 1, none⟩ v')) ∧ Hid (Rd B (w'.setCell ⟨O5, 1, none⟩ v') R p') := by
  have hnb := hg.blk.2
  have hno : ∀ b, vn.ownBlock = some b → b ≠ O5 := by
    obtain ⟨cs, cn, _, _, _, _, _, h6⟩ := hg
    exact fun b e => (h6 b e).1
  have hxx := boxp_keep i2.size (i2.block O5 hx.1 (fun e => hno _ e.symm rfl)) hx
  have hzz := boxp_keep i2.size (i2.block (w.heap.size + 1) hz.1 (fun e => by have := (hnb _ e.symm).1; omega)) hz
  refine ⟨⟨hxx, hzz⟩, hid (boxp_set1 hxx v'), hid (boxp_set hzz (p := ⟨O5, 1, none⟩) (show w.heap.size + 1 ≠ O5 by omega) v'), hid (i1.keep (by simp) fun b _ hne _ _ => Below.heap_setCell _ _ _ _ hne).grIn, hid (But.setNew ⟨i2.os.trans hb.os, i2.tape.trans hb.tape, i2.output.trans hb.output, Nat.le_trans hb.size i2.size, fun y hy hd => (i2.block y (Nat.lt_of_lt_of_le hy hb.size) (fun e => by have := (hnb _ e.symm).1; omega)).trans (hb.block y hy hd)⟩ (show w.heap.size ≤ O5 by omega) _), hid ((hr.grown i2 (fun y e => by have := (hnb _ e).1; omega)).set (a := ⟨O5, 1, none⟩) (show B ≤ O5 by omega) v')⟩
set_option maxRecDepth 100000 in
set_option maxHeartbeats 4000000 in
theorem mutG_any (L O x) (vs vn : Value) (g : G2) (w : World) (R B p : Nat) (h : GOwn L O x vs vn g w) (hn : g.states.length ≤ 900) (hn1 : 1 ≤ g.states.length) (hm : g.next.length = g.states.length) (hr : Rd B w R p) (hp : p + 10 ≤ 1000000) : Calls Try.prog 30 #[.pointer (some ⟨R, 0, none⟩), .agg #[vs, vn]] w (MutG B R p w) := by
  have hB := hr.lt
  have HCP := hid (fun (W : World) (M : Below w.heap.size w W) => copy_any L O x vs vn g W (h.next M) hn (by omega))
  obtain ⟨av, cv, bv, dv, rfl, rfl, q1, q2, q3, q4, _, _⟩ := h.shape
  generalize g.states.length = n at *
  generalize g.next.length = m at *
  subst hm
  have HR := hid hr
  clear h hr
  go_enter Try.func30, Try.ntmps30
  go_upto_region 1 with fail
  refine wp_gen (fun W => Below w.heap.size w W ∧ BoxP W w.heap.size (.slice av m cv) (.slice bv m dv) ∧ BoxP W (w.heap.size + 1) (.slice none 0 0) (.slice none 0 0)) ⟨(by repeat (first | exact Below.refl _ _ | assumption | refine below_a ?_ _ | refine below_o ?_ _ | refine below_d ?_ | refine below_n ?_ _ | refine below_s ?_ (by first | (simp; done) | (simp; omega) | omega) _)), boxp_next (below_alloc _ _) (boxp_at rfl), boxp_at (by simp)⟩ ?_
  rintro W0 ⟨B0, P0, Z0⟩
  have HB0 := hid B0
  have HZ0 := hid Z0
  have hZ0 := Z0.1
  obtain ⟨p0, p1, p2, p3, p4⟩ := P0
  have HC0 := hid (HCP.out W0 B0)
  clear B0 HCP Z0
  go_wp2_with fail
  refine HC0.out.mono ?_
  rintro e w1 ⟨v, rfl, ⟨N, O', vs, vn, sts, nx, rfl, hls, hlx, hC⟩, hb⟩
  have B1 := hid (below_next HB0.out hb)
  have R1 := hid (HR.out.next B1.out)
  have Z1 := hid (boxp_next hb HZ0.out)
  have hC2 := hC.low (L' := w.heap.size + 2) (by omega)
  clear hC
  obtain ⟨aS, cS, bS, dS, hv1, hv2, hq1, hq2, hq3, hq4, _, _⟩ := hC2.gown.shape
  rw [hls] at hv1 hq1
  rw [hlx] at hv2 hq3
  subst hv1 hv2
  have HC := hid hC2
  have HLS := hid hls
  have HLX := hid hlx
  have hs1 := B1.out.size
  clear hC2 hls hlx HB0 HZ0 HR HC0 p0 p1 p2 p3 p4 hb
  have X5 := hid (boxp_at (w := w1) (B := w1.heap.size) (a := .slice aS m cS) (b := .slice bS m dS) (t := 26) rfl)
  have h0 := below_alloc w1 (.cells #[.slice aS m cS, .slice bS m dS] 26)
  have HW := hid (show But w1 R (w1.alloc (.cells #[.slice aS m cS, .slice bS m dS] 26)) from But.of h0)
  have R2 := hid (R1.out.next h0)
  clear h0
  go_upto_region 2 with fail
  obtain ⟨O5, hO5⟩ : ∃ O5, O5 = w1.heap.size := ⟨_, rfl⟩
  rw [← hO5] at X5 ⊢
  have HO5 := hid hO5
  clear hO5
  refine wp_gen (fun W => BoxP W O5 (.slice aS m cS) (.slice bS m dS) ∧ But w1 R W ∧ Rd B W R p) ⟨X5.out, HW.out, R2.out⟩ ?_
  clear X5 HW R2
  rintro w2 ⟨x5, hw, r2⟩
  obtain ⟨x0, x1, x2, x3, x4⟩ := id x5
  unfold maxLen at hq2 hq4
  go_wp2_with fail
  refine (pick_any B _ _ R p r2 (by omega) (by omega) (by omega)).mono ?_
  rintro e w3 ⟨j, rfl, ⟨j0, j1, _⟩, hb, r3⟩
  obtain ⟨k, rfl⟩ := Int.eq_ofNat_of_zero_le j0
  have hk1 := j1 (by omega)
  have hk : k < m := by omega
  have x53 := boxp_but hb (by have := HO5.out; omega) x5
  have hw3 := hw.trans hb
  clear x0 x1 x2 x3 x4 x5 hw r2 hb j1 j0
  go_wp2_with fail
  refine (pick_any B _ _ R (p + 1) r3 (by omega) (by omega) (by omega)).mono ?_
  rintro e w4 ⟨i, rfl, _, hb, r4⟩
  have X5 := hid (boxp_but hb (by have := HO5.out; omega) x53)
  have HW := hid (hw3.trans hb)
  have R4 := hid r4
  clear x53 hw3 hb r3 r4
  have FIN := hid (fun (g' : G2) (W : World) (p' : Nat) (a b : Value) (h : GrIn (fun b => w.heap.size + 2 ≤ b) W g' (.agg #[a, b])) (hn : g'.states.length ≤ 1000) (hb : But w R W) (hr : Rd B W R p') (hp : p' ≤ p + 10) => mut_last (p := p) h hn hb hr hB.2 hp)
  have hkn : k < nx.length := by have := HLX.out; omega
  have hks : k < sts.length := by have := HLS.out; omega
  obtain ⟨bn, cN, a1, n1, e, hbn1, cn1, rn⟩ := HC.out.gown.roAt (g := ⟨sts, nx⟩) hkn
  simp at e
  obtain ⟨rfl, hme, rfl⟩ := e
  clear hme rn
  obtain ⟨w1o, w1i, w1l, w1N, w1n⟩ := HC.out.ownAt hkn rfl cn1
  have HROW := hid (show (∀ i, i ∈ nx[k] → i64 i) ∧ nx[k].length ≤ 1000 ∧ N ≤ bn ∧ ∀ g, (Value.slice a1 nx[k].length n1).ownBlock = some g → g ≠ bn ∧ N ≤ g ∧ g < w1.heap.size ∧ w.heap.size + 2 ≤ g from ⟨w1i, w1l, w1N, fun g e => ⟨w1n g e, (w1o.blk g e).1, (w1o.blk g e).2, by
    have h1 := (w1o.blk g e).1
    obtain ⟨_, _, _, _, _, _, _, h6, h7, _⟩ := HC.out
    omega⟩⟩)
  have hbnR : R ≠ bn := by have := (HC.out.gown.blk.2 bn rfl).1; omega
  have cn0 : w4.cell? ⟨bn, k, none⟩ = some (.slice a1 nx[k].length n1) := (HW.out.cell (b := bn) (o := k) hbn1 (Ne.symm hbnR)).trans cn1
  have OW4 := hid (w1o.keep fun g e _ hl => HW.out.block g hl (by
    have h1 := (HC.out.gown.blk.2 bn rfl).1
    have h2 := HROW.out.2.2.2 g e
    have h3 := HC.out
    obtain ⟨_, _, _, _, _, _, _, h6, h7, _⟩ := h3
    omega))
  clear w1o w1i w1l w1N w1n cn1
  have hC4 := HC.out.but HW.out (show R < w.heap.size + 2 by omega)
  have HC4 := hid hC4
  have HG1 := hid (show GOwn (w.heap.size + 2) O5 none (.slice aS m cS) (.slice (some ⟨bn, 0, none⟩) m dS) ⟨sts, nx⟩ w1 from HC.out.gown.re (Nat.le_refl _) fun b _ _ _ hl => ⟨by have := HO5.out; omega, by simp⟩)
  have HG4 := hid (HG1.out.keep HW.out.size fun b hb _ _ hl => HW.out.block b hl (by omega))
  have Z4 := hid (boxp_but HW.out (by omega) Z1.out)
  have BW4 := hid (show But w R w4 from (But.of B1.out).trans HW.out)
  have hbn : bn < w4.heap.size := Nat.lt_of_lt_of_le hbn1 HW.out.size
  obtain ⟨bs, cS', a2, n2, a3, n3, e, hbs, cs0, cs1, rs0, rs1⟩ := HG4.out.stAt (g := ⟨sts, nx⟩) hks
  simp at e
  obtain ⟨rfl, hme, rfl⟩ := e
  clear hme
  have HSO := hid (HG4.out.blk.1 bs rfl)
  have HNO := hid (HG4.out.blk.2 bn rfl)
  have HO5n := hid (show O5 ≠ bn ∧ O5 ≠ bs ∧ w.heap.size + 2 ≤ O5 from by
    have h1 := HG1.out.blk.1 bs rfl
    have h2 := HG1.out.blk.2 bn rfl
    have := HO5.out
    omega)
  have hszw := HW.out.size
  have hO51 : w.heap.size + 1 ≠ O5 := by have := HO5n.out; omega
  have hO52 : O5 ≠ w.heap.size + 1 := Ne.symm hO51
  have hO54 := X5.out.1
  have HFN := hid (HG4.out.fro.2 bn rfl)
  have HFS := hid (HG4.out.fro.1 bs rfl)
  clear hC4 HG1 HC HW Z1 B1 R1 rs0 rs1 cs0
  obtain ⟨x0, x1, x2, x3, x4⟩ := id X5.out
  by_cases i0 : i = 0
  · subst i0
    have h0 := below_alloc w4 (.cells #[.int .i64 0] 3)
    have h1 := below_next h0 (below_alloc _ (.cells #[.slice (some ⟨w4.heap.size, 0, none⟩) 1 1] 30))
    have G6 := hid (HG4.out.next h1)
    have X6 := hid (boxp_next h1 X5.out)
    have Z6 := hid (boxp_next h1 Z4.out)
    have B6 := hid (BW4.out.next h1)
    have R6 := hid (R4.out.next h1)
    have C6 := hid (show ((w4.alloc (.cells #[.int .i64 0] 3)).alloc (.cells #[.slice (some ⟨w4.heap.size, 0, none⟩) 1 1] 30)).cell? ⟨w4.heap.size + 1, 0, none⟩ = some (.slice (some ⟨w4.heap.size, 0, none⟩) ([0] : List Int).length 1) from by
      have h := World.cell?_alloc_new (w4.alloc (.cells #[.int .i64 0] 3))
      simp)
    have HPX := HSO.out
    have HPY := HNO.out
    have RR := hid (show RN (pX (w.heap.size + 2) O5 none (.slice (some ⟨bs, 0, none⟩) m cS) (.slice (some ⟨bn, 0, none⟩) m dS)) ((w4.alloc (.cells #[.int .i64 0] 3)).alloc (.cells #[.slice (some ⟨w4.heap.size, 0, none⟩) 1 1] 30)) [0] (some ⟨w4.heap.size, 0, none⟩) 1 from
      (rn_new (p := fun b => b = w4.heap.size) w4 [0] 3 (fun n hn => by simp at hn; subst hn; unfold i64; omega) (by simp) rfl).frame (below_alloc _ _).size (fun b hp hl => ⟨by
        subst hp
        exact ⟨by omega, by omega, by simp, fun e => by simp [Value.ownBlock] at e; omega, fun e => by simp [Value.ownBlock] at e; omega⟩, (below_alloc _ _).block b hl⟩))
    clear HPX HPY
    have hsz6 : w4.heap.size ≤ ((w4.alloc (.cells #[.int .i64 0] 3)).alloc (.cells #[.slice (some ⟨w4.heap.size, 0, none⟩) 1 1] 30)).heap.size := h1.size
    clear h0 h1 HC4 HG4
    go_wp2_with (at_builtin; refine wp_own_ro rfl _ _ rfl (w.heap.size + 2) O5 none (.slice (some ⟨bs, 0, none⟩) m cS) (.slice (some ⟨bn, 0, none⟩) m dS) sts nx [0] (w4.heap.size + 1) 1 (some ⟨w4.heap.size, 0, none⟩) 1 rfl rfl G6.out C6.out RR.out (Nat.le_trans HO5n.out.2.2 (Nat.le_of_lt X6.out.1)) X6.out.1 (by simp) (by have := HLX.out; omega) ?_; intro v' w' i1 i2 i3; obtain ⟨bN, ln, dN, rfl⟩ := i1.shN; obtain ⟨⟨⟨y0, y1, y2, y3, y4⟩, ⟨z0, z1, z2, z3, z4⟩⟩, HH⟩ := mut_push G6.out X6.out Z6.out B6.out R6.out hB HO5n.out.2.2 i1 i2; clear i1 i2 i3)
    obtain ⟨XW, ZW, GW, BW, RW⟩ := HH
    clear X6 Z6 B6 R6 C6 RR G6 X5 Z4 R4 x0 x1 x2 x3 x4 y0 y1 y2 y3 y4 z0 z1 z2 z3 z4
    obtain ⟨y0, y1, y2, _⟩ := boxp_set1 (boxp_set0 ZW.out (.slice (some ⟨bs, 0, none⟩) m cS)) (.slice bN ln dN)
    refine bodyPost_ret (v := .agg #[.slice (some ⟨bs, 0, none⟩) m cS, .slice bN ln dN]) (by simp [results, Try.results30, go_sem, y1, y2]) rfl ?_
    exact FIN.out ⟨sts, nx ++ [[0]]⟩ _ _ _ _ GW.out (by have := HLS.out; simp; omega) BW.out RW.out (by omega)
  have e0 : (i == 0) = false := by simpa using i0
  by_cases i1 : i = 1
  · subst i1
    have fr := HFN.out k
    have Rdd := R4.out.next (below_d (Below.refl w4.heap.size w4))
    have K := hid ((KeepP.refl [O5, bn] w4).drew)
    have hkm2 : (k : Int) < (m : Int) := by omega
    go_wp2_with fail
    refine wp_region_ord (C := fun wZ => ∃ xZ, wZ = World.overP _ ([O5, bn]) xZ) [0,1,2,3,4,5,6,7,8] (.one 9 (.one 10 (.one 11 (.one 12 (.fre 13 (.fre 14 .done)))))) [13,14] (by kernel_rfl) (by kernel_rfl) (fun d _ _ _ _ h => by cases d <;> exact h) (KeepP.refl _ _).drew.ex ?_; simp only [pick, List.getElem?_cons_succ, List.getElem?_cons_zero]; (repeat (go_big_quiet_step (fail))); refine wpQuiet_nil ?_; simp only [ordW, pick, List.getElem?_cons_succ, List.getElem?_cons_zero]
    have h0 := below_next (below_d (Below.refl w4.heap.size w4)) (below_alloc w4.drew (.cells (([0, -1, 60, 9223372036854775807] : List Int).map (Value.int .i64)).toArray 3))
    go_wp2_with fail
    refine ⟨(K.out.trans (KeepP.below (below_alloc _ _))).ex, ?_⟩
    go_wp2_with fail
    refine (num_new [0, -1, 60, 9223372036854775807] (-1) 9223372036854775807 (by simp) (by decide) (by decide) B w4.drew _ R (p + 1 + 1) Rdd (by omega)).mono ?_
    rintro e w5 ⟨q, rfl, ⟨hn1q, hn2q⟩, hb, R5⟩
    have hqi : i64 q := by unfold i64; omega
    have hbA : But w4 R w5 := (But.of h0).trans hb
    have hRO : R ≠ O5 := by have := HO5n.out; omega
    have K5 := hid ((KeepP.below (S := [O5, bn]) h0).trans (KeepP.but hb (by simp; exact ⟨hRO, hbnR⟩)))
    go_wp2_with fail
    refine ⟨K5.out.ex, ?_⟩
    have h5 := below_alloc w5 (.cells #[.int .i64 q] 3)
    have hbB := hbA.next h5
    have K6 := hid (K5.out.trans (KeepP.below h5))
    have IQ := hid (row_one w5 q hqi)
    have SQ := hid (show w5.heap.size ≤ (w5.alloc (.cells #[.int .i64 q] 3)).heap.size from h5.size)
    have OW6 := hid ((OW4.out.keep fun g e _ hl => hbA.block g hl (by have := (HROW.out.2.2.2 g e); have := HNO.out; omega)).next h5)
    have X6 := hid (boxp_but hbB (Ne.symm hRO) X5.out)
    have Z6 := hid (boxp_but hbB (by omega) Z4.out)
    have C6 := hid (HC4.out.but hbB (show R < w.heap.size + 2 by omega))
    have R6 := hid (R5.next h5)
    have B6 := hid (BW4.out.trans hbB)
    have cn6 : (w5.alloc (.cells #[.int .i64 q] 3)).cell? ⟨bn, k, none⟩ = some (.slice a1 nx[k].length n1) := (hbB.cell (b := bn) (o := k) hbn (Ne.symm hbnR)).trans cn0
    have fr6 := hid ((C6.out.gown.fro.2 bn rfl) k)
    clear h0 h5 hb R5 hbA hbB K5 K x0 x1 x2 x3 x4 cn0 fr HG4 HC4 X5 Z4 R4 BW4 OW4 HFN HFS Rdd
    go_wp2_with fail
    refine ⟨K6.out.ex, ?_⟩
    obtain ⟨bq, hbq⟩ : ∃ bq, bq = w5.heap.size := ⟨_, rfl⟩
    rw [← hbq] at IQ SQ ⊢
    clear hbq
    generalize w5.alloc (.cells #[.int .i64 q] 3) = w6 at *
    have hN6 : N ≤ w6.heap.size := by have := HROW.out.2.2.1; have := (C6.out.gown.blk.2 bn rfl).2; omega
    go_wp2_with (at_builtin; refine wp_app_own2 rfl _ _ rfl N (.slice a1 nx[k].length n1) nx[k] [q] (some ⟨bq, 0, none⟩) 1 rfl rfl (fun h => by cases h) OW6.out hN6 IQ.out (Nat.le_trans HROW.out.2.1 (by omega)) (by simp) ?_; intro v' w' hv hg hor)
    obtain ⟨aQ, cQ, hQ, _⟩ := hv.shape
    have HI' := hid (show ∀ i, i ∈ nx[k] ++ [q] → i64 i from fun i hi => by
      rcases List.mem_append.1 hi with h | h
      · exact HROW.out.1 i h
      · simp at h; subst h; exact hqi)
    obtain ⟨tq, htq⟩ : ∃ tq, tq = nx[k] ++ [q] := ⟨_, rfl⟩
    rw [← htq] at hv hQ HI'
    subst hQ
    have hro : ∀ g, (Value.slice a1 nx[k].length n1).ownBlock = some g → g ≠ O5 ∧ g ≠ bn ∧ w.heap.size + 2 ≤ g := fun g e => by
      have h1 := HROW.out.2.2.2 g e
      have h2 := HO5.out
      have h3 := HNO.out
      have h4 := C6.out
      obtain ⟨_, _, _, _, _, _, _, h6, h7, _⟩ := h4
      exact ⟨by omega, h1.1, by omega⟩
    have GW := hid (C6.out.appRow hkn rfl cn6 hg hv HI'.out hor)
    have X7 := hid (boxp_keep hg.size (hg.block O5 X6.out.1 (fun e => (hro _ e.symm).1 rfl)) X6.out)
    have Z7 := hid (boxp_keep hg.size (hg.block (w.heap.size + 1) Z6.out.1 (fun e => by have := (hro _ e.symm).2.2; omega)) Z6.out)
    have c7 : w'.cell? ⟨bn, k, none⟩ = some (.slice a1 nx[k].length n1) := (World.cell?_of_block (w := w6) (a := ⟨bn, k, none⟩) (hg.block bn (C6.out.gown.blk.2 bn rfl).2 (fun e => (hro _ e.symm).2.1 rfl))).trans cn6
    have f7 : w'.frozen? ⟨bn, k, none⟩ = false := (World.frozen?_of_block (w := w6) (a := ⟨bn, k, none⟩) (hg.block bn (C6.out.gown.blk.2 bn rfl).2 (fun e => (hro _ e.symm).2.1 rfl))).trans fr6.out
    have K7 := hid (K6.out.trans (KeepP.grown hg (fun b hb e => by
      have := hro b e
      simp at hb
      omega)))
    have BW := hid (show But w R (w'.setCell ⟨bn, k, none⟩ (.slice aQ tq.length cQ)) from But.setNew ⟨hg.os.trans B6.out.os, hg.tape.trans B6.out.tape, hg.output.trans B6.out.output, Nat.le_trans B6.out.size hg.size, fun y hy hd => (hg.block y (Nat.lt_of_lt_of_le hy B6.out.size) (fun e => by have := (hro _ e.symm).2.2; omega)).trans (B6.out.block y hy hd)⟩ (show w.heap.size ≤ bn by have := HNO.out; omega) _)
    have RW := hid ((R6.out.grown hg (fun y e => by have := (hro _ e).2.2; omega)).set (a := ⟨bn, k, none⟩) (show B ≤ bn by have := HNO.out; omega) (.slice aQ tq.length cQ))
    have ZW := hid (boxp_set Z7.out (p := ⟨bn, k, none⟩) (show w.heap.size + 1 ≠ bn by have := HNO.out; omega) (.slice aQ tq.length cQ))
    have ho : O5 ≠ bn := HO5n.out.1
    have hoz : w.heap.size + 1 ≠ bn := by have := HNO.out; omega
    have hoz2 := Ne.symm hoz
    have ho2 := Ne.symm ho
    obtain ⟨x0, x1, x2, x3, x4⟩ := X7.out
    obtain ⟨z0, z1, z2, z3, z4⟩ := Z7.out
    clear hv hg hor htq X6 Z6 X7 Z7 C6 R6 B6 OW6 K6 IQ SQ cn6 fr6 hro HI' HROW
    generalize tq.length = lq at *
    go_wp2_with fail
    refine ⟨K7.out.ex, ?_⟩
    go_wp2_with fail
    obtain ⟨y0, y1, y2, _⟩ := boxp_set1 (boxp_set0 ZW.out (.slice (some ⟨bs, 0, none⟩) m cS)) (.slice (some ⟨bn, 0, none⟩) m dS)
    refine bodyPost_ret (v := .agg #[.slice (some ⟨bs, 0, none⟩) m cS, .slice (some ⟨bn, 0, none⟩) m dS]) (by simp [results, Try.results30, go_sem, y1, y2]) rfl ?_
    exact FIN.out ⟨sts, nx.set k tq⟩ _ _ _ _ GW.out (by have := HLS.out; simp; omega) BW.out RW.out (by omega)
  have e1 : (i == 1) = false := by simpa using i1
  by_cases i2 : i = 2
  · subst i2
    have h0 := below_alloc w4 (.cells #[] 3)
    have G6 := hid (HG4.out.next h0)
    have GW := hid (G6.out.setRow hkn rfl (t := []) (a := some ⟨w4.heap.size, 0, none⟩) (n := 0) ⟨Nat.le_refl _, by simp [maxLen], ⟨.inl rfl, fun n hn => by simp at hn⟩, fun e => (by cases e), by simp⟩)
    have ZW := hid (boxp_set (boxp_next h0 Z4.out) (p := ⟨bn, k, none⟩) (show w.heap.size + 1 ≠ bn by have := HNO.out; omega) (.slice (some ⟨w4.heap.size, 0, none⟩) 0 0))
    have BW := hid (show But w R ((w4.alloc (.cells #[] 3)).setCell ⟨bn, k, none⟩ (.slice (some ⟨w4.heap.size, 0, none⟩) 0 0)) from But.setNew (BW4.out.next h0) (show w.heap.size ≤ bn by have := HNO.out; omega) _)
    have RW := hid ((R4.out.next h0).set (a := ⟨bn, k, none⟩) (show B ≤ bn by have := HNO.out; omega) (.slice (some ⟨w4.heap.size, 0, none⟩) 0 0))
    have fr := HFN.out k
    have ho : O5 ≠ bn := HO5n.out.1
    have hoz : w.heap.size + 1 ≠ bn := by have := HNO.out; omega
    have hoz2 := Ne.symm hoz
    have ho2 := Ne.symm ho
    have hkm2 : (k : Int) < (m : Int) := by omega
    have XW := hid (boxp_set (boxp_next h0 X5.out) (p := ⟨bn, k, none⟩) (show O5 ≠ bn from HO5n.out.1) (.slice (some ⟨w4.heap.size, 0, none⟩) 0 0))
    have ec := World.setCell_alloc_past (w := w4) (.cells #[] 3) bn k (.slice (some ⟨w4.heap.size, 0, none⟩) 0 0) hbn
    simp only [List.length_nil] at GW
    rw [ec] at XW ZW GW BW RW
    clear h0 HC4 HG4 G6 HROW OW4 ec
    go_upto_region 14 with fail
    refine wp_gen (fun W => BoxP W O5 (.slice (some ⟨bs, 0, none⟩) m cS) (.slice (some ⟨bn, 0, none⟩) m dS) ∧ BoxP W (w.heap.size + 1) (.slice none 0 0) (.slice none 0 0) ∧ GrIn (fun b => w.heap.size + 2 ≤ b) W ⟨sts, nx.set k []⟩ (.agg #[.slice (some ⟨bs, 0, none⟩) m cS, .slice (some ⟨bn, 0, none⟩) m dS]) ∧ But w R W ∧ Rd B W R (p + 1 + 1)) ⟨XW.out, ZW.out, GW.out, BW.out, RW.out⟩ ?_
    clear XW ZW GW BW RW X5 Z4 R4 x0 x1 x2 x3 x4
    rintro W7 ⟨h1, h2, h3, h4, h5⟩
    have XW := hid h1
    have ZW := hid h2
    have GW := hid h3
    have BW := hid h4
    have RW := hid h5
    clear h1 h2 h3 h4 h5
    obtain ⟨x0, x1, x2, x3, x4⟩ := XW.out
    obtain ⟨z0, z1, z2, z3, z4⟩ := ZW.out
    go_wp2_with fail
    obtain ⟨y0, y1, y2, _⟩ := boxp_set1 (boxp_set0 ZW.out (.slice (some ⟨bs, 0, none⟩) m cS)) (.slice (some ⟨bn, 0, none⟩) m dS)
    refine bodyPost_ret (v := .agg #[.slice (some ⟨bs, 0, none⟩) m cS, .slice (some ⟨bn, 0, none⟩) m dS]) (by simp [results, Try.results30, go_sem, y1, y2]) rfl ?_
    exact FIN.out ⟨sts, nx.set k []⟩ _ _ _ _ GW.out (by have := HLS.out; simp; omega) BW.out RW.out (by omega)
  have e2 : (i == 2) = false := by simpa using i2
  by_cases i3 : i = 3
  · subst i3
    have fr := HFS.out (k * 2 + 1)
    have Rdd := R4.out.next (below_d (Below.refl w4.heap.size w4))
    have K := hid ((KeepP.refl [O5] w4).drew)
    have hkm2 : (k : Int) < (m : Int) := by omega
    go_wp2_with fail
    refine wp_region_ord (C := fun wZ => ∃ xZ, wZ = World.overP _ ([O5]) xZ) [0,1,2,3] (.one 4 (.one 5 (.one 6 (.fre 7 (.fre 8 (.fre 9 .done)))))) [7,8,9] (by kernel_rfl) (by kernel_rfl) (fun d _ _ _ _ h => by cases d <;> exact h) (KeepP.refl _ _).drew.ex ?_; simp only [pick, List.getElem?_cons_succ, List.getElem?_cons_zero]; (repeat (go_big_quiet_step (fail))); refine wpQuiet_nil ?_; simp only [ordW, pick, List.getElem?_cons_succ, List.getElem?_cons_zero]
    have h0 := below_next (below_d (Below.refl w4.heap.size w4)) (below_alloc w4.drew (.cells (([4, -1, 0] : List Int).map (Value.int .i64)).toArray 3))
    go_wp2_with fail
    refine ⟨(K.out.trans (KeepP.below (below_alloc _ _))).ex, ?_⟩
    go_wp2_with fail
    refine (num_new [4, -1, 0] (-1) 4 (by simp) (by decide) (by decide) B w4.drew _ R (p + 1 + 1) Rdd (by omega)).mono ?_
    rintro e w5 ⟨q, rfl, ⟨hn1q, hn2q⟩, hb, R5⟩
    have hqi : i64 q := by unfold i64; omega
    have hbA : But w4 R w5 := (But.of h0).trans hb
    have hRO : R ≠ O5 := by have := HO5n.out; omega
    have K5 := hid ((KeepP.below (S := [O5]) h0).trans (KeepP.but hb (by simp; exact hRO)))
    go_wp2_with fail
    refine ⟨K5.out.ex, ?_⟩
    have h5 := below_alloc w5 (.cells #[.int .i64 0, .int .i64 0, .int .i64 q] 3)
    have hbB := hbA.next h5
    have K6 := hid (K5.out.trans (KeepP.below h5))
    have G5 := HG4.out.keep hbA.size fun b hb1 _ _ hl => hbA.block b hl (by omega)
    have hs5 := hbA.size
    have HPX := HSO.out
    have HPY := HNO.out
    have RR := hid (rn_new (p := pX (w.heap.size + 2) O5 none (.slice (some ⟨bs, 0, none⟩) m cS) (.slice (some ⟨bn, 0, none⟩) m dS)) w5 [0, 0, q] 3 (fun n hn => by simp at hn; rcases hn with rfl | rfl; (unfold i64; omega); exact hqi) (by simp) ⟨by omega, by omega, by simp, fun e => by simp [Value.ownBlock] at e; omega, fun e => by simp [Value.ownBlock] at e; omega⟩)
    have GW := hid ((G5.next h5).setVals hks rfl RR.out)
    have Z6 := boxp_but hbB (by omega) Z4.out
    have ZW := hid (boxp_set Z6 (p := ⟨bs, k * 2 + 1, none⟩) (show w.heap.size + 1 ≠ bs by omega) (.slice (some ⟨w5.heap.size, 0, none⟩) 3 3))
    have BW := hid (show But w R ((w5.alloc (.cells #[.int .i64 0, .int .i64 0, .int .i64 q] 3)).setCell ⟨bs, k * 2 + 1, none⟩ (.slice (some ⟨w5.heap.size, 0, none⟩) 3 3)) from But.setNew (BW4.out.trans hbB) (show w.heap.size ≤ bs by omega) _)
    have RW := hid ((R5.next h5).set (a := ⟨bs, k * 2 + 1, none⟩) (show B ≤ bs by omega) (.slice (some ⟨w5.heap.size, 0, none⟩) 3 3))
    have X6 := hid (boxp_but hbB (Ne.symm hRO) X5.out)
    have hbsR : bs ≠ R := by omega
    have c6 : (w5.alloc (.cells #[.int .i64 0, .int .i64 0, .int .i64 q] 3)).cell? ⟨bs, k * 2 + 1, none⟩ = some (.slice a3 sts[k].vals.length n3) := (hbB.cell (b := bs) (o := k * 2 + 1) hbs hbsR).trans cs1
    have f6 : (w5.alloc (.cells #[.int .i64 0, .int .i64 0, .int .i64 q] 3)).frozen? ⟨bs, k * 2 + 1, none⟩ = false := (G5.next h5).fro.1 bs rfl _
    have ho : O5 ≠ bs := HO5n.out.2.1
    have hoz : w.heap.size + 1 ≠ bs := by omega
    have hoz2 := Ne.symm hoz
    have ho2 := Ne.symm ho
    clear h0 h5 hb R5 hbA hbB K5 K x0 x1 x2 x3 x4 cs1 cn0 fr HG4 HC4 X5 Z4 R4 BW4 OW4 HFN HFS Rdd G5 HROW HPX HPY
    obtain ⟨x0, x1, x2, x3, x4⟩ := X6.out
    obtain ⟨z0, z1, z2, z3, z4⟩ := Z6
    go_wp2_with fail
    refine ⟨K6.out.ex, ?_⟩
    go_wp2_with fail
    obtain ⟨y0, y1, y2, _⟩ := boxp_set1 (boxp_set0 ZW.out (.slice (some ⟨bs, 0, none⟩) m cS)) (.slice (some ⟨bn, 0, none⟩) m dS)
    refine bodyPost_ret (v := .agg #[.slice (some ⟨bs, 0, none⟩) m cS, .slice (some ⟨bn, 0, none⟩) m dS]) (by simp [results, Try.results30, go_sem, y1, y2]) rfl ?_
    exact FIN.out ⟨sts.set k ⟨sts[k].locs, [0, 0, q]⟩, nx⟩ _ _ _ _ GW.out (by have := HLS.out; simp; omega) BW.out RW.out (by omega)
  have e3 : (i == 3) = false := by simpa using i3
  by_cases i4 : i = 4
  · subst i4
    have XW := hid X5.out
    have ZW := hid Z4.out
    have GW := hid ((GOwn.nil (w.heap.size + 2) O5 none w4).grIn)
    have BW := hid BW4.out
    have RW := hid R4.out
    clear HC4 HG4
    obtain ⟨x0, x1, x2, x3, x4⟩ := XW.out
    obtain ⟨z0, z1, z2, z3, z4⟩ := ZW.out
    go_wp2_with fail
    obtain ⟨y0, y1, y2, _⟩ := boxp_set1 (boxp_set0 ZW.out (.slice none 0 0)) (.slice none 0 0)
    refine bodyPost_ret (v := .agg #[.slice none 0 0, .slice none 0 0]) (by simp [results, Try.results30, go_sem, y1, y2]) rfl ?_
    exact FIN.out ⟨[], []⟩ _ _ _ _ GW.out (by simp) BW.out RW.out (by omega)
  have e4 : (i == 4) = false := by simpa using i4
  have XW := hid X5.out
  have ZW := hid Z4.out
  have GW := hid HG4.out.grIn
  have BW := hid BW4.out
  have RW := hid R4.out
  clear HC4 HG4
  obtain ⟨x0, x1, x2, x3, x4⟩ := XW.out
  obtain ⟨z0, z1, z2, z3, z4⟩ := ZW.out
  go_wp2_with fail
  obtain ⟨y0, y1, y2, _⟩ := boxp_set1 (boxp_set0 ZW.out (.slice (some ⟨bs, 0, none⟩) m cS)) (.slice (some ⟨bn, 0, none⟩) m dS)
  refine bodyPost_ret (v := .agg #[.slice (some ⟨bs, 0, none⟩) m cS, .slice (some ⟨bn, 0, none⟩) m dS]) (by simp [results, Try.results30, go_sem, y1, y2]) rfl ?_
  exact FIN.out ⟨sts, nx⟩ _ _ _ _ GW.out (by have := HLS.out; simp; omega) BW.out RW.out (by omega)
end Gr
end Go.Proofs.Ytfemikebklmlpaa
namespace Go.Proofs.Ytfemikebklmlpaa
open Go.RowKit

theorem newTr_set3 {B P : Nat} {t : Tr} {v : Value} {w : World} (h : NewTr B t v w) (hP : P < B) (u0 u1 u2 : Value) : NewTr B t v (((w.setCell ⟨P, 0, none⟩ u0).setCell ⟨P, 1, none⟩ u1).setCell ⟨P, 2, none⟩ u2) := by
  obtain ⟨bs, h1, h2⟩ := h
  have hn : P ∉ bs := fun e => by have := h2 _ e; omega
  exact ⟨bs, TrOwn_set (TrOwn_set (TrOwn_set h1 hn _) hn _) hn _, h2⟩
theorem below_set3 {B P : Nat} {w W : World} (h : Below B w W) (hP : B ≤ P) (u0 u1 u2 : Value) : Below B w (((W.setCell ⟨P, 0, none⟩ u0).setCell ⟨P, 1, none⟩ u1).setCell ⟨P, 2, none⟩ u2) := ((h.setCell hP _).setCell hP _).setCell hP _
theorem row_three (w : World) (x y z : Value) (t : TypeId) : Row (w.alloc (.cells #[x, y, z] t)) w.heap.size 3 (fun i => #[x, y, z].getD i undef) :=
  ⟨by simp, fun i hi => by
    rw [World.cell?_alloc_new]
    match i, hi with
    | 0, _ => rfl
    | 1, _ => rfl
    | 2, _ => rfl, fun i => by simp⟩
theorem row_six (w : World) (x y z x' y' z' : Value) (t : TypeId) : Row (w.alloc (.cells #[x, y, z, x', y', z'] t)) w.heap.size 6 (fun i => #[x, y, z, x', y', z'].getD i undef) :=
  ⟨by simp, fun i hi => by
    rw [World.cell?_alloc_new]
    match i, hi with
    | 0, _ => rfl
    | 1, _ => rfl
    | 2, _ => rfl
    | 3, _ => rfl
    | 4, _ => rfl
    | 5, _ => rfl, fun i => by simp⟩
theorem TrIn_shapeMk {p : Nat → Prop} {w : World} {k v : Int} {kids : List Tr} {x : Value} (h : TrIn p w (.mk k v kids) x) : ∃ a c, x = .agg #[.int .i64 k, .int .i64 v, .slice a kids.length c] := TrIn_shape h
theorem box3_only {S : List Nat} {w w' : World} (h : Only S w w') {B : Nat} {a b c : Value} (hd : B ∉ S) (hb : Box3 w B a b c) : Box3 w' B a b c := by
  have e := h.block B hb.1 hd
  refine ⟨Nat.lt_of_lt_of_le hb.1 h.size, ?_, ?_, ?_, ?_, ?_, ?_⟩
  · rw [World.cell?_of_block (w := w) (a := ⟨B, 0, none⟩) e]; exact hb.2.1
  · rw [World.cell?_of_block (w := w) (a := ⟨B, 1, none⟩) e]; exact hb.2.2.1
  · rw [World.cell?_of_block (w := w) (a := ⟨B, 2, none⟩) e]; exact hb.2.2.2.1
  · rw [World.frozen?_of_block (w := w) (a := ⟨B, 0, none⟩) e]; exact hb.2.2.2.2.1
  · rw [World.frozen?_of_block (w := w) (a := ⟨B, 1, none⟩) e]; exact hb.2.2.2.2.2.1
  · rw [World.frozen?_of_block (w := w) (a := ⟨B, 2, none⟩) e]; exact hb.2.2.2.2.2.2
theorem newTr_over {B : Nat} {t : Tr} {v : Value} {w w' : World} (h : NewTr B t v w) (hb : Below w.heap.size w w') : NewTr B t v w' := h.below hb

end Go.Proofs.Ytfemikebklmlpaa
namespace Go.Proofs.Ytfemikebklmlpaa
open Go.RowKit
namespace Expr

theorem rowInfo : (Try.prog.info? 123).map (fun i => (i.zero, i.size, i.bytes)) = some (some (.agg #[.int .i64 0, .int .i64 0, .slice none 0 0]), 3, 40) := by kernel_rfl

mutual
theorem sub_none (x : Int) (r : Tr) : ∀ t, occT x t = false → subT x r t = t
  | .mk k v kids, h => by
    simp only [occT, Bool.or_eq_false_iff, Bool.and_eq_false_iff, beq_eq_false_iff_ne] at h
    rw [subT, if_neg (by rintro ⟨h1, h2⟩; rcases h.1 with h3 | h3 <;> contradiction), subL_none x r kids h.2]
theorem subL_none (x : Int) (r : Tr) : ∀ l, occL x l = false → subL x r l = l
  | [], _ => by simp [subL]
  | t :: ts, h => by
    simp only [occL, Bool.or_eq_false_iff] at h
    simp only [subL]
    rw [sub_none x r t h.1, subL_none x r ts h.2]
end
theorem occL_mem {x : Int} {t : Tr} : ∀ {l : List Tr}, occL x l = false → t ∈ l → occT x t = false
  | u :: us, h, hm => by
    simp only [occL, Bool.or_eq_false_iff] at h
    cases hm with
    | head => exact h.1
    | tail _ hm => exact occL_mem h.2 hm
mutual
theorem noneg : ∀ (t : Tr) (d : Int), exprL.shape t d = true → occT (-1) t = false
  | .mk k v kids, d, h => by
    simp only [Lang.shape, Bool.and_eq_true, decide_eq_true_eq, Lang.okB_iff] at h
    simp only [occT, Bool.or_eq_false_iff, Bool.and_eq_false_iff, beq_eq_false_iff_ne]
    exact ⟨.inr (by omega), nonegL kids (d - 1) h.2.2⟩
theorem nonegL : ∀ (l : List Tr) (d : Int), exprL.shapeL l d = true → occL (-1) l = false
  | [], _, _ => by simp [occL]
  | t :: ts, d, h => by
    simp only [Lang.shapeL, Bool.and_eq_true] at h
    simp only [occL, Bool.or_eq_false_iff]
    exact ⟨noneg t d h.1, nonegL ts d h.2⟩
end
theorem noneg_valid {t : Tr} (h : exprL.valid t = true) : occT (-1) t = false := noneg t 6 (by rw [Lang.valid, Bool.and_eq_true] at h; exact h.1)

end Expr
end Go.Proofs.Ytfemikebklmlpaa
namespace Go.Proofs.Ytfemikebklmlpaa
open Go.RowKit

/-- what a drawing call comes to: a new tree of at most M nodes; at most K picks -/
def DrawPost (B K : Nat) (M : Int) (R p : Nat) (w : World) (e : Ending) (w' : World) : Prop :=
  ∃ v t p', e = .returned v ∧ NewTr w.heap.size t v w' ∧ nodes t ≤ M ∧ But w R w' ∧ Rd B w' R p' ∧ p' ≤ p + K

theorem DrawPost.ret {B K : Nat} {M : Int} {R p p' N : Nat} {w W : World} {t : Tr} {x : Value} (hn : NewTr N t x W) (hN : w.heap.size < N) (hM : nodes t ≤ M) (hb : But w R W) (hr : Rd B W R p') (hp : p' ≤ p + K) (hB : B ≤ w.heap.size) (u0 u1 u2 : Value) :
    DrawPost B K M R p w (.returned x) (((W.setCell ⟨w.heap.size, 0, none⟩ u0).setCell ⟨w.heap.size, 1, none⟩ u1).setCell ⟨w.heap.size, 2, none⟩ u2) :=
  ⟨x, t, p', rfl, (hn.keep (((Keep.set _ hN _).trans (Keep.set _ hN _)).trans (Keep.set _ hN _))).mono (Nat.le_of_lt hN), hM, But.setNew (But.setNew (But.setNew hb (Nat.le_refl _) _) (Nat.le_refl _) _) (Nat.le_refl _) _,
    ((hr.set hB _).set hB _).set hB _, hp⟩

theorem nodesL_snoc : ∀ (l : List Tr) (t : Tr), nodesL (l ++ [t]) = nodesL l + nodes t
  | [], t => by simp [nodesL]
  | u :: us, t => by rw [List.cons_append]; simp only [nodesL]; rw [nodesL_snoc us t]; omega

theorem DrawPost.at {B K : Nat} {M : Int} {R p p' N b : Nat} {w W : World} {t : Tr} {x : Value} (hn : NewTr N t x W) (hN : b < N) (hbw : w.heap.size ≤ b) (hM : nodes t ≤ M) (hb : But w R W) (hr : Rd B W R p') (hp : p' ≤ p + K) (hB : B ≤ w.heap.size) (u0 u1 u2 : Value) :
    DrawPost B K M R p w (.returned x) (((W.setCell ⟨b, 0, none⟩ u0).setCell ⟨b, 1, none⟩ u1).setCell ⟨b, 2, none⟩ u2) :=
  ⟨x, t, p', rfl, (hn.keep (((Keep.set _ hN _).trans (Keep.set _ hN _)).trans (Keep.set _ hN _))).mono (by omega), hM, But.setNew (But.setNew (But.setNew hb hbw _) hbw _) hbw _,
    ((hr.set (Nat.le_trans hB hbw) _).set (Nat.le_trans hB hbw) _).set (Nat.le_trans hB hbw) _, hp⟩
theorem nodes_kids (t : Tr) : nodes t = 1 + nodesL t.kids := by cases t; rfl
mutual
theorem small_nodes : ∀ t : Tr, nodes t ≤ 1048576 → Small t
  | .mk _ _ kids, h => by
    simp only [nodes] at h
    have hl := len_nodes kids
    exact ⟨by omega, smallL_nodes kids (by omega)⟩
theorem smallL_nodes : ∀ l : List Tr, nodesL l ≤ 1048576 → SmallL l
  | [], _ => trivial
  | t :: ts, h => by
    simp only [nodesL] at h
    have h1 := nodesL_pos ts
    have h2 := nodes_pos t
    exact ⟨small_nodes t (by omega), smallL_nodes ts (by omega)⟩
theorem len_nodes : ∀ l : List Tr, (l.length : Int) ≤ nodesL l
  | [] => by simp [nodesL]
  | t :: ts => by
    simp only [nodesL, List.length_cons]
    have h1 := len_nodes ts
    have h2 := nodes_pos t
    omega
end

end Go.Proofs.Ytfemikebklmlpaa
