/- The reference's l2System: some system. Conditions: those of each contract. -/
import Derived.Test.YtffadknollkgiaaSysSt
namespace Go.Proofs.Ytffadknollkgiaa
open Go.RowKit
set_option linter.unusedVariables false
set_option linter.unusedSimpArgs false

theorem ed_cells_one (x : Ed) (a : Option Addr) (c : Nat) (a' : Option Addr) (c' : Nat) : ∀ u, u ∈ x.cells a c a' c' → u.oneCell' = true := by
  intro u hu
  simp only [Ed.cells, List.mem_cons, List.not_mem_nil, or_false] at hu
  rcases hu with rfl | rfl | rfl | rfl | rfl | rfl | rfl | rfl | rfl | rfl <;> rfl
theorem cells_new (w : World) (cs : List Value) (e : TypeId) (j : Nat) (u : Value) (h : cs[j]? = some u) : (w.alloc (.cells cs.toArray e)).cell? ⟨w.heap.size, j, none⟩ = some u := by
  rw [World.cell?_alloc_new]; simpa using h
/-- an edge just drawn, as ten cells -/
theorem edc_new {W W' : World} {V : Nat} {M : Int} {x : Ed} {a a' : Option Addr} {c c' : Nat} {ve : Value} (h : EdIn (fun b => W.heap.size ≤ b) W' x (.agg (x.cells a c a' c').toArray)) (h1 : nodes x.guard ≤ M) (h2 : nodes x.val ≤ M) (hV : V < W.heap.size) (hv : ∀ g, ve.ownBlock = some g → g < W.heap.size) :
    EdC (fun b => V < b ∧ ve.ownBlock ≠ some b) W' M x (x.cells a c a' c') :=
  ⟨a, c, a', c', rfl, h.frame fun b hb hl => ⟨⟨by have := hb; omega, fun e => by have := hv b e; have := hb; omega⟩, rfl⟩, h1, h2⟩

open Go.Proofs.Ytffadknollkgiaa.Expr in
set_option maxRecDepth 100000 in
set_option maxHeartbeats 4000000 in
theorem drawSys_any (w : World) (R B p : Nat) (hr : Rd B w R p) (hp : p + 1000 ≤ 1000000) : Calls Try.prog 47 #[.pointer (some ⟨R, 0, none⟩)] w (SyPost B 1000 31 5 R p w) := by
  have hB := hr.lt
  go_enter Try.func47, Try.ntmps47
  go_wp2_with fail
  refine (pick_any B _ _ R p (hr.next (below_alloc _ _)) (by omega) (by omega) (by omega)).mono ?_
  rintro e w1 ⟨i1, rfl, ⟨i10, i11, _⟩, hb1, hr1⟩
  have hi1 : i64 i1 := by unfold i64; omega
  have c4 := boxp_but hb1 (by omega) (boxp_at (w := w) (a := .slice none 0 0) (b := .slice none 0 0) (t := 36) rfl)
  have B1 : But w R w1 := (But.of (below_alloc w _)).trans hb1
  clear hb1
  go_wp2_with fail
  refine (num_new [0, 0, 1, 3] 0 3 (by simp) (by decide) (by decide) B w1 _ R (p + 1) hr1 (by omega)).mono ?_
  rintro e w2 ⟨i2, rfl, ⟨i20, i21⟩, hb2, hr2⟩
  have hi2 : i64 i2 := by unfold i64; omega
  replace c4 := boxp_but hb2 (by omega) (boxp_next (below_alloc _ _) c4)
  have B2 := (B1.next (below_alloc _ _)).trans hb2
  have s2 := c4.1
  clear hb2 B1 hr1
  have HI : IntsIn (fun b => w.heap.size < b ∧ b < w2.heap.size + 1) (w2.alloc (.cells #[.int .i64 i1, .int .i64 i2, .int .i64 0] 3)) (some ⟨w2.heap.size, 0, none⟩) [i1, i2, 0] :=
    ⟨.inr ⟨w2.heap.size, 0, rfl, ⟨s2, Nat.lt_succ_self _⟩, by simp, fun i v hi => by
      rw [Nat.zero_add, World.cell?_alloc_new]; simpa using hi⟩, fun n hn => by
      simp at hn
      rcases hn with rfl | rfl | rfl
      · exact hi1
      · exact hi2
      · unfold i64; omega⟩
  have HS := hid (show SySt w R (w2.heap.size + 1) 31 5 (.slice none 0 0) [] ((w2.alloc (.cells #[.int .i64 i1, .int .i64 i2, .int .i64 0] 3)).alloc (.cells #[.slice (some ⟨w2.heap.size, 0, none⟩) 3 3, .slice none 0 0] 36)) from
    ⟨[i1, i2, 0], some ⟨w2.heap.size, 0, none⟩, 3, rfl, Nat.le_refl _, by decide, boxp_at (by simp), HI.below (below_alloc _ _), PrsSt.nil _ _ _ _, (B2.next (below_alloc _ _)).next (below_alloc _ _), boxp_next (below_alloc _ _) (boxp_next (below_alloc _ _) c4), by omega⟩)
  have HR := hid ((hr2.next (below_alloc w2 (.cells #[.int .i64 i1, .int .i64 i2, .int .i64 0] 3))).next (below_alloc _ (.cells #[.slice (some ⟨w2.heap.size, 0, none⟩) 3 3, .slice none 0 0] 36)))
  clear HI c4 B2 hr2
  go_upto_region 2 with fail
  obtain ⟨S, hS⟩ : ∃ S, S = w2.heap.size + 1 := ⟨_, rfl⟩
  rw [← hS] at HS
  rw [← hS]
  refine wp_gen (fun W => SySt w R S 31 5 (.slice none 0 0) [] W ∧ Rd B W R (p + 2)) ⟨HS.out, HR.out⟩ ?_
  rintro W0 ⟨h1, h2⟩
  replace HS := hid h1
  replace HR := hid h2
  have sS : R < S := by omega
  have sS2 : B ≤ S := by omega
  clear h1 h2 hS s2 hi1 hi2 i10 i11 i20 i21
  go_wp2_with fail
  refine (num_new [2, 1, 2, 3] 1 3 (by simp) (by decide) (by decide) B W0 _ R (p + 2) HR.out (by omega)).mono ?_
  rintro e w5 ⟨k0, rfl, ⟨k1, k2⟩, hb5, hr5⟩
  have HS5 := hid ((HS.out.next (below_alloc _ _)).but hb5 (by omega))
  have HR5 := hid hr5
  obtain ⟨kn, rfl⟩ := Int.eq_ofNat_of_zero_le (by omega : 0 ≤ k0)
  clear hb5 HS HR hr5
  go_wp2_with fail
  go_loopw [4] (fun i wr => ∃ (k q : Nat) (vp : Value) (prs : List Pr), i = .int .i64 k ∧ Hid (prs.length + k ≤ 3 ∧ q ≤ p + 3 + 310 * prs.length) ∧ Hid (SySt w R S 31 5 vp prs wr) ∧ Hid (Rd B wr R q)) (fun i _ => (intOf i).toNat)
  case atStart => exact ⟨kn, p + 3, _, [], rfl, hid ⟨by simp; omega, by simp⟩, HS5, HR5⟩
  case round =>
    obtain ⟨k, q, vp, prs, rfl, HA, HS, HR⟩ := hrel
    have hA := HA.out
    have q9 : 0 < k → q + 320 ≤ 1000000 := fun h => by omega
    clear hA HS5 HR5
    obtain ⟨wo, hwo⟩ : ∃ wo : World, wo = wr := ⟨_, rfl⟩
    by_cases hlt : 0 < k
    · have hlt2 : (0 : Int) < (k : Int) := by omega
      replace q9 := q9 hlt
      have hk3 : k ≤ 3 := by have := HA.out; omega
      obtain ⟨k', rfl⟩ : ∃ k', k = k' + 1 := ⟨k - 1, by omega⟩
      go_wp2_with fail
      refine (num_new [2, 3, 1, 2] 1 3 (by simp) (by decide) (by decide) B wr _ R q HR.out (by omega)).mono ?_
      rintro e w6 ⟨lc, rfl, ⟨lc1, lc2⟩, hb6, hr6⟩
      have HS6 := hid ((HS.out.next (below_alloc _ _)).but hb6 (by omega))
      have hB6 := hr6.lt
      clear hb6 HS HR
      go_upto_region 6 with fail
      obtain ⟨V, hV⟩ : ∃ V, V = w6.heap.size := ⟨_, rfl⟩
      rw [← hV]
      refine wp_gen (fun W => But w6 R W ∧ Rd B W R (q + 1) ∧ BoxP W V (.int .i64 lc) (.slice none 0 0)) ⟨But.of (below_alloc _ _), hr6.next (below_alloc _ _), boxp_at hV⟩ ?_
      rintro W7 ⟨h1, h2, h3⟩
      have HB7 := hid h1
      have HR7 := hid h2
      have HX7 := hid h3
      have hRV : R < V := by omega
      have hVs : w6.heap.size ≤ V := by omega
      have hSV : S < V := by obtain ⟨_, _, _, _, _, _, hX, _⟩ := HS6.out; have := hX.1; omega
      clear h1 h2 h3 hr6 hV
      go_wp2_with fail
      refine (num_new [3, 4, 2, 5, 1] 1 5 (by simp) (by decide) (by decide) B W7 _ R (q + 1) HR7.out (by omega)).mono ?_
      rintro e w8 ⟨m0, rfl, ⟨m1, m2⟩, hb8, hr8⟩
      have HB8 := hid ((HB7.out.next (below_alloc _ _)).trans hb8)
      have HX8 := hid (boxp_but hb8 (by omega) (boxp_next (below_alloc _ _) HX7.out))
      have HR8 := hid hr8
      obtain ⟨mn, rfl⟩ := Int.eq_ofNat_of_zero_le (by omega : 0 ≤ m0)
      clear hb8 hr8 HB7 HR7 HX7
      go_wp2_with fail
      go_loopw [6] (fun i wi => ∃ (m q2 : Nat) (ve : Value) (eds : List Ed), i = .int .i64 m ∧ Hid (eds.length + m ≤ 5 ∧ q2 ≤ q + 2 + 60 * eds.length) ∧ Hid (BoxP wi V (.int .i64 lc) ve) ∧ Hid (EdsSt V 31 ve eds wi) ∧ Hid (But w6 R wi) ∧ Hid (Rd B wi R q2)) (fun i _ => (intOf i).toNat)
      case atStart => exact ⟨mn, q + 2, _, [], rfl, hid ⟨by simp; omega, by simp⟩, HX8, hid (EdsSt.nil _ _ _), HB8, HR8⟩
      case round =>
        obtain ⟨m, q2, ve, eds, rfl, HA2, HX, HE, HB, HR⟩ := hrel
        have hA2 := HA2.out
        have q29 : 0 < m → q2 + 61 ≤ 1000000 := fun h => by omega
        have el : eds.length ≤ 5 := by omega
        clear hA2 HX8 HB8 HR8
        by_cases hlt3 : 0 < m
        · have hlt4 : (0 : Int) < (m : Int) := by omega
          replace q29 := q29 hlt3
          have hm3 : m ≤ 5 := by have := HA2.out; omega
          obtain ⟨m', rfl⟩ : ∃ m', m = m' + 1 := ⟨m - 1, by omega⟩
          obtain ⟨va, vc, rfl, e1, e2, _⟩ := HE.out.shape
          obtain ⟨el2, hel2⟩ : ∃ n, Hid (n = eds.length) := ⟨_, hid rfl⟩
          obtain ⟨x0, x1, x2, x3, x4⟩ := id HX.out
          go_wp2_with fail
          refine wp_region_ord (C := fun wZ => ∃ xZ, wZ = World.overP _ ([V]) xZ) [0,1,2,3,4] (.one 5 (.one 6 (.one 7 (.one 8 (.fre 9 .done))))) [9] (by kernel_rfl) (by kernel_rfl) (fun d _ _ _ _ h => by cases d <;> exact h) (KeepP.refl _ _).drew.ex ?_; simp only [pick, List.getElem?_cons_succ, List.getElem?_cons_zero]; (repeat (go_big_quiet_step (fail))); refine wpQuiet_nil ?_; simp only [ordW, pick, List.getElem?_cons_succ, List.getElem?_cons_zero]
          have h0 := below_d (Below.refl wr.heap.size wr)
          have K := hid (KeepP.below (S := [V]) h0)
          go_wp2_with fail
          refine (drawEdge_any wr.drew R B q2 lc (HR.out.next h0) (by omega) ⟨by omega, by omega⟩).mono ?_
          rintro e w9 ⟨v, x, p9, rfl, hx, hx1, hx2, hb9, hr9, hp9⟩
          have K9 := hid (K.out.trans (KeepP.but hb9 (by simp; omega)))
          have HX9 := hid (boxp_but hb9 (by omega) (boxp_next h0 HX.out))
          have HE9 := hid ((HE.out.next h0).but hb9 (by omega))
          have HB9 := hid ((HB.out.next h0).trans hb9)
          have sz9 : V < wr.drew.heap.size := by have := HX.out.1; simpa using this
          obtain ⟨a1, c1, a2, c2, rfl, _⟩ := id hx
          have hEC := edc_new (ve := .slice va eds.length vc) (M := 31) hx (by omega) hx2 sz9 (fun g hg => by simpa using (HE.out.blk g hg).2)
          clear hx hb9 h0 HX HE HB HR x0 x1 x2 x3 x4
          have HEC := hid (hEC.frame (w' := w9.alloc (.cells (x.cells a1 c1 a2 c2).toArray 27)) fun b hb hl => ⟨hb, (below_alloc w9 _).block b hl⟩)
          obtain ⟨ces, hO, hAll⟩ := HE9.out.next (below_alloc w9 (.cells (x.cells a1 c1 a2 c2).toArray 27))
          have HAll := hid hAll
          have HBA := hid (HB9.out.next (below_alloc w9 (.cells (x.cells a1 c1 a2 c2).toArray 27)))
          have HXA := hid (boxp_next (below_alloc w9 (.cells (x.cells a1 c1 a2 c2).toArray 27)) HX9.out)
          have HRA := hid (hr9.next (below_alloc w9 (.cells (x.cells a1 c1 a2 c2).toArray 27)))
          have KA := hid (K9.out.trans (KeepP.below (below_alloc w9 (.cells (x.cells a1 c1 a2 c2).toArray 27))))
          have HEB := hid (HE9.out.next (below_alloc w9 (.cells (x.cells a1 c1 a2 c2).toArray 27))).blk
          have hcl := hAll.len
          clear hEC hAll HE9 HB9 HX9 hr9 K
          go_wp2_with fail
          refine ⟨K9.out.ex, ?_⟩
          go_wp2_with fail
          refine ⟨KA.out.ex, ?_⟩
          clear K9
          go_wp2_with (at_builtin; refine wp_app_edge rfl _ _ rfl (V + 1) (.slice va eds.length vc) ces (x.cells a1 c1 a2 c2) w9.heap.size 1 rfl rfl hO (Nat.succ_le_of_lt HXA.out.1) (cells_new _ _ _) rfl (ed_cells_one _ _ _ _ _) (by omega) ?_; intro v' wB hv' hg hbk)
          have HEn := hid (EdsSt.app (ve := .slice va eds.length vc) HAll.out HEC.out hv' hg hbk)
          have hne : ∀ g, (Value.slice va eds.length vc).ownBlock = some g → g ≠ V := fun g h => by have := HEB.out g h; omega
          have HXB := hid (boxp_keep hg.size (hg.block V HXA.out.1 (fun e => hne V e.symm rfl)) HXA.out)
          have HBB := hid (show But w6 R wB from ⟨hg.os.trans HBA.out.os, hg.tape.trans HBA.out.tape, hg.output.trans HBA.out.output, Nat.le_trans HBA.out.size hg.size, fun k hk hd => (hg.block k (Nat.lt_of_lt_of_le hk HBA.out.size) (fun e => by have := (HEB.out k e.symm).1; omega)).trans (HBA.out.block k hk hd)⟩)
          have HRB := hid (HRA.out.grown hg (fun k hk => by have := (HEB.out k hk).1; omega))
          have KB := hid (KA.out.trans (KeepP.grown hg (fun b hb => by simp at hb; subst hb; exact fun e => hne _ e rfl)))
          obtain ⟨a', c', hve, _⟩ := HEn.out.shape
          rw [List.length_append, List.length_singleton] at hve
          subst hve
          have hA2 := HA2.out
          have hA3 := hid (show (eds ++ [x]).length + m' ≤ 5 ∧ p9 ≤ q + 2 + 60 * (eds ++ [x]).length by rw [List.length_append, List.length_singleton]; omega)
          clear hA2 HEB HAll HEC hv' hg hbk hne KA HRA HXA HBA hO hcl
          obtain ⟨x0, x1, x2, x3, x4⟩ := id HXB.out
          go_wp2_with fail
          refine ⟨KB.out.ex, ?_⟩
          go_wp2_with fail
          refine ⟨KB.out.ex, ?_⟩
          go_wp2_with fail
          go_roundw
          case rel => exact ⟨m', p9, _, eds ++ [x], by go_num, hA3, hid (boxp_set1 HXB.out _), hid (HEn.out.set (Nat.le_refl _) _), hid (But.setNew HBB.out (by simp; omega) _), hid (HRB.out.set (by simp; omega) _)⟩
          case measure => simp [intOf, wrap64]
        · obtain rfl : m = 0 := by omega
          clear hlt3
          have HSn := hid (HS6.out.but HB.out (by omega))
          obtain ⟨va, vc, rfl, e1, e2, e3, e4⟩ := HE.out.shape
          obtain ⟨l, ai, ci, l1, l2, l3, hXS, _, hP, _⟩ := HSn.out
          have hP6 : ∀ g, vp.ownBlock = some g → g < w6.heap.size := by obtain ⟨_, _, _, _, _, _, _, _, hP6, _⟩ := HS6.out; exact fun g h => (hP6.blk g h).2
          have hPb := hP.blk
          have hPC : PrC (fun b => S < b ∧ vp.ownBlock ≠ some b) wr ⟨lc, eds⟩ [.int .i64 lc, .slice va eds.length vc] :=
            ⟨va, vc, rfl, ⟨va, vc, rfl, (by show i64 lc; unfold i64; omega), e1, e2, e3.frame (Nat.le_refl _) fun b hb hl => ⟨⟨by have := hb; omega, fun e => by have := hP6 b e; have := hb; omega⟩, rfl⟩⟩, e4⟩
          have HPC := hid (hPC.frame (w' := wr.alloc (.cells #[.int .i64 lc, .slice va eds.length vc] 41)) (by simp) fun b hb hl => ⟨hb, (below_alloc wr _).block b hl⟩)
          obtain ⟨⟨cps, hO, hAll⟩, _⟩ := hP.next (below_alloc wr (.cells #[.int .i64 lc, .slice va eds.length vc] 41))
          have HAll := hid hAll
          have hcl := hAll.len
          have hbd := hid HE.out.bnd
          have HSA := hid (HSn.out.next (below_alloc wr (.cells #[.int .i64 lc, .slice va eds.length vc] 41)))
          have HRA := hid (HR.out.next (below_alloc wr (.cells #[.int .i64 lc, .slice va eds.length vc] 41)))
          have hXA := boxp_next (below_alloc wr (.cells #[.int .i64 lc, .slice va eds.length vc] 41)) hXS
          obtain ⟨pa, pc, rfl, _⟩ := hP.shape
          have hA := HA.out
          have hA2 := HA2.out
          have HAn := hid (show (prs ++ [(⟨lc, eds⟩ : Pr)]).length + k' ≤ 3 ∧ q2 ≤ p + 3 + 310 * (prs ++ [(⟨lc, eds⟩ : Pr)]).length by rw [List.length_append, List.length_singleton]; omega)
          have hpl : prs.length ≤ 100 := by omega
          clear hPC hAll HSn HR HE HB e1 e2 e3 e4 hA hA2 hP l1 l2 l3
          obtain ⟨y0, y1, y2, y3, y4⟩ := id HX.out
          obtain ⟨x0, x1, x2, x3, x4⟩ := id hXS
          clear HX
          go_wp2_with (at_builtin; refine wp_app_proc rfl _ _ rfl (S + 1) (.slice pa prs.length pc) cps [.int .i64 lc, .slice va eds.length vc] wr.heap.size 1 rfl rfl hO (by simp; omega) (cells_new wr [.int .i64 lc, .slice va eds.length vc] _) rfl (by intro u hu; simp at hu; rcases hu with rfl | rfl <;> rfl) (by omega) ?_; intro v' wB hv' hg hbk; have HSB := hid (HSA.out.app HAll.out HPC.out ⟨el, hbd.out⟩ (by omega) hv' hg hbk); have HRB := hid (HRA.out.grown hg (fun k hk => by have := (hPb k hk).1; omega)); have hsh := hv'.shape; obtain ⟨va', vc', hva', _⟩ := hsh; rw [List.length_append, hcl] at hva'; simp only [List.length_singleton] at hva'; subst hva'; obtain ⟨z0, z1, z2, z3, z4⟩ := boxp_keep hg.size (hg.block S hXA.1 (fun e => by have := (hPb S e.symm).1; omega)) hXA; clear hv' hg hbk x0 x1 x2 x3 x4)
          go_roundw
          case rel => exact ⟨k', q2, .slice va' (prs.length + 1) vc', prs ++ [⟨lc, eds⟩], by go_num, HAn, HSB, hid (HRB.out.set (a := ⟨S, 1, none⟩) (by simp; omega) _)⟩
          case measure => simp [intOf, wrap64]
    · obtain rfl : k = 0 := by omega
      have hA := HA.out
      obtain ⟨a, c, b, n, rfl, ⟨x0, x1, x2, x3, x4⟩, ⟨y0, y1, y2, y3, y4⟩, hf⟩ := SySt.done HS.out HR.out (p := p) (K := 1000) (by omega) hB (by omega) (by omega)
      replace hf := hid hf
      clear hA HS HR
      go_wp2_with fail
      refine bodyPost_ret (v := .agg #[.slice a 3 c, .slice b prs.length n]) (by simp [results, Try.results47, go_sem, y0, y1, y2, y3, y4]) rfl ?_
      exact hf.out
end Go.Proofs.Ytffadknollkgiaa
