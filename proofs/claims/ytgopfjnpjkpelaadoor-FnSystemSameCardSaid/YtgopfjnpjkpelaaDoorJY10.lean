/- Joined texts (SysMut, DrawSySame, ExprA, EdgeA, IntsA, SzPlain, SysA, SysEq): contracts and plain laws. Conditions: those of each theorem. -/
import Derived.Test.YtgopfjnpjkpelaaDoorJY9
import Derived.Test.YtgopfjnpjkpelaaDoorJY8
import Derived.Test.YtgopfjnpjkpelaaDoorRows
import Derived.Test.YtgopfjnpjkpelaaDoorJY0
import Derived.Test.YtgopfjnpjkpelaaDoorJY1
import Derived.Test.YtgopfjnpjkpelaaDoorJY2
import Derived.Test.YtgopfjnpjkpelaaDoorJY3
import Derived.WalkSpells
import Derived.WalkLawsBesides
set_option linter.unusedVariables false
set_option linter.unusedSimpArgs false
namespace Go.Proofs.YtgopfjnpjkpelaaDoor
open Go.RowKit
set_option linter.unusedVariables false
set_option linter.unusedSimpArgs false

open Go.Proofs.YtgopfjnpjkpelaaDoor.Expr in
set_option maxRecDepth 100000 in
set_option maxHeartbeats 4000000 in
theorem mutSys_any (s : Sy) (w : World) (x : Value) (R B p : Nat) (M : Int) (L : Nat) (hx : SyIn Any w s x) (hnil : NilI x) (hb : Bnd M L s) (hM : 0 ≤ M ∧ M ≤ 1000000) (hL : L ≤ 900) (hr : Rd B w R p) (hp : p + 60 ≤ 1000000) :
    Calls Tryd.prog 11 #[.pointer (some ⟨R, 0, none⟩), x] w (MuPost (s.procs.map (fun q : Pr => q.edges.length)) B 60 (32 * M) (L + 1) R p w) := by
  have hB := hr.lt
  obtain ⟨a, c, b, d, rfl⟩ := hx.shape
  have hli : ∀ n, n ∈ s.init → i64 n := by obtain ⟨_, _, _, _, _, _, _, h, _⟩ := hx; exact h.2
  obtain ⟨hb1, hb2, hb3⟩ := hb
  go_enter Tryd.func11, Tryd.ntmps11
  go_wp2_with fail
  refine (copy_any s _ _ M L ((hx.below (below_alloc w (.cells #[.slice a s.init.length c, .slice b s.procs.length d] 26))).below (below_alloc _ (.cells #[.slice none 0 0, .slice none 0 0] 26))) ⟨hb2, by omega⟩ hb3 hM.2 (by omega) hnil).mono ?_
  rintro e w1 ⟨vi, vp, l, prs, S, rfl, hO, hvi, rfl, hP, hplm, hB1, hS1, hS2⟩
  have hpl : prs.length = s.procs.length := by simpa using congrArg List.length hplm
  have HPLM := hid hplm
  clear hplm
  have HPL := hid hpl
  obtain ⟨a1, k1, rfl, _⟩ := hO.shape
  obtain ⟨a2, k2, rfl, _⟩ := hP.shape
  have hB2 : Below w.heap.size w w1 := below_next (below_next (below_alloc w (.cells #[.slice a s.init.length c, .slice b s.procs.length d] 26)) (below_alloc _ (.cells #[.slice none 0 0, .slice none 0 0] 26))) hB1
  have hX := boxp_next hB1 (boxp_next (below_alloc _ (.cells #[.slice none 0 0, .slice none 0 0] 26)) (boxp_at (w := w) (a := .slice a s.init.length c) (b := .slice b s.procs.length d) (t := 26) rfl))
  have hZ := boxp_next hB1 (boxp_at (w := w.alloc (.cells #[.slice a s.init.length c, .slice b s.procs.length d] 26)) (B := w.heap.size + 1) (a := .slice none 0 0) (b := .slice none 0 0) (t := 26) (by simp))
  simp only [World.size_alloc] at hO hB1 hS1
  have hrows := hP
  obtain ⟨⟨cps, hR1, hR2⟩, hq1⟩ := hrows
  have hblk := hR1.blk
  have HS := hid (show MuSt w R w1.heap.size S s.init (.slice a1 s.init.length k1) (.slice a2 prs.length k2) prs (w1.alloc (.cells #[.slice a1 s.init.length k1, .slice a2 prs.length k2] 26)) from
    ⟨boxp_at rfl, (hO.mono (by omega)).next (below_alloc _ _), hvi, ⟨cps, hR1.next (below_alloc _ _), hR2.mono fun t c h => h.frame (below_alloc w1 _).size fun b hb hl => ⟨⟨hb.1, by omega, hb.2⟩, (below_alloc w1 _).block b hl⟩⟩, fun g hg => (hblk g hg).2, But.of (below_next hB2 (below_alloc _ _)), boxp_next (below_alloc _ _) hZ, by omega, hS2⟩)
  have HR := hid (hr.next (below_next hB2 (below_alloc w1 (.cells #[.slice a1 s.init.length k1, .slice a2 prs.length k2] 26))))
  have HX := hid (boxp_next (below_alloc w1 (.cells #[.slice a1 s.init.length k1, .slice a2 prs.length k2] 26)) hX)
  have hl1 : s.init.length ≤ L ∧ ∀ n, n ∈ s.init → i64 n := ⟨hb1, hli⟩
  have hp1 : prs.length ≤ L := by omega
  clear hpl
  clear hX hZ hB2 hB1 hO hP hR1 hR2 hblk hr cps hx hb3
  go_upto_region 2 with fail
  obtain ⟨O, hO⟩ : ∃ O, O = w1.heap.size := ⟨_, rfl⟩
  rw [← hO] at HS
  rw [← hO]
  refine wp_gen (fun W => MuSt w R O S s.init (.slice a1 s.init.length k1) (.slice a2 prs.length k2) prs W ∧ Rd B W R p ∧ BoxP W w.heap.size (.slice a s.init.length c) (.slice b s.procs.length d)) ⟨HS.out, HR.out, HX.out⟩ ?_
  clear HS HR HX
  rintro W0 ⟨h1, h2, h3⟩
  have HS0 := hid h1
  have HR0 := hid h2
  have hSO : w.heap.size + 1 < S ∧ S < O := ⟨by omega, by omega⟩
  clear h1 h2 hO hS1 hS2
  obtain ⟨x0, x1, x2, x3, x4⟩ := id h3
  go_wp2_with fail
  refine (pick_any B _ _ R p HR0.out (by omega) (by omega) (by omega)).mono ?_
  rintro e wA ⟨j, rfl, ⟨j0, j1, _⟩, hbA, hrA⟩
  have HSA := hid (HS0.out.but hbA (by omega))
  have HRA := hid hrA
  have hXA := boxp_but hbA (by omega) h3
  obtain ⟨jn, rfl⟩ := Int.eq_ofNat_of_zero_le j0
  have hj : jn < prs.length + 1 := by have := j1 (by omega); have := HPL.out; omega
  clear HS0 HR0 x0 x1 x2 x3 x4 h3 hbA hrA j0 j1
  rw [← HPL.out] at hXA
  clear hb2
  obtain ⟨x0, x1, x2, x3, x4⟩ := id hXA
  go_upto_region 3 with fail
  go_cut [29] (fun s29 wx => wA = wx ∧ (s29 = .bool true ∨ (s29 = .bool false ∧ Hid (∃ h : jn < prs.length, prs[jn].edges ≠ []))))
  case first =>
    by_cases hjn : jn = prs.length
    · subst hjn
      go_wp2_with fail
      go_meet
      exact ⟨rfl, .inl rfl⟩
    · have hlt : jn < prs.length := by omega
      have hjn2 : ((jn : Int) == (prs.length : Int)) = false := by simp; omega
      have hlt1 : (jn : Int) < (prs.length : Int) := by omega
      obtain ⟨z0, z1, z2, z3, z4⟩ := id HSA.out.1
      obtain ⟨pb, pd, al, ld, hvp, f1, f2⟩ := HSA.out.cell hlt
      simp at hvp
      obtain ⟨rfl, rfl⟩ := hvp
      by_cases hne : prs[jn].edges = []
      · rw [hne, List.length_nil] at f1
        go_wp2_with fail
        go_meet
        exact ⟨rfl, .inl rfl⟩
      · have hn0 : ((prs[jn].edges.length : Int) == 0) = false := by simp; exact hne
        have hH := hid (show ∃ h : jn < prs.length, prs[jn].edges ≠ [] from ⟨hlt, hne⟩)
        go_wp2_with fail
        go_meet
        exact ⟨rfl, .inr ⟨rfl, hH⟩⟩
  case rest =>
  obtain ⟨rfl, hs29⟩ := hcut
  go_upto_if 29 with fail
  go_cut [6] (fun s6 wx => wA = wx ∧ (s6 = .int .i64 (-1) ∨ ∃ i : Nat, s6 = .int .i64 i ∧ Hid (∃ h : i < prs.length, prs[i].edges ≠ [])))
  case first =>
    rcases hs29 with rfl | ⟨rfl, hH⟩
    · go_wp2_with fail
      go_meet
      exact ⟨rfl, .inl rfl⟩
    · go_wp2_with fail
      go_meet
      exact ⟨rfl, .inr ⟨jn, rfl, hH⟩⟩
  case rest =>
  obtain ⟨rfl, hs6⟩ := hcut
  clear x0 x1 x2 x3 x4 hXA hs29
  go_wp2_with fail
  refine (pick_any B _ _ R (p + 1) HRA.out (by omega) (by omega) (by omega)).mono ?_
  rintro e wC ⟨m, rfl, ⟨m0, m1, _⟩, hbC, hrC⟩
  have HS := hid (HSA.out.but hbC (by omega))
  have HR := hid hrC
  have hm : m < 50 := m1 (by omega)
  clear HSA HRA hbC hrC m1
  go_upto_block 0 with fail
  go_cut [6] (fun s6 wx => ∃ a li c b lp d p', Hid (MuEnd w R O (prs.map (fun q : Pr => q.edges.length)) (32 * M) (L + 1) a li c b lp d wx) ∧ Hid (Rd B wx R p') ∧ p' ≤ p + 60)
  case first =>
    by_cases e0 : m = 0
    · subst e0
      have hI := hid (row_one wC 0 (by unfold i64; omega))
      have hI0 := HS.out.2.1
      obtain ⟨z0, z1, z2, z3, z4⟩ := id HS.out.1
      have hOC := HS.out.1.1
      go_wp2_with (at_builtin; refine wp_app_own2 rfl _ _ rfl (w.heap.size + 1 + 1) (.slice a1 s.init.length k1) s.init [0] (some ⟨wC.heap.size, 0, none⟩) 1 rfl rfl (fun h => by cases h) (hI0.next (below_alloc _ _)) (by simp; omega) hI.out (by omega) (by simp) ?_; intro v4 w4 hv4 hg hbk; obtain ⟨a3, k3, b3, k4, rfl, r2, hE⟩ := MuSt.app0 (L := L + 1) (HS.out.next (below_alloc _ _) (by omega)) (by omega) hv4 hg hbk ⟨by simp; omega, fun n hn => by { rcases List.mem_append.1 hn with h | h; { exact hl1.2 n h }; { simp at h; subst h; unfold i64; omega } }⟩ (Nat.le_succ_of_le hp1) (fun q hq => ⟨Nat.le_succ_of_le (hq1 q hq).1, (hq1 q hq).2⟩); rw [List.length_append, List.length_singleton] at hE; have HR4 := hid ((HR.out.next (below_alloc wC (.cells #[.int .i64 0] 3))).grown hg (fun k hk => by have := (hI0.blk k hk).1; omega)); simp at r2; obtain ⟨rfl, rfl⟩ := r2; have HE := hid (hE.mono (M' := 32 * M) (L' := L + 1) (by omega) (by omega)); obtain ⟨y0, y1, y2, y3, y4⟩ := boxp_keep hg.size (hg.block O (by simp; omega) (fun e => by have := HS.out.2.2.1 O e.symm; omega)) (boxp_next (below_alloc wC (.cells #[.int .i64 0] 3)) HS.out.1); clear hE hv4 hg hbk hI0 hI z0 z1 z2 z3 z4)
      go_meet
      exact ⟨_, _, _, _, _, _, _, HE, hid (HR4.out.set (a := ⟨O, 0, none⟩) (show B ≤ O by omega) _), by omega⟩

    have e0' : (m == 0) = false := by simpa using e0
    by_cases e1 : m = 1
    · subst e1
      have hOC := HS.out.1.1
      obtain ⟨z0, z1, z2, z3, z4⟩ := id HS.out.1
      go_wp2_with fail
      refine wp_region_ord (C := fun wZ => ∃ xZ, wZ = World.overP _ ([O]) xZ) [0,1,2] (.one 3 (.one 4 (.one 5 (.one 6 (.one 7 (.fre 8 (.fre 9 .done))))))) [8,9] (by kernel_rfl) (by kernel_rfl) (fun d _ _ _ _ h => by cases d <;> exact h) (KeepP.refl _ _).drew.ex ?_; simp only [pick, List.getElem?_cons_succ, List.getElem?_cons_zero]; (repeat (go_big_quiet_step (fail))); refine wpQuiet_nil ?_; simp only [ordW, pick, List.getElem?_cons_succ, List.getElem?_cons_zero]
      have K := hid ((KeepP.refl [O] wC).drew)
      have Rdd := HR.out.next (below_d (Below.refl wC.heap.size wC))
      have h0 := below_next (below_d (Below.refl wC.heap.size wC)) (below_alloc wC.drew (.cells (([0, 1, 4, 5] : List Int).map (Value.int .i64)).toArray 3))
      go_wp2_with fail
      refine ⟨(K.out.trans (KeepP.below (below_alloc _ _))).ex, ?_⟩
      go_wp2_with fail
      refine (num_new [0, 1, 4, 5] 0 5 (by simp) (by decide) (by decide) B wC.drew _ R (p + 2) Rdd (by omega)).mono ?_
      rintro e wD ⟨n, rfl, ⟨hn1, hn2⟩, hb, R3⟩
      have hni : i64 n := by unfold i64; omega
      have K3 := hid ((KeepP.below (S := [O]) h0).trans (KeepP.but hb (by simp; omega)))
      have HSD := hid ((HS.out.next h0 (by omega)).but hb (by omega))
      have HRD := hid R3
      have HSE := HSD.out.next (below_alloc wD (.cells #[.int .i64 n, .slice none 0 0] 41)) (by omega)
      have HRE := HRD.out.next (below_alloc wD (.cells #[.int .i64 n, .slice none 0 0] 41))
      have KE := hid (K3.out.trans (KeepP.below (below_alloc wD (.cells #[.int .i64 n, .slice none 0 0] 41))))
      have hcps := HSE.2.2.2.1
      have hPO := HSE.2.2.2.2.1
      have hSd := HSD.out.1.1
      obtain ⟨cps, hOP, hAll⟩ := hcps
      have hcl := hAll.len
      have hPC : PrC (fun b => S < b ∧ b ≠ O ∧ (Value.slice a2 prs.length k2).ownBlock ≠ some b) (wD.alloc (.cells #[.int .i64 n, .slice none 0 0] 41)) ⟨n, []⟩ [.int .i64 n, .slice none 0 0] := ⟨none, 0, rfl, ⟨none, 0, rfl, hni, Nat.le_refl _, by simp, .inl rfl⟩, fun h => absurd rfl h⟩
      have HSEh := hid HSE
      have HAll := hid hAll
      have HPC := hid hPC
      have HREh := hid HRE
      clear K h0 hb Rdd R3 hn1 hn2 HS HR HSD HRD z0 z1 z2 z3 z4 HSE hAll hPC HRE
      go_wp2_with fail
      refine ⟨K3.out.ex, ?_⟩
      go_wp2_with fail
      refine ⟨K3.out.ex, ?_⟩
      go_wp2_with fail
      refine ⟨KE.out.ex, ?_⟩
      go_wp2_with (at_builtin; refine wp_app_proc rfl _ _ rfl (S + 1) (.slice a2 prs.length k2) cps [.int .i64 n, .slice none 0 0] wD.heap.size 1 rfl rfl hOP (by simp; omega) (cells_new wD [.int .i64 n, .slice none 0 0] _) rfl (by intro u hu; simp at hu; rcases hu with rfl | rfl <;> rfl) (by omega) ?_; intro v' wB hv' hg hbk)
      have hblk := hOP.blk
      obtain ⟨a3, k3, b3, k4, r1, rfl, hE⟩ := MuSt.app1 (L := L + 1) (M := 32 * M) HSEh.out (by omega) HAll.out HPC.out hv' hg hbk ⟨Nat.le_succ_of_le hl1.1, hl1.2⟩ (by rw [List.length_append, List.length_singleton]; omega) (fun q hq => by
        rcases List.mem_append.1 hq with h | h
        · exact ⟨Nat.le_succ_of_le (hq1 q h).1, fun e he => by have := (hq1 q h).2 e he; omega⟩
        · simp at h; subst h; exact ⟨by simp, by simp⟩)
      rw [List.length_append, List.length_singleton] at hE
      have HE := hid hE
      have KB := hid (KE.out.trans (KeepP.grown hg (fun b hb e => by simp at hb; rw [hb] at e; have := hPO O e; omega)))
      have HRB := hid (HREh.out.grown hg (fun k hk => by have := (hblk k hk).1; omega))
      obtain ⟨y0, y1, y2, y3, y4⟩ := boxp_keep hg.size (hg.block O (by simp; omega) (fun e => by have := hPO O e.symm; omega)) HSEh.out.1
      simp at r1
      obtain ⟨rfl, rfl⟩ := r1
      simp only [List.length_append, List.length_singleton]
      clear hE hv' hg hbk hOP HSEh HAll HPC HREh hblk hPO
      go_wp2_with fail
      refine ⟨KB.out.ex, ?_⟩
      go_wp2_with fail
      go_meet
      exact ⟨_, _, _, _, _, _, _, HE, hid (HRB.out.set (a := ⟨O, 1, none⟩) (show B ≤ O by omega) _), by omega⟩

    have e1' : (m == 1) = false := by simpa using e1
    by_cases e2 : m = 2
    · subst e2
      rcases hs6 with rfl | ⟨i, rfl, hH⟩
      · obtain ⟨a3, k3, b3, k4, r1, r2, hE⟩ := HS.out.fin hl1 hp1 hq1
        simp at r1 r2
        obtain ⟨rfl, rfl⟩ := r1
        obtain ⟨rfl, rfl⟩ := r2
        go_wp2_with fail
        go_meet
        exact ⟨_, _, _, _, _, _, _, hid (hE.mono (by omega) (by omega)), HR, by omega⟩
      · obtain ⟨hi, hne⟩ := hH.out
        obtain ⟨pb, pd, eb, eo, ec, hvp, f1, f2, f3, f4, f5, f6, f7, f8, _, _⟩ := HS.out.edge hi hne
        simp at hvp
        obtain ⟨rfl, rfl⟩ := hvp
        obtain ⟨z0, z1, z2, z3, z4⟩ := id HS.out.1
        have hlt1 : (i : Int) < (prs.length : Int) := by omega
        have hn0 := mt List.eq_nil_of_length_eq_zero hne
        obtain ⟨ne, hne2⟩ : ∃ n, n = prs[i].edges.length := ⟨_, rfl⟩
        rw [← hne2] at f1 hn0
        clear hne2
        have hlt2 : (0 : Int) < (ne : Int) := by omega
        go_wp2_with fail
        refine wp_region_ord (C := fun wZ => ∃ xZ, wZ = World.overP _ ([O, pb]) xZ) [0,1,2,3,4,5,6,7] (.one 8 (.one 9 (.fre 10 (.fre 11 (.fre 12 .done))))) [10,11,12] (by kernel_rfl) (by kernel_rfl) (fun d _ _ _ _ h => by cases d <;> exact h) (KeepP.refl _ _).drew.ex ?_; simp only [pick, List.getElem?_cons_succ, List.getElem?_cons_zero]; (repeat (go_big_quiet_step (fail))); refine wpQuiet_nil ?_; simp only [ordW, pick, List.getElem?_cons_succ, List.getElem?_cons_zero]
        have K := hid ((KeepP.refl [O, pb] wC).drew)
        have Rdd := HR.out.next (below_d (Below.refl wC.heap.size wC))
        have h0 := below_d (Below.refl wC.heap.size wC)
        go_wp2_with fail
        refine (form_any wC.drew R B (p + 2) Rdd (by omega)).mono ?_
        rintro e wD ⟨v, t, p3, rfl, ht, htm, _, hb, R3, hp3⟩
        obtain ⟨at1, nt, rfl⟩ := TrIn_shape ht.any
        have K3 := hid ((KeepP.below (S := [O, pb]) h0).trans (KeepP.but hb (by simp; omega)))
        have hCD : wC.heap.size ≤ wD.heap.size := by have := hb.size; simpa using this
        have HSD := hid ((HS.out.next h0 (by omega)).but hb (by omega))
        clear hb h0 Rdd K
        go_wp2_with fail
        refine ⟨K3.out.ex, ?_⟩
        go_wp2_with fail
        refine (mut_any wD R B p3 t _ ht.any (by omega) R3 (by omega)).mono ?_
        rintro e wE ⟨v, t', p4, rfl, ht', htm', hb, R4, hp4⟩
        obtain ⟨at2, nt2, rfl⟩ := TrIn_shape ht'.any
        have K4 := hid (K3.out.trans (KeepP.but hb (by simp; omega)))
        have HSE := hid (HSD.out.but hb (by omega))
        have HRE := hid R4
        have F1 := hid ((World.cell?_of_block (w := wC) (a := ⟨pb, i * 2 + 1, none⟩) (K4.out.block pb (by simp) f8)).trans f1)
        have F5 : eb < wD.heap.size := by omega
        clear hb K3 HSD z0 z1 z2 z3 z4 f1 f8 R3 R4 ht
        obtain ⟨pb', pd', eb', eo', ec', hvp, g1, g2, g3, g4, g5, g6, g7, g8, ⟨ed, g9⟩, ga⟩ := HSE.out.edge hi hne
        simp at hvp
        obtain ⟨rfl, rfl⟩ := hvp
        have hcc := g1.symm.trans F1.out
        simp at hcc
        obtain ⟨⟨rfl, rfl⟩, hcz, rfl⟩ := hcc
        clear hcz
        obtain ⟨_, _, _, _, ⟨c0, c1, c2, c3, c4, c5, c6, c7, c8, c9⟩, _⟩ := g9
        have hA1 : ∀ g, a1 = some g → g.block < S := fun g hg => HSE.out.2.2.1 g.block (by rw [hg]; rfl)
        obtain ⟨a3, k3, b3, k4, r1, r2, hE⟩ := HSE.out.fin hl1 hp1 hq1
        simp at r1 r2
        obtain ⟨rfl, rfl⟩ := r1
        obtain ⟨rfl, rfl⟩ := r2
        have hTi := NewTr_ge ht'
        have hTf := (TrIn_frame (q := fun b => w.heap.size + 1 < b) (w' := ((wE.setCell ⟨eb', eo' + 2, none⟩ (.int .i64 t'.kind)).setCell ⟨eb', eo' + 3, none⟩ (.int .i64 t'.val)).setCell ⟨eb', eo' + 4, none⟩ (.slice at2 t'.kids.length nt2)) fun b hb hl => ⟨by have := hb; omega, (Below.heap_setCell _ _ _ _ (show b ≠ eb' by have := hb; omega)).trans ((Below.heap_setCell _ _ _ _ (show b ≠ eb' by have := hb; omega)).trans (Below.heap_setCell _ _ _ _ (show b ≠ eb' by have := hb; omega)))⟩).1 _ _ hTi
        obtain ⟨tk, tv, tks⟩ := t'
        rw [TrIn_mk] at hTf
        obtain ⟨_, _, _, he, q1, q2, rfl, q4, q5, q6⟩ := hTf
        simp only [Tr.kind, Tr.val, Tr.kids, Value.agg.injEq, Array.mk.injEq, List.cons.injEq, and_true, Value.slice.injEq, true_and] at he
        obtain ⟨rfl, rfl⟩ := he
        have hnn : 1 + nodesL tks ≤ 32 := by simp only [nodes] at htm'; omega
        have hne1 : ∀ g, a1 = some g → g.block ≠ eb' := fun g hg e => by have := hA1 g hg; omega
        have hE1 := hE.store (ad := ⟨eb', eo' + 2, none⟩) (u := .int .i64 tk) (C := 1) ⟨Int.le_refl _, .inl ⟨_, tk, c2, rfl, q1⟩⟩ hM.1 (show w.heap.size + 1 < eb' by omega) g3 hne1 (fun g hg e => by cases hg; exact g4 e.symm)
        have hE2 := hE1.store (ad := ⟨eb', eo' + 3, none⟩) (u := .int .i64 tv) (C := 1) ⟨Int.le_refl _, .inl ⟨_, tv, (World.cell?_setCell_other _ _ _ _ (by simp)).trans c3, rfl, q2⟩⟩ (by omega) (show w.heap.size + 1 < eb' by omega) g3 hne1 (fun g hg e => by cases hg; exact g4 e.symm)
        have hE3 := hE2.store (ad := ⟨eb', eo' + 4, none⟩) (u := .slice at2 tks.length nt2) (C := 32) ⟨by omega, .inr ⟨_, _, _, at2, nt2, tks, (World.cell?_setCell_other _ _ _ _ (by simp)).trans ((World.cell?_setCell_other _ _ _ _ (by simp)).trans c4), rfl, q4, q5, q6, hnn⟩⟩ (by omega) (show w.heap.size + 1 < eb' by omega) g3 hne1 (fun g hg e => by cases hg; exact g4 e.symm)
        have HE := hid (hE3.mono (M' := 32 * M) (L' := L + 1) (by omega) (by omega))
        have HRF := hid (((HRE.out.set (a := ⟨eb', eo' + 2, none⟩) (show B ≤ eb' by omega) (.int .i64 tk)).set (a := ⟨eb', eo' + 3, none⟩) (show B ≤ eb' by omega) (.int .i64 tv)).set (a := ⟨eb', eo' + 4, none⟩) (show B ≤ eb' by omega) (.slice at2 tks.length nt2))
        have gz := ga (eo' + 2)
        have gz3 := ga (eo' + 3)
        have gz4 := ga (eo' + 4)
        clear hE hE1 hE2 hE3 HSE HRE F1 g1 ga HS HR q6 hTi ht'
        go_wp2_with fail
        refine ⟨K4.out.ex, ?_⟩
        go_wp2_with fail
        go_meet
        exact ⟨_, _, _, _, _, _, _, HE, HRF, by omega⟩

    have e2' : (m == 2) = false := by simpa using e2
    by_cases e3 : m = 3
    · subst e3
      rcases hs6 with rfl | ⟨i, rfl, hH⟩
      · obtain ⟨a3, k3, b3, k4, r1, r2, hE⟩ := HS.out.fin hl1 hp1 hq1
        simp at r1 r2
        obtain ⟨rfl, rfl⟩ := r1
        obtain ⟨rfl, rfl⟩ := r2
        go_wp2_with fail
        go_meet
        exact ⟨_, _, _, _, _, _, _, hid (hE.mono (by omega) (by omega)), HR, by omega⟩
      · obtain ⟨hi, hne⟩ := hH.out
        obtain ⟨pb, pd, eb, eo, ec, hvp, f1, f2, f3, f4, f5, f6, f7, f8, _, _⟩ := HS.out.edge hi hne
        simp at hvp
        obtain ⟨rfl, rfl⟩ := hvp
        obtain ⟨z0, z1, z2, z3, z4⟩ := id HS.out.1
        have hlt1 : (i : Int) < (prs.length : Int) := by omega
        have hn0 := mt List.eq_nil_of_length_eq_zero hne
        obtain ⟨ne, hne2⟩ : ∃ n, n = prs[i].edges.length := ⟨_, rfl⟩
        rw [← hne2] at f1 hn0
        clear hne2
        have hlt2 : (0 : Int) < (ne : Int) := by omega
        go_wp2_with fail
        refine wp_region_ord (C := fun wZ => ∃ xZ, wZ = World.overP _ ([O, pb]) xZ) [0,1,2,3,4,5,6] (.one 7 (.one 8 (.fre 9 (.fre 10 (.fre 11 .done))))) [9,10,11] (by kernel_rfl) (by kernel_rfl) (fun d _ _ _ _ h => by cases d <;> exact h) (KeepP.refl _ _).drew.ex ?_; simp only [pick, List.getElem?_cons_succ, List.getElem?_cons_zero]; (repeat (go_big_quiet_step (fail))); refine wpQuiet_nil ?_; simp only [ordW, pick, List.getElem?_cons_succ, List.getElem?_cons_zero]
        have K := hid ((KeepP.refl [O, pb] wC).drew)
        have Rdd := HR.out.next (below_d (Below.refl wC.heap.size wC))
        have h0 := below_next (below_d (Below.refl wC.heap.size wC)) (below_alloc wC.drew (.cells (([-1, 3, 0, -2] : List Int).map (Value.int .i64)).toArray 3))
        go_wp2_with fail
        refine ⟨(K.out.trans (KeepP.below (below_alloc _ _))).ex, ?_⟩
        go_wp2_with fail
        refine (num_new [-1, 3, 0, -2] (-2) 3 (by simp) (by decide) (by decide) B wC.drew _ R (p + 2) Rdd (by omega)).mono ?_
        rintro e wD ⟨n, rfl, ⟨hn1, hn2⟩, hb, R3⟩
        have hni : i64 n := by unfold i64; omega
        have K3 := hid ((KeepP.below (S := [O, pb]) h0).trans (KeepP.but hb (by simp; omega)))
        have HSD := hid ((HS.out.next h0 (by omega)).but hb (by omega))
        have HRD := hid R3
        have F1 := hid ((World.cell?_of_block (w := wC) (a := ⟨pb, i * 2 + 1, none⟩) (K3.out.block pb (by simp) f8)).trans f1)
        clear K h0 hb Rdd z0 z1 z2 z3 z4 f1 f5 f8 R3 hn1 hn2
        obtain ⟨pb', pd', eb', eo', ec', hvp, g1, g2, g3, g4, g5, g6, g7, g8, ⟨ed, g9⟩, ga⟩ := HSD.out.edge hi hne
        simp at hvp
        obtain ⟨rfl, rfl⟩ := hvp
        have hcc := g1.symm.trans F1.out
        simp at hcc
        obtain ⟨⟨rfl, rfl⟩, hcz, rfl⟩ := hcc
        clear hcz
        obtain ⟨_, _, _, _, ⟨c0, c1, c2, c3, c4, c5, c6, c7, c8, c9⟩, _⟩ := g9
        have hA1 : ∀ g, a1 = some g → g.block < S := fun g hg => HSD.out.2.2.1 g.block (by rw [hg]; rfl)
        obtain ⟨a3, k3, b3, k4, r1, r2, hE⟩ := HSD.out.fin hl1 hp1 hq1
        simp at r1 r2
        obtain ⟨rfl, rfl⟩ := r1
        obtain ⟨rfl, rfl⟩ := r2
        have HE := hid ((hE.store (ad := ⟨eb', eo' + 5, none⟩) (u := .int .i64 n) (C := 1) ⟨Int.le_refl _, .inl ⟨_, n, c5, rfl, hni⟩⟩ hM.1 (show w.heap.size + 1 < eb' by omega) g3 (fun g hg e => by have := hA1 g hg; have e2 : g.block = eb' := e; omega) (fun g hg e => by cases hg; exact g4 e.symm)).mono (M' := 32 * M) (L' := L + 1) (by omega) (by omega))
        have HRE := hid (HRD.out.set (a := ⟨eb', eo' + 5, none⟩) (show B ≤ eb' by omega) (.int .i64 n))
        have gz := ga (eo' + 5)
        clear hE HSD HRD F1 g1 ga HS HR
        go_wp2_with fail
        refine ⟨K3.out.ex, ?_⟩
        go_wp2_with fail
        go_meet
        exact ⟨_, _, _, _, _, _, _, HE, HRE, by omega⟩

    have e3' : (m == 3) = false := by simpa using e3
    by_cases e4 : m = 4
    · subst e4
      rcases hs6 with rfl | ⟨i, rfl, hH⟩
      · obtain ⟨a3, k3, b3, k4, r1, r2, hE⟩ := HS.out.fin hl1 hp1 hq1
        simp at r1 r2
        obtain ⟨rfl, rfl⟩ := r1
        obtain ⟨rfl, rfl⟩ := r2
        go_wp2_with fail
        go_meet
        exact ⟨_, _, _, _, _, _, _, hid (hE.mono (by omega) (by omega)), HR, by omega⟩
      · obtain ⟨hi, hne⟩ := hH.out
        obtain ⟨pb, pd, eb, eo, ec, hvp, f1, f2, f3, f4, f5, f6, f7, f8, _, _⟩ := HS.out.edge hi hne
        simp at hvp
        obtain ⟨rfl, rfl⟩ := hvp
        obtain ⟨z0, z1, z2, z3, z4⟩ := id HS.out.1
        have hlt1 : (i : Int) < (prs.length : Int) := by omega
        have hn0 := mt List.eq_nil_of_length_eq_zero hne
        obtain ⟨ne, hne2⟩ : ∃ n, n = prs[i].edges.length := ⟨_, rfl⟩
        rw [← hne2] at f1 hn0
        clear hne2
        have hlt2 : (0 : Int) < (ne : Int) := by omega
        go_wp2_with fail
        refine wp_region_ord (C := fun wZ => ∃ xZ, wZ = World.overP _ ([O, pb]) xZ) [0,1,2,3,4,5,6] (.one 7 (.one 8 (.fre 9 (.fre 10 (.fre 11 .done))))) [9,10,11] (by kernel_rfl) (by kernel_rfl) (fun d _ _ _ _ h => by cases d <;> exact h) (KeepP.refl _ _).drew.ex ?_; simp only [pick, List.getElem?_cons_succ, List.getElem?_cons_zero]; (repeat (go_big_quiet_step (fail))); refine wpQuiet_nil ?_; simp only [ordW, pick, List.getElem?_cons_succ, List.getElem?_cons_zero]
        have K := hid ((KeepP.refl [O, pb] wC).drew)
        have Rdd := HR.out.next (below_d (Below.refl wC.heap.size wC))
        have h0 := below_next (below_d (Below.refl wC.heap.size wC)) (below_alloc wC.drew (.cells (([3, -3, 2, -9223372036854775808] : List Int).map (Value.int .i64)).toArray 3))
        go_wp2_with fail
        refine ⟨(K.out.trans (KeepP.below (below_alloc _ _))).ex, ?_⟩
        go_wp2_with fail
        refine (num_new [3, -3, 2, -9223372036854775808] (-9223372036854775808) 3 (by simp) (by decide) (by decide) B wC.drew _ R (p + 2) Rdd (by omega)).mono ?_
        rintro e wD ⟨n, rfl, ⟨hn1, hn2⟩, hb, R3⟩
        have hni : i64 n := by unfold i64; omega
        have K3 := hid ((KeepP.below (S := [O, pb]) h0).trans (KeepP.but hb (by simp; omega)))
        have HSD := hid ((HS.out.next h0 (by omega)).but hb (by omega))
        have HRD := hid R3
        have F1 := hid ((World.cell?_of_block (w := wC) (a := ⟨pb, i * 2 + 1, none⟩) (K3.out.block pb (by simp) f8)).trans f1)
        clear K h0 hb Rdd z0 z1 z2 z3 z4 f1 f5 f8 R3 hn1 hn2
        obtain ⟨pb', pd', eb', eo', ec', hvp, g1, g2, g3, g4, g5, g6, g7, g8, ⟨ed, g9⟩, ga⟩ := HSD.out.edge hi hne
        simp at hvp
        obtain ⟨rfl, rfl⟩ := hvp
        have hcc := g1.symm.trans F1.out
        simp at hcc
        obtain ⟨⟨rfl, rfl⟩, hcz, rfl⟩ := hcc
        clear hcz
        obtain ⟨_, _, _, _, ⟨c0, c1, c2, c3, c4, c5, c6, c7, c8, c9⟩, _⟩ := g9
        have hA1 : ∀ g, a1 = some g → g.block < S := fun g hg => HSD.out.2.2.1 g.block (by rw [hg]; rfl)
        obtain ⟨a3, k3, b3, k4, r1, r2, hE⟩ := HSD.out.fin hl1 hp1 hq1
        simp at r1 r2
        obtain ⟨rfl, rfl⟩ := r1
        obtain ⟨rfl, rfl⟩ := r2
        have HE := hid ((hE.store (ad := ⟨eb', eo' + 9, none⟩) (u := .int .i64 n) (C := 1) ⟨Int.le_refl _, .inl ⟨_, n, c9, rfl, hni⟩⟩ hM.1 (show w.heap.size + 1 < eb' by omega) g3 (fun g hg e => by have := hA1 g hg; have e2 : g.block = eb' := e; omega) (fun g hg e => by cases hg; exact g4 e.symm)).mono (M' := 32 * M) (L' := L + 1) (by omega) (by omega))
        have HRE := hid (HRD.out.set (a := ⟨eb', eo' + 9, none⟩) (show B ≤ eb' by omega) (.int .i64 n))
        have gz := ga (eo' + 9)
        clear hE HSD HRD F1 g1 ga HS HR
        go_wp2_with fail
        refine ⟨K3.out.ex, ?_⟩
        go_wp2_with fail
        go_meet
        exact ⟨_, _, _, _, _, _, _, HE, HRE, by omega⟩

    have e4' : (m == 4) = false := by simpa using e4
    by_cases e5 : m = 5
    · subst e5
      rcases hs6 with rfl | ⟨i, rfl, hH⟩
      · obtain ⟨a3, k3, b3, k4, r1, r2, hE⟩ := HS.out.fin hl1 hp1 hq1
        simp at r1 r2
        obtain ⟨rfl, rfl⟩ := r1
        obtain ⟨rfl, rfl⟩ := r2
        go_wp2_with fail
        go_meet
        exact ⟨_, _, _, _, _, _, _, hid (hE.mono (by omega) (by omega)), HR, by omega⟩
      · obtain ⟨hi, hne⟩ := hH.out
        obtain ⟨pb, pd, eb, eo, ec, hvp, f1, f2, f3, f4, f5, f6, f7, f8, _, _⟩ := HS.out.edge hi hne
        simp at hvp
        obtain ⟨rfl, rfl⟩ := hvp
        obtain ⟨z0, z1, z2, z3, z4⟩ := id HS.out.1
        have hlt1 : (i : Int) < (prs.length : Int) := by omega
        have hn0 := mt List.eq_nil_of_length_eq_zero hne
        obtain ⟨ne, hne2⟩ : ∃ n, n = prs[i].edges.length := ⟨_, rfl⟩
        rw [← hne2] at f1 hn0
        clear hne2
        have hlt2 : (0 : Int) < (ne : Int) := by omega
        go_wp2_with fail
        refine wp_region_ord (C := fun wZ => ∃ xZ, wZ = World.overP _ ([O, pb]) xZ) [0,1,2,3,4,5,6] (.one 7 (.one 8 (.fre 9 (.fre 10 (.fre 11 .done))))) [9,10,11] (by kernel_rfl) (by kernel_rfl) (fun d _ _ _ _ h => by cases d <;> exact h) (KeepP.refl _ _).drew.ex ?_; simp only [pick, List.getElem?_cons_succ, List.getElem?_cons_zero]; (repeat (go_big_quiet_step (fail))); refine wpQuiet_nil ?_; simp only [ordW, pick, List.getElem?_cons_succ, List.getElem?_cons_zero]
        have K := hid ((KeepP.refl [O, pb] wC).drew)
        have Rdd := HR.out.next (below_d (Below.refl wC.heap.size wC))
        have h0 := below_next (below_d (Below.refl wC.heap.size wC)) (below_alloc wC.drew (.cells (([-1, 4, 0, 9223372036854775807] : List Int).map (Value.int .i64)).toArray 3))
        go_wp2_with fail
        refine ⟨(K.out.trans (KeepP.below (below_alloc _ _))).ex, ?_⟩
        go_wp2_with fail
        refine (num_new [-1, 4, 0, 9223372036854775807] (-1) 9223372036854775807 (by simp) (by decide) (by decide) B wC.drew _ R (p + 2) Rdd (by omega)).mono ?_
        rintro e wD ⟨n, rfl, ⟨hn1, hn2⟩, hb, R3⟩
        have hni : i64 n := by unfold i64; omega
        have K3 := hid ((KeepP.below (S := [O, pb]) h0).trans (KeepP.but hb (by simp; omega)))
        have HSD := hid ((HS.out.next h0 (by omega)).but hb (by omega))
        have HRD := hid R3
        have F1 := hid ((World.cell?_of_block (w := wC) (a := ⟨pb, i * 2 + 1, none⟩) (K3.out.block pb (by simp) f8)).trans f1)
        clear K h0 hb Rdd z0 z1 z2 z3 z4 f1 f5 f8 R3 hn1 hn2
        obtain ⟨pb', pd', eb', eo', ec', hvp, g1, g2, g3, g4, g5, g6, g7, g8, ⟨ed, g9⟩, ga⟩ := HSD.out.edge hi hne
        simp at hvp
        obtain ⟨rfl, rfl⟩ := hvp
        have hcc := g1.symm.trans F1.out
        simp at hcc
        obtain ⟨⟨rfl, rfl⟩, hcz, rfl⟩ := hcc
        clear hcz
        obtain ⟨_, _, _, _, ⟨c0, c1, c2, c3, c4, c5, c6, c7, c8, c9⟩, _⟩ := g9
        have hA1 : ∀ g, a1 = some g → g.block < S := fun g hg => HSD.out.2.2.1 g.block (by rw [hg]; rfl)
        obtain ⟨a3, k3, b3, k4, r1, r2, hE⟩ := HSD.out.fin hl1 hp1 hq1
        simp at r1 r2
        obtain ⟨rfl, rfl⟩ := r1
        obtain ⟨rfl, rfl⟩ := r2
        have HE := hid ((hE.store (ad := ⟨eb', eo' + 1, none⟩) (u := .int .i64 n) (C := 1) ⟨Int.le_refl _, .inl ⟨_, n, c1, rfl, hni⟩⟩ hM.1 (show w.heap.size + 1 < eb' by omega) g3 (fun g hg e => by have := hA1 g hg; have e2 : g.block = eb' := e; omega) (fun g hg e => by cases hg; exact g4 e.symm)).mono (M' := 32 * M) (L' := L + 1) (by omega) (by omega))
        have HRE := hid (HRD.out.set (a := ⟨eb', eo' + 1, none⟩) (show B ≤ eb' by omega) (.int .i64 n))
        have gz := ga (eo' + 1)
        clear hE HSD HRD F1 g1 ga HS HR
        go_wp2_with fail
        refine ⟨K3.out.ex, ?_⟩
        go_wp2_with fail
        go_meet
        exact ⟨_, _, _, _, _, _, _, HE, HRE, by omega⟩

    have e5' : (m == 5) = false := by simpa using e5
    by_cases e6 : m = 6
    · subst e6
      have hZ := HS.out.2.2.2.2.2.2.1
      obtain ⟨z0, z1, z2, z3, z4⟩ := id hZ
      have hf := hid (show MuPost (s.procs.map (fun q : Pr => q.edges.length)) B 60 (32 * M) (L + 1) R p w (.returned (.agg #[.slice none 0 0, .slice none 0 0])) ((wC.setCell ⟨w.heap.size + 1, 0, none⟩ (.slice none 0 0)).setCell ⟨w.heap.size + 1, 1, none⟩ (.slice none 0 0)) from
        ⟨_, ⟨[], []⟩, _, rfl, ⟨none, 0, none, 0, rfl, by simp, by simp, ⟨.inl rfl, by simp⟩, by simp, by simp, .inl rfl⟩, ⟨⟨by simp, by simp, by simp⟩, .inl rfl⟩, fun a n c y he _ => by simp at he; exact he.1.2.2.symm, But.setNew (But.setNew HS.out.2.2.2.2.2.1 (show w.heap.size ≤ w.heap.size + 1 by omega) _) (show w.heap.size ≤ w.heap.size + 1 by omega) _, (HR.out.set (a := ⟨w.heap.size + 1, 0, none⟩) (show B ≤ w.heap.size + 1 by omega) _).set (a := ⟨w.heap.size + 1, 1, none⟩) (show B ≤ w.heap.size + 1 by omega) _, by omega⟩)
      have T := hid (boxp_set1 (boxp_set0 hZ (.slice none 0 0)) (.slice none 0 0))
      go_wp2_with fail
      obtain ⟨_, t0, t1, _, _⟩ := T.out
      refine bodyPost_ret (v := .agg #[.slice none 0 0, .slice none 0 0]) (by simp [results, Tryd.results11, go_sem, t0, t1]) rfl ?_
      exact hf.out

    have e6' : (m == 6) = false := by simpa using e6
    · obtain ⟨a3, k3, b3, k4, r1, r2, hE⟩ := HS.out.fin hl1 hp1 hq1
      simp at r1 r2
      obtain ⟨rfl, rfl⟩ := r1
      obtain ⟨rfl, rfl⟩ := r2
      go_wp2_with fail
      go_meet
      exact ⟨_, _, _, _, _, _, _, hid (hE.mono (by omega) (by omega)), HR, by omega⟩
  case rest =>
    obtain ⟨a3, li, k3, b3, lp, k4, p', HE, HRE, hp'⟩ := hcut
    have hf := HE.out.done HRE.out (p := p) (K := 60) hp' hB
    rw [HPLM.out] at hf
    replace hf := hid hf
    obtain ⟨x0, x1, x2, x3, x4⟩ := HE.out.1
    have hZ := HE.out.2.2.2.2.1
    obtain ⟨z0, z1, z2, z3, z4⟩ := id hZ
    have T := hid (boxp_set1 (boxp_set0 hZ (.slice a3 li k3)) (.slice b3 lp k4))
    clear HE HRE HS HR
    go_wp2_with fail
    obtain ⟨_, t0, t1, _, _⟩ := T.out
    refine bodyPost_ret (v := .agg #[.slice a3 li k3, .slice b3 lp k4]) (by simp [results, Tryd.results11, go_sem, t0, t1]) rfl ?_
    exact hf.out
end Go.Proofs.YtgopfjnpjkpelaaDoor
namespace Go.Proofs.YtgopfjnpjkpelaaDoor
open Go.RowKit
set_option linter.unusedVariables false
set_option linter.unusedSimpArgs false
namespace Sys

def SsDr (w : World) (e : Ending) (w' : World) : Prop := ∃ s t x y, e = .returned (.tuple #[x, y]) ∧ SyIn Any w' s x ∧ SyIn Any w' t y ∧ Below w.heap.size w w'
theorem below_butS {w w1 W : World} {R : Nat} (hb : Below w.heap.size w w1) (h : But w1 R W) (hR : w.heap.size ≤ R) : Below w.heap.size w W :=
  ⟨h.os.trans hb.os, h.tape.trans hb.tape, h.output.trans hb.output, Nat.le_trans hb.size h.size, fun k hk => (h.block k (Nat.lt_of_lt_of_le hk hb.size) (by omega)).trans (hb.block k hk)⟩
theorem ss_last {w W : World} {s t : Sy} {x y u0 u1 u2 u3 : Value} (hx : SyIn (fun b => w.heap.size + 1 < b) W s x) (hy : SyIn (fun b => w.heap.size + 1 < b) W t y) (hb : Below w.heap.size w W) :
    SsDr w (.returned (.tuple #[x, y])) ((((W.setCell ⟨w.heap.size, 0, none⟩ u0).setCell ⟨w.heap.size, 1, none⟩ u1).setCell ⟨w.heap.size + 1, 0, none⟩ u2).setCell ⟨w.heap.size + 1, 1, none⟩ u3) := by
  have hf : ∀ b, w.heap.size + 1 < b → ((((W.setCell ⟨w.heap.size, 0, none⟩ u0).setCell ⟨w.heap.size, 1, none⟩ u1).setCell ⟨w.heap.size + 1, 0, none⟩ u2).setCell ⟨w.heap.size + 1, 1, none⟩ u3).heap[b]? = W.heap[b]? := fun b hb =>
    (Below.heap_setCell _ _ _ _ (show b ≠ w.heap.size + 1 by omega)).trans ((Below.heap_setCell _ _ _ _ (show b ≠ w.heap.size + 1 by omega)).trans ((Below.heap_setCell _ _ _ _ (show b ≠ w.heap.size by omega)).trans (Below.heap_setCell _ _ _ _ (show b ≠ w.heap.size by omega))))
  exact ⟨s, t, x, y, rfl, hx.frame (by simp) fun b hb _ => ⟨trivial, hf b hb⟩, hy.frame (by simp) fun b hb _ => ⟨trivial, hf b hb⟩, below_set2 (below_set2 hb (Nat.le_refl _) _ _) (by omega) _ _⟩

set_option maxRecDepth 100000 in
set_option maxHeartbeats 8000000 in
theorem drawSs_any (w : World) (a : Option Addr) (len cap : Nat) (hb : ByteArg w a len cap) : Calls Tryd.prog 4 #[.slice a len cap] w (SsDr w) := by
  go_enter Tryd.func4, Tryd.ntmps4
  go_upto_region 1 with fail
  refine wp_gen (fun W => Below w.heap.size w W ∧ BoxP W w.heap.size (.slice none 0 0) (.slice none 0 0) ∧ BoxP W (w.heap.size + 1) (.slice none 0 0) (.slice none 0 0)) ⟨(by repeat (first | exact Below.refl _ _ | assumption | refine below_a ?_ _ | refine below_o ?_ _ | refine below_d ?_ | refine below_n ?_ _ | refine below_s ?_ (by first | (simp; done) | (simp; omega) | omega) _)), boxp_next (below_alloc _ _) (boxp_at rfl), boxp_at (by simp)⟩ ?_
  rintro W0 ⟨h1, h2, h3⟩
  have HB0 := hid h1
  have HZ0 := hid h2
  have HY0 := hid h3
  have hba := hid (hb.next h1)
  clear h1 h2 h3 hb
  go_wp2_with fail
  refine (open_any W0 a len cap hba.out).mono ?_
  rintro e w1 ⟨_, rfl, ⟨R, B, rfl, hR, hr⟩, hb⟩
  have HB1 := hid (below_next HB0.out hb)
  have HZ1 := hid (boxp_next hb HZ0.out)
  have HY1 := hid (boxp_next hb HY0.out)
  have HR1 := hid hr
  have hRw : w.heap.size + 1 < R := by have := HY0.out.1; omega
  have hRs := hr.lt
  clear HB0 HZ0 HY0 hba hb hr
  go_wp2_with fail
  refine (drawSys_any w1 R B 0 HR1.out (by omega)).mono ?_
  rintro e w2 ⟨v, s, p', rfl, hs, hbn, hnil, hb, hr2, hp'⟩
  obtain ⟨av, cv, bv, dv, rfl, q1, q2, q3, q4, q5, q6⟩ := id hs
  have HB2 := hid hb
  have HZ2 := hid (boxp_but hb (by omega) HZ1.out)
  have HY2 := hid (boxp_but hb (by omega) HY1.out)
  have hsz2 := hb.size
  have HS2 := hid hs
  have HR2 := hid hr2
  have HBN := hid hbn
  have HNI := hid hnil
  clear HZ1 HY1 hb hs hr2 hbn hnil HR1 q1 q2 q3 q4 q5 q6
  have h0 := below_alloc w2 (.cells #[.slice av s.init.length cv, .slice bv s.procs.length dv] 26)
  have HB3 := hid (HB2.out.next h0)
  have HZ3 := hid (boxp_next h0 HZ2.out)
  have HY3 := hid (boxp_next h0 HY2.out)
  have HS3 := hid (HS2.out.below h0)
  have HR3 := hid (HR2.out.next h0)
  have X3 := hid (boxp_at (w := w2) (B := w2.heap.size) (a := .slice av s.init.length cv) (b := .slice bv s.procs.length dv) (t := 26) rfl)
  have hs3 := h0.size
  clear h0 HB2 HZ2 HY2 HS2 HR2
  go_upto_region 3 with fail
  obtain ⟨O5, hO5⟩ : ∃ O, O = w2.heap.size := ⟨_, rfl⟩
  rw [← hO5] at X3 ⊢
  have hO5R : R < O5 := by omega
  clear hO5
  generalize w2.alloc (.cells #[.slice av s.init.length cv, .slice bv s.procs.length dv] 26) = w3 at *
  go_wp2_with fail
  refine (pick_any B _ w3 R p' HR3.out (by omega) (by omega) (by omega)).mono ?_
  rintro e w4 ⟨i, rfl, _, hb, hr4⟩
  have HB4 := hid (HB3.out.trans hb)
  have HZ4 := hid (boxp_but hb (by omega) HZ3.out)
  have HY4 := hid (boxp_but hb (by omega) HY3.out)
  have HS4 := hid (HS3.out.frame (q := fun b => w1.heap.size < b) hb.size (fun b hb1 hl => ⟨hb1, hb.block b hl (by omega)⟩))
  have X4 := hid (boxp_but hb (by omega) X3.out)
  have HR4 := hid hr4
  clear hb hr4 HB3 HZ3 HY3 HS3 X3 HR3
  obtain ⟨x0, x1, x2, x3, x4⟩ := X4.out
  have Rdd := hid (HR4.out.next (below_d (Below.refl w4.heap.size w4)))
  have K := hid ((KeepP.refl [O5] w4).drew)
  have hzO : w.heap.size ≠ O5 := by omega
  have hyO : w.heap.size + 1 ≠ O5 := by omega
  have hRO : R ≠ O5 := by omega
  have FIN := hid (fun (W : World) (M : But w4 R W) (t : Sy) (y : Value) (hy : SyIn (fun b => w4.heap.size < b) W t y) (u0 u1 u2 u3 : Value) => show (BoxP W w.heap.size (.slice none 0 0) (.slice none 0 0) ∧ BoxP W (w.heap.size + 1) (.slice none 0 0) (.slice none 0 0)) ∧ SsDr w (.returned (.tuple #[.agg #[.slice av s.init.length cv, .slice bv s.procs.length dv], y])) ((((W.setCell ⟨w.heap.size, 0, none⟩ u0).setCell ⟨w.heap.size, 1, none⟩ u1).setCell ⟨w.heap.size + 1, 0, none⟩ u2).setCell ⟨w.heap.size + 1, 1, none⟩ u3) from by
    have hw4 := HB4.out.size
    exact ⟨⟨boxp_but M (by omega) HZ4.out, boxp_but M (by omega) HY4.out⟩, ss_last (HS4.out.frame M.size (fun b hb1 hl => ⟨by omega, M.block b hl (by omega)⟩)) (hy.frame (Nat.le_refl _) (fun b hb1 _ => ⟨by omega, rfl⟩)) (below_butS HB1.out (HB4.out.trans M) (by omega))⟩)
  by_cases hi : i = 0
  · subst hi
    go_wp2_with fail
    refine wp_region_ord (C := fun wZ => ∃ xZ, wZ = World.overP _ ([O5]) xZ) [0,1] (.one 2 (.one 3 (.fre 4 .done))) [4] (by kernel_rfl) (by kernel_rfl) (fun d _ _ _ _ h => by cases d <;> exact h) (KeepP.refl _ _).drew.ex ?_; simp only [pick, List.getElem?_cons_succ, List.getElem?_cons_zero]; (repeat (go_big_quiet_step (fail))); refine wpQuiet_nil ?_; simp only [ordW, pick, List.getElem?_cons_succ, List.getElem?_cons_zero]
    have hd := below_d (Below.refl w4.heap.size w4)
    go_wp2_with fail
    refine (drawSys_any w4.drew R B (p' + 1) Rdd.out (by omega)).mono ?_
    rintro e w5 ⟨v, t, p5, rfl, ht, _, _, hb, _, _⟩
    obtain ⟨at', ct, bt, dt, rfl, _⟩ := id ht
    have K5 := hid (K.out.trans (KeepP.but hb (by simp; exact hRO)))
    have F5 := hid (FIN.out w5 ((But.of hd).trans hb) t _ ht)
    have F6 := hid (F5.out (.slice av s.init.length cv) (.slice bv s.procs.length dv) (.slice at' t.init.length ct) (.slice bt t.procs.length dt))
    have K6 := hid ((K5.out.set (a := ⟨w.heap.size, 0, none⟩) (by simp; exact hzO) (.slice av s.init.length cv)).set (a := ⟨w.heap.size, 1, none⟩) (by simp; exact hzO) (.slice bv s.procs.length dv))
    have Z6 := hid F6.out.1.1
    have Y6 := hid F6.out.1.2
    have ZZ := hid (boxp_set (boxp_set (boxp_set1 (boxp_set0 Z6.out (.slice av s.init.length cv)) (.slice bv s.procs.length dv)) (p := ⟨w.heap.size + 1, 0, none⟩) (show w.heap.size ≠ w.heap.size + 1 by omega) (.slice at' t.init.length ct)) (p := ⟨w.heap.size + 1, 1, none⟩) (show w.heap.size ≠ w.heap.size + 1 by omega) (.slice bt t.procs.length dt))
    have YY := hid (boxp_set1 (boxp_set0 (boxp_set (boxp_set Y6.out (p := ⟨w.heap.size, 0, none⟩) (show w.heap.size + 1 ≠ w.heap.size by omega) (.slice av s.init.length cv)) (p := ⟨w.heap.size, 1, none⟩) (show w.heap.size + 1 ≠ w.heap.size by omega) (.slice bv s.procs.length dv)) (.slice at' t.init.length ct)) (.slice bt t.procs.length dt))
    have FF := hid F6.out.2
    clear hb ht hd F5 F6 FIN K Rdd HB4 HZ4 HY4 HS4 X4 HR4 HB1 HBN HNI x0 x1 x2 x3 x4
    obtain ⟨z0, z1, z2, z3, z4⟩ := Z6.out
    obtain ⟨y0, y1, y2, y3, y4⟩ := Y6.out
    go_wp2_with fail
    refine ⟨K5.out.ex, ?_⟩
    go_wp2_with fail
    refine ⟨K6.out.ex, ?_⟩
    go_wp2_with fail
    obtain ⟨_, u1, u2, _⟩ := ZZ.out
    obtain ⟨_, v1, v2, _⟩ := YY.out
    refine bodyPost_ret (v := .tuple #[.agg #[.slice av s.init.length cv, .slice bv s.procs.length dv], .agg #[.slice at' t.init.length ct, .slice bt t.procs.length dt]]) (by simp [results, Tryd.results4, go_sem, u1, u2, v1, v2]) rfl ?_
    exact FF.out
  · have hi2 : (i == 0) = false := by simpa using hi
    go_wp2_with fail
    refine wp_region_ord (C := fun wZ => ∃ xZ, wZ = World.overP _ ([O5]) xZ) [0,1,2,3] (.one 4 (.one 5 (.one 6 (.fre 7 .done)))) [7] (by kernel_rfl) (by kernel_rfl) (fun d _ _ _ _ h => by cases d <;> exact h) (KeepP.refl _ _).drew.ex ?_; simp only [pick, List.getElem?_cons_succ, List.getElem?_cons_zero]; (repeat (go_big_quiet_step (fail))); refine wpQuiet_nil ?_; simp only [ordW, pick, List.getElem?_cons_succ, List.getElem?_cons_zero]
    have hd := below_d (Below.refl w4.heap.size w4)
    go_wp2_with fail
    refine (mutSys_any s w4.drew _ R B (p' + 1) 31 5 ((HS4.out.below hd).frame (Nat.le_refl _) fun _ _ _ => ⟨trivial, rfl⟩) HNI.out HBN.out (by omega) (by omega) Rdd.out (by omega)).mono ?_
    rintro e w5 ⟨v, t, p5, rfl, ht, ⟨hbt, _⟩, hnt, hb, hr5, hp5⟩
    obtain ⟨at', ct, bt, dt, rfl, _⟩ := id ht
    have K5 := hid (K.out.trans (KeepP.but hb (by simp; exact hRO)))
    have hb5 : But w4 R w5 := (But.of hd).trans hb
    have HT5 := hid (show SyIn Any w5 t _ from ht.frame (Nat.le_refl _) fun _ _ _ => ⟨trivial, rfl⟩)
    have HR5 := hid hr5
    have HNT := hid hnt
    have HBT := hid hbt
    clear hb ht hr5 hnt hbt x0 x1 x2 x3 x4
    go_wp2_with fail
    refine ⟨K5.out.ex, ?_⟩
    go_wp2_with fail
    refine (mutSys_any t w5 _ R B p5 (32 * 31) (5 + 1) HT5.out HNT.out HBT.out (by omega) (by omega) HR5.out (by omega)).mono ?_
    rintro e w6 ⟨v, t2, p6, rfl, ht, _, _, hb, _, _⟩
    obtain ⟨at2, ct2, bt2, dt2, rfl, _⟩ := id ht
    have K5b := hid (K5.out.trans (KeepP.but hb (by simp; exact hRO)))
    have hs5 := hb5.size
    have F5 := hid (FIN.out w6 (hb5.trans hb) t2 _ (ht.frame (Nat.le_refl _) fun b hb1 _ => ⟨by omega, rfl⟩))
    have F6 := hid (F5.out (.slice av s.init.length cv) (.slice bv s.procs.length dv) (.slice at2 t2.init.length ct2) (.slice bt2 t2.procs.length dt2))
    have K6 := hid ((K5b.out.set (a := ⟨w.heap.size, 0, none⟩) (by simp; exact hzO) (.slice av s.init.length cv)).set (a := ⟨w.heap.size, 1, none⟩) (by simp; exact hzO) (.slice bv s.procs.length dv))
    have Z6 := hid F6.out.1.1
    have Y6 := hid F6.out.1.2
    have ZZ := hid (boxp_set (boxp_set (boxp_set1 (boxp_set0 Z6.out (.slice av s.init.length cv)) (.slice bv s.procs.length dv)) (p := ⟨w.heap.size + 1, 0, none⟩) (show w.heap.size ≠ w.heap.size + 1 by omega) (.slice at2 t2.init.length ct2)) (p := ⟨w.heap.size + 1, 1, none⟩) (show w.heap.size ≠ w.heap.size + 1 by omega) (.slice bt2 t2.procs.length dt2))
    have YY := hid (boxp_set1 (boxp_set0 (boxp_set (boxp_set Y6.out (p := ⟨w.heap.size, 0, none⟩) (show w.heap.size + 1 ≠ w.heap.size by omega) (.slice av s.init.length cv)) (p := ⟨w.heap.size, 1, none⟩) (show w.heap.size + 1 ≠ w.heap.size by omega) (.slice bv s.procs.length dv)) (.slice at2 t2.init.length ct2)) (.slice bt2 t2.procs.length dt2))
    have FF := hid F6.out.2
    clear hb ht hd F5 F6 FIN K Rdd HB4 HZ4 HY4 HS4 X4 HR4 HB1 HBN HNI HT5 HR5 HNT HBT hb5
    obtain ⟨z0, z1, z2, z3, z4⟩ := Z6.out
    obtain ⟨y0, y1, y2, y3, y4⟩ := Y6.out
    go_wp2_with fail
    refine ⟨K5b.out.ex, ?_⟩
    go_wp2_with fail
    refine ⟨K6.out.ex, ?_⟩
    go_wp2_with fail
    obtain ⟨_, u1, u2, _⟩ := ZZ.out
    obtain ⟨_, v1, v2, _⟩ := YY.out
    refine bodyPost_ret (v := .tuple #[.agg #[.slice av s.init.length cv, .slice bv s.procs.length dv], .agg #[.slice at2 t2.init.length ct2, .slice bt2 t2.procs.length dt2]]) (by simp [results, Tryd.results4, go_sem, u1, u2, v1, v2]) rfl ?_
    exact FF.out
end Sys
end Go.Proofs.YtgopfjnpjkpelaaDoor
namespace Go.Proofs.YtgopfjnpjkpelaaDoor
open Go.RowKit

namespace Expr

/-! ### toExpr: a copy, in new memory -/

theorem Small_mk {k v : Int} {kids : List Tr} (h : Small (.mk k v kids)) : kids.length ≤ 1048576 ∧ SmallL kids := h

/-- the zero node's cells, n times -/
theorem info : (Tryd.prog.info? 45).map (fun i => (i.zero, i.size, i.bytes)) = some (some (.agg #[.int .i64 0, .int .i64 0, .slice none 0 0]), 3, 40) := by kernel_rfl
def zeros (n : Nat) : Array Value := madeCells #[.int .i64 0, .int .i64 0, .slice none 0 0] (n * 3)
theorem make_row (n : Nat) (h : n ≤ 1048576) (w : World) : (Instr.makeSlice 43 (.int .i64 (n : Int)) (.int .i64 (n : Int))).run Tryd.prog w =
    .ok (.slice (some ⟨w.heap.size, 0, none⟩) n n) (w.alloc (.cells (zeros n) 45)) := by
  obtain ⟨i, hi, hz, h1, h2⟩ := info_parts info
  have := run_make (P := Tryd.prog) w 43 45 i _ Tryd.underlying43 hi hz .i64 .i64 n n (by omega) (by omega) (by rw [h2]; omega) (by omega)
  rw [this, h1]
  simp [zeros, Value.cells]

/-! ### eqExpr -/

end Expr
end Go.Proofs.YtgopfjnpjkpelaaDoor
namespace Go.Proofs.YtgopfjnpjkpelaaDoor
open Go.RowKit
namespace Edge

def szE (e : Ed) (left : Int) : Int := if szT e.guard left < 0 then -1 else if szT e.val (szT e.guard left) < 0 then -1 else szT e.val (szT e.guard left)
theorem szE_bd (e : Ed) (left : Int) (h1 : -1 ≤ left) (h2 : left ≤ 1048576) : -1 ≤ szE e left ∧ szE e left ≤ 1048576 := by
  have h3 := szT_bd e.guard left h1 h2
  have h4 := szT_bd e.val (szT e.guard left) h3.1 h3.2
  unfold szE
  split
  · omega
  · split <;> omega
def SmallE (e : Ed) : Prop := Small e.guard ∧ Small e.val
theorem smallE_of_sz (e : Ed) (left : Int) (h1 : -1 ≤ left) (h2 : left ≤ 1048576) (h : 0 ≤ szE e left) : SmallE e := by
  have h3 := szT_bd e.guard left h1 h2
  unfold szE at h
  split at h
  · omega
  · split at h
    · omega
    · exact ⟨small_of_sz _ left h2 (by omega), small_of_sz _ _ h3.2 (by omega)⟩

theorem calls_q {P : Program} {f : FuncId} {args : Array Value} {w : World} {q q' : Bool} (hq : q' = q) (h : Calls P f args w (Ret (.bool q) w)) : Calls P f args w (Ret (.bool q') w) := by rw [hq]; exact h
/-- are two edges equal -/
def eqE (e f : Ed) : Bool := decide (e.src = f.src) && (decide (e.dst = f.dst) && (eqT e.guard f.guard && (decide (e.var = f.var) && (eqT e.val f.val && decide (e.sync = f.sync)))))
theorem eqE_refl (e : Ed) : eqE e e = true := by simp [eqE, eqT_refl]
theorem eqE_true (e f : Ed) : eqE e f = true ↔ e = f := by
  cases e; cases f
  simp [eqE, eqT_true, Bool.and_eq_true]

end Edge
end Go.Proofs.YtgopfjnpjkpelaaDoor
namespace Go.Proofs.YtgopfjnpjkpelaaDoor
open Go.RowKit

/-- what a copy comes to -/
def NewInts (l : List Int) (B : Nat) (v : Value) (w' : World) : Prop := v = .slice (some ⟨B, 0, none⟩) l.length l.length ∧ Row w' B l.length (fun i => .int .i64 (l.getD i 0))

/-- a row of numbers, asked number by number -/
theorem ints_drop {l m : List Int} {k : Nat} (hk : k < l.length) (hk' : k < m.length) (h : (l.drop k == m.drop k) = (l == m)) : (l == m) = ((l[k] == m[k]) && (l.drop (k + 1) == m.drop (k + 1))) := by
  rw [← h, List.drop_eq_getElem_cons hk, List.drop_eq_getElem_cons hk']
  rfl

end Go.Proofs.YtgopfjnpjkpelaaDoor
namespace Go.Proofs.YtgopfjnpjkpelaaDoor
mutual
theorem szT_eq : ∀ (t : Tr) (left : Int), 0 ≤ szT t left → szT t left = left - nodesL t.kids
  | .mk k v kids, left, h => by
    simp only [szT, Tr.kids] at h ⊢
    split at h
    · omega
    · rename_i hn
      rw [if_neg hn]
      have := szL_eq kids (left - kids.length) (by omega)
      omega
theorem szL_eq : ∀ (l : List Tr) (left : Int), 0 ≤ szL l left → szL l left = left + l.length - nodesL l
  | [], left, h => by
    simp only [szL, nodesL] at h ⊢
    split at h
    · omega
    · rename_i hn; rw [if_neg hn]; simp
  | t :: ts, left, h => by
    simp only [szL, nodesL] at h ⊢
    split at h
    · omega
    · rename_i hn
      rw [if_neg hn]
      by_cases h0 : szT t left < 0
      · rw [szL_neg _ _ h0] at h; omega
      · have h1 := szL_eq ts _ h
        have h2 := szT_eq t left (by omega)
        have h3 : nodes t = 1 + nodesL t.kids := by cases t; simp [nodes, Tr.kids]
        rw [h1, h2, h3]
        simp only [List.length_cons]
        omega
end
theorem nodesL_kids (t : Tr) : nodes t = 1 + nodesL t.kids := by cases t; simp [nodes, Tr.kids]
end Go.Proofs.YtgopfjnpjkpelaaDoor
namespace Go.Proofs.YtgopfjnpjkpelaaDoor
open Go.RowKit
namespace Sys

theorem szE_ok : SzOk Edge.szE := fun e left h1 h2 => Edge.szE_bd e left h1 h2
def szEs (l : List Ed) (left : Int) : Int := szG Edge.szE l (left - l.length)
def szP (q : Pr) (left : Int) : Int := if szEs q.edges left < 0 then -1 else szEs q.edges left
theorem szP_eq (q : Pr) (left : Int) (h : left ≤ 1048576) : szP q left = szEs q.edges left := by
  have := szG_bd szE_ok q.edges (left - q.edges.length) (by omega)
  unfold szP szEs
  split <;> omega
theorem szP_ok : SzOk szP := fun q left _ h2 => by
  rw [szP_eq q left h2]
  exact szG_bd szE_ok q.edges (left - q.edges.length) (by omega)
def szPs (l : List Pr) (left : Int) : Int := szG szP l (left - l.length)
def szI (l : List Int) (left : Int) : Int := if left - l.length < 0 then -1 else left - l.length
def szS (s : Sy) (left : Int) : Int := if szI s.init left < 0 then -1 else szPs s.procs (szI s.init left)
theorem szS_bd (s : Sy) (left : Int) (_ : -1 ≤ left) (h2 : left ≤ 1048576) : -1 ≤ szS s left ∧ szS s left ≤ 1048576 := by
  unfold szS
  split
  · omega
  · refine szG_bd szP_ok _ _ ?_
    unfold szI; split <;> omega

/-- how many numbers are in it -/
def cE (e : Ed) : Int := nodesL e.guard.kids + nodesL e.val.kids
def cP (q : Pr) : Int := q.edges.length + sumC cE q.edges
def cS (s : Sy) : Int := s.init.length + s.procs.length + sumC cP s.procs
theorem cE_eq (e : Ed) (left : Int) (h1 : -1 ≤ left) (h2 : left ≤ 1048576) (h : 0 ≤ Edge.szE e left) : Edge.szE e left = left - cE e := by
  have hb := szT_bd e.guard left h1 h2
  unfold Edge.szE at h ⊢
  split at h
  · omega
  · rename_i k1
    split at h
    · omega
    · rename_i k2
      rw [if_neg k1, if_neg k2, szT_eq _ _ (by omega), szT_eq e.guard left (by omega)]
      unfold cE; omega
theorem cP_eq (q : Pr) (left : Int) (_ : -1 ≤ left) (h2 : left ≤ 1048576) (h : 0 ≤ szP q left) : szP q left = left - cP q := by
  rw [szP_eq q left h2] at h ⊢
  unfold szEs at h ⊢
  rw [szG_eq szE_ok cE_eq _ _ (by omega) h]
  unfold cP; omega
theorem cE_nonneg (e : Ed) : 0 ≤ cE e := by
  have := nodesL_pos e.guard.kids
  have := nodesL_pos e.val.kids
  unfold cE; omega
theorem cP_nonneg (q : Pr) : 0 ≤ cP q := by
  have := sumC_nonneg cE_nonneg q.edges
  unfold cP; omega
/-- a system not too large -/
structure SmallS (s : Sy) : Prop where
  init : s.init.length ≤ 1048576
  procs : s.procs.length ≤ 1048576
  edges : ∀ q, q ∈ s.procs → q.edges.length ≤ 1048576 ∧ ∀ e, e ∈ q.edges → Edge.SmallE e
  all : cS s ≤ 1048576
theorem small_of_sz (s : Sy) (h : 0 ≤ szS s 1048576) : SmallS s := by
  unfold szS at h
  split at h
  · omega
  · rename_i hi
    unfold szI at hi h
    split at hi
    · omega
    · rename_i hi2
      rw [if_neg hi2] at h
      unfold szPs at h
      have e := szG_eq szP_ok cP_eq _ _ (by omega) h
      have hn := sumC_nonneg cP_nonneg s.procs
      refine ⟨by omega, by omega, fun q hq => ?_, by unfold cS; omega⟩
      obtain ⟨lf, k1, k2, k3⟩ := szG_mem szP_ok _ _ (by omega) h hq
      have e2 := cP_eq q lf k1 k2 k3
      rw [szP_eq q lf k2] at k3
      unfold szEs at k3
      have hn2 := sumC_nonneg cE_nonneg q.edges
      refine ⟨by rw [cP] at e2; rw [szP_eq q lf k2] at e2; unfold szEs at e2; omega, fun x hx => ?_⟩
      obtain ⟨lf2, j1, j2, j3⟩ := szG_mem szE_ok _ _ (by omega) k3 hx
      exact Edge.smallE_of_sz x lf2 j1 j2 j3

/-- a variable of two cells -/
abbrev Box2 (w : World) (B : Nat) (a b : Value) : Prop := B < w.heap.size ∧ w.cell? ⟨B, 0, none⟩ = some a ∧ w.cell? ⟨B, 1, none⟩ = some b ∧ w.frozen? ⟨B, 0, none⟩ = false ∧ w.frozen? ⟨B, 1, none⟩ = false
theorem box2_next {w w' : World} (h : Below w.heap.size w w') {B : Nat} {a b : Value} (hb : Box2 w B a b) : Box2 w' B a b :=
  ⟨Nat.lt_of_lt_of_le hb.1 h.size, by rw [h.cell (p := ⟨B, 0, none⟩) hb.1]; exact hb.2.1, by rw [h.cell (p := ⟨B, 1, none⟩) hb.1]; exact hb.2.2.1,
    by rw [h.frozen (p := ⟨B, 0, none⟩) hb.1]; exact hb.2.2.2.1, by rw [h.frozen (p := ⟨B, 1, none⟩) hb.1]; exact hb.2.2.2.2⟩
theorem box2_at {w : World} {B : Nat} {a b : Value} {t : TypeId} (h : B = w.heap.size) : Box2 (w.alloc (.cells #[a, b] t)) B a b := by subst h; exact ⟨by simp, by simp, by simp, by simp, by simp⟩
theorem box2_set0 {w : World} {B : Nat} {a b : Value} (h : Box2 w B a b) (v : Value) : Box2 (w.setCell ⟨B, 0, none⟩ v) B v b :=
  ⟨by simpa using h.1, World.cell?_setCell_same _ _ _ h.2.1, by rw [World.cell?_setCell_other _ _ _ _ (by simp)]; exact h.2.2.1, by simpa using h.2.2.2.1, by simpa using h.2.2.2.2⟩
theorem box2_set1 {w : World} {B : Nat} {a b : Value} (h : Box2 w B a b) (v : Value) : Box2 (w.setCell ⟨B, 1, none⟩ v) B a v :=
  ⟨by simpa using h.1, by rw [World.cell?_setCell_other _ _ _ _ (by simp)]; exact h.2.1, World.cell?_setCell_same _ _ _ h.2.2.1, by simpa using h.2.2.2.1, by simpa using h.2.2.2.2⟩
theorem box2_block {w w' : World} (hs : w.heap.size ≤ w'.heap.size) {B : Nat} {a b : Value} (he : w'.heap[B]? = w.heap[B]?) (hb : Box2 w B a b) : Box2 w' B a b :=
  ⟨Nat.lt_of_lt_of_le hb.1 hs, by rw [World.cell?_of_block (w := w) (a := ⟨B, 0, none⟩) he]; exact hb.2.1, by rw [World.cell?_of_block (w := w) (a := ⟨B, 1, none⟩) he]; exact hb.2.2.1,
    by rw [World.frozen?_of_block (w := w) (a := ⟨B, 0, none⟩) he]; exact hb.2.2.2.1, by rw [World.frozen?_of_block (w := w) (a := ⟨B, 1, none⟩) he]; exact hb.2.2.2.2⟩
theorem box2_but {w w' : World} {D : Nat} (h : But w D w') {B : Nat} {a b : Value} (hd : B ≠ D) (hb : Box2 w B a b) : Box2 w' B a b := box2_block h.size (h.block B hb.1 hd) hb

end Sys
end Go.Proofs.YtgopfjnpjkpelaaDoor
namespace Go.Proofs.YtgopfjnpjkpelaaDoor
open Go.RowKit
set_option linter.unusedVariables false
namespace Sys

def eqEs : List Ed → List Ed → Bool := eqG Edge.eqE
def eqP (p q : Pr) : Bool := decide (p.locs = q.locs) && eqEs p.edges q.edges
def eqPs : List Pr → List Pr → Bool := eqG eqP
def eqS (s t : Sy) : Bool := (s.init == t.init) && eqPs s.procs t.procs
theorem eqEs_true (l m : List Ed) : eqEs l m = true ↔ l = m := eqG_true Edge.eqE_true l m
theorem eqP_true (p q : Pr) : eqP p q = true ↔ p = q := by
  cases p; cases q
  simp [eqP, eqEs_true]
theorem eqS_true (s t : Sy) : eqS s t = true ↔ s = t := by
  cases s; cases t
  simp [eqS, eqPs, eqG_true eqP_true]
theorem eqS_refl (s : Sy) : eqS s s = true := (eqS_true s s).2 rfl

end Sys
end Go.Proofs.YtgopfjnpjkpelaaDoor
