/- Joined texts (EvalLS, FormulaImplC, FormulaImplV, FormulaImplN): contracts and plain laws. Conditions: those of each theorem. -/
import Derived.Test.YtbeljjalfhogdaaJL7
import Derived.Test.YtbeljjalfhogdaaJL9
import Derived.Test.YtbeljjalfhogdaaJL3
namespace Go.Proofs.Ytbeljjalfhogdaa
open Go.RowKit
namespace Lasso

theorem OwnK.made (w : World) (n : Nat) : OwnK w.heap.size (.slice (some ⟨w.heap.size, 0, none⟩) 0 0) n [] (w.alloc (.cells #[] 50)) := ⟨[], rfl, by simpa using World.ownsRow_made (e := 50) (size := 1) (base := w.heap.size) w #[] 0 (Nat.le_refl _) (by simp) (by simp), by simp⟩
def EvT (stem loop : List Int) (t : Tr) : Prop := ∀ (m : Nat) (w : World) (x y : Value), formL.shape t m = true → TrIn Any w t y → PairIn Any w stem loop x →
  Calls Try.prog 38 #[x, y] w (NewB (stem.length + loop.length) (sem (wordOf stem loop) t) w)

set_option maxRecDepth 100000 in
set_option maxHeartbeats 4000000 in
theorem ev_of (stem loop : List Int) (hokB : ok stem loop = true) (k v : Int) (kids : List Tr) (h : ∀ t, t ∈ kids → EvT stem loop t) : EvT stem loop (.mk k v kids) := by
  intro m w x y hs hy hx
  obtain ⟨l1, l2, l3, l4⟩ := ok_len hokB
  have hok : LasOk stem loop := ⟨l1, l2, l3, l4⟩
  have HSH := hid (formL.shape_mk hs)
  have hkn : kids.length ≤ 2 := by
    obtain ⟨_, _, _, _, _, _, har, _⟩ := HSH.out
    rw [formL_ar] at har
    have : (kids.length : Int) ≤ 2 := by rw [har]; split; omega; split <;> omega
    omega
  have HX := hid hx
  rw [TrIn_mk] at hy
  obtain ⟨ak, nk, ck, rfl, hk, hv, rfl, hc, hc2, hks⟩ := hy
  have HKS := hid hks
  obtain ⟨a, b, c, d, rfl, _, _, hcs, hcs2, hds, hds2⟩ := hx
  have HSEM := hid (show sem (wordOf stem loop) (.mk k v kids) = semN (wordOf stem loop) k v (kids.map (sem (wordOf stem loop))) by rw [sem, semL_map])
  have HLET := hid (fun (i : Nat) (hi : i < stem.length + loop.length) (w' : World) (M : Below w.heap.size w w') => specLetter_any stem loop hokB i (by omega) w' _ (HX.out.below M))
  have HWL := hid (fun (i : Nat) (hi : i < stem.length + loop.length) => show 0 ≤ wordOf stem loop i ∧ wordOf stem loop i ≤ 7 by
    rw [wordOf_all hi]; exact l4 _ (getD_mem (by simpa using hi)))
  have hatom : k = 2 → 0 ≤ v ∧ v ≤ 2 := by
    rintro rfl
    obtain ⟨_, _, _, _, h4, h5, _⟩ := HSH.out
    exact ⟨h4, by simpa [formL] using h5⟩
  clear hs hks hk hv hc2 l4
  have HPER := hid (fun (f : Nat → Bool) (hf : f ∈ kids.map (sem (wordOf stem loop))) => show Per stem.length loop.length f by
    obtain ⟨t, _, rfl⟩ := List.mem_map.1 hf
    exact sem_per (wordOf_per stem loop) t)
  have HFIX := hid (fun least fa fb F hs w ra rb => specFix_any stem.length loop.length least fa fb F hs w ra rb a b c d l1 l3 l2)
  have HFU := hid (fun (a b : Nat → Bool) (ha : Per stem.length loop.length a) (hb : Per stem.length loop.length b) => show FixSol (stem.length + loop.length) (nx stem.length loop.length) (!true) (fh true a b) (unt a b) from fix_unt l2 ha hb)
  have HFR := hid (fun (a b : Nat → Bool) (ha : Per stem.length loop.length a) (hb : Per stem.length loop.length b) => show FixSol (stem.length + loop.length) (nx stem.length loop.length) (!false) (fh false a b) (rls a b) from fix_rls l2 ha hb)
  generalize hfs : kids.map (sem (wordOf stem loop)) = fs at *
  have HFS := hid hfs
  have HH := hid (fun t ht m w x y hs hy hx => h t ht m w x y hs hy hx)
  clear hfs h hok hokB
  generalize wordOf stem loop = wd at *
  generalize hN : stem.length + loop.length = n at *
  have hN1 := hid hN
  have hmk := make_bools n (by omega)
  have hn1 : n ≤ 160 := by omega
  clear hN
  have HLEN := hid (show (stem.length : Int) + loop.length = n by have := hN1.out; omega)
  have f0 : IntKind.i64.wrap ((stem.length : Int) + loop.length) = n := by rw [HLEN.out]; exact IntWalk.i64_in _ (by omega)
  go_enter Try.func38, Try.ntmps38
  go_wp2_with fail
  obtain ⟨W0, HW0⟩ : ∃ W0 : World, Hid (W0 = (w.alloc (.cells #[.slice a stem.length c, .slice b loop.length d] 25)).alloc (.cells #[.int .i64 k, .int .i64 v, .slice ak kids.length ck] 29)) := ⟨_, hid rfl⟩
  have hs0 : W0.heap.size = w.heap.size + 2 := by rw [HW0.out]; simp
  have Q2 := hid (show PBox W0 w.heap.size (.slice a stem.length c) (.slice b loop.length d) by rw [HW0.out]; exact pbox_next (below_alloc _ _) (pbox_at rfl))
  have Q3 := hid (show Box3 W0 (w.heap.size + 1) (.int .i64 k) (.int .i64 v) (.slice ak kids.length ck) by rw [HW0.out]; exact box3_at (by simp))
  have B0 := hid (show Below w.heap.size w W0 by rw [HW0.out]; exact below_next (below_alloc _ _) (below_alloc _ _))
  have HM := hid (show OwnK (w.heap.size + 2) (.slice (some ⟨w.heap.size + 1 + 1, 0, none⟩) 0 0) n [] (W0.alloc (.cells #[] 50)) by have := OwnK.made W0 n; rw [hs0] at this; exact this)
  have HB0 := hid (show Below W0.heap.size W0 (W0.alloc (.cells #[] 50)) from below_alloc _ _)
  have HHS := hid hs0
  rw [hs0] at HB0
  rw [HW0.out] at HM HB0
  clear hs0
  go_loopw [6, 7] (fun kv i wr => ∃ (j : Nat) (u : Value), j ≤ kids.length ∧ i = .int .i64 j ∧ u = kv ∧ Hid (Below (w.heap.size + 2) W0 wr) ∧ Hid (OwnK (w.heap.size + 2) u n (fs.take j) wr)) (fun _ i _ => kids.length - (intOf i).toNat)
  case atStart => exact ⟨0, _, Nat.zero_le _, rfl, rfl, hid (by rw [HW0.out]; simpa using HB0.out), hid (by simpa using HM.out)⟩
  case round =>
    obtain ⟨j, u, hj, rfl, rfl, BK, hown⟩ := hrel
    have BKW := hid (show Below W0.heap.size W0 wr by rw [HHS.out]; exact BK.out)
    have BB := hid (below_next B0.out BKW.out)
    have hsz := BKW.out.size
    rw [HHS.out] at hsz
    obtain ⟨p1, p2, p3, _⟩ := pbox_next BKW.out Q2.out
    obtain ⟨e1, e2, e3, e4, _⟩ := box3_next BKW.out Q3.out
    by_cases hlt : j < kids.length
    · obtain ⟨bk, ok', c0, c10, c20, t, rfl, gb, g0, g1, g2, hT⟩ := TrsIn_round HKS.out BB.out hlt
      obtain ⟨a4, n4, hsh⟩ := TrIn_shape hT.out.1
      simp only [Value.agg.injEq, Array.mk.injEq, List.cons.injEq, and_true] at hsh
      obtain ⟨rfl, rfl, rfl⟩ := hsh
      have HT := hid hT
      have hlt2 : (j : Int) < (kids.length : Int) := by omega
      have HB := hid (HH.out t hT.out.2.1)
      obtain ⟨bo, oo, he, hbo, _⟩ := TrsIn_addr HKS.out (by omega)
      obtain ⟨rfl, rfl⟩ : bk = bo ∧ ok' = oo := by simpa using he
      clear he
      obtain ⟨D, hD1, hD3⟩ : ∃ D, w.heap.size + 2 ≤ D ∧ ∀ k, u.ownBlock = some k → k = D := by
        cases hu : u.ownBlock with
        | none => exact ⟨wr.heap.size, by omega, by simp⟩
        | some k => have := hown.out.lt k hu; exact ⟨k, by omega, by simp⟩
      clear hT
      have hP0 : ∀ x, (wr.overX wr.heap.size D x).cell? ⟨w.heap.size, 0, none⟩ = some (.slice a stem.length c) := fun x => by
        rw [overX_cell _ _ _ _ _ _ (by omega) (by omega)]; exact p2
      have hP1 : ∀ x, (wr.overX wr.heap.size D x).cell? ⟨w.heap.size, 1, none⟩ = some (.slice b loop.length d) := fun x => by
        rw [overX_cell _ _ _ _ _ _ (by omega) (by omega)]; exact p3
      have hE2 : ∀ x, (wr.overX wr.heap.size D x).cell? ⟨w.heap.size + 1, 2, none⟩ = some (.slice (some ⟨bk, ok', none⟩) kids.length ck) := fun x => by
        rw [overX_cell _ _ _ _ _ _ (by omega) (by omega)]; exact e4
      have hG0 : ∀ x, (wr.overX wr.heap.size D x).cell? ⟨bk, ok' + j * 3, none⟩ = some (.int .i64 t.kind) := fun x => by
        rw [overX_cell _ _ _ _ _ _ (by omega) (by omega)]; exact g0
      have hG1 : ∀ x, (wr.overX wr.heap.size D x).cell? ⟨bk, ok' + j * 3 + 1, none⟩ = some (.int .i64 t.val) := fun x => by
        rw [overX_cell _ _ _ _ _ _ (by omega) (by omega)]; exact g1
      have hG2 : ∀ x, (wr.overX wr.heap.size D x).cell? ⟨bk, ok' + j * 3 + 2, none⟩ = some (.slice a4 t.kids.length n4) := fun x => by
        rw [overX_cell _ _ _ _ _ _ (by omega) (by omega)]; exact g2
      go_wp2_with fail
      refine wp_region_ord (C := fun wZ => ∃ xZ, wZ = World.overX _ (wr.heap.size) (D) xZ) [0,1,2,3,4,5,6] (.one 7 (.one 8 (.one 9 (.one 10 .done)))) [] (by kernel_rfl) (by kernel_rfl) (fun d _ _ _ _ h => by cases d <;> exact h) (ButX.refl _ _ _).drew.ex ?_; simp only [pick, List.getElem?_cons_succ, List.getElem?_cons_zero]; (repeat (go_big_quiet_step (fail))); refine wpQuiet_nil ?_; simp only [ordW, pick, List.getElem?_cons_succ, List.getElem?_cons_zero]
      obtain ⟨m2, _, _, _, _, _, har, hsk⟩ := HSH.out
      have hkl : (fs.take j).length ≤ 1000000 := by
        rw [List.length_take]
        omega
      have HSK := hid (hsk t HT.out.2.1)
      have hfst := hid (show fs.take (j + 1) = fs.take j ++ [sem wd t] by
        rw [List.take_add_one, ← HFS.out, List.getElem?_map, HT.out.2.2.2]; rfl)
      clear hsk har hP0 hP1 hE2 hG0 hG1 hG2 g0 g1 g2 p2 p3 e2 e3 e4
      have BW := hid (show Below wr.heap.size wr wr.drew from below_d (Below.refl _ _))
      go_wp2_with fail
      refine (HB.out m2 _ _ _ HSK.out (TrIn_below BW.out HT.out.1) (HX.out.below (below_next BB.out BW.out))).mono ?_
      rintro e w4 ⟨R, rfl, hR, hrow, hb4⟩
      have hR2 : wr.heap.size ≤ R := by simpa using hR
      have hs4 := hrow.1
      have x4 : ButX wr.heap.size D wr w4 := ButX.below (below_next BW.out hb4) (Nat.le_refl _)
      have K4 : Keep (w.heap.size + 2) wr w4 := Keep.below (below_next BW.out hb4)
      have B4 := hid (show Below (w.heap.size + 2) W0 w4 from BK.out.trans ((below_next BW.out hb4).mono hsz))
      clear hR
      go_wp2_with fail
      refine ⟨x4.ex, ?_⟩
      go_wp2_with fail
      refine ⟨(x4.next (below_alloc _ _) (by omega)).ex, ?_⟩
      refine wp_append_kid rfl (.tmp 27) (.tmp 35) rfl rfl rfl hown.out (by omega) K4 (by omega) hrow hkl ?_
      intro a5 n5 m5 w5 ho5 hb5 hbD
      have x5 : ButX wr.heap.size D wr w5 := x4.trans (ButX.but (hbD D hD3) (by omega))
      have B5 := hid (B4.out.trans hb5)
      rw [← hfst.out] at ho5
      have HO5 := hid ho5
      have hxx := x5.ex
      clear x4 x5 K4 hb4 hb5 hbD ho5 hrow hfst
      refine ⟨hxx, ?_⟩
      go_wp2_with fail
      refine ⟨hxx, ?_⟩
      go_wp2_with fail
      go_roundw
      case rel => exact ⟨j + 1, _, by omega, by go_num, rfl, hid B5.out, hid HO5.out⟩
      case measure => simp [intOf]; omega
    · have hjn : fs.take j = fs := by rw [List.take_of_length_le]; rw [← HFS.out, List.length_map]; omega
      rw [hjn] at hown
      have hlt2 : ¬ ((j : Int) < (kids.length : Int)) := by omega
      clear hjn
      obtain ⟨wo, rfl⟩ : ∃ wo : World, wo = wr := ⟨_, rfl⟩
      obtain ⟨_, _, hk1, hk2, _, _, har, _⟩ := HSH.out
      rw [formL_ar] at har
      have hfl : fs.length = kids.length := by rw [← HFS.out, List.length_map]
      by_cases k7 : k = 7
      · subst k7
        obtain ⟨f0, f1, rfl⟩ : ∃ f0 f1, fs = [f0, f1] := by
          have : fs.length = 2 := by simp at har; omega
          match fs, this with
          | [f0, f1], _ => exact ⟨f0, f1, rfl⟩
        obtain ⟨gk, cap, rfl, m1, m2, hrows⟩ := hown.out.rows (by simp)
        obtain ⟨ra, ca, rowa⟩ := hrows 0 f0 rfl
        obtain ⟨rb, cb, rowb⟩ := hrows 1 f1 rfl
        have HRB := hid rowb
        have HRA := hid rowa
        clear hrows rowa rowb
        have HSOL := hid (HFU.out f0 f1 (HPER.out f0 (by simp)) (HPER.out f1 (by simp)))
        have HS := hid (show semN wd 7 v [f0, f1] = unt f0 f1 by simp [semN])
        clear har hfl hown
        go_wp2_with fail
        refine wp_region_ord (C := fun wZ => ∃ xZ, wZ = World.over _ xZ) [0,1,2,3,4,5,6] (.one 7 (.one 8 .done)) [] (by kernel_rfl) (by kernel_rfl) (fun d _ _ _ _ h => by cases d <;> exact h) (bex (Below.refl _ _).drew) ?_; simp only [pick, List.getElem?_cons_succ, List.getElem?_cons_zero]; (repeat (go_big_quiet_step (fail))); refine wpQuiet_nil ?_; simp only [ordW, pick, List.getElem?_cons_succ, List.getElem?_cons_zero]
        go_wp2_with fail
        refine (HFIX.out true f0 f1 _ HSOL.out _ ra rb (Row.below HRA.out (below_d (Below.refl _ _))) (Row.below HRB.out (below_d (Below.refl _ _)))).mono ?_
        rintro e w2 ⟨R, rfl, hR, hrow, hb⟩
        have hR2 : wo.heap.size ≤ R := by simpa using hR
        have B2 := hid (below_next (below_d (Below.refl wo.heap.size wo)) hb)
        have HFIN := hid (show NewB n (sem wd (.mk 7 v kids)) w (.returned (.slice (some ⟨R, 0, none⟩) n n)) w2 from ⟨_, rfl, by omega, by rw [HSEM.out, HS.out]; exact hrow, below_next BB.out B2.out⟩)
        clear hb hrow hR
        go_wp2_with fail
        refine ⟨bex B2.out, ?_⟩
        go_wp2_with fail
        refine ⟨bex B2.out, ?_⟩
        go_wp2_with fail
        go_ret
        exact HFIN.out
      by_cases k8 : k = 8
      · subst k8
        obtain ⟨f0, f1, rfl⟩ : ∃ f0 f1, fs = [f0, f1] := by
          have : fs.length = 2 := by simp at har; omega
          match fs, this with
          | [f0, f1], _ => exact ⟨f0, f1, rfl⟩
        obtain ⟨gk, cap, rfl, m1, m2, hrows⟩ := hown.out.rows (by simp)
        obtain ⟨ra, ca, rowa⟩ := hrows 0 f0 rfl
        obtain ⟨rb, cb, rowb⟩ := hrows 1 f1 rfl
        have HRB := hid rowb
        have HRA := hid rowa
        clear hrows rowa rowb
        have HSOL := hid (HFR.out f0 f1 (HPER.out f0 (by simp)) (HPER.out f1 (by simp)))
        have HS := hid (show semN wd 8 v [f0, f1] = rls f0 f1 by simp [semN])
        clear har hfl hown
        go_wp2_with fail
        refine wp_region_ord (C := fun wZ => ∃ xZ, wZ = World.over _ xZ) [0,1,2,3,4,5,6] (.one 7 (.one 8 .done)) [] (by kernel_rfl) (by kernel_rfl) (fun d _ _ _ _ h => by cases d <;> exact h) (bex (Below.refl _ _).drew) ?_; simp only [pick, List.getElem?_cons_succ, List.getElem?_cons_zero]; (repeat (go_big_quiet_step (fail))); refine wpQuiet_nil ?_; simp only [ordW, pick, List.getElem?_cons_succ, List.getElem?_cons_zero]
        go_wp2_with fail
        refine (HFIX.out false f0 f1 _ HSOL.out _ ra rb (Row.below HRA.out (below_d (Below.refl _ _))) (Row.below HRB.out (below_d (Below.refl _ _)))).mono ?_
        rintro e w2 ⟨R, rfl, hR, hrow, hb⟩
        have hR2 : wo.heap.size ≤ R := by simpa using hR
        have B2 := hid (below_next (below_d (Below.refl wo.heap.size wo)) hb)
        have HFIN := hid (show NewB n (sem wd (.mk 8 v kids)) w (.returned (.slice (some ⟨R, 0, none⟩) n n)) w2 from ⟨_, rfl, by omega, by rw [HSEM.out, HS.out]; exact hrow, below_next BB.out B2.out⟩)
        clear hb hrow hR
        go_wp2_with fail
        refine ⟨bex B2.out, ?_⟩
        go_wp2_with fail
        refine ⟨bex B2.out, ?_⟩
        go_wp2_with fail
        go_ret
        exact HFIN.out
      by_cases k9 : k = 9
      · subst k9
        obtain ⟨f0, rfl⟩ : ∃ f0, fs = [f0] := by
          have : fs.length = 1 := by simp at har; omega
          match fs, this with
          | [f0], _ => exact ⟨f0, rfl⟩
        obtain ⟨gk, cap, rfl, m1, m2, hrows⟩ := hown.out.rows (by simp)
        obtain ⟨ra, ca, rowa⟩ := hrows 0 f0 rfl
        have HRA := hid rowa
        clear hrows rowa
        have HSOL := hid (HFU.out (fun _ => true) f0 (fun _ _ => rfl) (HPER.out f0 (by simp)))
        have HS := hid (show semN wd 9 v [f0] = unt (fun _ => true) f0 by simp [semN])
        clear har hfl hown
        go_wp2_with fail
        refine wp_region_ord (C := fun wZ => ∃ xZ, wZ = World.over _ xZ) [0,1,3,4,5] (.one 2 (.one 6 (.one 7 .done))) [] (by kernel_rfl) (by kernel_rfl) (fun d _ _ _ _ h => by cases d <;> exact h) (bex (Below.refl _ _).drew) ?_; simp only [pick, List.getElem?_cons_succ, List.getElem?_cons_zero]; (repeat (go_big_quiet_step (fail))); refine wpQuiet_nil ?_; simp only [ordW, pick, List.getElem?_cons_succ, List.getElem?_cons_zero]
        go_wp2_with fail
        refine (specAll_any n true _ (by omega)).mono ?_
        rintro e w3 ⟨R3, rfl, hR3, hrow3, hb3⟩
        have B3 := hid (below_next (below_d (Below.refl wo.heap.size wo)) hb3)
        have HR3 := hid hrow3
        clear hrow3 hb3 hR3
        go_wp2_with fail
        refine ⟨bex B3.out, ?_⟩
        go_wp2_with fail
        refine (HFIX.out true (fun _ => true) f0 _ HSOL.out _ R3 ra HR3.out (Row.below HRA.out B3.out)).mono ?_
        rintro e w2 ⟨R, rfl, hR, hrow, hb⟩
        have hR2 : wo.heap.size ≤ R := by have := B3.out.size; omega
        have B2 := hid (below_next B3.out hb)
        have HFIN := hid (show NewB n (sem wd (.mk 9 v kids)) w (.returned (.slice (some ⟨R, 0, none⟩) n n)) w2 from ⟨_, rfl, by omega, by rw [HSEM.out, HS.out]; exact hrow, below_next BB.out B2.out⟩)
        clear hb hrow hR
        go_wp2_with fail
        refine ⟨bex B2.out, ?_⟩
        go_wp2_with fail
        refine ⟨bex B2.out, ?_⟩
        go_wp2_with fail
        go_ret
        exact HFIN.out
      by_cases k10 : k = 10
      · subst k10
        obtain ⟨f0, rfl⟩ : ∃ f0, fs = [f0] := by
          have : fs.length = 1 := by simp at har; omega
          match fs, this with
          | [f0], _ => exact ⟨f0, rfl⟩
        obtain ⟨gk, cap, rfl, m1, m2, hrows⟩ := hown.out.rows (by simp)
        obtain ⟨ra, ca, rowa⟩ := hrows 0 f0 rfl
        have HRA := hid rowa
        clear hrows rowa
        have HSOL := hid (HFR.out (fun _ => false) f0 (fun _ _ => rfl) (HPER.out f0 (by simp)))
        have HS := hid (show semN wd 10 v [f0] = rls (fun _ => false) f0 by simp [semN])
        clear har hfl hown
        go_wp2_with fail
        refine wp_region_ord (C := fun wZ => ∃ xZ, wZ = World.over _ xZ) [0,1,3,4,5] (.one 2 (.one 6 (.one 7 .done))) [] (by kernel_rfl) (by kernel_rfl) (fun d _ _ _ _ h => by cases d <;> exact h) (bex (Below.refl _ _).drew) ?_; simp only [pick, List.getElem?_cons_succ, List.getElem?_cons_zero]; (repeat (go_big_quiet_step (fail))); refine wpQuiet_nil ?_; simp only [ordW, pick, List.getElem?_cons_succ, List.getElem?_cons_zero]
        go_wp2_with fail
        refine (specAll_any n false _ (by omega)).mono ?_
        rintro e w3 ⟨R3, rfl, hR3, hrow3, hb3⟩
        have B3 := hid (below_next (below_d (Below.refl wo.heap.size wo)) hb3)
        have HR3 := hid hrow3
        clear hrow3 hb3 hR3
        go_wp2_with fail
        refine ⟨bex B3.out, ?_⟩
        go_wp2_with fail
        refine (HFIX.out false (fun _ => false) f0 _ HSOL.out _ R3 ra HR3.out (Row.below HRA.out B3.out)).mono ?_
        rintro e w2 ⟨R, rfl, hR, hrow, hb⟩
        have hR2 : wo.heap.size ≤ R := by have := B3.out.size; omega
        have B2 := hid (below_next B3.out hb)
        have HFIN := hid (show NewB n (sem wd (.mk 10 v kids)) w (.returned (.slice (some ⟨R, 0, none⟩) n n)) w2 from ⟨_, rfl, by omega, by rw [HSEM.out, HS.out]; exact hrow, below_next BB.out B2.out⟩)
        clear hb hrow hR
        go_wp2_with fail
        refine ⟨bex B2.out, ?_⟩
        go_wp2_with fail
        refine ⟨bex B2.out, ?_⟩
        go_wp2_with fail
        go_ret
        exact HFIN.out
      have hk6 : k ≤ 6 := by rw [formL_K] at hk2; omega
      have HAT := hid hatom
      have HR := hid (brow_zeros wo n)
      have y7 : w.heap.size < wo.heap.size := by omega
      by_cases k1 : k = 1
      · subst k1
        clear har hfl hown
        go_wp2_with fail
        go_loopw [9] (fun i wr => ∃ (jj : Nat) (g : Nat → Bool), jj ≤ n ∧ i = .int .i64 jj ∧ Hid (Below wo.heap.size wo wr) ∧ BRow wr wo.heap.size n g ∧ Hid (∀ q, q < jj → g q = semN wd 1 v fs q)) (fun i _ => n - (intOf i).toNat)
        case atStart => exact ⟨0, _, Nat.zero_le _, rfl, hid (below_alloc _ _), HR.out, hid (by omega)⟩
        case round =>
          obtain ⟨jj, g, hjj, rfl, BQ, hrow, hg⟩ := hrel
          have hrl := hrow.1
          obtain ⟨v1, v2, v3, v4, _⟩ := box3_next BQ.out (box3_next BKW.out Q3.out)
          by_cases hq : jj < n
          · have r0 := hrow.2.1 jj hq
            have rz := hrow.2.2
            have HROW := hid hrow
            have hq2 : (jj : Int) < (n : Int) := by omega
            clear hrow e1 e2 e3 e4 p1 p2 p3
            go_wp2_with fail
            go_roundw
            case rel =>
              refine ⟨jj + 1, upd g jj true, by omega, by go_num, hid (BQ.out.setCell (Nat.le_refl _) _), (brow_upd HROW.out hq _), hid fun q hq => ?_⟩
              unfold upd
              split
              · rename_i e; subst e; exact (by simp [semN])
              · exact hg.out q (by omega)
            case measure => simp [intOf]; omega
          · have HFIN := hid (show NewB n (sem wd (.mk 1 v kids)) w (.returned (.slice (some ⟨wo.heap.size, 0, none⟩) n n)) wr from ⟨_, rfl, by omega, by rw [HSEM.out]; exact Row.congr hrow fun i hi => by rw [hg.out i (by omega)], below_next BB.out BQ.out⟩)
            have hq2 : ¬ ((jj : Int) < (n : Int)) := by omega
            clear hrow hg
            go_wp2_with fail
            go_ret
            exact HFIN.out
      by_cases k2 : k = 2
      · subst k2
        clear har hfl hown
        go_wp2_with fail
        go_loopw [9] (fun i wr => ∃ (jj : Nat) (g : Nat → Bool), jj ≤ n ∧ i = .int .i64 jj ∧ Hid (Below wo.heap.size wo wr) ∧ BRow wr wo.heap.size n g ∧ Hid (∀ q, q < jj → g q = semN wd 2 v fs q)) (fun i _ => n - (intOf i).toNat)
        case atStart => exact ⟨0, _, Nat.zero_le _, rfl, hid (below_alloc _ _), HR.out, hid (by omega)⟩
        case round =>
          obtain ⟨jj, g, hjj, rfl, BQ, hrow, hg⟩ := hrel
          have hrl := hrow.1
          obtain ⟨v1, v2, v3, v4, _⟩ := box3_next BQ.out (box3_next BKW.out Q3.out)
          by_cases hq : jj < n
          · have r0 := hrow.2.1 jj hq
            have rz := hrow.2.2
            have HROW := hid hrow
            have hq2 : (jj : Int) < (n : Int) := by omega
            clear hrow e1 e2 e3 e4 p1 p2 p3
            have BQ0 := hid (below_next BB.out BQ.out)
            have HL := hid (fun (w' : World) (M : Below w.heap.size w w') => HLET.out jj hq w' M)
            have hwl := HWL.out jj hq
            have HV2 := hid (HAT.out trivial)
            have hwd := hid (show semN wd 2 v fs jj = bit (wd jj) v by simp [semN])
            obtain ⟨q1, q2, q3, _⟩ := pbox_next BQ.out (pbox_next BKW.out Q2.out)
            generalize wd jj = z at *
            go_wp2_with fail
            refine (HL.out _ BQ0.out).mono ?_
            rintro e w3 ⟨rfl, hb3⟩
            have B3 := hid (BQ.out.trans (hb3.mono BQ.out.size))
            have HROW3 := hid (Row.below HROW.out hb3)
            have r3 := HROW3.out.2.1 jj hq
            have rz3 := HROW3.out.2.2
            have rl3 := HROW3.out.1
            obtain ⟨v1', v2', v3', v4', _⟩ := box3_next B3.out (box3_next BKW.out Q3.out)
            clear hb3 r0 rz q1 q2 q3 v1 v2 v3 v4
            go_wp2_with fail
            refine (specHas_any z v _ hwl HV2.out).mono ?_
            rintro e w4 ⟨rfl, hb4⟩
            have B4 := hid (B3.out.trans (hb4.mono B3.out.size))
            have HROW4 := hid (Row.below HROW3.out hb4)
            have r4 := HROW4.out.2.1 jj hq
            have rz4 := HROW4.out.2.2
            have rl4 := HROW4.out.1
            clear hb4 r3 rz3
            go_wp2_with fail
            go_roundw
            case rel =>
              refine ⟨jj + 1, upd g jj _, by omega, by go_num, hid (B4.out.setCell (Nat.le_refl _) _), (brow_upd HROW4.out hq _), hid fun q hq => ?_⟩
              unfold upd
              split
              · rename_i e; subst e; exact hwd.out.symm
              · exact hg.out q (by omega)
            case measure => simp [intOf]; omega
          · have HFIN := hid (show NewB n (sem wd (.mk 2 v kids)) w (.returned (.slice (some ⟨wo.heap.size, 0, none⟩) n n)) wr from ⟨_, rfl, by omega, by rw [HSEM.out]; exact Row.congr hrow fun i hi => by rw [hg.out i (by omega)], below_next BB.out BQ.out⟩)
            have hq2 : ¬ ((jj : Int) < (n : Int)) := by omega
            clear hrow hg
            go_wp2_with fail
            go_ret
            exact HFIN.out
      by_cases k3 : k = 3
      · subst k3
        obtain ⟨f0, rfl⟩ : ∃ f0, fs = [f0] := by
          have : fs.length = 1 := by simp at har; omega
          match fs, this with
          | [f0], _ => exact ⟨f0, rfl⟩
        obtain ⟨gk, cap, rfl, m1, m2, hrows⟩ := hown.out.rows (by simp)
        obtain ⟨ra, ca, rowa⟩ := hrows 0 f0 rfl
        have HRA := hid rowa
        clear hrows rowa
        clear har hfl hown
        go_wp2_with fail
        go_loopw [9] (fun i wr => ∃ (jj : Nat) (g : Nat → Bool), jj ≤ n ∧ i = .int .i64 jj ∧ Hid (Below wo.heap.size wo wr) ∧ BRow wr wo.heap.size n g ∧ Hid (∀ q, q < jj → g q = semN wd 3 v [f0] q)) (fun i _ => n - (intOf i).toNat)
        case atStart => exact ⟨0, _, Nat.zero_le _, rfl, hid (below_alloc _ _), HR.out, hid (by omega)⟩
        case round =>
          obtain ⟨jj, g, hjj, rfl, BQ, hrow, hg⟩ := hrel
          have hrl := hrow.1
          obtain ⟨v1, v2, v3, v4, _⟩ := box3_next BQ.out (box3_next BKW.out Q3.out)
          by_cases hq : jj < n
          · have r0 := hrow.2.1 jj hq
            have rz := hrow.2.2
            have HROW := hid hrow
            have hq2 : (jj : Int) < (n : Int) := by omega
            clear hrow e1 e2 e3 e4 p1 p2 p3
            have ga := BQ.out.cell (p := ⟨gk, 0, none⟩) m2
            rw [ca] at ga
            have gl : gk < wr.heap.size := by omega
            have m7 : wr.cell? ⟨ra, jj, none⟩ = some (.bool (f0 jj)) := (Row.below HRA.out BQ.out).2.1 jj hq
            have m8 := (Row.below HRA.out BQ.out).1
            generalize hx0 : f0 jj = x0 at *
            have HX0 := hid hx0
            clear hx0
            go_wp2_with fail
            go_roundw
            case rel =>
              refine ⟨jj + 1, upd g jj _, by omega, by go_num, hid (BQ.out.setCell (Nat.le_refl _) _), (brow_upd HROW.out hq _), hid fun q hq => ?_⟩
              unfold upd
              split
              · rename_i e; subst e; exact (by simp [semN, HX0.out])
              · exact hg.out q (by omega)
            case measure => simp [intOf]; omega
          · have HFIN := hid (show NewB n (sem wd (.mk 3 v kids)) w (.returned (.slice (some ⟨wo.heap.size, 0, none⟩) n n)) wr from ⟨_, rfl, by omega, by rw [HSEM.out]; exact Row.congr hrow fun i hi => by rw [hg.out i (by omega)], below_next BB.out BQ.out⟩)
            have hq2 : ¬ ((jj : Int) < (n : Int)) := by omega
            clear hrow hg
            go_wp2_with fail
            go_ret
            exact HFIN.out
      by_cases k4 : k = 4
      · subst k4
        obtain ⟨f0, f1, rfl⟩ : ∃ f0 f1, fs = [f0, f1] := by
          have : fs.length = 2 := by simp at har; omega
          match fs, this with
          | [f0, f1], _ => exact ⟨f0, f1, rfl⟩
        obtain ⟨gk, cap, rfl, m1, m2, hrows⟩ := hown.out.rows (by simp)
        obtain ⟨ra, ca, rowa⟩ := hrows 0 f0 rfl
        obtain ⟨rb, cb, rowb⟩ := hrows 1 f1 rfl
        have HRB := hid rowb
        have HRA := hid rowa
        clear hrows rowa rowb
        clear har hfl hown
        go_wp2_with fail
        go_loopw [9] (fun i wr => ∃ (jj : Nat) (g : Nat → Bool), jj ≤ n ∧ i = .int .i64 jj ∧ Hid (Below wo.heap.size wo wr) ∧ BRow wr wo.heap.size n g ∧ Hid (∀ q, q < jj → g q = semN wd 4 v [f0, f1] q)) (fun i _ => n - (intOf i).toNat)
        case atStart => exact ⟨0, _, Nat.zero_le _, rfl, hid (below_alloc _ _), HR.out, hid (by omega)⟩
        case round =>
          obtain ⟨jj, g, hjj, rfl, BQ, hrow, hg⟩ := hrel
          have hrl := hrow.1
          obtain ⟨v1, v2, v3, v4, _⟩ := box3_next BQ.out (box3_next BKW.out Q3.out)
          by_cases hq : jj < n
          · have r0 := hrow.2.1 jj hq
            have rz := hrow.2.2
            have HROW := hid hrow
            have hq2 : (jj : Int) < (n : Int) := by omega
            clear hrow e1 e2 e3 e4 p1 p2 p3
            have ga := BQ.out.cell (p := ⟨gk, 0, none⟩) m2
            rw [ca] at ga
            have gl : gk < wr.heap.size := by omega
            have m7 : wr.cell? ⟨ra, jj, none⟩ = some (.bool (f0 jj)) := (Row.below HRA.out BQ.out).2.1 jj hq
            have m8 := (Row.below HRA.out BQ.out).1
            have gb := BQ.out.cell (p := ⟨gk, 1, none⟩) m2
            rw [cb] at gb
            have m9 : wr.cell? ⟨rb, jj, none⟩ = some (.bool (f1 jj)) := (Row.below HRB.out BQ.out).2.1 jj hq
            have m10 := (Row.below HRB.out BQ.out).1
            generalize hx1 : f1 jj = x1 at *
            have HX1 := hid hx1
            clear hx1
            generalize hx0 : f0 jj = x0 at *
            have HX0 := hid hx0
            clear hx0
            cases x0
            all_goals
              go_wp2_with fail
              go_roundw
              case rel =>
                refine ⟨jj + 1, upd g jj _, by omega, by go_num, hid (BQ.out.setCell (Nat.le_refl _) _), (brow_upd HROW.out hq _), hid fun q hq => ?_⟩
                unfold upd
                split
                · rename_i e; subst e; exact (by simp [semN, HX0.out, HX1.out])
                · exact hg.out q (by omega)
              case measure => simp [intOf]; omega
          · have HFIN := hid (show NewB n (sem wd (.mk 4 v kids)) w (.returned (.slice (some ⟨wo.heap.size, 0, none⟩) n n)) wr from ⟨_, rfl, by omega, by rw [HSEM.out]; exact Row.congr hrow fun i hi => by rw [hg.out i (by omega)], below_next BB.out BQ.out⟩)
            have hq2 : ¬ ((jj : Int) < (n : Int)) := by omega
            clear hrow hg
            go_wp2_with fail
            go_ret
            exact HFIN.out
      by_cases k5 : k = 5
      · subst k5
        obtain ⟨f0, f1, rfl⟩ : ∃ f0 f1, fs = [f0, f1] := by
          have : fs.length = 2 := by simp at har; omega
          match fs, this with
          | [f0, f1], _ => exact ⟨f0, f1, rfl⟩
        obtain ⟨gk, cap, rfl, m1, m2, hrows⟩ := hown.out.rows (by simp)
        obtain ⟨ra, ca, rowa⟩ := hrows 0 f0 rfl
        obtain ⟨rb, cb, rowb⟩ := hrows 1 f1 rfl
        have HRB := hid rowb
        have HRA := hid rowa
        clear hrows rowa rowb
        clear har hfl hown
        go_wp2_with fail
        go_loopw [9] (fun i wr => ∃ (jj : Nat) (g : Nat → Bool), jj ≤ n ∧ i = .int .i64 jj ∧ Hid (Below wo.heap.size wo wr) ∧ BRow wr wo.heap.size n g ∧ Hid (∀ q, q < jj → g q = semN wd 5 v [f0, f1] q)) (fun i _ => n - (intOf i).toNat)
        case atStart => exact ⟨0, _, Nat.zero_le _, rfl, hid (below_alloc _ _), HR.out, hid (by omega)⟩
        case round =>
          obtain ⟨jj, g, hjj, rfl, BQ, hrow, hg⟩ := hrel
          have hrl := hrow.1
          obtain ⟨v1, v2, v3, v4, _⟩ := box3_next BQ.out (box3_next BKW.out Q3.out)
          by_cases hq : jj < n
          · have r0 := hrow.2.1 jj hq
            have rz := hrow.2.2
            have HROW := hid hrow
            have hq2 : (jj : Int) < (n : Int) := by omega
            clear hrow e1 e2 e3 e4 p1 p2 p3
            have ga := BQ.out.cell (p := ⟨gk, 0, none⟩) m2
            rw [ca] at ga
            have gl : gk < wr.heap.size := by omega
            have m7 : wr.cell? ⟨ra, jj, none⟩ = some (.bool (f0 jj)) := (Row.below HRA.out BQ.out).2.1 jj hq
            have m8 := (Row.below HRA.out BQ.out).1
            have gb := BQ.out.cell (p := ⟨gk, 1, none⟩) m2
            rw [cb] at gb
            have m9 : wr.cell? ⟨rb, jj, none⟩ = some (.bool (f1 jj)) := (Row.below HRB.out BQ.out).2.1 jj hq
            have m10 := (Row.below HRB.out BQ.out).1
            generalize hx1 : f1 jj = x1 at *
            have HX1 := hid hx1
            clear hx1
            generalize hx0 : f0 jj = x0 at *
            have HX0 := hid hx0
            clear hx0
            cases x0
            all_goals
              go_wp2_with fail
              go_roundw
              case rel =>
                refine ⟨jj + 1, upd g jj _, by omega, by go_num, hid (BQ.out.setCell (Nat.le_refl _) _), (brow_upd HROW.out hq _), hid fun q hq => ?_⟩
                unfold upd
                split
                · rename_i e; subst e; exact (by simp [semN, HX0.out, HX1.out])
                · exact hg.out q (by omega)
              case measure => simp [intOf]; omega
          · have HFIN := hid (show NewB n (sem wd (.mk 5 v kids)) w (.returned (.slice (some ⟨wo.heap.size, 0, none⟩) n n)) wr from ⟨_, rfl, by omega, by rw [HSEM.out]; exact Row.congr hrow fun i hi => by rw [hg.out i (by omega)], below_next BB.out BQ.out⟩)
            have hq2 : ¬ ((jj : Int) < (n : Int)) := by omega
            clear hrow hg
            go_wp2_with fail
            go_ret
            exact HFIN.out
      by_cases k6 : k = 6
      · subst k6
        obtain ⟨f0, rfl⟩ : ∃ f0, fs = [f0] := by
          have : fs.length = 1 := by simp at har; omega
          match fs, this with
          | [f0], _ => exact ⟨f0, rfl⟩
        obtain ⟨gk, cap, rfl, m1, m2, hrows⟩ := hown.out.rows (by simp)
        obtain ⟨ra, ca, rowa⟩ := hrows 0 f0 rfl
        have HRA := hid rowa
        clear hrows rowa
        clear har hfl hown
        go_wp2_with fail
        go_loopw [9] (fun i wr => ∃ (jj : Nat) (g : Nat → Bool), jj ≤ n ∧ i = .int .i64 jj ∧ Hid (Below wo.heap.size wo wr) ∧ BRow wr wo.heap.size n g ∧ Hid (∀ q, q < jj → g q = semN wd 6 v [f0] q)) (fun i _ => n - (intOf i).toNat)
        case atStart => exact ⟨0, _, Nat.zero_le _, rfl, hid (below_alloc _ _), HR.out, hid (by omega)⟩
        case round =>
          obtain ⟨jj, g, hjj, rfl, BQ, hrow, hg⟩ := hrel
          have hrl := hrow.1
          obtain ⟨v1, v2, v3, v4, _⟩ := box3_next BQ.out (box3_next BKW.out Q3.out)
          by_cases hq : jj < n
          · have r0 := hrow.2.1 jj hq
            have rz := hrow.2.2
            have HROW := hid hrow
            have hq2 : (jj : Int) < (n : Int) := by omega
            clear hrow e1 e2 e3 e4 p1 p2 p3
            have ga := BQ.out.cell (p := ⟨gk, 0, none⟩) m2
            rw [ca] at ga
            have gl : gk < wr.heap.size := by omega
            have hjs : jj < stem.length + loop.length := by have := hN1.out; omega
            have hx : nx stem.length loop.length jj < n := by have := nx_lt (s := stem.length) (p := loop.length) (i := jj) (by omega) hjs; have := hN1.out; omega
            have m7 : wr.cell? ⟨ra, nx stem.length loop.length jj, none⟩ = some (.bool (f0 (nx stem.length loop.length jj))) := (Row.below HRA.out BQ.out).2.1 _ hx
            have m8 := (Row.below HRA.out BQ.out).1
            obtain ⟨p5, p6, p7, _⟩ := pbox_next BQ.out (pbox_next BKW.out Q2.out)
            have HN := hid (fun (W : World) => specNext_any stem.length loop.length jj W a b c d (by omega) (by omega) l2 hjs)
            have HX0 := hid (show f0 (nx stem.length loop.length jj) = f0 (jj + 1) from per_nx (HPER.out f0 (by simp)) jj)
            have hx2 : ((nx stem.length loop.length jj : Nat) : Int) < (n : Int) := by omega
            clear hx hjs
            generalize nx stem.length loop.length jj = q at *
            generalize f0 q = x0 at *
            go_wp2_with fail
            refine wp_region_tail (C := fun wZ => ∃ xZ, wZ = World.over _ xZ) [0,1,2,3,4,5,6] [7,8,9,10,11] (11) (by kernel_rfl) (by kernel_rfl) (fun d _ _ _ _ h => by cases d <;> exact h) (bex (Below.refl _ _).drew) ?_; simp only [pick, List.getElem?_cons_succ, List.getElem?_cons_zero]; (repeat (go_big_quiet_step (fail))); refine wpQuiet_nil ?_; simp only [tailW]
            go_wp2_with fail
            refine (HN.out _).mono ?_
            rintro e w3 ⟨rfl, hb3⟩
            have B3 := hid (below_next (below_d (Below.refl wr.heap.size wr)) hb3)
            have m7' := B3.out.cell (p := ⟨ra, q, none⟩) m8
            rw [m7] at m7'
            have r0' := (Row.below HROW.out B3.out).2.1 jj hq
            have rz' := (Row.below HROW.out B3.out).2.2
            have rl' := (Row.below HROW.out B3.out).1
            have rl2 := B3.out.size
            clear hb3 m7 m8
            go_wp2_with fail
            refine ⟨bex B3.out, ?_⟩
            go_wp2_with fail
            refine ⟨bex B3.out, ?_⟩
            go_wp2_with fail
            refine ⟨bex B3.out, ?_⟩
            go_wp2_with fail
            refine ⟨bex B3.out, ?_⟩
            go_wp2_with fail
            go_roundw
            case rel =>
              refine ⟨jj + 1, upd g jj _, by omega, by go_num, hid ((BQ.out.trans (B3.out.mono BQ.out.size)).setCell (Nat.le_refl _) _), (brow_upd (Row.below HROW.out B3.out) hq _), hid fun q hq => ?_⟩
              unfold upd
              split
              · rename_i e; subst e; exact (by simp [semN]; exact HX0.out)
              · exact hg.out q (by omega)
            case measure => simp [intOf]; omega
          · have HFIN := hid (show NewB n (sem wd (.mk 6 v kids)) w (.returned (.slice (some ⟨wo.heap.size, 0, none⟩) n n)) wr from ⟨_, rfl, by omega, by rw [HSEM.out]; exact Row.congr hrow fun i hi => by rw [hg.out i (by omega)], below_next BB.out BQ.out⟩)
            have hq2 : ¬ ((jj : Int) < (n : Int)) := by omega
            clear hrow hg
            go_wp2_with fail
            go_ret
            exact HFIN.out
      omega
theorem ev_any (stem loop : List Int) (hok : ok stem loop = true) : ∀ t, EvT stem loop t := Tr.ind fun k v kids ih => ev_of stem loop hok k v kids ih
end Lasso
end Go.Proofs.Ytbeljjalfhogdaa
namespace Go.Proofs.Ytbeljjalfhogdaa
open Go.RowKit
namespace Formula
/-- what a call of walk comes to: the counter, in block R, is m behind it -/
def WkPost (v : Value) (R : Nat) (m : Int) (w : World) (e : Ending) (w' : World) : Prop := e = .returned v ∧ Upd w R (.int .i64 m) w'

def WkT (t : Tr) : Prop := ∀ (w : World) (x : Value) (R : Nat) (d n : Int), TrIn (· ≠ R) w t x → 1 ≤ d → d ≤ 7 → 0 ≤ n → n ≤ 12 →
    w.cell? ⟨R, 0, none⟩ = some (.int .i64 n) → w.frozen? ⟨R, 0, none⟩ = false →
    Calls Try.prog 89 #[x, .int .i64 d, .pointer (some ⟨R, 0, none⟩)] w (WkPost (.bool (formL.wk t d n).1) R (formL.wk t d n).2 w)

/-- the closure that ContainsFunc is handed: it walks a node one deeper, and tells whether that failed -/
def clo (D E : Nat) : Value := .func (.func 99) #[] #[.pointer (some ⟨D, 0, none⟩), .pointer (some ⟨E, 0, none⟩)]

set_option maxHeartbeats 400000 in
theorem clo_of (t : Tr) (h : WkT t) (w : World) (x : Value) (R D E : Nat) (d n : Int) (hx : TrIn (· ≠ R) w t x) (hd1 : 0 ≤ d) (hd2 : d ≤ 6) (hn1 : 0 ≤ n) (hn2 : n ≤ 12)
    (hD : w.cell? ⟨D, 0, none⟩ = some (.int .i64 d)) (hE : w.cell? ⟨E, 0, none⟩ = some (.pointer (some ⟨R, 0, none⟩))) (hR : w.cell? ⟨R, 0, none⟩ = some (.int .i64 n)) (hF : w.frozen? ⟨R, 0, none⟩ = false) :
    Calls Try.prog 99 #[x, .pointer (some ⟨D, 0, none⟩), .pointer (some ⟨E, 0, none⟩)] w (WkPost (.bool (!(formL.wk t (d + 1) n).1)) R (formL.wk t (d + 1) n).2 w) := by
  obtain ⟨a, c, rfl⟩ := TrIn_shape hx
  have lD := blt hD
  have lE := blt hE
  have lR : R < w.heap.size := blt hR
  go_enter Try.func99, Try.ntmps99
  go_wp2_with fail
  refine (h _ _ R (d + 1) n (TrIn_alloc hx _) (by omega) (by omega) hn1 hn2 (by simp [go_sem, lR, hR]) (by simp [go_sem, lR, hF])).mono ?_
  rintro e w2 ⟨rfl, hu⟩
  go_wp2_with fail
  go_ret
  exact ⟨rfl, upd_past hu (below_alloc _ _) lR⟩

/-- what a call of IndexFunc comes to: an index, not negative exactly where some node failed -/
def IxPost (bad : Bool) (R : Nat) (m : Int) (w : World) (e : Ending) (w' : World) : Prop := ∃ i : Int, e = .returned (.int .i64 i) ∧ decide (0 ≤ i) = bad ∧ Upd w R (.int .i64 m) w'

set_option maxHeartbeats 1000000 in
theorem ix_of (l : List Tr) (h : ∀ t, t ∈ l → WkT t) (w : World) (a : Option Addr) (c R D E : Nat) (d n : Int) (hl : TrsIn (· ≠ R) w l a) (hc : l.length ≤ c) (hc2 : c ≤ maxLen) (hd1 : 0 ≤ d) (hd2 : d ≤ 6) (hn1 : 0 ≤ n) (hn2 : n ≤ 12)
    (hD : w.cell? ⟨D, 0, none⟩ = some (.int .i64 d)) (hE : w.cell? ⟨E, 0, none⟩ = some (.pointer (some ⟨R, 0, none⟩))) (hR : w.cell? ⟨R, 0, none⟩ = some (.int .i64 n)) (hF : w.frozen? ⟨R, 0, none⟩ = false) (hDR : D ≠ R) (hER : E ≠ R) :
    Calls Try.prog 104 #[.slice a l.length c, clo D E] w (IxPost (!(formL.wkL l (d + 1) n).1) R (formL.wkL l (d + 1) n).2 w) := by
  unfold maxLen at hc2
  have lD := blt hD
  have lE := blt hE
  have lR : R < w.heap.size := blt hR
  unfold clo
  go_enter Try.func104, Try.ntmps104
  go_wp2_with fail
  go_loopw [5, 8] (fun _ i wr => ∃ (j : Nat) (m : Int), j ≤ l.length ∧ i = .int .i64 j ∧ 0 ≤ m ∧ m ≤ 12 ∧ Upd w R (.int .i64 m) wr ∧ Hid (formL.wkL (l.drop j) (d + 1) m = formL.wkL l (d + 1) n)) (fun _ i _ => l.length - (intOf i).toNat)
  case atStart => exact ⟨0, n, Nat.zero_le _, rfl, hn1, hn2, Upd.self hR, hid rfl⟩
  case round =>
    obtain ⟨j, m, hj, rfl, hm1, hm2, hu, hr⟩ := hrel
    have hl' := TrsIn_upd hu (fun b hb => hb) hl
    have qD := (hu.other (o := 0) lD hDR).trans hD
    have qE := (hu.other (o := 0) lE hER).trans hE
    have qR := hu.cell hR
    have qF := (hu.frozen (o := 0) lR).trans hF
    by_cases hlt : j < l.length
    · obtain ⟨b, o, c0, c1, c2, t, rfl, gb, g0, g1, g2, hT⟩ := TrsIn_round hl' (Below.refl _ _) hlt
      have HR2 := hr.out
      rw [hT.out.2.2.1] at HR2
      simp only [Lang.wkL] at HR2
      have HR := hid HR2; clear HR2
      have hbd := formL.wk_bd t (d + 1) m hm2
      rw [formL_N] at hbd
      go_wp2_with fail
      refine (clo_of t (h t hT.out.2.1) wr _ R D E d m hT.out.1 hd1 hd2 hm1 hm2 qD qE qR qF).mono ?_
      rintro e w2 ⟨rfl, hu2⟩
      have hu3 := hu.trans hu2
      cases hq : (formL.wk t (d + 1) m).1 with
      | true =>
        have HR3 := HR.out
        rw [hq, if_pos rfl] at HR3
        have HR4 := hid HR3; clear HR3
        have hb2 := hbd.2.2 hq
        clear hq
        go_wp2_with fail
        go_roundw
        case rel => exact ⟨j + 1, (formL.wk t (d + 1) m).2, by omega, by go_num, by omega, hb2, hu3, HR4⟩
        case measure => simp [intOf]; omega
      | false =>
        have HR3 := HR.out
        rw [hq, if_neg (by simp)] at HR3
        have HR4 := hid HR3; clear HR3 hq
        go_wp2_with fail
        go_ret
        exact ⟨j, rfl, by rw [← HR4.out]; simp, by rw [← HR4.out]; exact hu3⟩
    · have HR2 := hr.out
      rw [List.drop_of_length_le (by omega)] at HR2
      simp only [Lang.wkL] at HR2
      have HR := hid HR2; clear HR2
      go_wp2_with fail
      go_ret
      exact ⟨-1, rfl, by rw [← HR.out]; simp, by rw [← HR.out]; exact hu⟩

set_option maxHeartbeats 400000 in
theorem cf_of (l : List Tr) (h : ∀ t, t ∈ l → WkT t) (w : World) (a : Option Addr) (c R D E : Nat) (d n : Int) (hl : TrsIn (· ≠ R) w l a) (hc : l.length ≤ c) (hc2 : c ≤ maxLen) (hd1 : 0 ≤ d) (hd2 : d ≤ 6) (hn1 : 0 ≤ n) (hn2 : n ≤ 12)
    (hD : w.cell? ⟨D, 0, none⟩ = some (.int .i64 d)) (hE : w.cell? ⟨E, 0, none⟩ = some (.pointer (some ⟨R, 0, none⟩))) (hR : w.cell? ⟨R, 0, none⟩ = some (.int .i64 n)) (hF : w.frozen? ⟨R, 0, none⟩ = false) (hDR : D ≠ R) (hER : E ≠ R) :
    Calls Try.prog 98 #[.slice a l.length c, clo D E] w (WkPost (.bool (!(formL.wkL l (d + 1) n).1)) R (formL.wkL l (d + 1) n).2 w) := by
  have H := ix_of l h w a c R D E d n hl hc hc2 hd1 hd2 hn1 hn2 hD hE hR hF hDR hER
  have HH := hid H; clear H hD hE hR hF
  unfold clo at HH ⊢
  go_enter Try.func98, Try.ntmps98
  go_wp2_with fail
  refine HH.out.mono ?_
  rintro e w2 ⟨i, rfl, hi, hu⟩
  have HI := hid hi; clear hi
  go_wp2_with fail
  go_ret
  exact ⟨congrArg (fun x => Ending.returned (.bool x)) HI.out, hu⟩


end Formula
end Go.Proofs.Ytbeljjalfhogdaa
namespace Go.Proofs.Ytbeljjalfhogdaa
open Go.RowKit
namespace Formula
set_option maxHeartbeats 1000000 in
theorem operands_any (k : Int) (w : World) : Calls Try.prog 97 #[.int .i64 k] w (RetW (.int .i64 (formL.ar k)) w) := by
  by_cases h1 : k = 1
  · subst h1
    go_enter Try.func97, Try.ntmps97
    go_wp2_with fail
    go_ret
    exact ⟨rfl, rfl⟩
  by_cases h2 : k = 2
  · subst h2
    go_enter Try.func97, Try.ntmps97
    go_wp2_with fail
    go_ret
    exact ⟨rfl, rfl⟩
  by_cases h4 : k = 4
  · subst h4
    go_enter Try.func97, Try.ntmps97
    go_wp2_with fail
    go_ret
    exact ⟨rfl, rfl⟩
  by_cases h5 : k = 5
  · subst h5
    go_enter Try.func97, Try.ntmps97
    go_wp2_with fail
    go_ret
    exact ⟨rfl, rfl⟩
  by_cases h7 : k = 7
  · subst h7
    go_enter Try.func97, Try.ntmps97
    go_wp2_with fail
    go_ret
    exact ⟨rfl, rfl⟩
  by_cases h8 : k = 8
  · subst h8
    go_enter Try.func97, Try.ntmps97
    go_wp2_with fail
    go_ret
    exact ⟨rfl, rfl⟩
  have e1 : (k == 1) = false := by simpa using h1
  have e2 : (k == 2) = false := by simpa using h2
  have e4 : (k == 4) = false := by simpa using h4
  have e5 : (k == 5) = false := by simpa using h5
  have e7 : (k == 7) = false := by simpa using h7
  have e8 : (k == 8) = false := by simpa using h8
  have E := hid (show formL.ar k = 1 by rw [formL_ar, if_neg (by omega), if_neg (by omega)])
  clear h1 h2 h4 h5 h7 h8
  go_enter Try.func97, Try.ntmps97
  go_wp2_with fail
  go_ret
  exact ⟨congrArg (fun x => Ending.returned (.int .i64 x)) E.out.symm, rfl⟩

set_option maxHeartbeats 2000000 in
theorem wk_of (k v : Int) (kids : List Tr) (h : ∀ t, t ∈ kids → WkT t) : WkT (.mk k v kids) := by
  intro w x R d n hx hd1 hd2 hn1 hn2 hR hF
  rw [TrIn_mk] at hx
  obtain ⟨a, n', c, rfl, hk, hv, rfl, hc, hc2, hks⟩ := hx
  have lR : R < w.heap.size := blt hR
  have hE0 := hid (show formL.wk (.mk k v kids) d n = if 6 < d ∨ formL.N < n + 1 ∨ formL.okB k v kids.length = false then (false, n + 1) else formL.wkL kids (d + 1) (n + 1) by simp only [Lang.wk])
  have lR1 : R < w.heap.size + 1 := by omega
  have lR2 : R < w.heap.size + 1 + 1 := by omega
  have lR3 : R < w.heap.size + 1 + 1 + 1 := by omega
  go_enter Try.func89, Try.ntmps89
  go_upto_if 15 with fail
  go_cut [7] (fun s7 wx => s7 = .int .i64 (formL.most k) ∧ Upd w R (.int .i64 (n + 1)) wx ∧ Box3 wx w.heap.size (.int .i64 k) (.int .i64 v) (.slice a kids.length c) ∧ Box1 wx (w.heap.size + 1) (.int .i64 d) ∧ Box1 wx (w.heap.size + 1 + 1) (.pointer (some ⟨R, 0, none⟩)))
  case first =>
    go_wp2_with fail
    all_goals go_meet
    all_goals refine ⟨int_val ?_, Upd.of (by repeat (first | exact Below.refl _ _ | assumption | refine below_a ?_ _ | refine below_o ?_ _ | refine below_d ?_ | refine below_n ?_ _ | refine below_s ?_ (by first | (simp; done) | (simp; omega) | omega) _)), ⟨(by first | (simp; done) | (simp; omega) | omega), by simp [go_sem], by simp [go_sem], by simp [go_sem], by simp [go_sem], by simp [go_sem], by simp [go_sem]⟩, ⟨by simp, by simp [go_sem], by simp [go_sem]⟩, ⟨by simp, by simp [go_sem], by simp [go_sem]⟩⟩
    all_goals first
      | (have e := ‹(k == 2) = true›; simp at e; rw [ formL_most, if_pos e])
      | (have e := ‹(k == 2) = false›; simp at e; rw [ formL_most, if_neg e])
  case rest =>
    obtain ⟨rfl, hu, b3, b1, bp⟩ := hcut
    have bR : Box1 wc R (.int .i64 (n + 1)) := ⟨Nat.lt_of_lt_of_le lR hu.size, hu.cell hR, (hu.frozen (o := 0) lR).trans hF⟩
    have hno : ∀ (hh : ¬((1 ≤ k ∧ k ≤ 10) ∧ (0 ≤ v ∧ v ≤ formL.most k) ∧ (kids.length : Int) = formL.ar k)), formL.wk (.mk k v kids) d n = (false, n + 1) := fun hh => by
      rw [hE0.out, if_pos (.inr (.inr (formL.okB_no hh)))]
    have HNO := hid hno; clear hno
    by_cases c1 : 6 < d
    · have E := hid (show formL.wk (.mk k v kids) d n = (false, n + 1) by rw [hE0.out, if_pos (.inl c1)])
      have c1' : decide (6 < d) = true := by simpa using c1
      clear c1 HNO
      go_wp2_with fail
      refine wp_region_below (by kernel_rfl) (by kernel_rfl) ?_; (repeat (go_big_quiet_step ((fail)))); refine wpQuiet_nil ?_
      intro w1 hb
      go_wp2_with fail
      go_ret
      exact ⟨by rw [E.out]; rfl, by rw [E.out]; exact hu.more hb⟩
    have c1' : decide (6 < d) = false := by simpa using c1
    by_cases c2 : 12 < n + 1
    · have E := hid (show formL.wk (.mk k v kids) d n = (false, n + 1) by rw [hE0.out, if_pos (.inr (.inl c2))])
      have c2' : decide (12 < n + 1) = true := by simpa using c2
      clear c1 c2 HNO
      go_wp2_with fail
      refine wp_region_below (by kernel_rfl) (by kernel_rfl) ?_; (repeat (go_big_quiet_step ((fail)))); refine wpQuiet_nil ?_
      intro w1 hb
      go_wp2_with fail
      go_ret
      exact ⟨by rw [E.out]; rfl, by rw [E.out]; exact hu.more hb⟩
    have c2' : decide (12 < n + 1) = false := by simpa using c2
    by_cases c3 : 1 ≤ k ∧ k ≤ 10
    · by_cases c4 : 0 ≤ v ∧ v ≤ formL.most k
      · by_cases c5 : (kids.length : Int) = formL.ar k
        · have E := hid (show formL.wk (.mk k v kids) d n = formL.wkL kids (d + 1) (n + 1) by
            rw [hE0.out, if_neg]
            rintro (h1 | h1 | h1)
            · exact c1 h1
            · exact c2 h1
            · rw [ formL.okB_iff.2 ⟨c3, c4, c5⟩] at h1; cases h1)
          have e5 : ((kids.length : Int) != formL.ar k) = false := by simpa using c5
          clear c5 HNO
          go_wp2_with fail
          refine wp_region_below (by kernel_rfl) (by kernel_rfl) ?_; (repeat (go_big_quiet_step ((first | (go_at_call 97; exact Calls.over_same (operands_any _ _)) | (go_at_call 59; first | with_reducible exact Calls.over_same (in_yes c3 _) | with_reducible exact Calls.over_same (in_yes c4 _)))))); refine wpQuiet_nil ?_
          intro w1 hb
          replace b3 := box3_next hb b3
          replace b1 := box1_next hb b1
          replace bp := box1_next hb bp
          replace bR := box1_next hb bR
          replace hu := hu.more hb
          go_wp2_with fail
          refine (cf_of kids h _ a c R (w.heap.size + 1) (w.heap.size + 1 + 1) d (n + 1) (TrsIn_upd hu (fun b hb => hb) hks) hc hc2 (by omega) (by omega) (by omega) (by omega) b1.2.1 bp.2.1 bR.2.1 bR.2.2 (by omega) (by omega)).mono ?_
          rintro e w' ⟨rfl, hu2⟩
          go_wp2_with fail
          go_ret
          exact ⟨by rw [E.out]; simp, by rw [E.out]; exact hu.trans hu2⟩
        · have E := hid (HNO.out (fun hh => c5 hh.2.2))
          have e5 : ((kids.length : Int) != formL.ar k) = true := by simpa using c5
          clear c5 HNO
          go_wp2_with fail
          refine wp_region_below (by kernel_rfl) (by kernel_rfl) ?_; (repeat (go_big_quiet_step ((first | (go_at_call 97; exact Calls.over_same (operands_any _ _)) | (go_at_call 59; first | with_reducible exact Calls.over_same (in_yes c3 _) | with_reducible exact Calls.over_same (in_yes c4 _)))))); refine wpQuiet_nil ?_
          intro w1 hb
          go_wp2_with fail
          go_ret
          exact ⟨by rw [E.out]; rfl, by rw [E.out]; exact hu.more hb⟩
      · have E := hid (HNO.out (fun hh => c4 hh.2.1))
        clear HNO
        go_wp2_with fail
        refine wp_region_below (by kernel_rfl) (by kernel_rfl) ?_; (repeat (go_big_quiet_step ((go_at_call 59; first | with_reducible exact Calls.over_same (in_yes c3 _) | with_reducible exact Calls.over_same (in_no c4 _))))); refine wpQuiet_nil ?_
        intro w1 hb
        go_wp2_with fail
        go_ret
        exact ⟨by rw [E.out]; rfl, by rw [E.out]; exact hu.more hb⟩
    · have E := hid (HNO.out (fun hh => c3 hh.1))
      clear HNO
      go_wp2_with fail
      refine wp_region_below (by kernel_rfl) (by kernel_rfl) ?_; (repeat (go_big_quiet_step ((go_at_call 59; exact Calls.over_same (in_no c3 _))))); refine wpQuiet_nil ?_
      intro w1 hb
      go_wp2_with fail
      go_ret
      exact ⟨by rw [E.out]; rfl, by rw [E.out]; exact hu.more hb⟩

theorem wk_any : ∀ t, WkT t := fun t => Tr.ind (fun k v kids ih => wk_of k v kids ih) t

end Formula
end Go.Proofs.Ytbeljjalfhogdaa
namespace Go.Proofs.Ytbeljjalfhogdaa
open Go.RowKit
namespace Formula
set_option maxHeartbeats 400000 in
theorem nodes_any (t : Tr) (w : World) (x : Value) (hx : TrIn Any w t x) : Calls Try.prog 60 #[x] w (Ret (.int .i64 (formL.size t)) w) := by
  have hx0 := hx
  obtain ⟨a, c, rfl⟩ := TrIn_shape hx
  have E := hid (formL.size_wk t)
  go_enter Try.func60, Try.ntmps60
  go_wp2_with fail
  refine (wk_any t _ _ (w.heap.size + 1) 1 0 (TrIn_alloc (TrIn_alloc (TrIn_mono (fun b hb => by omega) (TrIn_old hx)) _) _) (by omega) (by omega) (by omega) (by omega) (by simp [go_sem]) (by simp [go_sem])).mono ?_
  rintro e w' ⟨rfl, hu⟩
  have qR := hu.cell (u := .int .i64 0) (by simp [go_sem])
  cases hq : (formL.wk t 1 0).1 with
  | true =>
    have E2 := E.out
    rw [hq, if_pos rfl] at E2
    have E3 := hid E2; clear E2 hq
    go_wp2_with fail
    go_ret
    exact Ret.mk (int_val E3.out.symm) (hu.new (by repeat (first | exact Below.refl _ _ | assumption | refine below_a ?_ _ | refine below_o ?_ _ | refine below_d ?_ | refine below_n ?_ _ | refine below_s ?_ (by first | (simp; done) | (simp; omega) | omega) _)) (by omega))
  | false =>
    have E2 := E.out
    rw [hq, if_neg (by simp)] at E2
    have E3 := hid E2; clear E2 hq
    go_wp2_with fail
    go_ret
    exact Ret.mk (int_val E3.out.symm) (hu.new (by repeat (first | exact Below.refl _ _ | assumption | refine below_a ?_ _ | refine below_o ?_ _ | refine below_d ?_ | refine below_n ?_ _ | refine below_s ?_ (by first | (simp; done) | (simp; omega) | omega) _)) (by omega))

set_option maxHeartbeats 400000 in
theorem valid_any (t : Tr) (w : World) (x : Value) (hx : TrIn Any w t x) : Calls Try.prog 32 #[x] w (Ret (.bool (formL.valid t)) w) := by
  have hx0 := hx
  obtain ⟨a, c, rfl⟩ := TrIn_shape hx
  have E := hid (formL.valid_size t)
  go_enter Try.func32, Try.ntmps32
  go_wp2_with fail
  refine (nodes_any t _ _ (TrIn_alloc hx _)).mono ?_
  rintro e w' ⟨rfl, hby⟩
  obtain ⟨y, rfl⟩ := bex hby
  clear hby
  go_wp2_with fail
  go_ret
  exact Ret.mk (bool_val E.out.symm) (by repeat (first | exact Below.refl _ _ | assumption | refine below_a ?_ _ | refine below_o ?_ _ | refine below_d ?_ | refine below_n ?_ _ | refine below_s ?_ (by first | (simp; done) | (simp; omega) | omega) _))

end Formula
end Go.Proofs.Ytbeljjalfhogdaa
