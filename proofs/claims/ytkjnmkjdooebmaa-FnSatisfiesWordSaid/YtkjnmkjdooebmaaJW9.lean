/- Joined texts (TruthsI, EvalLS, FormulaImplC, FormulaImplV, FormulaImplN): contracts and plain laws. Conditions: those of each theorem. -/
import Derived.Test.YtkjnmkjdooebmaaJW3
import Derived.Test.YtkjnmkjdooebmaaJW8
import Derived.Test.YtkjnmkjdooebmaaJW2
import Derived.Test.YtkjnmkjdooebmaaJW7
set_option linter.unusedVariables false
set_option linter.unusedSimpArgs false
namespace Go.Proofs.Ytkjnmkjdooebmaa
open Go.RowKit
namespace Lasso

theorem below_d2 {B : Nat} {w W : World} (h : Below B w W) : Below B w W.drew := h.drew
theorem semL_map (w : Nat → Int) : ∀ l, semL w l = l.map (sem w)
  | [] => rfl
  | t :: ts => by rw [semL, semL_map w ts]; rfl
/-- a lasso that is not too long, of letters -/
structure LasOk (stem loop : List Int) : Prop where
  s : stem.length ≤ 80
  p0 : 1 ≤ loop.length
  p : loop.length ≤ 80
  lets : ∀ n, n ∈ stem ++ loop → 0 ≤ n ∧ n ≤ 7
theorem LasOk.i64 {stem loop : List Int} (h : LasOk stem loop) : ∀ n, n ∈ stem ++ loop → i64 n := fun n hn => by have := h.lets n hn; unfold Go.Proofs.Ytkjnmkjdooebmaa.i64; omega
/-- what truths comes to -/
def TruPost (n : Nat) (F : Nat → Bool) (w : World) (e : Ending) (w' : World) : Prop := ∃ R, e = .returned (.slice (some ⟨R, 0, none⟩) n n) ∧ w.heap.size ≤ R ∧ BRow w' R n F ∧ Below w.heap.size w w'
def TruT (stem loop : List Int) (t : Tr) : Prop := ∀ (m : Nat) (w : World) (x y : Value), formL.shape t m = true → TrIn Any w t y → PairIn Any w stem loop x → NilOk x →
  Calls Try.prog 22 #[x, y] w (TruPost (stem.length + loop.length) (sem (wordOf stem loop) t) w)

/-- behind the loop over the operands -/
def KidsAt (w : World) (B K : Nat) (n : Nat) (fs : List (Nat → Bool)) (wr : World) : Prop := Below w.heap.size w wr ∧ ∃ u, Box1 wr K u ∧ OwnK B u n fs wr

set_option maxRecDepth 100000 in
set_option maxHeartbeats 4000000 in
theorem tru_of (stem loop : List Int) (hok : LasOk stem loop) (k v : Int) (kids : List Tr) (h : ∀ t, t ∈ kids → TruT stem loop t) : TruT stem loop (.mk k v kids) := by
  intro m w x y hs hy hx hn
  have HSH := hid (formL.shape_mk hs)
  have hkn : kids.length ≤ 2 := by
    obtain ⟨_, _, _, _, _, _, har, _⟩ := HSH.out
    rw [formL_ar] at har
    have : (kids.length : Int) ≤ 2 := by rw [har]; split; omega; split <;> omega
    omega
  have HX := hid hx
  have HN := hid hn
  rw [TrIn_mk] at hy
  obtain ⟨ak, nk, ck, rfl, hk, hv, rfl, hc, hc2, hks⟩ := hy
  have HKS := hid hks
  obtain ⟨a, b, c, d, rfl, _, _, hcs, hcs2, hds, hds2⟩ := hx
  have HALL := hid (fun (w' : World) (M : Below w.heap.size w w') => all_any stem loop w' _ (HX.out.below M) HN.out (by have := hok.s; omega) (by have := hok.p; omega))
  have HSEM := hid (show sem (wordOf stem loop) (.mk k v kids) = semN (wordOf stem loop) k v (kids.map (sem (wordOf stem loop))) by rw [sem, semL_map])
  have hlen : (stem ++ loop).length = stem.length + loop.length := by simp
  have HI := hid hok.i64
  have HLT := hid hok.lets
  have hsL := hok.s
  have hpL := hok.p
  have hp0 := hok.p0
  have hatom : k = 2 → 0 ≤ v ∧ v ≤ 2 := by
    rintro rfl
    obtain ⟨_, _, _, _, h4, h5, _⟩ := HSH.out
    exact ⟨h4, by simpa [formL] using h5⟩
  clear hs hn hks hk hv hc2
  have HPER := hid (fun (f : Nat → Bool) (hf : f ∈ kids.map (sem (wordOf stem loop))) => show Per stem.length loop.length f by
    obtain ⟨t, _, rfl⟩ := List.mem_map.1 hf
    exact sem_per (wordOf_per stem loop) t)
  have HFX2 := hid (fun st h F f0 hs w R O L K => fix2_any stem.length loop.length st h F f0 hs w R O L K a b c d (by have := hok.s; omega) (by have := hok.p; omega) hok.p0)
  have HFX3 := hid (fun st h F f0 hs w R O L K => fix3_any stem.length loop.length st h F f0 hs w R O L K a b c d (by have := hok.s; omega) (by have := hok.p; omega) hok.p0)
  have HFX4 := hid (fun st h F f0 hs w R O L K => fix4_any stem.length loop.length st h F f0 hs w R O L K a b c d (by have := hok.s; omega) (by have := hok.p; omega) hok.p0)
  have HFX5 := hid (fun st h F f0 hs w R O L K => fix5_any stem.length loop.length st h F f0 hs w R O L K a b c d (by have := hok.s; omega) (by have := hok.p; omega) hok.p0)
  have HFU := hid (fun (a b : Nat → Bool) (ha : Per stem.length loop.length a) (hb : Per stem.length loop.length b) => fix_unt hok.p0 ha hb)
  have HFR := hid (fun (a b : Nat → Bool) (ha : Per stem.length loop.length a) (hb : Per stem.length loop.length b) => fix_rls hok.p0 ha hb)
  generalize hfs : kids.map (sem (wordOf stem loop)) = fs at *
  have HFS := hid hfs
  clear hok
  have HWO := hid (fun (i : Nat) (hi : i < stem.length + loop.length) => wordOf_all (stem := stem) (loop := loop) hi)
  have HH := hid (fun t ht m w x y hs hy hx hn => h t ht m w x y hs hy hx hn)
  clear hfs h
  generalize wordOf stem loop = wd at *
  generalize stem ++ loop = word at *
  generalize hN : stem.length + loop.length = n at *
  have hN1 := hid hN
  have hmk := make_bools n (by omega)
  go_enter Try.func22, Try.ntmps22
  go_wp2_with fail
  refine (HALL.out _ (by repeat (first | exact Below.refl _ _ | assumption | refine below_a ?_ _ | refine below_o ?_ _ | refine below_d ?_ | refine below_n ?_ _ | refine below_s ?_ (by first | (simp; done) | (simp; omega) | omega) _))).mono ?_
  rintro e w1 ⟨vw, rfl, hvw, hb⟩
  obtain ⟨aw, cw, rfl, hcw, hcw2, hiw⟩ := OwnI.ints hvw HI.out
  have HIW := hid hiw
  have b2 := pbox_next hb (pbox_next (below_alloc _ _) (pbox_at (w := w) (a := .slice a stem.length c) (b := .slice b loop.length d) rfl))
  have b3 := box3_next hb (box3_at (w := w.alloc _) (B := w.heap.size + 1) (a := .int .i64 k) (b := .int .i64 v) (c := .slice ak kids.length ck) (t := 30) (by simp))
  have B := hid (below_next (show Below w.heap.size w _ from below_next (below_alloc _ _) (below_alloc _ _)) hb)
  rw [hlen] at hcw ⊢
  have HLEN := hid hlen
  clear hlen
  have hw1 : w.heap.size + 2 ≤ w1.heap.size := by have := b3.1; omega
  have Q2 := hid b2
  have Q3 := hid b3
  obtain ⟨z3, q0, q1, q2, _⟩ := b3
  clear hvw hb hiw b2
  go_wp2_with fail
  go_loopw [17] (fun i wr => ∃ j : Nat, j ≤ kids.length ∧ i = .int .i64 j ∧ Hid (Below w1.heap.size w1 wr) ∧ ∃ u, Box1 wr w1.heap.size u ∧ Hid (OwnK (w1.heap.size + 1) u n (fs.take j) wr)) (fun i _ => kids.length - (intOf i).toNat)
  case atStart => exact ⟨0, Nat.zero_le _, rfl, hid (below_alloc _ _), _, box1_at rfl, hid (by simpa using OwnK.nil _ _ _)⟩
  case round =>
    obtain ⟨j, hj, rfl, BK, u, c1, hown⟩ := hrel
    have hsz := c1.1
    have BB := hid (below_next B.out BK.out)
    by_cases hlt : j < kids.length
    · obtain ⟨bk, ok, c0, c10, c20, t, rfl, gb, g0, g1, g2, hT⟩ := TrsIn_round HKS.out BB.out hlt
      obtain ⟨a4, n4, hsh⟩ := TrIn_shape hT.out.1
      simp only [Value.agg.injEq, Array.mk.injEq, List.cons.injEq, and_true] at hsh
      obtain ⟨rfl, rfl, rfl⟩ := hsh
      have HT := hid hT
      have hlt2 : (j : Int) < (kids.length : Int) := by omega
      have HB := hid (HH.out t hT.out.2.1)
      obtain ⟨D, hD1, hD2, hDw, hD3⟩ : ∃ D, D ≠ w1.heap.size ∧ w1.heap.size < D ∧ D ≠ wr.heap.size ∧ ∀ k, u.ownBlock = some k → k = D := by
        cases hu : u.ownBlock with
        | none => exact ⟨wr.heap.size + 1, by omega, by omega, by omega, by simp⟩
        | some k => have := hown.out.lt k hu; exact ⟨k, by omega, by omega, by omega, by simp⟩
      clear hT
      go_wp2_with fail
      have z1 := Q2.out.1
      have z2 := Q3.out.1
      obtain ⟨y1, y2, y3⟩ := id c1
      have p2 := pbox_next BK.out Q2.out
      have hLc : ∀ x, ((wr.alloc (.cells #[.int .i64 t.kind, .int .i64 t.val, .slice a4 t.kids.length n4] 30)).overX (wr.heap.size + 1) D x).cell? ⟨w1.heap.size, 0, none⟩ = some u := fun x => by
        rw [overX_cell _ _ _ _ _ _ (by omega) (Ne.symm hD1), World.cell?_alloc_lt (h := by exact y1)]; exact y2
      have hP0 : ∀ x, ((wr.alloc (.cells #[.int .i64 t.kind, .int .i64 t.val, .slice a4 t.kids.length n4] 30)).overX (wr.heap.size + 1) D x).cell? ⟨w.heap.size, 0, none⟩ = some (.slice a stem.length c) := fun x => by
        rw [overX_cell _ _ _ _ _ _ (by omega) (by omega), World.cell?_alloc_lt (h := by exact p2.1)]; exact p2.2.1
      have hP1 : ∀ x, ((wr.alloc (.cells #[.int .i64 t.kind, .int .i64 t.val, .slice a4 t.kids.length n4] 30)).overX (wr.heap.size + 1) D x).cell? ⟨w.heap.size, 1, none⟩ = some (.slice b loop.length d) := fun x => by
        rw [overX_cell _ _ _ _ _ _ (by omega) (by omega), World.cell?_alloc_lt (h := by exact p2.1)]; exact p2.2.2.1
      have b4 := box3_new wr (.int .i64 t.kind) (.int .i64 t.val) (.slice a4 t.kids.length n4) 30
      obtain ⟨e0, e1, e2, e3, _⟩ := b4
      have hE0 : ∀ x, ((wr.alloc (.cells #[.int .i64 t.kind, .int .i64 t.val, .slice a4 t.kids.length n4] 30)).overX (wr.heap.size + 1) D x).cell? ⟨wr.heap.size, 0, none⟩ = some (.int .i64 t.kind) := fun x => by
        rw [overX_cell _ _ _ _ _ _ (by omega) (Ne.symm hDw)]; exact e1
      have hE1 : ∀ x, ((wr.alloc (.cells #[.int .i64 t.kind, .int .i64 t.val, .slice a4 t.kids.length n4] 30)).overX (wr.heap.size + 1) D x).cell? ⟨wr.heap.size, 1, none⟩ = some (.int .i64 t.val) := fun x => by
        rw [overX_cell _ _ _ _ _ _ (by omega) (Ne.symm hDw)]; exact e2
      have hE2 : ∀ x, ((wr.alloc (.cells #[.int .i64 t.kind, .int .i64 t.val, .slice a4 t.kids.length n4] 30)).overX (wr.heap.size + 1) D x).cell? ⟨wr.heap.size, 2, none⟩ = some (.slice a4 t.kids.length n4) := fun x => by
        rw [overX_cell _ _ _ _ _ _ (by omega) (Ne.symm hDw)]; exact e3
      refine wp_region_tail (C := fun wZ => ∃ xZ, wZ = World.overX _ (wr.heap.size + 1) (D) xZ) [0,1,2] [3,4,5,6] (6) (by kernel_rfl) (by kernel_rfl) (fun d _ _ _ _ h => by cases d <;> exact h) (ButX.refl _ _ _).drew.ex ?_; simp only [pick, List.getElem?_cons_succ, List.getElem?_cons_zero]; (repeat (go_big_quiet_step (fail))); refine wpQuiet_nil ?_; simp only [tailW]
      obtain ⟨m2, _, _, _, _, _, har, hsk⟩ := HSH.out
      have hkl : (fs.take j).length ≤ 1000000 := by
        rw [List.length_take]
        omega
      have HSK := hid (hsk t HT.out.2.1)
      have hfst := hid (show fs.take (j + 1) = fs.take j ++ [sem wd t] by
        rw [List.take_add_one, ← HFS.out, List.getElem?_map, HT.out.2.2.2]; rfl)
      clear hsk har hLc hP0 hP1 hE0 hE1 hE2 g0 g1 g2 e0 e1 e2 e3
      have BW := hid (show Below wr.heap.size wr (wr.alloc (.cells #[.int .i64 t.kind, .int .i64 t.val, .slice a4 t.kids.length n4] 30)).drew from below_d (below_alloc _ _))
      go_wp2_with fail
      refine (HB.out m2 _ _ _ HSK.out (TrIn_below BW.out HT.out.1) (HX.out.below (below_next BB.out BW.out)) HN.out).mono ?_
      rintro e w4 ⟨R, rfl, hR, hrow, hb4⟩
      have hR2 : wr.heap.size + 1 ≤ R := by simpa using hR
      have hs4 := hrow.1
      have x4 : ButX (wr.heap.size + 1) D (wr.alloc (.cells #[.int .i64 t.kind, .int .i64 t.val, .slice a4 t.kids.length n4] 30)) w4 := ButX.below (below_next (below_d (Below.refl _ _)) hb4) (by simp)
      have K4 : Keep (w1.heap.size + 1) wr w4 := Keep.below (below_next BW.out hb4)
      have B4 := hid (below_next BK.out (below_next BW.out hb4))
      clear hR
      go_wp2_with fail
      refine ⟨x4.ex, ?_⟩
      go_wp2_with fail
      refine ⟨(x4.next (below_alloc _ _) (by omega)).ex, ?_⟩
      refine wp_append_kid rfl (.tmp 21) (.tmp 25) rfl rfl rfl hown.out (by omega) K4 (by omega) hrow hkl ?_
      intro a5 n5 m5 w5 ho5 hb5 hbD
      have x5 : ButX (wr.heap.size + 1) D (wr.alloc (.cells #[.int .i64 t.kind, .int .i64 t.val, .slice a4 t.kids.length n4] 30)) w5 := x4.trans (ButX.but (hbD D hD3) (by omega))
      have c5 := box1_butx x5 (by omega) (Ne.symm hD1) (box1_next (below_alloc _ _) c1)
      have B5 := hid (B4.out.trans (hb5.mono (by omega)))
      rw [← hfst.out] at ho5
      have HO5 := hid ho5
      have hxx := x5.ex
      obtain ⟨v1, v2, v3⟩ := id c5
      clear x4 x5 K4 hb4 hb5 hbD ho5 hrow hfst
      refine ⟨hxx, ?_⟩
      go_wp2_with fail
      go_roundw
      case rel => exact ⟨j + 1, by omega, by go_num, hid (B5.out.setCell (Nat.le_refl _) _), _, ⟨by simpa using v1, World.cell?_setCell_same _ _ _ v2, by simpa using v3⟩, hid (HO5.out.keep (Keep.set _ (by simp) _))⟩
      case measure => simp [intOf]; omega
    · have hjn : fs.take j = fs := by rw [List.take_of_length_le]; rw [← HFS.out, List.length_map]; omega
      rw [hjn] at hown
      have hlt2 : ¬ ((j : Int) < (kids.length : Int)) := by omega
      clear hjn
      obtain ⟨wo, rfl⟩ : ∃ wo : World, wo = wr := ⟨_, rfl⟩
      have HSEM2 := HSEM
      have p2 := hid (pbox_next BK.out Q2.out)
      have p3 := hid (box3_next BK.out Q3.out)
      have iw := hid (HIW.out.below BK.out)
      obtain ⟨_, _, hk1, hk2, _, _, har, _⟩ := HSH.out
      rw [formL_ar] at har
      have hfl : fs.length = kids.length := by rw [← HFS.out, List.length_map]
      have hW : Below wo.heap.size wo ((wo.alloc (.cells (zerosB n) 4)).alloc (.cells #[.slice (some ⟨wo.heap.size, 0, none⟩) n n] 49)) := (below_alloc wo _).trans ((below_alloc _ _).mono (by simp))
      have HW := hid hW
      have HR := hid (show BRow ((wo.alloc (.cells (zerosB n) 4)).alloc (.cells #[.slice (some ⟨wo.heap.size, 0, none⟩) n n] 49)) wo.heap.size n (fun _ => false) from
        Row.below (w := wo.alloc (.cells (zerosB n) 4)) ⟨by simp, fun i hi => by rw [World.cell?_alloc_new]; simp [zerosB, madeCells, hi, Nat.mod_one], by simp⟩ (below_alloc _ _))
      have HO := hid (show Box1 ((wo.alloc (.cells (zerosB n) 4)).alloc (.cells #[.slice (some ⟨wo.heap.size, 0, none⟩) n n] 49)) (wo.heap.size + 1) (.slice (some ⟨wo.heap.size, 0, none⟩) n n) from box1_at (by simp))
      obtain ⟨y3, y4, y5, y6, _⟩ := id p3.out
      have y7 : w.heap.size < wo.heap.size := by omega
      clear hW
      by_cases k7 : k = 7
      · subst k7
        obtain ⟨f0, f1, rfl⟩ : ∃ f0 f1, fs = [f0, f1] := by
          have : fs.length = 2 := by simp at har; omega
          match fs, this with
          | [f0, f1], _ => exact ⟨f0, f1, rfl⟩
        have HK := hid (hown.out.kid2 c1)
        have HSOL := hid (HFU.out f0 f1 (HPER.out f0 (by simp)) (HPER.out f1 (by simp)))
        have HF := hid (HFX2.out false _ _ _ HSOL.out _ wo.heap.size (wo.heap.size + 1) w.heap.size w1.heap.size HR.out HO.out (pbox_next HW.out p2.out) (by omega) (by omega) (fun W i x hb hi => untC_any n w1.heap.size i x f0 f1 W (HK.out.below (hb.new HW.out (Nat.le_refl _))) hi (by omega)))
        have HS := hid (show semN wd 7 v [f0, f1] = unt f0 f1 by simp [semN])
        clear har hfl hown
        go_wp2_with fail
        refine HF.out.mono ?_
        rintro e w2 ⟨rfl, hb, hrow⟩
        have HFIN := hid (show TruPost n (sem wd (.mk 7 v kids)) w (.returned (.slice (some ⟨wo.heap.size, 0, none⟩) n n)) w2 from ⟨_, rfl, by omega, by rw [HSEM.out, HS.out]; exact hrow, below_next BB.out (hb.new HW.out (Nat.le_refl _))⟩)
        obtain ⟨o1, o2, o3⟩ := But.box1 hb (by omega) HO.out
        clear hb hrow y3 y4 y5 y6
        go_wp2_with fail
        go_ret
        exact HFIN.out
      by_cases k8 : k = 8
      · subst k8
        obtain ⟨f0, f1, rfl⟩ : ∃ f0 f1, fs = [f0, f1] := by
          have : fs.length = 2 := by simp at har; omega
          match fs, this with
          | [f0, f1], _ => exact ⟨f0, f1, rfl⟩
        have HK := hid (hown.out.kid2 c1)
        have HSOL := hid (HFR.out f0 f1 (HPER.out f0 (by simp)) (HPER.out f1 (by simp)))
        have HF := hid (HFX3.out true _ _ _ HSOL.out _ wo.heap.size (wo.heap.size + 1) w.heap.size w1.heap.size HR.out HO.out (pbox_next HW.out p2.out) (by omega) (by omega) (fun W i x hb hi => rlsC_any n w1.heap.size i x f0 f1 W (HK.out.below (hb.new HW.out (Nat.le_refl _))) hi (by omega)))
        have HS := hid (show semN wd 8 v [f0, f1] = rls f0 f1 by simp [semN])
        clear har hfl hown
        go_wp2_with fail
        refine HF.out.mono ?_
        rintro e w2 ⟨rfl, hb, hrow⟩
        have HFIN := hid (show TruPost n (sem wd (.mk 8 v kids)) w (.returned (.slice (some ⟨wo.heap.size, 0, none⟩) n n)) w2 from ⟨_, rfl, by omega, by rw [HSEM.out, HS.out]; exact hrow, below_next BB.out (hb.new HW.out (Nat.le_refl _))⟩)
        obtain ⟨o1, o2, o3⟩ := But.box1 hb (by omega) HO.out
        clear hb hrow y3 y4 y5 y6
        go_wp2_with fail
        go_ret
        exact HFIN.out
      by_cases k9 : k = 9
      · subst k9
        obtain ⟨f0, rfl⟩ : ∃ f0, fs = [f0] := by
          have : fs.length = 1 := by simp at har; omega
          match fs, this with
          | [f0], _ => exact ⟨f0, rfl⟩
        have HK := hid (hown.out.kid1 c1)
        have HSOL := hid (HFU.out (fun _ => true) f0 (fun _ _ => rfl) (HPER.out f0 (by simp)))
        have HF := hid (HFX4.out false _ _ _ HSOL.out _ wo.heap.size (wo.heap.size + 1) w.heap.size w1.heap.size HR.out HO.out (pbox_next HW.out p2.out) (by omega) (by omega) (fun W i x hb hi => evC_any n w1.heap.size i x f0 W (HK.out.below (hb.new HW.out (Nat.le_refl _))) hi (by omega)))
        have HS := hid (show semN wd 9 v [f0] = unt (fun _ => true) f0 by simp [semN])
        clear har hfl hown
        go_wp2_with fail
        refine HF.out.mono ?_
        rintro e w2 ⟨rfl, hb, hrow⟩
        have HFIN := hid (show TruPost n (sem wd (.mk 9 v kids)) w (.returned (.slice (some ⟨wo.heap.size, 0, none⟩) n n)) w2 from ⟨_, rfl, by omega, by rw [HSEM.out, HS.out]; exact hrow, below_next BB.out (hb.new HW.out (Nat.le_refl _))⟩)
        obtain ⟨o1, o2, o3⟩ := But.box1 hb (by omega) HO.out
        clear hb hrow y3 y4 y5 y6
        go_wp2_with fail
        go_ret
        exact HFIN.out
      by_cases k10 : k = 10
      · subst k10
        obtain ⟨f0, rfl⟩ : ∃ f0, fs = [f0] := by
          have : fs.length = 1 := by simp at har; omega
          match fs, this with
          | [f0], _ => exact ⟨f0, rfl⟩
        have HK := hid (hown.out.kid1 c1)
        have HSOL := hid (HFR.out (fun _ => false) f0 (fun _ _ => rfl) (HPER.out f0 (by simp)))
        have HF := hid (HFX5.out true _ _ _ HSOL.out _ wo.heap.size (wo.heap.size + 1) w.heap.size w1.heap.size HR.out HO.out (pbox_next HW.out p2.out) (by omega) (by omega) (fun W i x hb hi => alC_any n w1.heap.size i x f0 W (HK.out.below (hb.new HW.out (Nat.le_refl _))) hi (by omega)))
        have HS := hid (show semN wd 10 v [f0] = rls (fun _ => false) f0 by simp [semN])
        clear har hfl hown
        go_wp2_with fail
        refine HF.out.mono ?_
        rintro e w2 ⟨rfl, hb, hrow⟩
        have HFIN := hid (show TruPost n (sem wd (.mk 10 v kids)) w (.returned (.slice (some ⟨wo.heap.size, 0, none⟩) n n)) w2 from ⟨_, rfl, by omega, by rw [HSEM.out, HS.out]; exact hrow, below_next BB.out (hb.new HW.out (Nat.le_refl _))⟩)
        obtain ⟨o1, o2, o3⟩ := But.box1 hb (by omega) HO.out
        clear hb hrow y3 y4 y5 y6
        go_wp2_with fail
        go_ret
        exact HFIN.out
      have hk6 : k ≤ 6 := by rw [formL_K] at hk2; omega
      have HAT := hid hatom
      by_cases k1 : k = 1
      · subst k1
        clear har hfl hown
        go_wp2_with fail
        go_loopw [36] (fun i wr => ∃ (jj : Nat) (g : Nat → Bool), jj ≤ n ∧ i = .int .i64 jj ∧ Hid (Below wo.heap.size wo wr) ∧ Box1 wr (wo.heap.size + 1) (.slice (some ⟨wo.heap.size, 0, none⟩) n n) ∧ BRow wr wo.heap.size n g ∧ Hid (∀ q, q < jj → g q = semN wd 1 v fs q)) (fun i _ => n - (intOf i).toNat)
        case atStart => exact ⟨0, _, Nat.zero_le _, rfl, hid HW.out, HO.out, HR.out, hid (by omega)⟩
        case round =>
          obtain ⟨jj, g, hjj, rfl, BQ, o1, hrow, hg⟩ := hrel
          have hrl := hrow.1
          obtain ⟨e3, e4, e5, e6, _⟩ := box3_next BQ.out p3.out
          by_cases hq : jj < n
          · have r0 := hrow.2.1 jj hq
            have rz := hrow.2.2
            have HROW := hid hrow
            have hq2 : (jj : Int) < (n : Int) := by omega
            have O1 := hid o1
            obtain ⟨o2, o3, o4⟩ := o1
            clear hrow y3 y4 y5 y6
            go_wp2_with fail
            go_roundw
            case rel =>
              refine ⟨jj + 1, upd g jj true, by omega, by go_num, hid (BQ.out.setCell (Nat.le_refl _) _), (But.box1 (But.set _ _ _ _) (by omega) O1.out), (brow_upd HROW.out hq _), hid fun q hq => ?_⟩
              unfold upd
              split
              · rename_i e; subst e; exact (by simp [semN])
              · exact hg.out q (by omega)
            case measure => simp [intOf]; omega
          · have HFIN := hid (show TruPost n (sem wd (.mk 1 v kids)) w (.returned (.slice (some ⟨wo.heap.size, 0, none⟩) n n)) wr from ⟨_, rfl, by omega, by rw [HSEM.out]; exact Row.congr hrow fun i hi => by rw [hg.out i (by omega)], below_next BB.out BQ.out⟩)
            have hq2 : ¬ ((jj : Int) < (n : Int)) := by omega
            obtain ⟨o2, o3, o4⟩ := o1
            clear hrow hg y3 y4 y5 y6
            go_wp2_with fail
            go_ret
            exact HFIN.out
      by_cases k2 : k = 2
      · subst k2
        clear har hfl hown
        go_wp2_with fail
        go_loopw [36] (fun i wr => ∃ (jj : Nat) (g : Nat → Bool), jj ≤ n ∧ i = .int .i64 jj ∧ Hid (Below wo.heap.size wo wr) ∧ Box1 wr (wo.heap.size + 1) (.slice (some ⟨wo.heap.size, 0, none⟩) n n) ∧ BRow wr wo.heap.size n g ∧ Hid (∀ q, q < jj → g q = semN wd 2 v fs q)) (fun i _ => n - (intOf i).toNat)
        case atStart => exact ⟨0, _, Nat.zero_le _, rfl, hid HW.out, HO.out, HR.out, hid (by omega)⟩
        case round =>
          obtain ⟨jj, g, hjj, rfl, BQ, o1, hrow, hg⟩ := hrel
          have hrl := hrow.1
          obtain ⟨e3, e4, e5, e6, _⟩ := box3_next BQ.out p3.out
          by_cases hq : jj < n
          · have r0 := hrow.2.1 jj hq
            have rz := hrow.2.2
            have HROW := hid hrow
            have hq2 : (jj : Int) < (n : Int) := by omega
            have O1 := hid o1
            obtain ⟨o2, o3, o4⟩ := o1
            clear hrow y3 y4 y5 y6
            have hjw : jj < word.length := by have := HLEN.out; omega
            obtain ⟨bw, ow, rfl, hbw, _, w0, _⟩ := ints_at iw.out BQ.out hjw
            have hl := HLT.out _ (List.getElem_mem hjw)
            have hwd := hid (show wd jj = word[jj] by rw [HWO.out jj hq, List.getD_eq_getElem?_getD, List.getElem?_eq_getElem hjw]; rfl)
            have hq3 : (jj : Int) < ((word.length : Nat) : Int) := by omega
            generalize word[jj] = z at *
            go_wp2_with fail
            refine wp_region_tail (C := fun wZ => ∃ xZ, wZ = World.over _ xZ) [0,1,2,3,4,5,6,7,8,9,10,11] [12] (12) (by kernel_rfl) (by kernel_rfl) (fun d _ _ _ _ h => by cases d <;> exact h) (bex (Below.refl _ _).drew) ?_; simp only [pick, List.getElem?_cons_succ, List.getElem?_cons_zero]; (repeat (go_big_quiet_step (fail))); refine wpQuiet_nil ?_; simp only [tailW]
            go_wp2_with fail
            go_roundw
            case rel =>
              refine ⟨jj + 1, upd g jj _, by omega, by go_num, hid (below_d2 (BQ.out.setCell (Nat.le_refl _) _)), (box1_next (below_d2 (Below.refl _ _)) (But.box1 (But.set _ _ _ _) (by omega) O1.out)), (Row.below (brow_upd HROW.out hq _) (below_d2 (Below.refl _ _))), hid fun q hq => ?_⟩
              unfold upd
              split
              · rename_i e; subst e; exact (by rw [and_bit z v hl (HAT.out trivial)]; simp [semN, hwd.out])
              · exact hg.out q (by omega)
            case measure => simp [intOf]; omega
          · have HFIN := hid (show TruPost n (sem wd (.mk 2 v kids)) w (.returned (.slice (some ⟨wo.heap.size, 0, none⟩) n n)) wr from ⟨_, rfl, by omega, by rw [HSEM.out]; exact Row.congr hrow fun i hi => by rw [hg.out i (by omega)], below_next BB.out BQ.out⟩)
            have hq2 : ¬ ((jj : Int) < (n : Int)) := by omega
            obtain ⟨o2, o3, o4⟩ := o1
            clear hrow hg y3 y4 y5 y6
            go_wp2_with fail
            go_ret
            exact HFIN.out
      by_cases k3 : k = 3
      · subst k3
        obtain ⟨f0, rfl⟩ : ∃ f0, fs = [f0] := by
          have : fs.length = 1 := by simp at har; omega
          match fs, this with
          | [f0], _ => exact ⟨f0, rfl⟩
        have HK := hid (hown.out.kid1 c1)
        clear har hfl hown
        go_wp2_with fail
        go_loopw [36] (fun i wr => ∃ (jj : Nat) (g : Nat → Bool), jj ≤ n ∧ i = .int .i64 jj ∧ Hid (Below wo.heap.size wo wr) ∧ Box1 wr (wo.heap.size + 1) (.slice (some ⟨wo.heap.size, 0, none⟩) n n) ∧ BRow wr wo.heap.size n g ∧ Hid (∀ q, q < jj → g q = semN wd 3 v [f0] q)) (fun i _ => n - (intOf i).toNat)
        case atStart => exact ⟨0, _, Nat.zero_le _, rfl, hid HW.out, HO.out, HR.out, hid (by omega)⟩
        case round =>
          obtain ⟨jj, g, hjj, rfl, BQ, o1, hrow, hg⟩ := hrel
          have hrl := hrow.1
          obtain ⟨e3, e4, e5, e6, _⟩ := box3_next BQ.out p3.out
          by_cases hq : jj < n
          · have r0 := hrow.2.1 jj hq
            have rz := hrow.2.2
            have HROW := hid hrow
            have hq2 : (jj : Int) < (n : Int) := by omega
            have O1 := hid o1
            obtain ⟨o2, o3, o4⟩ := o1
            clear hrow y3 y4 y5 y6
            obtain ⟨gk, cc, ra, m1, m2, m3, m4, m5, m6⟩ := HK.out.below BQ.out
            have m7 : wr.cell? ⟨ra, jj, none⟩ = some (.bool (f0 jj)) := m6.2.1 jj hq
            have m8 := m6.1
            clear m6
            generalize hx0 : f0 jj = x0 at *
            have HX0 := hid hx0
            clear hx0
            go_wp2_with fail
            refine wp_region_tail (C := fun wZ => ∃ xZ, wZ = World.over _ xZ) [0,1,2,3,4,5,6,7,8,9] [10] (10) (by kernel_rfl) (by kernel_rfl) (fun d _ _ _ _ h => by cases d <;> exact h) (bex (Below.refl _ _).drew) ?_; simp only [pick, List.getElem?_cons_succ, List.getElem?_cons_zero]; (repeat (go_big_quiet_step (fail))); refine wpQuiet_nil ?_; simp only [tailW]
            go_wp2_with fail
            go_roundw
            case rel =>
              refine ⟨jj + 1, upd g jj (!x0), by omega, by go_num, hid (below_d2 (BQ.out.setCell (Nat.le_refl _) _)), (box1_next (below_d2 (Below.refl _ _)) (But.box1 (But.set _ _ _ _) (by omega) O1.out)), (Row.below (brow_upd HROW.out hq _) (below_d2 (Below.refl _ _))), hid fun q hq => ?_⟩
              unfold upd
              split
              · rename_i e; subst e; exact (by simp [semN, HX0.out])
              · exact hg.out q (by omega)
            case measure => simp [intOf]; omega
          · have HFIN := hid (show TruPost n (sem wd (.mk 3 v kids)) w (.returned (.slice (some ⟨wo.heap.size, 0, none⟩) n n)) wr from ⟨_, rfl, by omega, by rw [HSEM.out]; exact Row.congr hrow fun i hi => by rw [hg.out i (by omega)], below_next BB.out BQ.out⟩)
            have hq2 : ¬ ((jj : Int) < (n : Int)) := by omega
            obtain ⟨o2, o3, o4⟩ := o1
            clear hrow hg y3 y4 y5 y6
            go_wp2_with fail
            go_ret
            exact HFIN.out
      by_cases k4 : k = 4
      · subst k4
        obtain ⟨f0, f1, rfl⟩ : ∃ f0 f1, fs = [f0, f1] := by
          have : fs.length = 2 := by simp at har; omega
          match fs, this with
          | [f0, f1], _ => exact ⟨f0, f1, rfl⟩
        have HK := hid (hown.out.kid2 c1)
        clear har hfl hown
        go_wp2_with fail
        go_loopw [36] (fun i wr => ∃ (jj : Nat) (g : Nat → Bool), jj ≤ n ∧ i = .int .i64 jj ∧ Hid (Below wo.heap.size wo wr) ∧ Box1 wr (wo.heap.size + 1) (.slice (some ⟨wo.heap.size, 0, none⟩) n n) ∧ BRow wr wo.heap.size n g ∧ Hid (∀ q, q < jj → g q = semN wd 4 v [f0, f1] q)) (fun i _ => n - (intOf i).toNat)
        case atStart => exact ⟨0, _, Nat.zero_le _, rfl, hid HW.out, HO.out, HR.out, hid (by omega)⟩
        case round =>
          obtain ⟨jj, g, hjj, rfl, BQ, o1, hrow, hg⟩ := hrel
          have hrl := hrow.1
          obtain ⟨e3, e4, e5, e6, _⟩ := box3_next BQ.out p3.out
          by_cases hq : jj < n
          · have r0 := hrow.2.1 jj hq
            have rz := hrow.2.2
            have HROW := hid hrow
            have hq2 : (jj : Int) < (n : Int) := by omega
            have O1 := hid o1
            obtain ⟨o2, o3, o4⟩ := o1
            clear hrow y3 y4 y5 y6
            obtain ⟨gk, cc, ra, rb, m1, m2, m3, m4, m5, m6, m7, m8⟩ := HK.out.below BQ.out
            have m9 : wr.cell? ⟨ra, jj, none⟩ = some (.bool (f0 jj)) := m7.2.1 jj hq
            have m10 : wr.cell? ⟨rb, jj, none⟩ = some (.bool (f1 jj)) := m8.2.1 jj hq
            have m11 := m7.1
            have m12 := m8.1
            clear m7 m8
            generalize hx0 : f0 jj = x0 at *
            generalize hx1 : f1 jj = x1 at *
            have HX0 := hid hx0
            have HX1 := hid hx1
            clear hx0 hx1
            cases x0
            all_goals
              go_wp2_with fail
              refine wp_region_tail (C := fun wZ => ∃ xZ, wZ = World.over _ xZ) [0,1,2,3,4,5,6,7,8,9,10,11,12,13,14] [15,16,17] (17) (by kernel_rfl) (by kernel_rfl) (fun d _ _ _ _ h => by cases d <;> exact h) (bex (Below.refl _ _).drew) ?_; simp only [pick, List.getElem?_cons_succ, List.getElem?_cons_zero]; (repeat (go_big_quiet_step (fail))); refine wpQuiet_nil ?_; simp only [tailW]
              go_wp2_with fail
              refine ⟨bex (below_d (Below.refl _ _)), ?_⟩
              go_wp2_with fail
              refine ⟨bex (below_d (Below.refl _ _)), ?_⟩
              go_wp2_with fail
              go_roundw
              case rel =>
                refine ⟨jj + 1, upd g jj _, by omega, by go_num, hid (below_d2 (BQ.out.setCell (Nat.le_refl _) _)), (box1_next (below_d2 (Below.refl _ _)) (But.box1 (But.set _ _ _ _) (by omega) O1.out)), (Row.below (brow_upd HROW.out hq _) (below_d2 (Below.refl _ _))), hid fun q hq => ?_⟩
                unfold upd
                split
                · rename_i e; subst e; exact (by simp [semN, HX0.out, HX1.out])
                · exact hg.out q (by omega)
              case measure => simp [intOf]; omega
          · have HFIN := hid (show TruPost n (sem wd (.mk 4 v kids)) w (.returned (.slice (some ⟨wo.heap.size, 0, none⟩) n n)) wr from ⟨_, rfl, by omega, by rw [HSEM.out]; exact Row.congr hrow fun i hi => by rw [hg.out i (by omega)], below_next BB.out BQ.out⟩)
            have hq2 : ¬ ((jj : Int) < (n : Int)) := by omega
            obtain ⟨o2, o3, o4⟩ := o1
            clear hrow hg y3 y4 y5 y6
            go_wp2_with fail
            go_ret
            exact HFIN.out
      by_cases k5 : k = 5
      · subst k5
        obtain ⟨f0, f1, rfl⟩ : ∃ f0 f1, fs = [f0, f1] := by
          have : fs.length = 2 := by simp at har; omega
          match fs, this with
          | [f0, f1], _ => exact ⟨f0, f1, rfl⟩
        have HK := hid (hown.out.kid2 c1)
        clear har hfl hown
        go_wp2_with fail
        go_loopw [36] (fun i wr => ∃ (jj : Nat) (g : Nat → Bool), jj ≤ n ∧ i = .int .i64 jj ∧ Hid (Below wo.heap.size wo wr) ∧ Box1 wr (wo.heap.size + 1) (.slice (some ⟨wo.heap.size, 0, none⟩) n n) ∧ BRow wr wo.heap.size n g ∧ Hid (∀ q, q < jj → g q = semN wd 5 v [f0, f1] q)) (fun i _ => n - (intOf i).toNat)
        case atStart => exact ⟨0, _, Nat.zero_le _, rfl, hid HW.out, HO.out, HR.out, hid (by omega)⟩
        case round =>
          obtain ⟨jj, g, hjj, rfl, BQ, o1, hrow, hg⟩ := hrel
          have hrl := hrow.1
          obtain ⟨e3, e4, e5, e6, _⟩ := box3_next BQ.out p3.out
          by_cases hq : jj < n
          · have r0 := hrow.2.1 jj hq
            have rz := hrow.2.2
            have HROW := hid hrow
            have hq2 : (jj : Int) < (n : Int) := by omega
            have O1 := hid o1
            obtain ⟨o2, o3, o4⟩ := o1
            clear hrow y3 y4 y5 y6
            obtain ⟨gk, cc, ra, rb, m1, m2, m3, m4, m5, m6, m7, m8⟩ := HK.out.below BQ.out
            have m9 : wr.cell? ⟨ra, jj, none⟩ = some (.bool (f0 jj)) := m7.2.1 jj hq
            have m10 : wr.cell? ⟨rb, jj, none⟩ = some (.bool (f1 jj)) := m8.2.1 jj hq
            have m11 := m7.1
            have m12 := m8.1
            clear m7 m8
            generalize hx0 : f0 jj = x0 at *
            generalize hx1 : f1 jj = x1 at *
            have HX0 := hid hx0
            have HX1 := hid hx1
            clear hx0 hx1
            cases x0
            all_goals
              go_wp2_with fail
              refine wp_region_tail (C := fun wZ => ∃ xZ, wZ = World.over _ xZ) [0,1,2,3,4,5,6,7,8,9,10,11,12,13,14] [15,16,17] (17) (by kernel_rfl) (by kernel_rfl) (fun d _ _ _ _ h => by cases d <;> exact h) (bex (Below.refl _ _).drew) ?_; simp only [pick, List.getElem?_cons_succ, List.getElem?_cons_zero]; (repeat (go_big_quiet_step (fail))); refine wpQuiet_nil ?_; simp only [tailW]
              go_wp2_with fail
              refine ⟨bex (below_d (Below.refl _ _)), ?_⟩
              go_wp2_with fail
              refine ⟨bex (below_d (Below.refl _ _)), ?_⟩
              go_wp2_with fail
              go_roundw
              case rel =>
                refine ⟨jj + 1, upd g jj _, by omega, by go_num, hid (below_d2 (BQ.out.setCell (Nat.le_refl _) _)), (box1_next (below_d2 (Below.refl _ _)) (But.box1 (But.set _ _ _ _) (by omega) O1.out)), (Row.below (brow_upd HROW.out hq _) (below_d2 (Below.refl _ _))), hid fun q hq => ?_⟩
                unfold upd
                split
                · rename_i e; subst e; exact (by simp [semN, HX0.out, HX1.out])
                · exact hg.out q (by omega)
              case measure => simp [intOf]; omega
          · have HFIN := hid (show TruPost n (sem wd (.mk 5 v kids)) w (.returned (.slice (some ⟨wo.heap.size, 0, none⟩) n n)) wr from ⟨_, rfl, by omega, by rw [HSEM.out]; exact Row.congr hrow fun i hi => by rw [hg.out i (by omega)], below_next BB.out BQ.out⟩)
            have hq2 : ¬ ((jj : Int) < (n : Int)) := by omega
            obtain ⟨o2, o3, o4⟩ := o1
            clear hrow hg y3 y4 y5 y6
            go_wp2_with fail
            go_ret
            exact HFIN.out
      by_cases k6 : k = 6
      · subst k6
        obtain ⟨f0, rfl⟩ : ∃ f0, fs = [f0] := by
          have : fs.length = 1 := by simp at har; omega
          match fs, this with
          | [f0], _ => exact ⟨f0, rfl⟩
        have HK := hid (hown.out.kid1 c1)
        clear har hfl hown
        go_wp2_with fail
        go_loopw [36] (fun i wr => ∃ (jj : Nat) (g : Nat → Bool), jj ≤ n ∧ i = .int .i64 jj ∧ Hid (Below wo.heap.size wo wr) ∧ Box1 wr (wo.heap.size + 1) (.slice (some ⟨wo.heap.size, 0, none⟩) n n) ∧ BRow wr wo.heap.size n g ∧ Hid (∀ q, q < jj → g q = semN wd 6 v [f0] q)) (fun i _ => n - (intOf i).toNat)
        case atStart => exact ⟨0, _, Nat.zero_le _, rfl, hid HW.out, HO.out, HR.out, hid (by omega)⟩
        case round =>
          obtain ⟨jj, g, hjj, rfl, BQ, o1, hrow, hg⟩ := hrel
          have hrl := hrow.1
          obtain ⟨e3, e4, e5, e6, _⟩ := box3_next BQ.out p3.out
          by_cases hq : jj < n
          · have r0 := hrow.2.1 jj hq
            have rz := hrow.2.2
            have HROW := hid hrow
            have hq2 : (jj : Int) < (n : Int) := by omega
            have O1 := hid o1
            obtain ⟨o2, o3, o4⟩ := o1
            clear hrow y3 y4 y5 y6
            obtain ⟨gk, cc, ra, m1, m2, m3, m4, m5, m6⟩ := HK.out.below BQ.out
            have hx : nx stem.length loop.length jj < n := by have := nx_lt (s := stem.length) (p := loop.length) (i := jj) (by omega) (by omega); omega
            have m7 : wr.cell? ⟨ra, nx stem.length loop.length jj, none⟩ = some (.bool (f0 (nx stem.length loop.length jj))) := m6.2.1 _ hx
            have m8 := m6.1
            have p4 := pbox_next BQ.out p2.out
            obtain ⟨p5, p6, p7, _⟩ := p4
            have HN := hid (fun (W : World) => next_any stem.length loop.length jj W a b c d (by omega) (by omega) (by omega))
            have HX0 := hid (show f0 (nx stem.length loop.length jj) = f0 (jj + 1) from per_nx (HPER.out f0 (by simp)) jj)
            have hx2 : ((nx stem.length loop.length jj : Nat) : Int) < (n : Int) := by omega
            clear hx m6
            generalize nx stem.length loop.length jj = q at *
            generalize f0 q = x0 at *
            go_wp2_with fail
            refine wp_region_tail (C := fun wZ => ∃ xZ, wZ = World.over _ xZ) [0,1,2,3,4,5,6] [7,8,9,10,11] (11) (by kernel_rfl) (by kernel_rfl) (fun d _ _ _ _ h => by cases d <;> exact h) (bex (Below.refl _ _).drew) ?_; simp only [pick, List.getElem?_cons_succ, List.getElem?_cons_zero]; (repeat (go_big_quiet_step (fail))); refine wpQuiet_nil ?_; simp only [tailW]
            go_wp2_with fail
            refine (HN.out _).mono ?_
            rintro e w3 ⟨rfl, hb3⟩
            have B3 := hid (below_next (below_d (Below.refl wr.heap.size wr)) hb3)
            have m7' := B3.out.cell (p := ⟨ra, q, none⟩) m8
            rw [m7] at m7'
            have r0' := (Row.below HROW.out B3.out).2.1 jj hq
            have rz' := (Row.below HROW.out B3.out).2.2
            have rl' := (Row.below HROW.out B3.out).1
            have rl2 := B3.out.size
            clear hb3 m7 m8
            go_wp2_with fail
            refine ⟨bex B3.out, ?_⟩
            go_wp2_with fail
            refine ⟨bex B3.out, ?_⟩
            go_wp2_with fail
            refine ⟨bex B3.out, ?_⟩
            go_wp2_with fail
            refine ⟨bex B3.out, ?_⟩
            go_wp2_with fail
            go_roundw
            case rel =>
              refine ⟨jj + 1, upd g jj _, by omega, by go_num, hid ((BQ.out.trans (B3.out.mono BQ.out.size)).setCell (Nat.le_refl _) _), (But.box1 (But.set _ _ _ _) (by omega) (box1_next B3.out O1.out)), (brow_upd (Row.below HROW.out B3.out) hq _), hid fun q hq => ?_⟩
              unfold upd
              split
              · rename_i e; subst e; exact (by simp [semN]; exact HX0.out)
              · exact hg.out q (by omega)
            case measure => simp [intOf]; omega
          · have HFIN := hid (show TruPost n (sem wd (.mk 6 v kids)) w (.returned (.slice (some ⟨wo.heap.size, 0, none⟩) n n)) wr from ⟨_, rfl, by omega, by rw [HSEM.out]; exact Row.congr hrow fun i hi => by rw [hg.out i (by omega)], below_next BB.out BQ.out⟩)
            have hq2 : ¬ ((jj : Int) < (n : Int)) := by omega
            obtain ⟨o2, o3, o4⟩ := o1
            clear hrow hg y3 y4 y5 y6
            go_wp2_with fail
            go_ret
            exact HFIN.out
      omega
theorem tru_any (stem loop : List Int) (hok : LasOk stem loop) : ∀ t, TruT stem loop t := Tr.ind fun k v kids ih => tru_of stem loop hok k v kids ih
end Lasso
end Go.Proofs.Ytkjnmkjdooebmaa
namespace Go.Proofs.Ytkjnmkjdooebmaa
open Go.RowKit
namespace Lasso

theorem OwnK.made (w : World) (n : Nat) : OwnK w.heap.size (.slice (some ⟨w.heap.size, 0, none⟩) 0 0) n [] (w.alloc (.cells #[] 49)) := ⟨[], rfl, by simpa using World.ownsRow_made (e := 49) (size := 1) (base := w.heap.size) w #[] 0 (Nat.le_refl _) (by simp) (by simp), by simp⟩
end Lasso
end Go.Proofs.Ytkjnmkjdooebmaa
namespace Go.Proofs.Ytkjnmkjdooebmaa
open Go.RowKit
namespace Formula
/-- what a call of walk comes to: the counter, in block R, is m behind it -/
def WkPost (v : Value) (R : Nat) (m : Int) (w : World) (e : Ending) (w' : World) : Prop := e = .returned v ∧ Upd w R (.int .i64 m) w'

def WkT (t : Tr) : Prop := ∀ (w : World) (x : Value) (R : Nat) (d n : Int), TrIn (· ≠ R) w t x → 1 ≤ d → d ≤ 7 → 0 ≤ n → n ≤ 12 →
    w.cell? ⟨R, 0, none⟩ = some (.int .i64 n) → w.frozen? ⟨R, 0, none⟩ = false →
    Calls Try.prog 56 #[x, .int .i64 d, .pointer (some ⟨R, 0, none⟩)] w (WkPost (.bool (formL.wk t d n).1) R (formL.wk t d n).2 w)

/-- the closure that ContainsFunc is handed: it walks a node one deeper, and tells whether that failed -/
def clo (D E : Nat) : Value := .func (.func 62) #[] #[.pointer (some ⟨D, 0, none⟩), .pointer (some ⟨E, 0, none⟩)]

set_option maxHeartbeats 400000 in
theorem clo_of (t : Tr) (h : WkT t) (w : World) (x : Value) (R D E : Nat) (d n : Int) (hx : TrIn (· ≠ R) w t x) (hd1 : 0 ≤ d) (hd2 : d ≤ 6) (hn1 : 0 ≤ n) (hn2 : n ≤ 12)
    (hD : w.cell? ⟨D, 0, none⟩ = some (.int .i64 d)) (hE : w.cell? ⟨E, 0, none⟩ = some (.pointer (some ⟨R, 0, none⟩))) (hR : w.cell? ⟨R, 0, none⟩ = some (.int .i64 n)) (hF : w.frozen? ⟨R, 0, none⟩ = false) :
    Calls Try.prog 62 #[x, .pointer (some ⟨D, 0, none⟩), .pointer (some ⟨E, 0, none⟩)] w (WkPost (.bool (!(formL.wk t (d + 1) n).1)) R (formL.wk t (d + 1) n).2 w) := by
  obtain ⟨a, c, rfl⟩ := TrIn_shape hx
  have lD := blt hD
  have lE := blt hE
  have lR : R < w.heap.size := blt hR
  go_enter Try.func62, Try.ntmps62
  go_wp2_with fail
  refine (h _ _ R (d + 1) n (TrIn_alloc hx _) (by omega) (by omega) hn1 hn2 (by simp [go_sem, lR, hR]) (by simp [go_sem, lR, hF])).mono ?_
  rintro e w2 ⟨rfl, hu⟩
  go_wp2_with fail
  go_ret
  exact ⟨rfl, upd_past hu (below_alloc _ _) lR⟩

/-- what a call of IndexFunc comes to: an index, not negative exactly where some node failed -/
def IxPost (bad : Bool) (R : Nat) (m : Int) (w : World) (e : Ending) (w' : World) : Prop := ∃ i : Int, e = .returned (.int .i64 i) ∧ decide (0 ≤ i) = bad ∧ Upd w R (.int .i64 m) w'

set_option maxHeartbeats 1000000 in
theorem ix_of (l : List Tr) (h : ∀ t, t ∈ l → WkT t) (w : World) (a : Option Addr) (c R D E : Nat) (d n : Int) (hl : TrsIn (· ≠ R) w l a) (hc : l.length ≤ c) (hc2 : c ≤ maxLen) (hd1 : 0 ≤ d) (hd2 : d ≤ 6) (hn1 : 0 ≤ n) (hn2 : n ≤ 12)
    (hD : w.cell? ⟨D, 0, none⟩ = some (.int .i64 d)) (hE : w.cell? ⟨E, 0, none⟩ = some (.pointer (some ⟨R, 0, none⟩))) (hR : w.cell? ⟨R, 0, none⟩ = some (.int .i64 n)) (hF : w.frozen? ⟨R, 0, none⟩ = false) (hDR : D ≠ R) (hER : E ≠ R) :
    Calls Try.prog 63 #[.slice a l.length c, clo D E] w (IxPost (!(formL.wkL l (d + 1) n).1) R (formL.wkL l (d + 1) n).2 w) := by
  unfold maxLen at hc2
  have lD := blt hD
  have lE := blt hE
  have lR : R < w.heap.size := blt hR
  unfold clo
  go_enter Try.func63, Try.ntmps63
  go_wp2_with fail
  go_loopw [5, 8] (fun _ i wr => ∃ (j : Nat) (m : Int), j ≤ l.length ∧ i = .int .i64 j ∧ 0 ≤ m ∧ m ≤ 12 ∧ Upd w R (.int .i64 m) wr ∧ Hid (formL.wkL (l.drop j) (d + 1) m = formL.wkL l (d + 1) n)) (fun _ i _ => l.length - (intOf i).toNat)
  case atStart => exact ⟨0, n, Nat.zero_le _, rfl, hn1, hn2, Upd.self hR, hid rfl⟩
  case round =>
    obtain ⟨j, m, hj, rfl, hm1, hm2, hu, hr⟩ := hrel
    have hl' := TrsIn_upd hu (fun b hb => hb) hl
    have qD := (hu.other (o := 0) lD hDR).trans hD
    have qE := (hu.other (o := 0) lE hER).trans hE
    have qR := hu.cell hR
    have qF := (hu.frozen (o := 0) lR).trans hF
    by_cases hlt : j < l.length
    · obtain ⟨b, o, c0, c1, c2, t, rfl, gb, g0, g1, g2, hT⟩ := TrsIn_round hl' (Below.refl _ _) hlt
      have HR2 := hr.out
      rw [hT.out.2.2.1] at HR2
      simp only [Lang.wkL] at HR2
      have HR := hid HR2; clear HR2
      have hbd := formL.wk_bd t (d + 1) m hm2
      rw [formL_N] at hbd
      go_wp2_with fail
      refine (clo_of t (h t hT.out.2.1) wr _ R D E d m hT.out.1 hd1 hd2 hm1 hm2 qD qE qR qF).mono ?_
      rintro e w2 ⟨rfl, hu2⟩
      have hu3 := hu.trans hu2
      cases hq : (formL.wk t (d + 1) m).1 with
      | true =>
        have HR3 := HR.out
        rw [hq, if_pos rfl] at HR3
        have HR4 := hid HR3; clear HR3
        have hb2 := hbd.2.2 hq
        clear hq
        go_wp2_with fail
        go_roundw
        case rel => exact ⟨j + 1, (formL.wk t (d + 1) m).2, by omega, by go_num, by omega, hb2, hu3, HR4⟩
        case measure => simp [intOf]; omega
      | false =>
        have HR3 := HR.out
        rw [hq, if_neg (by simp)] at HR3
        have HR4 := hid HR3; clear HR3 hq
        go_wp2_with fail
        go_ret
        exact ⟨j, rfl, by rw [← HR4.out]; simp, by rw [← HR4.out]; exact hu3⟩
    · have HR2 := hr.out
      rw [List.drop_of_length_le (by omega)] at HR2
      simp only [Lang.wkL] at HR2
      have HR := hid HR2; clear HR2
      go_wp2_with fail
      go_ret
      exact ⟨-1, rfl, by rw [← HR.out]; simp, by rw [← HR.out]; exact hu⟩

set_option maxHeartbeats 400000 in
theorem cf_of (l : List Tr) (h : ∀ t, t ∈ l → WkT t) (w : World) (a : Option Addr) (c R D E : Nat) (d n : Int) (hl : TrsIn (· ≠ R) w l a) (hc : l.length ≤ c) (hc2 : c ≤ maxLen) (hd1 : 0 ≤ d) (hd2 : d ≤ 6) (hn1 : 0 ≤ n) (hn2 : n ≤ 12)
    (hD : w.cell? ⟨D, 0, none⟩ = some (.int .i64 d)) (hE : w.cell? ⟨E, 0, none⟩ = some (.pointer (some ⟨R, 0, none⟩))) (hR : w.cell? ⟨R, 0, none⟩ = some (.int .i64 n)) (hF : w.frozen? ⟨R, 0, none⟩ = false) (hDR : D ≠ R) (hER : E ≠ R) :
    Calls Try.prog 61 #[.slice a l.length c, clo D E] w (WkPost (.bool (!(formL.wkL l (d + 1) n).1)) R (formL.wkL l (d + 1) n).2 w) := by
  have H := ix_of l h w a c R D E d n hl hc hc2 hd1 hd2 hn1 hn2 hD hE hR hF hDR hER
  have HH := hid H; clear H hD hE hR hF
  unfold clo at HH ⊢
  go_enter Try.func61, Try.ntmps61
  go_wp2_with fail
  refine HH.out.mono ?_
  rintro e w2 ⟨i, rfl, hi, hu⟩
  have HI := hid hi; clear hi
  go_wp2_with fail
  go_ret
  exact ⟨congrArg (fun x => Ending.returned (.bool x)) HI.out, hu⟩


end Formula
end Go.Proofs.Ytkjnmkjdooebmaa
namespace Go.Proofs.Ytkjnmkjdooebmaa
open Go.RowKit
namespace Formula
set_option maxHeartbeats 1000000 in
theorem operands_any (k : Int) (w : World) : Calls Try.prog 60 #[.int .i64 k] w (RetW (.int .i64 (formL.ar k)) w) := by
  by_cases h1 : k = 1
  · subst h1
    go_enter Try.func60, Try.ntmps60
    go_wp2_with fail
    go_ret
    exact ⟨rfl, rfl⟩
  by_cases h2 : k = 2
  · subst h2
    go_enter Try.func60, Try.ntmps60
    go_wp2_with fail
    go_ret
    exact ⟨rfl, rfl⟩
  by_cases h4 : k = 4
  · subst h4
    go_enter Try.func60, Try.ntmps60
    go_wp2_with fail
    go_ret
    exact ⟨rfl, rfl⟩
  by_cases h5 : k = 5
  · subst h5
    go_enter Try.func60, Try.ntmps60
    go_wp2_with fail
    go_ret
    exact ⟨rfl, rfl⟩
  by_cases h7 : k = 7
  · subst h7
    go_enter Try.func60, Try.ntmps60
    go_wp2_with fail
    go_ret
    exact ⟨rfl, rfl⟩
  by_cases h8 : k = 8
  · subst h8
    go_enter Try.func60, Try.ntmps60
    go_wp2_with fail
    go_ret
    exact ⟨rfl, rfl⟩
  have e1 : (k == 1) = false := by simpa using h1
  have e2 : (k == 2) = false := by simpa using h2
  have e4 : (k == 4) = false := by simpa using h4
  have e5 : (k == 5) = false := by simpa using h5
  have e7 : (k == 7) = false := by simpa using h7
  have e8 : (k == 8) = false := by simpa using h8
  have E := hid (show formL.ar k = 1 by rw [formL_ar, if_neg (by omega), if_neg (by omega)])
  clear h1 h2 h4 h5 h7 h8
  go_enter Try.func60, Try.ntmps60
  go_wp2_with fail
  go_ret
  exact ⟨congrArg (fun x => Ending.returned (.int .i64 x)) E.out.symm, rfl⟩

set_option maxHeartbeats 2000000 in
theorem wk_of (k v : Int) (kids : List Tr) (h : ∀ t, t ∈ kids → WkT t) : WkT (.mk k v kids) := by
  intro w x R d n hx hd1 hd2 hn1 hn2 hR hF
  rw [TrIn_mk] at hx
  obtain ⟨a, n', c, rfl, hk, hv, rfl, hc, hc2, hks⟩ := hx
  have lR : R < w.heap.size := blt hR
  have hE0 := hid (show formL.wk (.mk k v kids) d n = if 6 < d ∨ formL.N < n + 1 ∨ formL.okB k v kids.length = false then (false, n + 1) else formL.wkL kids (d + 1) (n + 1) by simp only [Lang.wk])
  have lR1 : R < w.heap.size + 1 := by omega
  have lR2 : R < w.heap.size + 1 + 1 := by omega
  have lR3 : R < w.heap.size + 1 + 1 + 1 := by omega
  go_enter Try.func56, Try.ntmps56
  go_upto_if 15 with fail
  go_cut [7] (fun s7 wx => s7 = .int .i64 (formL.most k) ∧ Upd w R (.int .i64 (n + 1)) wx ∧ Box3 wx w.heap.size (.int .i64 k) (.int .i64 v) (.slice a kids.length c) ∧ Box1 wx (w.heap.size + 1) (.int .i64 d) ∧ Box1 wx (w.heap.size + 1 + 1) (.pointer (some ⟨R, 0, none⟩)))
  case first =>
    go_wp2_with fail
    all_goals go_meet
    all_goals refine ⟨int_val ?_, Upd.of (by repeat (first | exact Below.refl _ _ | assumption | refine below_a ?_ _ | refine below_o ?_ _ | refine below_d ?_ | refine below_n ?_ _ | refine below_s ?_ (by first | (simp; done) | (simp; omega) | omega) _)), ⟨(by first | (simp; done) | (simp; omega) | omega), by simp [go_sem], by simp [go_sem], by simp [go_sem], by simp [go_sem], by simp [go_sem], by simp [go_sem]⟩, ⟨by simp, by simp [go_sem], by simp [go_sem]⟩, ⟨by simp, by simp [go_sem], by simp [go_sem]⟩⟩
    all_goals first
      | (have e := ‹(k == 2) = true›; simp at e; rw [ formL_most, if_pos e])
      | (have e := ‹(k == 2) = false›; simp at e; rw [ formL_most, if_neg e])
  case rest =>
    obtain ⟨rfl, hu, b3, b1, bp⟩ := hcut
    have bR : Box1 wc R (.int .i64 (n + 1)) := ⟨Nat.lt_of_lt_of_le lR hu.size, hu.cell hR, (hu.frozen (o := 0) lR).trans hF⟩
    have hno : ∀ (hh : ¬((1 ≤ k ∧ k ≤ 10) ∧ (0 ≤ v ∧ v ≤ formL.most k) ∧ (kids.length : Int) = formL.ar k)), formL.wk (.mk k v kids) d n = (false, n + 1) := fun hh => by
      rw [hE0.out, if_pos (.inr (.inr (formL.okB_no hh)))]
    have HNO := hid hno; clear hno
    by_cases c1 : 6 < d
    · have E := hid (show formL.wk (.mk k v kids) d n = (false, n + 1) by rw [hE0.out, if_pos (.inl c1)])
      have c1' : decide (6 < d) = true := by simpa using c1
      clear c1 HNO
      go_wp2_with fail
      refine wp_region_below (by kernel_rfl) (by kernel_rfl) ?_; (repeat (go_big_quiet_step ((fail)))); refine wpQuiet_nil ?_
      intro w1 hb
      go_wp2_with fail
      go_ret
      exact ⟨by rw [E.out]; rfl, by rw [E.out]; exact hu.more hb⟩
    have c1' : decide (6 < d) = false := by simpa using c1
    by_cases c2 : 12 < n + 1
    · have E := hid (show formL.wk (.mk k v kids) d n = (false, n + 1) by rw [hE0.out, if_pos (.inr (.inl c2))])
      have c2' : decide (12 < n + 1) = true := by simpa using c2
      clear c1 c2 HNO
      go_wp2_with fail
      refine wp_region_below (by kernel_rfl) (by kernel_rfl) ?_; (repeat (go_big_quiet_step ((fail)))); refine wpQuiet_nil ?_
      intro w1 hb
      go_wp2_with fail
      go_ret
      exact ⟨by rw [E.out]; rfl, by rw [E.out]; exact hu.more hb⟩
    have c2' : decide (12 < n + 1) = false := by simpa using c2
    by_cases c3 : 1 ≤ k ∧ k ≤ 10
    · by_cases c4 : 0 ≤ v ∧ v ≤ formL.most k
      · by_cases c5 : (kids.length : Int) = formL.ar k
        · have E := hid (show formL.wk (.mk k v kids) d n = formL.wkL kids (d + 1) (n + 1) by
            rw [hE0.out, if_neg]
            rintro (h1 | h1 | h1)
            · exact c1 h1
            · exact c2 h1
            · rw [ formL.okB_iff.2 ⟨c3, c4, c5⟩] at h1; cases h1)
          have e5 : ((kids.length : Int) != formL.ar k) = false := by simpa using c5
          clear c5 HNO
          go_wp2_with fail
          refine wp_region_below (by kernel_rfl) (by kernel_rfl) ?_; (repeat (go_big_quiet_step ((first | (go_at_call 60; exact Calls.over_same (operands_any _ _)) | (go_at_call 30; first | with_reducible exact Calls.over_same (in_yes c3 _) | with_reducible exact Calls.over_same (in_yes c4 _)))))); refine wpQuiet_nil ?_
          intro w1 hb
          replace b3 := box3_next hb b3
          replace b1 := box1_next hb b1
          replace bp := box1_next hb bp
          replace bR := box1_next hb bR
          replace hu := hu.more hb
          go_wp2_with fail
          refine (cf_of kids h _ a c R (w.heap.size + 1) (w.heap.size + 1 + 1) d (n + 1) (TrsIn_upd hu (fun b hb => hb) hks) hc hc2 (by omega) (by omega) (by omega) (by omega) b1.2.1 bp.2.1 bR.2.1 bR.2.2 (by omega) (by omega)).mono ?_
          rintro e w' ⟨rfl, hu2⟩
          go_wp2_with fail
          go_ret
          exact ⟨by rw [E.out]; simp, by rw [E.out]; exact hu.trans hu2⟩
        · have E := hid (HNO.out (fun hh => c5 hh.2.2))
          have e5 : ((kids.length : Int) != formL.ar k) = true := by simpa using c5
          clear c5 HNO
          go_wp2_with fail
          refine wp_region_below (by kernel_rfl) (by kernel_rfl) ?_; (repeat (go_big_quiet_step ((first | (go_at_call 60; exact Calls.over_same (operands_any _ _)) | (go_at_call 30; first | with_reducible exact Calls.over_same (in_yes c3 _) | with_reducible exact Calls.over_same (in_yes c4 _)))))); refine wpQuiet_nil ?_
          intro w1 hb
          go_wp2_with fail
          go_ret
          exact ⟨by rw [E.out]; rfl, by rw [E.out]; exact hu.more hb⟩
      · have E := hid (HNO.out (fun hh => c4 hh.2.1))
        clear HNO
        go_wp2_with fail
        refine wp_region_below (by kernel_rfl) (by kernel_rfl) ?_; (repeat (go_big_quiet_step ((go_at_call 30; first | with_reducible exact Calls.over_same (in_yes c3 _) | with_reducible exact Calls.over_same (in_no c4 _))))); refine wpQuiet_nil ?_
        intro w1 hb
        go_wp2_with fail
        go_ret
        exact ⟨by rw [E.out]; rfl, by rw [E.out]; exact hu.more hb⟩
    · have E := hid (HNO.out (fun hh => c3 hh.1))
      clear HNO
      go_wp2_with fail
      refine wp_region_below (by kernel_rfl) (by kernel_rfl) ?_; (repeat (go_big_quiet_step ((go_at_call 30; exact Calls.over_same (in_no c3 _))))); refine wpQuiet_nil ?_
      intro w1 hb
      go_wp2_with fail
      go_ret
      exact ⟨by rw [E.out]; rfl, by rw [E.out]; exact hu.more hb⟩

theorem wk_any : ∀ t, WkT t := fun t => Tr.ind (fun k v kids ih => wk_of k v kids ih) t

end Formula
end Go.Proofs.Ytkjnmkjdooebmaa
namespace Go.Proofs.Ytkjnmkjdooebmaa
open Go.RowKit
namespace Formula
set_option maxHeartbeats 400000 in
theorem nodes_any (t : Tr) (w : World) (x : Value) (hx : TrIn Any w t x) : Calls Try.prog 38 #[x] w (Ret (.int .i64 (formL.size t)) w) := by
  have hx0 := hx
  obtain ⟨a, c, rfl⟩ := TrIn_shape hx
  have E := hid (formL.size_wk t)
  go_enter Try.func38, Try.ntmps38
  go_wp2_with fail
  refine (wk_any t _ _ (w.heap.size + 1) 1 0 (TrIn_alloc (TrIn_alloc (TrIn_mono (fun b hb => by omega) (TrIn_old hx)) _) _) (by omega) (by omega) (by omega) (by omega) (by simp [go_sem]) (by simp [go_sem])).mono ?_
  rintro e w' ⟨rfl, hu⟩
  have qR := hu.cell (u := .int .i64 0) (by simp [go_sem])
  cases hq : (formL.wk t 1 0).1 with
  | true =>
    have E2 := E.out
    rw [hq, if_pos rfl] at E2
    have E3 := hid E2; clear E2 hq
    go_wp2_with fail
    go_ret
    exact Ret.mk (int_val E3.out.symm) (hu.new (by repeat (first | exact Below.refl _ _ | assumption | refine below_a ?_ _ | refine below_o ?_ _ | refine below_d ?_ | refine below_n ?_ _ | refine below_s ?_ (by first | (simp; done) | (simp; omega) | omega) _)) (by omega))
  | false =>
    have E2 := E.out
    rw [hq, if_neg (by simp)] at E2
    have E3 := hid E2; clear E2 hq
    go_wp2_with fail
    go_ret
    exact Ret.mk (int_val E3.out.symm) (hu.new (by repeat (first | exact Below.refl _ _ | assumption | refine below_a ?_ _ | refine below_o ?_ _ | refine below_d ?_ | refine below_n ?_ _ | refine below_s ?_ (by first | (simp; done) | (simp; omega) | omega) _)) (by omega))

set_option maxHeartbeats 400000 in
theorem valid_any (t : Tr) (w : World) (x : Value) (hx : TrIn Any w t x) : Calls Try.prog 21 #[x] w (Ret (.bool (formL.valid t)) w) := by
  have hx0 := hx
  obtain ⟨a, c, rfl⟩ := TrIn_shape hx
  have E := hid (formL.valid_size t)
  go_enter Try.func21, Try.ntmps21
  go_wp2_with fail
  refine (nodes_any t _ _ (TrIn_alloc hx _)).mono ?_
  rintro e w' ⟨rfl, hby⟩
  obtain ⟨y, rfl⟩ := bex hby
  clear hby
  go_wp2_with fail
  go_ret
  exact Ret.mk (bool_val E.out.symm) (by repeat (first | exact Below.refl _ _ | assumption | refine below_a ?_ _ | refine below_o ?_ _ | refine below_d ?_ | refine below_n ?_ _ | refine below_s ?_ (by first | (simp; done) | (simp; omega) | omega) _))

end Formula
end Go.Proofs.Ytkjnmkjdooebmaa
