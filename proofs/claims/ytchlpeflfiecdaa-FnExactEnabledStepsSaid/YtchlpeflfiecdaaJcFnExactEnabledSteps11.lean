/- Joined texts (LawEnabledSteps, ArgTr, ArgEd, ArgSys, ArgPair): contracts and plain laws. Conditions: those of each theorem. -/
import Derived.Test.YtchlpeflfiecdaaJcFnExactEnabledSteps9
import Derived.Test.YtchlpeflfiecdaaJcFnExactEnabledSteps10
import Derived.Test.YtchlpeflfiecdaaJcFnExactEnabledSteps0
import Derived.Test.YtchlpeflfiecdaaJcFnExactEnabledSteps1
import Derived.Test.YtchlpeflfiecdaaJcFnExactEnabledSteps2
import Derived.Test.YtchlpeflfiecdaaJcFnExactEnabledSteps6
import Derived.Deep.RegionHeld3
import Derived.ProofKit
import Derived.ChangeOld
import Derived.Lib.SmallJoins
namespace Go.Proofs.Ytchlpeflfiecdaa
open Go.RowKit
open Go.Proofs.Ytchlpeflfiecdaa.Sys
set_option linter.unusedVariables false
set_option linter.unusedSimpArgs false

set_option maxRecDepth 100000 in
set_option maxHeartbeats 8000000 in
theorem core_FnExactEnabledSteps (t : Sy) (s l : List Int) (w : World) (x y : Value) (hx : SyIn Any w t x) (hy : State.PairIn Any w s l y) (k1 : 0 ≤ Sys.szS t 1048576) (k2 : 0 ≤ State.szP s l (Sys.szS t 1048576)) : Calls Try.prog 7 #[x, y] w (Ret (.bool true) w) := by
  have HX := hid hx
  have HY := hid hy
  obtain ⟨a, c, b, d, rfl⟩ := hx.shape
  obtain ⟨a', b', c', d', rfl, h1, h2, _⟩ := hy
  have hI := hid (And.intro h1.2 h2.2)
  have hbd := Sys.szS_bd t 1048576 (by omega) (by omega)
  have HSZ := hid (fun (W : World) (M : Below w.heap.size w W) => Sys.szS_any t W _ 1048576 (HX.out.below M) (by omega) (by omega))
  have HSF := hid (fun (W : World) (M : Below w.heap.size w W) => State.sz_any s l W _ (Sys.szS t 1048576) (HY.out.below M) hbd.2 hbd.1)
  have hsm := hid (Sys.small_of_sz t k1)
  have hl := hid (State.szP_len hbd.2 k2)
  have k1' : ¬ (Sys.szS t 1048576 < 0) := by omega
  have k2' : ¬ (State.szP s l (Sys.szS t 1048576) < 0) := by omega
  generalize State.szP s l (Sys.szS t 1048576) = g2 at *
  generalize Sys.szS t 1048576 = g at *
  have hmb := mS_bd hsm.out
  have HTO := hid (fun (W : World) (M : Below w.heap.size w W) => Sys.toS_any t W _ (HX.out.below M) hsm.out)
  have HTS := hid (fun (W : World) (M : Below w.heap.size w W) => State.to_any s l W _ (HY.out.below M) hl.out.1 hl.out.2)
  have hr := enabS_len t s l
  have HS := hid (fun (W : World) (x y : Value) (h : SyIn Any W t x) (h2 : State.PairIn Any W s l y) => specEnab_any t s l W x y h h2)
  have HI := hid (fun (W : World) (x y : Value) (h : SyIn Any W t x) (h2 : State.PairIn Any W s l y) => enab_any t s l W x y h h2)
  generalize enabS t s l = r at *
  have hl1 := hl.out.1
  have hl2 := hl.out.2
  clear hx h1 h2 k1 k2 hbd
  go_enter Try.func7, Try.ntmps7
  go_wp2_with fail
  refine (HSZ.out _ (by repeat (first | exact Below.refl _ _ | assumption | refine below_a ?_ _ | refine below_o ?_ _ | refine below_d ?_ | refine below_n ?_ _ | refine below_s ?_ (by first | (simp; done) | (simp; omega) | omega) _))).mono ?_
  rintro y w101 ⟨rfl, hb⟩
  have P := hid (Sys.box2_next hb (Sys.box2_next (below_alloc _ _) (Sys.box2_at (w := w) (a := .slice a t.init.length c) (b := .slice b t.procs.length d) (t := 40) rfl)))
  have Q := hid (Sys.box2_next hb (Sys.box2_at (w := w.alloc _) (B := w.heap.size + 1) (a := .slice a' s.length c') (b := .slice b' l.length d') (t := 58) (by simp)))
  have B := hid (below_next (show Below w.heap.size w _ from below_next (below_alloc _ _) (below_alloc _ _)) hb)
  clear hb
  obtain ⟨q0, q1, q2, _⟩ := id Q.out
  go_wp2_with fail
  refine (HSF.out _ B.out).mono ?_
  rintro y w102 ⟨rfl, hb⟩
  replace P := hid (box2_next hb P.out)
  replace Q := hid (box2_next hb Q.out)
  replace B := hid (below_next B.out hb)
  clear hb
  clear q0 q1 q2 HSZ HSF
  obtain ⟨p0, p1, p2, _⟩ := id P.out
  obtain ⟨q0, q1, q2, _⟩ := id Q.out
  go_wp2_with fail
  refine wp_region_ord (C := fun wZ => ∃ xZ, wZ = World.over _ xZ) [0,2] (.one 1 (.one 3 (.one 4 (.one 5 .done)))) [] (by kernel_rfl) (by kernel_rfl) (fun d _ _ _ _ h => by cases d <;> exact h) (bex (Below.refl _ _).drew) ?_; simp only [pick, List.getElem?_cons_succ, List.getElem?_cons_zero]; (repeat (go_big_quiet_step (fail))); refine wpQuiet_nil ?_; simp only [ordW, pick, List.getElem?_cons_succ, List.getElem?_cons_zero]
  have hb := below_d (Below.refl w102.heap.size w102)
  have C := hid hb
  replace P := hid (box2_next hb P.out)
  replace Q := hid (box2_next hb Q.out)
  replace B := hid (below_next B.out hb)
  clear hb p0 p1 p2 q0 q1 q2
  go_wp2_with fail
  refine (HTO.out _ B.out).mono ?_
  rintro y w103 ⟨v1, rfl, hn1, hb⟩
  have N1 := hid (NewSy_any hn1)
  replace P := hid (box2_next hb P.out)
  replace Q := hid (box2_next hb Q.out)
  replace B := hid (below_next B.out hb)
  replace C := hid (below_next C.out hb)
  clear hb
  clear hn1
  go_wp2_with fail
  refine ⟨bex C.out, ?_⟩
  go_wp2_with fail
  refine (HTS.out _ B.out).mono ?_
  rintro y w104 ⟨v2, rfl, hn2, hb⟩
  have N2 := hid (hn2.any hI.out.1 hI.out.2 (Nat.le_trans hl.out.1 (by unfold maxLen; omega)) (Nat.le_trans hl.out.2 (by unfold maxLen; omega)))
  replace N1 := hid (N1.out.below hb)
  replace P := hid (box2_next hb P.out)
  replace Q := hid (box2_next hb Q.out)
  replace B := hid (below_next B.out hb)
  replace C := hid (below_next C.out hb)
  clear hb
  clear hn2
  go_wp2_with fail
  refine ⟨bex C.out, ?_⟩
  go_wp2_with fail
  refine (HS.out _ _ _ N1.out N2.out).mono ?_
  rintro y w105 ⟨vW, rfl, hvW, hb⟩
  obtain ⟨aW, cW, bsW, rfl, cW1, cW2, oW, gW⟩ := strow_o hvW
  have OW := hid oW
  have LW := hid oW.lt
  replace P := hid (box2_next hb P.out)
  replace Q := hid (box2_next hb Q.out)
  replace B := hid (below_next B.out hb)
  replace C := hid (below_next C.out hb)
  clear hb
  clear N1 N2 oW gW hvW
  go_wp2_with fail
  refine ⟨bex C.out, ?_⟩
  go_wp2_with fail
  refine ⟨bex C.out, ?_⟩
  clear C
  obtain ⟨w3, hw3⟩ : ∃ w3 : World, w3 = w105 := ⟨_, rfl⟩
  subst hw3
  have l13 : w.heap.size + 1 < w3.heap.size := Q.out.1
  obtain ⟨p0, p1, p2, _⟩ := id P.out
  go_wp2_with fail
  refine (HTO.out _ B.out).mono ?_
  rintro y w106 ⟨v1, rfl, hn1, hb⟩
  have FR := hid (NewSy.fresh hn1)
  have s34 := hb.size
  replace P := hid (box2_next hb P.out)
  replace Q := hid (box2_next hb Q.out)
  replace B := hid (below_next B.out hb)
  replace OW := hid (OW.out.below hb)
  clear hb
  clear hn1 p0 p1 p2
  obtain ⟨w4, hw4⟩ : ∃ w4 : World, w4 = w106 := ⟨_, rfl⟩
  subst hw4
  obtain ⟨a2, c2, b2, d2, rfl⟩ := SyIn.shape FR.out
  have PP := hid (show ∀ b, Fresh w4 w3.heap.size w4.heap.size b → w3.heap.size ≤ b ∧ b < w4.heap.size from fun b h => ⟨h.1, h.2.1⟩)
  have PF := hid (show ∀ b, Fresh w4 w3.heap.size w4.heap.size b → ∀ i, w4.frozen? ⟨b, i, none⟩ = false from fun b h => h.2.2)
  obtain ⟨pr, hpr⟩ : ∃ pr : Nat → Prop, Hid (pr = Fresh w4 w3.heap.size w4.heap.size) := ⟨_, hid rfl⟩
  rw [← hpr.out] at FR PP PF
  obtain ⟨q0, q1, q2, _⟩ := id Q.out
  go_wp2_with fail
  refine (HTS.out _ (by exact below_next B.out (below_alloc _ _))).mono ?_
  rintro y w107 ⟨v2, rfl, hn2, hb⟩
  have X0 := hid (Sys.box2_next hb (Sys.box2_at (w := w4) (a := .slice a2 t.init.length c2) (b := .slice b2 t.procs.length d2) (t := 45) rfl))
  replace hb := below_next (below_alloc _ _) hb
  have M4 := hid hb
  have s45 := hb.size
  replace P := hid (box2_next hb P.out)
  replace Q := hid (box2_next hb Q.out)
  replace B := hid (below_next B.out hb)
  replace OW := hid (OW.out.below hb)
  clear hb
  clear q0 q1 q2
  obtain ⟨r3, r4, rfl, o3, o4, g3, g4, g5⟩ := State.NewPair.own hn2
  obtain ⟨w5, hw5⟩ : ∃ w5 : World, w5 = w107 := ⟨_, rfl⟩
  subst hw5
  have N3 := hid (hn2.any hI.out.1 hI.out.2 (Nat.le_trans hl.out.1 (by unfold maxLen; omega)) (Nat.le_trans hl.out.2 (by unfold maxLen; omega)))
  have O3 := hid o3
  have O4 := hid o4
  have G34 := hid (And.intro g3 (And.intro g4 g5))
  have M5 := hid (Below.refl w5.heap.size w5)
  have l45 := X0.out.1
  clear o3 o4 hn2 g3 g4 g5
  obtain ⟨x0, x1, x2, _⟩ := id X0.out
  go_wp2_with fail
  refine (HI.out _ _ _ (((SyIn.any FR.out).below M4.out).below (below_alloc _ _)) (N3.out.below (below_alloc _ _))).mono ?_
  rintro y w108 ⟨vG, rfl, hvG, hb⟩
  obtain ⟨aG, cG, bsG, rfl, cG1, cG2, oG, gG⟩ := strow_o hvG
  have gG' := hid (show ∀ b, b ∈ bsG → w5.heap.size < b from fun b h => by have := gG b h; simp at this; omega)
  have X1 := hid (Sys.box2_next hb (Sys.box2_at (w := w5) (a := .slice (some ⟨r3, 0, none⟩) s.length s.length) (b := .slice (some ⟨r4, 0, none⟩) l.length l.length) (t := 62) rfl))
  replace hb := below_next (below_alloc _ _) hb
  have OG := hid oG
  have LG := hid oG.lt
  replace P := hid (box2_next hb P.out)
  replace Q := hid (box2_next hb Q.out)
  replace B := hid (below_next B.out hb)
  replace OW := hid (OW.out.below hb)
  replace X0 := hid (box2_next hb X0.out)
  replace N3 := hid (N3.out.below hb)
  replace O3 := hid (O3.out.below hb)
  replace O4 := hid (O4.out.below hb)
  replace M4 := hid (below_next M4.out hb)
  replace M5 := hid (below_next M5.out hb)
  clear hb
  clear x0 x1 x2 oG gG hvG
  go_wp2_with fail
  refine (eqStepS_any r _ _ _ _ _ OG.out.stIn OW.out.stIn cG1 cG2 cW1 cW2).mono ?_
  rintro y w109 ⟨rfl, hb⟩
  replace OG := hid (OG.out.below hb)
  replace OW := hid (OW.out.below hb)
  replace P := hid (box2_next hb P.out)
  replace Q := hid (box2_next hb Q.out)
  replace B := hid (below_next B.out hb)
  replace X0 := hid (box2_next hb X0.out)
  replace X1 := hid (box2_next hb X1.out)
  replace N3 := hid (N3.out.below hb)
  replace O3 := hid (O3.out.below hb)
  replace O4 := hid (O4.out.below hb)
  replace M4 := hid (below_next M4.out hb)
  replace M5 := hid (below_next M5.out hb)
  clear hb
  go_wp2_with fail
  have h1 := Sys.box2_next (below_d (Below.refl _ _)) P.out
  have h2 := Sys.box2_next (below_d (Below.refl _ _)) X0.out
  have Bd := below_d B.out
  have hm := ((SyIn.any FR.out).below M4.out).below (below_d (Below.refl _ _))
  go_region_held3 (fun w' => w'.cell? ⟨w.heap.size, 0, none⟩ = some (.slice a t.init.length c) ∧ w'.cell? ⟨w.heap.size, 1, none⟩ = some (.slice b t.procs.length d) ∧ w'.cell? ⟨w4.heap.size, 0, none⟩ = some (.slice a2 t.init.length c2) ∧ w'.cell? ⟨w4.heap.size, 1, none⟩ = some (.slice b2 t.procs.length d2))
    (first | exact ⟨h1.2.1, h1.2.2.1, h2.2.1, h2.2.2.1⟩ | exact ⟨k1.2.1, k1.2.2.1, k2.2.1, k2.2.2.1⟩ | exact ⟨l1.2.1, l1.2.2.1, l2.2.1, l2.2.2.1⟩)
    (first
      | (go_at_call 19; have HT := HTO.out _ Bd; refine HT.mono ?_; clear HT; rintro y w7 ⟨v3, rfl, hn3, hb⟩; have N7 := hid (NewSy_any hn3); obtain ⟨a3, c3, b3, d3, rfl⟩ := N7.out.shape; have k1 := Sys.box2_next hb h1; have k2 := Sys.box2_next hb h2; have hm3 := hm.below hb; have B7 := below_next Bd hb; have Z7 := below_next (below_d (Below.refl w109.heap.size w109)) hb; clear hb hn3)
      | (go_at_call 21; have HT := Sys.eqS_any t t _ _ _ hm3 N7.out; refine HT.mono ?_; clear HT; rintro y w8 ⟨rfl, hb⟩; rw [eqS_refl]; have l1 := Sys.box2_next hb k1; have l2 := Sys.box2_next hb k2; have B8 := below_next B7 hb; have Z8 := hid (below_next Z7 hb); clear hb))
  have hb := Z8.out
  replace OG := hid (OG.out.below hb)
  replace OW := hid (OW.out.below hb)
  replace P := hid (box2_next hb P.out)
  replace Q := hid (box2_next hb Q.out)
  replace B := hid (below_next B.out hb)
  replace X0 := hid (box2_next hb X0.out)
  replace X1 := hid (box2_next hb X1.out)
  replace N3 := hid (N3.out.below hb)
  replace O3 := hid (O3.out.below hb)
  replace O4 := hid (O4.out.below hb)
  replace M4 := hid (below_next M4.out hb)
  replace M5 := hid (below_next M5.out hb)
  clear hb h1 h2 hm k1 k2 l1 l2 hm3 Bd B7 B8 Z7 Z8 N7
  go_wp2_with fail
  have h1 := Sys.box2_next (below_d (Below.refl _ _)) Q.out
  have h2 := Sys.box2_next (below_d (Below.refl _ _)) X1.out
  have Bd := below_d B.out
  have hm := N3.out.below (below_d (Below.refl _ _))
  go_region_held3 (fun w' => w'.cell? ⟨w.heap.size + 1, 0, none⟩ = some (.slice a' s.length c') ∧ w'.cell? ⟨w.heap.size + 1, 1, none⟩ = some (.slice b' l.length d') ∧ w'.cell? ⟨w5.heap.size, 0, none⟩ = some (.slice (some ⟨r3, 0, none⟩) s.length s.length) ∧ w'.cell? ⟨w5.heap.size, 1, none⟩ = some (.slice (some ⟨r4, 0, none⟩) l.length l.length))
    (first | exact ⟨h1.2.1, h1.2.2.1, h2.2.1, h2.2.2.1⟩ | exact ⟨k1.2.1, k1.2.2.1, k2.2.1, k2.2.2.1⟩ | exact ⟨l1.2.1, l1.2.2.1, l2.2.1, l2.2.2.1⟩)
    (first
      | (go_at_call 32; have HT := HTS.out _ Bd; refine HT.mono ?_; clear HT; rintro e w11 ⟨v3, rfl, hn3, hb⟩; have N7 := hid (hn3.any hI.out.1 hI.out.2 (Nat.le_trans hl.out.1 (by unfold maxLen; omega)) (Nat.le_trans hl.out.2 (by unfold maxLen; omega))); obtain ⟨r5, r6, rfl, _⟩ := hn3; have k1 := Sys.box2_next hb h1; have k2 := Sys.box2_next hb h2; have hm3 := hm.below hb; have B11 := below_next Bd hb; have Z7 := below_next (below_d (Below.refl w8.heap.size w8)) hb; clear hb)
      | (go_at_call 35; have HT := State.eq_any s l s l _ _ _ hm3 N7.out; refine HT.mono ?_; clear HT; rintro e w12 ⟨rfl, hb⟩; have l1 := Sys.box2_next hb k1; have l2 := Sys.box2_next hb k2; have B12 := below_next B11 hb; have Z8 := hid (below_next Z7 hb); clear hb))
  have hb := Z8.out
  replace OG := hid (OG.out.below hb)
  replace OW := hid (OW.out.below hb)
  replace P := hid (box2_next hb P.out)
  replace Q := hid (box2_next hb Q.out)
  replace B := hid (below_next B.out hb)
  replace X0 := hid (box2_next hb X0.out)
  replace X1 := hid (box2_next hb X1.out)
  replace O3 := hid (O3.out.below hb)
  replace O4 := hid (O4.out.below hb)
  replace M4 := hid (below_next M4.out hb)
  replace M5 := hid (below_next M5.out hb)
  clear hb h1 h2 hm k1 k2 l1 l2 hm3 Bd B11 B12 Z7 Z8 N7 N3
  have FX := hid (SyIn.frame (q := pr) FR.out M4.out.size fun b h1 h2 => ⟨h1, M4.out.block b h2⟩)
  have FF := hid (show Free pr w12 from fun b hb i => by rw [M4.out.frozen (p := ⟨b, i, none⟩) (PP.out b hb).2]; exact PF.out b hb i)
  have s48 := M4.out.size
  have s58 := M5.out.size
  obtain ⟨x0, x1, x2, _⟩ := id X0.out
  go_wp2_with fail
  refine (mkS_any pr _ FF.out t _ 1 FX.out (fun b hb => by have := (PP.out b hb).2; omega) (by omega) (by omega)).mono ?_
  rintro y w9 ⟨rfl, hm⟩
  have nW : ∀ b, b ∈ bsW → ¬ pr b := fun b h1 h2 => by have := LW.out b h1; have := (PP.out b h2).1; omega
  have nG : ∀ b, b ∈ bsG → ¬ pr b := fun b h1 h2 => by have := gG'.out b h1; have := (PP.out b h2).2; omega
  have n3 : ∀ b, b ∈ [r3] → ¬ pr b := fun b h1 h2 => by simp at h1; subst h1; have := G34.out.1; have := (PP.out b h2).2; simp at *; omega
  have n4 : ∀ b, b ∈ [r4] → ¬ pr b := fun b h1 h2 => by simp at h1; subst h1; have := G34.out; have := (PP.out b h2).2; simp at *; omega
  replace OW := hid (OW.out.frame hm.size fun b h1 h2 => hm.block b h2 (nW b h1))
  replace OG := hid (OG.out.frame hm.size fun b h1 h2 => hm.block b h2 (nG b h1))
  replace O3 := hid (O3.out.frame hm.size fun b h1 h2 => hm.block b h2 (n3 b h1))
  replace O4 := hid (O4.out.frame hm.size fun b h1 h2 => hm.block b h2 (n4 b h1))
  replace P := hid (box2_marked hm (fun h => by have := (PP.out _ h).1; omega) P.out)
  replace Q := hid (box2_marked hm (fun h => by have := (PP.out _ h).1; omega) Q.out)
  replace X1 := hid (box2_marked hm (fun h => by have := (PP.out _ h).2; omega) X1.out)
  replace B := hid (hm.new B.out (fun b h => by have := (PP.out b h).1; omega))
  have hk9 : ¬ (1 + mS t < 0) := by omega
  clear hm FR FX FF M4 X0 nW nG n3 n4 x0 x1 x2 PF PP hpr
  obtain ⟨x0, x1, x2, _⟩ := id X1.out
  have hMk := hid (StateM.mark_any (s.map (Value.int .i64)) (l.map (Value.int .i64)) w9 _ _ s.length l.length (1 + mS t) [r3] [r4] O3.out O4.out (fun b h1 h2 => by simp at h1 h2; have := G34.out.2.1; omega) (by simp) (by unfold maxLen; omega) (by simp) (by unfold maxLen; omega) (by omega) (by simp; omega))
  have hMk2 := hMk.out
  rw [List.length_map, List.length_map] at hMk2
  replace hMk := hid hMk2
  clear hMk2
  go_wp2_with fail
  refine hMk.out.mono ?_
  rintro y w10 ⟨rfl, _, _, hO⟩
  have nW : ∀ b, b ∈ bsW → b ∉ [r3] ++ [r4] := fun b h1 h2 => by have := LW.out b h1; have := G34.out; simp at h2; simp at this; rcases h2 with rfl | rfl <;> omega
  have nG : ∀ b, b ∈ bsG → b ∉ [r3] ++ [r4] := fun b h1 h2 => by have := gG'.out b h1; have := G34.out; simp at h2; simp at this; rcases h2 with rfl | rfl <;> omega
  have nq : ∀ q, q < w4.heap.size → q ∉ [r3] ++ [r4] := fun q h1 h2 => by have := G34.out; simp at h2; simp at this; rcases h2 with rfl | rfl <;> omega
  replace P := hid (box2_block hO.size (hO.block _ P.out.1 (nq _ (by omega))) P.out)
  replace Q := hid (box2_block hO.size (hO.block _ Q.out.1 (nq _ (by omega))) Q.out)
  replace OW := hid (OW.out.only hO nW)
  replace OG := hid (OG.out.only hO nG)
  replace B := hid (hO.new B.out (fun b h => by have := G34.out; simp at h; simp at this; rcases h with rfl | rfl <;> omega))
  have hk8 : ¬ (1 + mS t + (s.length : Int) + (l.length : Int) < 0) := by omega
  clear hO nW nG nq hMk x0 x1 x2 X1 O3 O4
  go_wp2_with fail
  refine (eqStepS_any r _ _ _ _ _ OG.out.stIn OW.out.stIn cG1 cG2 cW1 cW2).mono ?_
  rintro y w110 ⟨rfl, hb⟩
  replace OG := hid (OG.out.below hb)
  replace OW := hid (OW.out.below hb)
  replace P := hid (box2_next hb P.out)
  replace Q := hid (box2_next hb Q.out)
  replace B := hid (below_next B.out hb)
  clear hb
  go_wp2_with fail
  refine (markStep_o r _ aG cG bsG OG.out cG1 cG2 hr).mono ?_
  rintro y w20 ⟨rfl, oM, hO⟩
  have OM := hid oM
  have nW : ∀ b, b ∈ bsW → b ∉ bsG := fun b h1 h2 => by have := gG'.out b h2; have := LW.out b h1; omega
  replace P := hid (box2_block hO.size (hO.block _ P.out.1 (fun h => by have := gG'.out _ h; omega)) P.out)
  replace Q := hid (box2_block hO.size (hO.block _ Q.out.1 (fun h => by have := gG'.out _ h; omega)) Q.out)
  replace OW := hid (OW.out.only hO nW)
  replace B := hid (hO.new B.out (fun b h => by have := gG'.out b h; omega))
  clear hO OG nW oM
  have kk : ¬ ((1 : Int) + (r.length * 4 : Nat) < 0) := by omega
  have nn : ((1 : Int) + (r.length * 4 : Nat) != 1 + (r.length * 4 : Nat)) = false := by simp
  have HH := hid (fun (W : World) (h : StM r.length 1 aG bsG W) => heldStep_o r.length W aG cG bsG h cG1 cG2 hr)
  generalize (1 : Int) + (r.length * 4 : Nat) = kz at *
  go_wp2_with fail
  refine (HH.out _ OM.out).mono ?_
  rintro y w111 ⟨rfl, hb⟩
  replace OM := hid (OM.out.below hb)
  replace OW := hid (OW.out.below hb)
  replace P := hid (box2_next hb P.out)
  replace Q := hid (box2_next hb Q.out)
  replace B := hid (below_next B.out hb)
  clear hb
  obtain ⟨p0, p1, p2, _⟩ := id P.out
  obtain ⟨q0, q1, q2, _⟩ := id Q.out
  go_wp2_with fail
  refine wp_region_ord (C := fun wZ => ∃ xZ, wZ = World.over _ xZ) [0,2] (.one 1 (.one 3 (.one 4 (.one 5 .done)))) [] (by kernel_rfl) (by kernel_rfl) (fun d _ _ _ _ h => by cases d <;> exact h) (bex (Below.refl _ _).drew) ?_; simp only [pick, List.getElem?_cons_succ, List.getElem?_cons_zero]; (repeat (go_big_quiet_step (fail))); refine wpQuiet_nil ?_; simp only [ordW, pick, List.getElem?_cons_succ, List.getElem?_cons_zero]
  have hb := below_d (Below.refl w111.heap.size w111)
  have C := hid hb
  replace OM := hid (OM.out.below hb)
  replace OW := hid (OW.out.below hb)
  replace P := hid (box2_next hb P.out)
  replace Q := hid (box2_next hb Q.out)
  replace B := hid (below_next B.out hb)
  clear hb p0 p1 p2 q0 q1 q2
  go_wp2_with fail
  refine (HTO.out _ B.out).mono ?_
  rintro y w112 ⟨v1, rfl, hn1, hb⟩
  have N1 := hid (NewSy_any hn1)
  replace OM := hid (OM.out.below hb)
  replace OW := hid (OW.out.below hb)
  replace P := hid (box2_next hb P.out)
  replace Q := hid (box2_next hb Q.out)
  replace B := hid (below_next B.out hb)
  replace C := hid (below_next C.out hb)
  clear hb
  clear hn1
  go_wp2_with fail
  refine ⟨bex C.out, ?_⟩
  go_wp2_with fail
  refine (HTS.out _ B.out).mono ?_
  rintro y w113 ⟨v2, rfl, hn2, hb⟩
  have N2 := hid (hn2.any hI.out.1 hI.out.2 (Nat.le_trans hl.out.1 (by unfold maxLen; omega)) (Nat.le_trans hl.out.2 (by unfold maxLen; omega)))
  replace N1 := hid (N1.out.below hb)
  replace OM := hid (OM.out.below hb)
  replace OW := hid (OW.out.below hb)
  replace B := hid (below_next B.out hb)
  replace C := hid (below_next C.out hb)
  clear hb
  clear hn2
  go_wp2_with fail
  refine ⟨bex C.out, ?_⟩
  go_wp2_with fail
  refine (HI.out _ _ _ N1.out N2.out).mono ?_
  rintro y w114 ⟨vH, rfl, hvH, hb⟩
  obtain ⟨aH, cH, bsH, rfl, cH1, cH2, oH, gH⟩ := strow_o hvH
  have OH := hid oH
  replace OM := hid (OM.out.below hb)
  replace OW := hid (OW.out.below hb)
  replace B := hid (below_next B.out hb)
  replace C := hid (below_next C.out hb)
  clear hb
  clear N1 N2 oH gH hvH
  go_wp2_with fail
  refine ⟨bex C.out, ?_⟩
  go_wp2_with fail
  refine ⟨bex C.out, ?_⟩
  clear C
  go_wp2_with fail
  refine (eqStepS_any r _ _ _ _ _ OH.out.stIn OW.out.stIn cH1 cH2 cW1 cW2).mono ?_
  rintro y w115 ⟨rfl, hb⟩
  replace OM := hid (OM.out.below hb)
  replace B := hid (below_next B.out hb)
  clear hb
  go_wp2_with fail
  refine (HH.out _ OM.out).mono ?_
  rintro y w116 ⟨rfl, hb⟩
  replace B := hid (below_next B.out hb)
  clear hb
  go_wp2_with fail
  go_ret
  exact Ret.mk rfl B.out

set_option maxRecDepth 100000 in
set_option maxHeartbeats 4000000 in
theorem walk_FnExactEnabledSteps (t : Sy) (s l : List Int) (w : World) (x y : Value) (hx : SyIn Any w t x) (hy : State.PairIn Any w s l y) : Calls Try.prog 7 #[x, y] w (Ret (.bool true) w) := by
  by_cases k3 : 0 ≤ Sys.szS t 1048576 ∧ 0 ≤ State.szP s l (Sys.szS t 1048576)
  · exact core_FnExactEnabledSteps t s l w x y hx hy k3.1 k3.2
  have HX := hid hx
  have HY := hid hy
  obtain ⟨a, c, b, d, rfl⟩ := hx.shape
  obtain ⟨a', b', c', d', rfl, h1, h2, _⟩ := hy
  have hbd := Sys.szS_bd t 1048576 (by omega) (by omega)
  have hbd2 := State.szP_bd (l := s) (m := l) (left := Sys.szS t 1048576) hbd.2
  have HSZ := hid (fun (W : World) (M : Below w.heap.size w W) => Sys.szS_any t W _ 1048576 (HX.out.below M) (by omega) (by omega))
  have HSF := hid (fun (W : World) (M : Below w.heap.size w W) => State.sz_any s l W _ (Sys.szS t 1048576) (HY.out.below M) hbd.2 hbd.1)
  generalize Sys.szS t 1048576 = g at *
  generalize State.szP s l g = g2 at *
  clear hx h1 h2
  by_cases k1 : g < 0
  · go_enter Try.func7, Try.ntmps7
    go_wp2_with fail
    refine (HSZ.out _ (by repeat (first | exact Below.refl _ _ | assumption | refine below_a ?_ _ | refine below_o ?_ _ | refine below_d ?_ | refine below_n ?_ _ | refine below_s ?_ (by first | (simp; done) | (simp; omega) | omega) _))).mono ?_
    rintro e w1 ⟨rfl, hb⟩
    go_wp2_with fail
    go_ret
    exact Ret.mk rfl (below_next (by repeat (first | exact Below.refl _ _ | assumption | refine below_a ?_ _ | refine below_o ?_ _ | refine below_d ?_ | refine below_n ?_ _ | refine below_s ?_ (by first | (simp; done) | (simp; omega) | omega) _)) hb)
  · have k2 : g2 < 0 := by omega
    go_enter Try.func7, Try.ntmps7
    go_wp2_with fail
    refine (HSZ.out _ (by repeat (first | exact Below.refl _ _ | assumption | refine below_a ?_ _ | refine below_o ?_ _ | refine below_d ?_ | refine below_n ?_ _ | refine below_s ?_ (by first | (simp; done) | (simp; omega) | omega) _))).mono ?_
    rintro e w1 ⟨rfl, hb⟩
    obtain ⟨q0, q1, q2, _⟩ := Sys.box2_next hb (Sys.box2_at (w := w.alloc _) (B := w.heap.size + 1) (a := .slice a' s.length c') (b := .slice b' l.length d') (t := 58) (by simp))
    have B1 := hid (below_next (show Below w.heap.size w _ from below_next (below_alloc _ _) (below_alloc _ _)) hb)
    clear hb
    go_wp2_with fail
    refine (HSF.out _ B1.out).mono ?_
    rintro e w2 ⟨rfl, hb⟩
    go_wp2_with fail
    go_ret
    exact Ret.mk rfl (below_next B1.out hb)
end Go.Proofs.Ytchlpeflfiecdaa
namespace Go.Proofs.Ytchlpeflfiecdaa
open Go.RowKit

theorem i64_of_wf {n : Int} (h : (Lit.int .i64 n).wf = true) : i64 n := by
  simp [Lit.wf, IntKind.min, IntKind.max, IntKind.signed, IntKind.bits] at h
  exact h

section
variable {H : Type} {enc : TypeId × Value → H} {P : Program} {w : World} {base : Nat} {spare : Nat → Bool} {held : Bool}

theorem cells3 {a : Addr} {cs : List Value} (h : w.cells? base a 3 = some cs) : ∃ c0 c1 c2, cs = [c0, c1, c2] ∧ w.cell? (a.add 0) = some c0 ∧ w.cell? (a.add 1) = some c1 ∧ w.cell? (a.add 2) = some c2 := by
  obtain ⟨_, hl, hc⟩ := World.cells?_some h
  match cs, hl with
  | [c0, c1, c2], _ => exact ⟨c0, c1, c2, rfl, by simpa using hc 0 (by omega), by simpa using hc 1 (by omega), by simpa using hc 2 (by omega)⟩

theorem TrsIn_build {a : Addr} {len : Nat} (h : ∀ i, i < len → ∃ t c0 c1 c2, w.cell? (a.add (i * 3)) = some c0 ∧ w.cell? ((a.add (i * 3)).add 1) = some c1 ∧ w.cell? ((a.add (i * 3)).add 2) = some c2 ∧ TrIn Any w t (.agg #[c0, c1, c2])) :
    ∃ ks : List Tr, ks.length = len ∧ TrsIn Any w ks (some a) := by
  cases len with
  | zero => exact ⟨[], rfl, TrsIn_nil _ _ _⟩
  | succ len =>
    obtain ⟨b, o, s⟩ := a
    obtain ⟨t0, c0, c1, c2, h0, _⟩ := h 0 (by omega)
    have hs : s = none := by simpa [Addr.add] using World.cell?_spot h0
    subst hs
    have key : ∀ n j, j + n = len + 1 → ∃ ks : List Tr, ks.length = n ∧ TrsIn Any w ks (some ⟨b, o + j * 3, none⟩) := by
      intro n
      induction n with
      | zero => intro j _; exact ⟨[], rfl, TrsIn_nil _ _ _⟩
      | succ n ih =>
        intro j hj
        obtain ⟨ks, hk, hks⟩ := ih (j + 1) (by omega)
        obtain ⟨t, d0, d1, d2, e0, e1, e2, ht⟩ := h j (by omega)
        have ea : Addr.add ⟨b, o, none⟩ (j * 3) = ⟨b, o + j * 3, none⟩ := by unfold Addr.add; split <;> simp_all
        rw [ea] at e0 e1 e2
        refine ⟨t :: ks, by simp [hk], (TrsIn_cons ..).2 ⟨b, o + j * 3, d0, d1, d2, rfl, trivial, e0, by simpa [Addr.add] using e1, by simpa [Addr.add] using e2, ht, ?_⟩⟩
        rw [show o + j * 3 + 3 = o + (j + 1) * 3 by omega]
        exact hks
    obtain ⟨ks, h1, h2⟩ := key (len + 1) 0 (by omega)
    exact ⟨ks, h1, by simpa using h2⟩

/-- WHAT READS AS A NODE IS A TREE -/
theorem tr_read {T S I : TypeId} {f0 f1 f2 : Field} (hT : P.underlying T = some (.struct #[f0, f1, f2])) (t0 : f0.type = I) (o0 : f0.offset = 0) (t1 : f1.type = I) (o1 : f1.offset = 1) (t2 : f2.type = S) (o2 : f2.offset = 2)
    (hI : P.underlying I = some (.int .i64)) (hS : P.underlying S = some (.slice T)) (cI : P.cellsOf I = 1) (cS : P.cellsOf S = 1) (cT : P.cellsOf T = 3) :
    ∀ (fuel : Nat) (cs : List Value) (x : DataW H × List MemPlace), DataW.trod enc P w base spare held fuel T cs = some x → ∃ t, TrIn Any w t (.agg cs.toArray) := by
  intro fuel
  induction fuel using Nat.strongRecOn with
  | _ fuel ih =>
    intro cs x h
    obtain ⟨xs, n, rfl, _, hl, hlen, hf⟩ := DataW.trod_struct hT h
    rw [cT] at hl
    match cs, hl with
    | [c0, c1, c2], _ =>
      have g0 := hf 0 f0 rfl
      have g1 := hf 1 f1 rfl
      have g2 := hf 2 f2 rfl
      rw [t0, o0, cI] at g0
      rw [t1, o1, cI] at g1
      rw [t2, o2, cS] at g2
      simp only [List.drop_zero, List.take_succ_cons, List.take_zero, List.drop_succ_cons] at g0 g1 g2
      have hx : ∀ i, i < 3 → ∃ y, xs[i]? = some y := fun i hi => ⟨_, List.getElem?_eq_getElem (by rw [hlen]; exact hi)⟩
      obtain ⟨y0, e0⟩ := hx 0 (by omega)
      obtain ⟨y1, e1⟩ := hx 1 (by omega)
      obtain ⟨y2, e2⟩ := hx 2 (by omega)
      rw [e0] at g0
      rw [e1] at g1
      rw [e2] at g2
      obtain ⟨k, hk, _, wk⟩ := DataW.trod_int hI g0
      obtain ⟨v, hv, _, wv⟩ := DataW.trod_int hI g1
      simp only [List.cons.injEq, and_true] at hk hv
      subst hk hv
      rcases DataW.trod_slice hS g2 with ⟨hc, _⟩ | ⟨a, len, cap, elems, rest, m, hm, hc, _, _, hlc, hcm, hel, hcell, _⟩
      · simp only [List.cons.injEq, and_true] at hc
        subst hc
        exact ⟨.mk k v [], (TrIn_mk ..).2 ⟨none, 0, 0, rfl, i64_of_wf wk, i64_of_wf wv, rfl, Nat.le_refl _, Nat.zero_le _, TrsIn_nil _ _ _⟩⟩
      · simp only [List.cons.injEq, and_true] at hc
        subst hc
        obtain ⟨ks, h1, h2⟩ := TrsIn_build (w := w) (a := a) (len := len) (fun i hi => by
          have hh := hcell i hi
          rw [cT, List.getElem?_eq_getElem (by omega)] at hh
          obtain ⟨cs', h3, h4⟩ := Option.bind_eq_some_iff.1 hh
          obtain ⟨d0, d1, d2, rfl, q0, q1, q2⟩ := cells3 h3
          obtain ⟨t, ht⟩ := ih m (by omega) _ _ h4
          exact ⟨t, d0, d1, d2, by simpa [Addr.add] using q0, q1, q2, ht⟩)
        subst h1
        exact ⟨.mk k v ks, (TrIn_mk ..).2 ⟨some a, ks.length, cap, rfl, i64_of_wf wk, i64_of_wf wv, rfl, hlc, hcm, h2⟩⟩

/-- WHAT READS AS A SLICE OF NODES IS A ROW OF TREES -/
theorem trs_read {T S I : TypeId} {f0 f1 f2 : Field} (hT : P.underlying T = some (.struct #[f0, f1, f2])) (t0 : f0.type = I) (o0 : f0.offset = 0) (t1 : f1.type = I) (o1 : f1.offset = 1) (t2 : f2.type = S) (o2 : f2.offset = 2)
    (hI : P.underlying I = some (.int .i64)) (hS : P.underlying S = some (.slice T)) (cI : P.cellsOf I = 1) (cS : P.cellsOf S = 1) (cT : P.cellsOf T = 3)
    {fuel : Nat} {a : Option Addr} {len cap : Nat} {x : DataW H × List MemPlace} (h : DataW.trod enc P w base spare held fuel S [.slice a len cap] = some x) :
    ∃ l : List Tr, l.length = len ∧ len ≤ cap ∧ cap ≤ maxLen ∧ TrsIn Any w l a := by
  rcases DataW.trod_slice hS h with ⟨hc, _⟩ | ⟨a', len', cap', elems, rest, m, hm, hc, _, _, hlc, hcm, hel, hcell, _⟩
  · simp at hc
    obtain ⟨rfl, rfl, rfl⟩ := hc
    exact ⟨[], rfl, Nat.le_refl _, Nat.zero_le _, TrsIn_nil _ _ _⟩
  · simp at hc
    obtain ⟨rfl, rfl, rfl⟩ := hc
    obtain ⟨ks, h1, h2⟩ := TrsIn_build (w := w) (a := a') (len := len) (fun i hi => by
      have hh := hcell i hi
      rw [cT, List.getElem?_eq_getElem (by omega)] at hh
      obtain ⟨cs', h3, h4⟩ := Option.bind_eq_some_iff.1 hh
      obtain ⟨d0, d1, d2, rfl, q0, q1, q2⟩ := cells3 h3
      obtain ⟨t, ht⟩ := tr_read hT t0 o0 t1 o1 t2 o2 hI hS cI cS cT m _ _ h4
      exact ⟨t, d0, d1, d2, by simpa [Addr.add] using q0, q1, q2, ht⟩)
    exact ⟨ks, h1, hlc, hcm, h2⟩
end

end Go.Proofs.Ytchlpeflfiecdaa
namespace Go.Proofs.Ytchlpeflfiecdaa
open Go.RowKit

section
variable {H : Type} {enc : TypeId × Value → H} {P : Program} {w : World} {base : Nat} {spare : Nat → Bool} {held : Bool}

theorem ed_read {T E S I : TypeId} {f0 f1 f2 f3 f4 f5 g0 g1 g2 : Field} (hT : P.underlying T = some (.struct #[f0, f1, f2, f3, f4, f5])) (t0 : f0.type = I) (o0 : f0.offset = 0) (t1 : f1.type = I) (o1 : f1.offset = 1) (t2 : f2.type = E) (o2 : f2.offset = 2)
    (t3 : f3.type = I) (o3 : f3.offset = 5) (t4 : f4.type = E) (o4 : f4.offset = 6) (t5 : f5.type = I) (o5 : f5.offset = 9)
    (hE : P.underlying E = some (.struct #[g0, g1, g2])) (s0 : g0.type = I) (r0 : g0.offset = 0) (s1 : g1.type = I) (r1 : g1.offset = 1) (s2 : g2.type = S) (r2 : g2.offset = 2)
    (hI : P.underlying I = some (.int .i64)) (hS : P.underlying S = some (.slice E)) (cI : P.cellsOf I = 1) (cS : P.cellsOf S = 1) (cE : P.cellsOf E = 3) (cT : P.cellsOf T = 10)
    {fuel : Nat} {cs : List Value} {x : DataW H × List MemPlace} (h : DataW.trod enc P w base spare held fuel T cs = some x) : ∃ e, EdIn Any w e (.agg cs.toArray) := by
  obtain ⟨xs, n, rfl, _, hl, hlen, hf⟩ := DataW.trod_struct hT h
  rw [cT] at hl
  match cs, hl with
  | [c0, c1, c2, c3, c4, c5, c6, c7, c8, c9], _ =>
    have q0 := hf 0 f0 rfl
    have q1 := hf 1 f1 rfl
    have q2 := hf 2 f2 rfl
    have q3 := hf 3 f3 rfl
    have q4 := hf 4 f4 rfl
    have q5 := hf 5 f5 rfl
    rw [t0, o0, cI] at q0
    rw [t1, o1, cI] at q1
    rw [t2, o2, cE] at q2
    rw [t3, o3, cI] at q3
    rw [t4, o4, cE] at q4
    rw [t5, o5, cI] at q5
    simp only [List.drop_zero, List.take_succ_cons, List.take_zero, List.drop_succ_cons] at q0 q1 q2 q3 q4 q5
    have hx : ∀ i, i < 6 → ∃ y, xs[i]? = some y := fun i hi => ⟨_, List.getElem?_eq_getElem (by rw [hlen]; exact hi)⟩
    obtain ⟨y0, e0⟩ := hx 0 (by omega)
    obtain ⟨y1, e1⟩ := hx 1 (by omega)
    obtain ⟨y2, e2⟩ := hx 2 (by omega)
    obtain ⟨y3, e3⟩ := hx 3 (by omega)
    obtain ⟨y4, e4⟩ := hx 4 (by omega)
    obtain ⟨y5, e5⟩ := hx 5 (by omega)
    rw [e0] at q0
    rw [e1] at q1
    rw [e2] at q2
    rw [e3] at q3
    rw [e4] at q4
    rw [e5] at q5
    obtain ⟨k0, hk0, _, w0⟩ := DataW.trod_int hI q0
    obtain ⟨k1, hk1, _, w1⟩ := DataW.trod_int hI q1
    obtain ⟨k3, hk3, _, w3⟩ := DataW.trod_int hI q3
    obtain ⟨k5, hk5, _, w5⟩ := DataW.trod_int hI q5
    obtain ⟨t, ht⟩ := tr_read hE s0 r0 s1 r1 s2 r2 hI hS cI cS cE n _ _ q2
    obtain ⟨u, hu⟩ := tr_read hE s0 r0 s1 r1 s2 r2 hI hS cI cS cE n _ _ q4
    simp only [List.cons.injEq, and_true] at hk0 hk1 hk3 hk5
    subst hk0 hk1 hk3 hk5
    obtain ⟨a, c, ea⟩ := TrIn_shape ht
    obtain ⟨a', c', eu⟩ := TrIn_shape hu
    rw [ea] at ht
    rw [eu] at hu
    simp only [Value.agg.injEq, List.toArray_eq_iff] at ea eu
    simp at ea eu
    obtain ⟨rfl, rfl, rfl⟩ := ea
    obtain ⟨rfl, rfl, rfl⟩ := eu
    exact ⟨⟨k0, k1, t, k3, u, k5⟩, a, c, a', c', rfl, i64_of_wf w0, i64_of_wf w1, i64_of_wf w3, i64_of_wf w5, ht, hu⟩
end
end Go.Proofs.Ytchlpeflfiecdaa
namespace Go.Proofs.Ytchlpeflfiecdaa
open Go.RowKit

section
variable {H : Type} {enc : TypeId × Value → H} {P : Program} {w : World} {base : Nat} {spare : Nat → Bool} {held : Bool}

theorem seq_build {X : Type} {At : X → Nat → Nat → Prop} {n : Nat} (hn : 0 < n) {a : Addr} {len : Nat}
    (h : ∀ i, i < len → ∃ cs : List Value, cs.length = n ∧ (∀ j c, cs[j]? = some c → w.cell? ((a.add (i * n)).add j) = some c) ∧ ∀ b o, (∀ j c, cs[j]? = some c → w.cell? ⟨b, o + j, none⟩ = some c) → ∃ t, At t b o) :
    ∃ l : List X, l.length = len ∧ SeqIn At n Any w l (some a) := by
  cases len with
  | zero => exact ⟨[], rfl, .inl rfl⟩
  | succ len =>
    obtain ⟨b, o, s⟩ := a
    obtain ⟨cs, hl, hc, _⟩ := h 0 (by omega)
    have h0 := hc 0 _ (List.getElem?_eq_getElem (by omega))
    have hs : s = none := by simpa [Addr.add] using World.cell?_spot h0
    subst hs
    have ea : ∀ k, Addr.add ⟨b, o, none⟩ k = ⟨b, o + k, none⟩ := fun k => by unfold Addr.add; split <;> simp_all
    have ea2 : ∀ k j, Addr.add ⟨b, o + k, none⟩ j = ⟨b, o + k + j, none⟩ := fun k j => by unfold Addr.add; split <;> simp_all
    have hb : b < w.heap.size := by rw [ea, ea2] at h0; exact blt h0
    have key : ∀ i, i < len + 1 → ∃ t, At t b (o + i * n) := fun i hi => by
      obtain ⟨cs, _, hc, ht⟩ := h i hi
      refine ht b (o + i * n) fun j c hj => ?_
      have := hc j c hj
      rwa [ea, ea2] at this
    have build : ∀ k, k ≤ len + 1 → ∃ l : List X, l.length = k ∧ ∀ i t, l[i]? = some t → At t b (o + i * n) := by
      intro k
      induction k with
      | zero => intro _; exact ⟨[], rfl, by simp⟩
      | succ k ih =>
        intro hk
        obtain ⟨l, h1, h2⟩ := ih (by omega)
        obtain ⟨t, h3⟩ := key k (by omega)
        refine ⟨l ++ [t], by simp [h1], fun i u hu => ?_⟩
        by_cases hi : i < l.length
        · rw [List.getElem?_append_left hi] at hu; exact h2 i u hu
        · rw [List.getElem?_append_right (by omega)] at hu
          have hi2 : i = k := by
            have := (List.getElem?_eq_some_iff.1 hu).1
            simp at this; omega
          subst hi2
          simp [h1] at hu
          subst hu
          exact h3
    obtain ⟨l, h1, h2⟩ := build (len + 1) (Nat.le_refl _)
    exact ⟨l, h1, .inr ⟨b, o, rfl, trivial, hb, h2⟩⟩
/-- WHAT READS AS A SLICE OF RECORDS IS A ROW OF THEM -/
theorem seq_read {X : Type} {At : X → Nat → Nat → Prop} {S T : TypeId} {n : Nat} (hn : 0 < n) (hS : P.underlying S = some (.slice T)) (cT : P.cellsOf T = n)
    (hel : ∀ (m : Nat) (cs : List Value) (x : DataW H × List MemPlace) (b o : Nat), cs.length = n → DataW.trod enc P w base spare held m T cs = some x → (∀ j c, cs[j]? = some c → w.cell? ⟨b, o + j, none⟩ = some c) → ∃ t, At t b o)
    {fuel : Nat} {a : Option Addr} {len cap : Nat} {x : DataW H × List MemPlace} (h : DataW.trod enc P w base spare held fuel S [.slice a len cap] = some x) :
    ∃ l : List X, l.length = len ∧ len ≤ cap ∧ cap ≤ maxLen ∧ SeqIn At n Any w l a := by
  rcases DataW.trod_slice hS h with ⟨hc, _⟩ | ⟨a', len', cap', elems, rest, m, hm, hc, _, _, hlc, hcm, hel', hcell, _⟩
  · simp at hc
    obtain ⟨rfl, rfl, rfl⟩ := hc
    exact ⟨[], rfl, Nat.le_refl _, Nat.zero_le _, .inl rfl⟩
  · simp at hc
    obtain ⟨rfl, rfl, rfl⟩ := hc
    obtain ⟨l, h1, h2⟩ := seq_build (w := w) (At := At) hn (a := a') (len := len) (fun i hi => by
      have hh := hcell i hi
      rw [cT, List.getElem?_eq_getElem (by omega)] at hh
      obtain ⟨cs', h3, h4⟩ := Option.bind_eq_some_iff.1 hh
      obtain ⟨_, hl, hc⟩ := World.cells?_some h3
      refine ⟨cs', hl, fun j c hj => ?_, fun b o hq => hel m cs' _ b o hl h4 hq⟩
      have hj2 : j < n := by have := (List.getElem?_eq_some_iff.1 hj).1; omega
      rw [hc j hj2]; exact hj)
    exact ⟨l, h1, hlc, hcm, h2⟩

/-- what the types of a system's parts are -/
structure SysTypes (P : Program) (S Ps Pt Es Et Xt Xs I Is : TypeId) : Prop where
  hS : ∃ f0 f1, P.underlying S = some (.struct #[f0, f1]) ∧ f0.type = Is ∧ f0.offset = 0 ∧ f1.type = Ps ∧ f1.offset = 1
  hPs : P.underlying Ps = some (.slice Pt)
  hPt : ∃ f0 f1, P.underlying Pt = some (.struct #[f0, f1]) ∧ f0.type = I ∧ f0.offset = 0 ∧ f1.type = Es ∧ f1.offset = 1
  hEs : P.underlying Es = some (.slice Et)
  hEt : ∃ f0 f1 f2 f3 f4 f5, P.underlying Et = some (.struct #[f0, f1, f2, f3, f4, f5]) ∧ (f0.type = I ∧ f0.offset = 0) ∧ (f1.type = I ∧ f1.offset = 1) ∧ (f2.type = Xt ∧ f2.offset = 2) ∧ (f3.type = I ∧ f3.offset = 5) ∧ (f4.type = Xt ∧ f4.offset = 6) ∧ f5.type = I ∧ f5.offset = 9
  hXt : ∃ g0 g1 g2, P.underlying Xt = some (.struct #[g0, g1, g2]) ∧ (g0.type = I ∧ g0.offset = 0) ∧ (g1.type = I ∧ g1.offset = 1) ∧ g2.type = Xs ∧ g2.offset = 2
  hXs : P.underlying Xs = some (.slice Xt)
  hI : P.underlying I = some (.int .i64)
  hIs : P.underlying Is = some (.slice I)
  cells : P.cellsOf I = 1 ∧ P.cellsOf Is = 1 ∧ P.cellsOf Ps = 1 ∧ P.cellsOf Es = 1 ∧ P.cellsOf Xs = 1 ∧ P.cellsOf Xt = 3 ∧ P.cellsOf Et = 10 ∧ P.cellsOf Pt = 2 ∧ P.cellsOf S = 2

variable {S Ps Pt Es Et Xt Xs I Is : TypeId}
theorem slice_is {S I : TypeId} (hS : P.underlying S = some (.slice I)) {fuel : Nat} {c : Value} {x : DataW H × List MemPlace} (h : DataW.trod enc P w base spare held fuel S [c] = some x) : ∃ a n k, c = .slice a n k := by
  rcases DataW.trod_slice hS h with ⟨hc, _⟩ | ⟨a', len', cap', elems, rest, m, hm, hc, _⟩
  · simp at hc; exact ⟨_, _, _, hc⟩
  · simp at hc; exact ⟨_, _, _, hc⟩
theorem eds_read (T : SysTypes P S Ps Pt Es Et Xt Xs I Is) {fuel : Nat} {a : Option Addr} {len cap : Nat} {x : DataW H × List MemPlace} (h : DataW.trod enc P w base spare held fuel Es [.slice a len cap] = some x) :
    ∃ l : List Ed, l.length = len ∧ len ≤ cap ∧ cap ≤ maxLen ∧ EdsIn Any w l a := by
  refine seq_read (by omega) T.hEs T.cells.2.2.2.2.2.2.1 (fun m cs x b o hl hx hc => ?_) h
  obtain ⟨f0, f1, f2, f3, f4, f5, hT, ⟨t0, o0⟩, ⟨t1, o1⟩, ⟨t2, o2⟩, ⟨t3, o3⟩, ⟨t4, o4⟩, t5, o5⟩ := T.hEt
  obtain ⟨g0, g1, g2, hE, ⟨s0, r0⟩, ⟨s1, r1⟩, s2, r2⟩ := T.hXt
  obtain ⟨e, he⟩ := ed_read hT t0 o0 t1 o1 t2 o2 t3 o3 t4 o4 t5 o5 hE s0 r0 s1 r1 s2 r2 T.hI T.hXs T.cells.1 T.cells.2.2.2.2.1 T.cells.2.2.2.2.2.1 T.cells.2.2.2.2.2.2.1 hx
  have he0 := he
  obtain ⟨a1, c1, a2, c2, hs, _⟩ := he
  have hs2 : cs = [.int .i64 e.src, .int .i64 e.dst, .int .i64 e.guard.kind, .int .i64 e.guard.val, .slice a1 e.guard.kids.length c1, .int .i64 e.var, .int .i64 e.val.kind, .int .i64 e.val.val, .slice a2 e.val.kids.length c2, .int .i64 e.sync] := by
    have := congrArg (fun v => match v with | Value.agg x => x.toList | _ => []) hs
    simpa using this
  subst hs2
  exact ⟨e, a1, c1, a2, c2, ⟨hc 0 _ rfl, hc 1 _ rfl, hc 2 _ rfl, hc 3 _ rfl, hc 4 _ rfl, hc 5 _ rfl, hc 6 _ rfl, hc 7 _ rfl, hc 8 _ rfl, hc 9 _ rfl⟩, he0⟩
theorem pr_read (T : SysTypes P S Ps Pt Es Et Xt Xs I Is) {fuel : Nat} {cs : List Value} {x : DataW H × List MemPlace} (h : DataW.trod enc P w base spare held fuel Pt cs = some x) : ∃ q a c, cs = [.int .i64 q.locs, .slice a q.edges.length c] ∧ PrIn Any w q (.agg #[.int .i64 q.locs, .slice a q.edges.length c]) := by
  obtain ⟨f0, f1, hT, t0, o0, t1, o1⟩ := T.hPt
  obtain ⟨cI, cIs, cPs, cEs, cXs, cXt, cEt, cPt, cS⟩ := T.cells
  obtain ⟨xs, n, rfl, _, hl, hlen, hf⟩ := DataW.trod_struct hT h
  rw [cPt] at hl
  match cs, hl with
  | [c0, c1], _ =>
    have q0 := hf 0 f0 rfl
    have q1 := hf 1 f1 rfl
    rw [t0, o0, cI] at q0
    rw [t1, o1, cEs] at q1
    simp only [List.drop_zero, List.take_succ_cons, List.take_zero, List.drop_succ_cons] at q0 q1
    obtain ⟨y0, e0⟩ : ∃ y, xs[0]? = some y := ⟨_, List.getElem?_eq_getElem (by rw [hlen]; exact Nat.zero_lt_two)⟩
    obtain ⟨y1, e1⟩ : ∃ y, xs[1]? = some y := ⟨_, List.getElem?_eq_getElem (by rw [hlen]; exact Nat.one_lt_two)⟩
    rw [e0] at q0
    rw [e1] at q1
    obtain ⟨k, hk, _, wk⟩ := DataW.trod_int T.hI q0
    simp only [List.cons.injEq, and_true] at hk
    subst hk
    obtain ⟨a, m, c, rfl⟩ := slice_is T.hEs q1
    obtain ⟨l, rfl, h2, h3, h4⟩ := eds_read T q1
    exact ⟨⟨k, l⟩, a, c, rfl, a, c, rfl, i64_of_wf wk, h2, h3, h4⟩
theorem prs_read (T : SysTypes P S Ps Pt Es Et Xt Xs I Is) {fuel : Nat} {a : Option Addr} {len cap : Nat} {x : DataW H × List MemPlace} (h : DataW.trod enc P w base spare held fuel Ps [.slice a len cap] = some x) :
    ∃ l : List Pr, l.length = len ∧ len ≤ cap ∧ cap ≤ maxLen ∧ PrsIn Any w l a := by
  refine seq_read (by omega) T.hPs T.cells.2.2.2.2.2.2.2.1 (fun m cs x b o hl hx hc => ?_) h
  obtain ⟨q, a1, c1, rfl, hq⟩ := pr_read T hx
  exact ⟨q, a1, c1, ⟨hc 0 _ rfl, hc 1 _ rfl⟩, hq⟩
/-- WHAT READS AS A SYSTEM IS A SYSTEM -/
theorem sy_read (T : SysTypes P S Ps Pt Es Et Xt Xs I Is) {fuel : Nat} {cs : List Value} {x : DataW H × List MemPlace} (h : DataW.trod enc P w base spare held fuel S cs = some x) : ∃ s, SyIn Any w s (.agg cs.toArray) := by
  obtain ⟨f0, f1, hT, t0, o0, t1, o1⟩ := T.hS
  obtain ⟨cI, cIs, cPs, cEs, cXs, cXt, cEt, cPt, cS⟩ := T.cells
  obtain ⟨xs, n, rfl, _, hl, hlen, hf⟩ := DataW.trod_struct hT h
  rw [cS] at hl
  match cs, hl with
  | [c0, c1], _ =>
    have q0 := hf 0 f0 rfl
    have q1 := hf 1 f1 rfl
    rw [t0, o0, cIs] at q0
    rw [t1, o1, cPs] at q1
    simp only [List.drop_zero, List.take_succ_cons, List.take_zero, List.drop_succ_cons] at q0 q1
    obtain ⟨y0, e0⟩ : ∃ y, xs[0]? = some y := ⟨_, List.getElem?_eq_getElem (by rw [hlen]; exact Nat.zero_lt_two)⟩
    obtain ⟨y1, e1⟩ : ∃ y, xs[1]? = some y := ⟨_, List.getElem?_eq_getElem (by rw [hlen]; exact Nat.one_lt_two)⟩
    rw [e0] at q0
    rw [e1] at q1
    obtain ⟨a0, n0, k0, rfl⟩ := slice_is T.hIs q0
    obtain ⟨a1, n1, k1, rfl⟩ := slice_is T.hPs q1
    obtain ⟨l, rfl, c2, c3, hl⟩ := ints_read T.hIs T.hI cI q0
    obtain ⟨m, rfl, d2, d3, hm⟩ := prs_read T q1
    exact ⟨⟨l, m⟩, a0, k0, a1, k1, rfl, c2, c3, hl, d2, d3, hm⟩
end
end Go.Proofs.Ytchlpeflfiecdaa
namespace Go.Proofs.Ytchlpeflfiecdaa
open Go.RowKit
namespace State

theorem slice_shape {H : Type} {enc : TypeId × Value → H} {P : Program} {w : World} {base : Nat} {spare : Nat → Bool} {held : Bool} {S I : TypeId} (hS : P.underlying S = some (.slice I)) {fuel : Nat} {c : Value} {x : DataW H × List MemPlace} (h : DataW.trod enc P w base spare held fuel S [c] = some x) : ∃ a n k, c = .slice a n k := by
  rcases DataW.trod_slice hS h with ⟨hc, _⟩ | ⟨a', len', cap', elems, rest, m, hm, hc, _⟩
  · simp at hc; exact ⟨_, _, _, hc⟩
  · simp at hc; exact ⟨_, _, _, hc⟩
theorem pair_read {H : Type} {enc : TypeId × Value → H} {P : Program} {w : World} {base : Nat} {spare : Nat → Bool} {held : Bool} {T S I : TypeId} {f0 f1 : Field} (hT : P.underlying T = some (.struct #[f0, f1])) (t0 : f0.type = S) (o0 : f0.offset = 0) (t1 : f1.type = S) (o1 : f1.offset = 1)
    (hS : P.underlying S = some (.slice I)) (hI : P.underlying I = some (.int .i64)) (cI : P.cellsOf I = 1) (cS : P.cellsOf S = 1) (cT : P.cellsOf T = 2)
    {fuel : Nat} {cs : List Value} {x : DataW H × List MemPlace} (h : DataW.trod enc P w base spare held fuel T cs = some x) : ∃ l m, PairIn Any w l m (.agg cs.toArray) := by
  obtain ⟨xs, n, rfl, _, hl, hlen, hf⟩ := DataW.trod_struct hT h
  rw [cT] at hl
  match cs, hl with
  | [c0, c1], _ =>
    have q0 := hf 0 f0 rfl
    have q1 := hf 1 f1 rfl
    rw [t0, o0, cS] at q0
    rw [t1, o1, cS] at q1
    simp only [List.drop_zero, List.take_succ_cons, List.take_zero, List.drop_succ_cons] at q0 q1
    obtain ⟨y0, e0⟩ : ∃ y, xs[0]? = some y := ⟨_, List.getElem?_eq_getElem (by rw [hlen]; exact Nat.zero_lt_two)⟩
    obtain ⟨y1, e1⟩ : ∃ y, xs[1]? = some y := ⟨_, List.getElem?_eq_getElem (by rw [hlen]; exact Nat.one_lt_two)⟩
    rw [e0] at q0
    rw [e1] at q1
    obtain ⟨a0, n0, k0, rfl⟩ := slice_shape hS q0
    obtain ⟨a1, n1, k1, rfl⟩ := slice_shape hS q1
    obtain ⟨l, rfl, c2, c3, hl⟩ := ints_read hS hI cI q0
    obtain ⟨m, rfl, d2, d3, hm⟩ := ints_read hS hI cI q1
    exact ⟨l, m, a0, a1, k0, k1, rfl, hl, hm, c2, c3, d2, d3⟩
end State
end Go.Proofs.Ytchlpeflfiecdaa
