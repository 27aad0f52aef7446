/- FnExactSystemVars returns true for every system. Conditions: none. -/
import Derived.Test.YtchlpeflfiecdaaSysVarsV
import Derived.Test.YtchlpeflfiecdaaSysEq
import Derived.Test.YtchlpeflfiecdaaSysTo2
import Derived.Test.YtchlpeflfiecdaaSysMark2
import Derived.Test.YtchlpeflfiecdaaLawSysValid
import Derived.Test.YtchlpeflfiecdaaBoolsMark
import Derived.Test.YtchlpeflfiecdaaBoolsEq
import Derived.Test.YtchlpeflfiecdaaRegOrd
import Derived.Deep.RegionHeld3
namespace Go.Proofs.Ytchlpeflfiecdaa
open Go.RowKit
open Go.Proofs.Ytchlpeflfiecdaa.Sys
set_option linter.unusedVariables false
set_option linter.unusedSimpArgs false

set_option maxRecDepth 100000 in
set_option maxHeartbeats 8000000 in
theorem core_FnExactSystemVars (t : Sy) (r m : List Bool) (hr : r.length ≤ 1000) (hm : m.length ≤ 1000) (hsm : SmallS t) (hS : ∀ w x, SyIn Any w t x → Calls Try.prog 28 #[x] w (RetP (TwoV w.heap.size (r.map Value.bool) (m.map Value.bool)) w)) (hI : ∀ w x, SyIn Any w t x → Calls Try.prog 29 #[x] w (RetP (TwoV w.heap.size (r.map Value.bool) (m.map Value.bool)) w))
    (w : World) (x : Value) (hx : SyIn Any w t x) (hs : 0 ≤ Sys.szS t 1048576) : Calls Try.prog 6 #[x] w (Ret (.bool true) w) := by
  have HX := hid hx
  obtain ⟨a, c, b, d, rfl⟩ := hx.shape
  have HSZ := hid (fun (W : World) (M : Below w.heap.size w W) => Sys.szS_any t W _ 1048576 (HX.out.below M) (by omega) (by omega))
  have hs0 : ¬ (Sys.szS t 1048576 < 0) := by omega
  have hmb := mS_bd hsm
  have HS := hid hS
  have HI := hid hI
  have HTO := hid (fun (W : World) (M : Below w.heap.size w W) => Sys.toS_any t W _ (HX.out.below M) hsm)
  have hrr : (r == r) = true := by simp
  have hmm : (m == m) = true := by simp
  have HLL := hid (show (r.map Value.bool).length = r.length by simp)
  have HLM := hid (show (m.map Value.bool).length = m.length by simp)
  clear hS hI hx hsm hs
  generalize Sys.szS t 1048576 = g at *
  go_enter Try.func6, Try.ntmps6
  go_wp2_with fail
  refine (HSZ.out _ (by repeat (first | exact Below.refl _ _ | assumption | refine below_a ?_ _ | refine below_o ?_ _ | refine below_d ?_ | refine below_n ?_ _ | refine below_s ?_ (by first | (simp; done) | (simp; omega) | omega) _))).mono ?_
  rintro y w1 ⟨rfl, hb⟩
  have P := hid (box2_next hb (box2_at (w := w) (a := .slice a t.init.length c) (b := .slice b t.procs.length d) (t := 40) rfl))
  have B := hid (below_next (below_alloc _ _) hb)
  clear hb HSZ
  obtain ⟨p0, p1, p2, _⟩ := id P.out
  go_wp2_with fail
  refine (HTO.out _ B.out).mono ?_
  rintro y w2 ⟨v1, rfl, hn1, hb⟩
  have N1 := hid (NewSy_any hn1)
  replace P := hid (box2_next hb P.out)
  replace B := hid (below_next B.out hb)
  clear hb hn1 p0 p1 p2
  go_wp2_with fail
  refine (HS.out _ _ N1.out).mono ?_
  rintro y w3 ⟨vW, rfl, ⟨aW, cW, bsW, aX, cX, bsX, rfl, ⟨cW1, cW2, oW, gW⟩, ⟨cW3, cW4, oW2, gW2⟩, dW⟩, hb⟩
  rw [HLL.out] at cW1 ⊢
  rw [HLM.out] at cW3 ⊢
  have lW := hid oW.lt
  have lW2 := hid oW2.lt
  have OW := hid oW
  have OW2 := hid oW2
  replace P := hid (box2_next hb P.out)
  replace B := hid (below_next B.out hb)
  have l13 : w.heap.size < w3.heap.size := P.out.1
  clear hb N1 oW gW oW2 gW2 dW
  obtain ⟨p0, p1, p2, _⟩ := id P.out
  go_wp2_with fail
  refine (HTO.out _ B.out).mono ?_
  rintro y w4 ⟨v2, rfl, hn2, hb⟩
  have FR := hid (NewSy.fresh hn2)
  have s34 := hb.size
  replace OW := hid (OW.out.below hb)
  replace OW2 := hid (OW2.out.below hb)
  replace P := hid (box2_next hb P.out)
  replace B := hid (below_next B.out hb)
  obtain ⟨a2, c2, b2, d2, rfl⟩ := SyIn.shape FR.out
  clear hb hn2 p0 p1 p2
  have PP := hid (show ∀ b, Fresh w4 w3.heap.size w4.heap.size b → w3.heap.size ≤ b ∧ b < w4.heap.size from fun b h => ⟨h.1, h.2.1⟩)
  have PF := hid (show ∀ b, Fresh w4 w3.heap.size w4.heap.size b → ∀ i, w4.frozen? ⟨b, i, none⟩ = false from fun b h => h.2.2)
  obtain ⟨pr, hpr⟩ : ∃ pr : Nat → Prop, Hid (pr = Fresh w4 w3.heap.size w4.heap.size) := ⟨_, hid rfl⟩
  rw [← hpr.out] at FR PP PF
  go_wp2_with fail
  refine (HI.out _ _ ((SyIn.any FR.out).below (below_alloc _ _))).mono ?_
  rintro y w5 ⟨vG, rfl, ⟨aG, cG, bsG, aK, cK, bsK, rfl, ⟨cG1, cG2, oG, gG⟩, ⟨cG3, cG4, oG2, gG2⟩, dG⟩, hb⟩
  rw [HLL.out] at cG1 ⊢
  rw [HLM.out] at cG3 ⊢
  have gG' := hid (show ∀ b, b ∈ bsG → w4.heap.size ≤ b from fun b h => by have := gG b h; simp at this; omega)
  have gK' := hid (show ∀ b, b ∈ bsK → w4.heap.size ≤ b from fun b h => by have := gG2 b h; simp at this; omega)
  have DG := hid dG
  have X0 := hid (box2_next hb (box2_at (w := w4) (a := .slice a2 t.init.length c2) (b := .slice b2 t.procs.length d2) (t := 45) rfl))
  replace hb := below_next (below_alloc ..) hb
  have OG := hid oG
  have OG2 := hid oG2
  have M4 := hid hb
  replace OW := hid (OW.out.below hb)
  replace OW2 := hid (OW2.out.below hb)
  replace P := hid (box2_next hb P.out)
  replace B := hid (below_next B.out hb)
  clear hb oG gG oG2 gG2 dG
  go_wp2_with fail
  refine (eqBoolS_any r r _ _ _ _ _ OG.out.any OW.out.any cG1 cG2 cW1 cW2).mono ?_
  rintro y w106 ⟨rfl, hb⟩
  rw [hrr]
  replace OG := hid (OG.out.below hb)
  replace OG2 := hid (OG2.out.below hb)
  replace OW := hid (OW.out.below hb)
  replace OW2 := hid (OW2.out.below hb)
  replace X0 := hid (box2_next hb X0.out)
  replace M4 := hid (below_next M4.out hb)
  replace P := hid (box2_next hb P.out)
  replace B := hid (below_next B.out hb)
  clear hb
  go_wp2_with fail
  refine (eqBoolS_any m m _ _ _ _ _ OG2.out.any OW2.out.any cG3 cG4 cW3 cW4).mono ?_
  rintro y w107 ⟨rfl, hb⟩
  rw [hmm]
  replace OG := hid (OG.out.below hb)
  replace OG2 := hid (OG2.out.below hb)
  replace OW := hid (OW.out.below hb)
  replace OW2 := hid (OW2.out.below hb)
  replace X0 := hid (box2_next hb X0.out)
  replace M4 := hid (below_next M4.out hb)
  replace P := hid (box2_next hb P.out)
  replace B := hid (below_next B.out hb)
  clear hb
  obtain ⟨w6, hw6⟩ : ∃ w6 : World, w6 = w107 := ⟨_, rfl⟩
  subst hw6
  go_wp2_with fail
  have h1 := box2_next (below_d (Below.refl _ _)) P.out
  have h2 := box2_next (below_d (Below.refl _ _)) X0.out
  have Bd := below_d B.out
  have hm := ((SyIn.any FR.out).below M4.out).below (below_d (Below.refl _ _))
  go_region_held3 (fun w' => w'.cell? ⟨w.heap.size, 0, none⟩ = some (.slice a t.init.length c) ∧ w'.cell? ⟨w.heap.size, 1, none⟩ = some (.slice b t.procs.length d) ∧ w'.cell? ⟨w4.heap.size, 0, none⟩ = some (.slice a2 t.init.length c2) ∧ w'.cell? ⟨w4.heap.size, 1, none⟩ = some (.slice b2 t.procs.length d2))
    (first | exact ⟨h1.2.1, h1.2.2.1, h2.2.1, h2.2.2.1⟩ | exact ⟨k1.2.1, k1.2.2.1, k2.2.1, k2.2.2.1⟩ | exact ⟨l1.2.1, l1.2.2.1, l2.2.1, l2.2.2.1⟩)
    (first
      | (go_at_call 19; have HT := HTO.out _ Bd; refine HT.mono ?_; clear HT; rintro y w7 ⟨v3, rfl, hn3, hb⟩; have N3 := hid (NewSy_any hn3); obtain ⟨a3, c3, b3, d3, rfl⟩ := N3.out.shape; have k1 := box2_next hb h1; have k2 := box2_next hb h2; have hm3 := hm.below hb; have B7 := below_next Bd hb; have Z7 := below_next (below_d (Below.refl w6.heap.size w6)) hb; clear hb hn3)
      | (go_at_call 21; have HT := Sys.eqS_any t t _ _ _ hm3 N3.out; refine HT.mono ?_; clear HT; rintro y w8 ⟨rfl, hb⟩; rw [eqS_refl]; have l1 := box2_next hb k1; have l2 := box2_next hb k2; have B8 := below_next B7 hb; have Z8 := hid (below_next Z7 hb); clear hb))
  have hb := Z8.out
  replace OG := hid (OG.out.below hb)
  replace OG2 := hid (OG2.out.below hb)
  replace OW := hid (OW.out.below hb)
  replace OW2 := hid (OW2.out.below hb)
  replace X0 := hid (box2_next hb X0.out)
  replace M4 := hid (below_next M4.out hb)
  replace P := hid (box2_next hb P.out)
  replace B := hid (below_next B.out hb)
  clear hb h1 h2 hm k1 k2 l1 l2 hm3 Bd B7 B8 Z7 Z8 N3
  have FX := hid (SyIn.frame (q := pr) FR.out M4.out.size fun b h1 h2 => ⟨h1, M4.out.block b h2⟩)
  have FF := hid (show Free pr w8 from fun b hb i => by rw [M4.out.frozen (p := ⟨b, i, none⟩) (PP.out b hb).2]; exact PF.out b hb i)
  have s48 := M4.out.size
  obtain ⟨x0, x1, x2, _⟩ := id X0.out
  go_wp2_with fail
  refine (mkS_any pr _ FF.out t _ 1 FX.out (fun b hb => by have := (PP.out b hb).2; omega) (by omega) (by omega)).mono ?_
  rintro y w9 ⟨rfl, hm⟩
  have nW : ∀ b, b ∈ bsW → ¬ pr b := fun b h1 h2 => by have := lW.out b h1; have := (PP.out b h2).1; omega
  have nW2 : ∀ b, b ∈ bsX → ¬ pr b := fun b h1 h2 => by have := lW2.out b h1; have := (PP.out b h2).1; omega
  have nG : ∀ b, b ∈ bsG → ¬ pr b := fun b h1 h2 => by have := gG'.out b h1; have := (PP.out b h2).2; omega
  have nG2 : ∀ b, b ∈ bsK → ¬ pr b := fun b h1 h2 => by have := gK'.out b h1; have := (PP.out b h2).2; omega
  replace OW := hid (OW.out.frame hm.size fun b h1 h2 => hm.block b h2 (nW b h1))
  replace OW2 := hid (OW2.out.frame hm.size fun b h1 h2 => hm.block b h2 (nW2 b h1))
  replace OG := hid (OG.out.frame hm.size fun b h1 h2 => hm.block b h2 (nG b h1))
  replace OG2 := hid (OG2.out.frame hm.size fun b h1 h2 => hm.block b h2 (nG2 b h1))
  replace P := hid (box2_marked hm (fun h => by have := (PP.out _ h).1; omega) P.out)
  replace B := hid (hm.new B.out (fun b h => by have := (PP.out b h).1; omega))
  have hk9 : ¬ (1 + mS t < 0) := by omega
  clear hm FR FX FF M4 X0 nW nG nW2 nG2 x0 x1 x2 PF PP hpr
  go_wp2_with fail
  refine (eqBoolS_any r r _ _ _ _ _ OG.out.any OW.out.any cG1 cG2 cW1 cW2).mono ?_
  rintro y w108 ⟨rfl, hb⟩
  rw [hrr]
  replace OG := hid (OG.out.below hb)
  replace OG2 := hid (OG2.out.below hb)
  replace OW := hid (OW.out.below hb)
  replace OW2 := hid (OW2.out.below hb)
  replace P := hid (box2_next hb P.out)
  replace B := hid (below_next B.out hb)
  clear hb
  go_wp2_with fail
  refine (eqBoolS_any m m _ _ _ _ _ OG2.out.any OW2.out.any cG3 cG4 cW3 cW4).mono ?_
  rintro y w109 ⟨rfl, hb⟩
  rw [hmm]
  replace OG := hid (OG.out.below hb)
  replace OG2 := hid (OG2.out.below hb)
  replace OW := hid (OW.out.below hb)
  replace OW2 := hid (OW2.out.below hb)
  replace P := hid (box2_next hb P.out)
  replace B := hid (below_next B.out hb)
  clear hb
  obtain ⟨w10, hw10⟩ : ∃ w10 : World, w10 = w109 := ⟨_, rfl⟩
  subst hw10
  have hMk := hid (BoolS.mark_any _ w10 aG cG 1 bsG OG.out (by rw [HLL.out]; exact cG1) cG2 (by omega) (by rw [HLL.out]; omega))
  have hMk2 := hMk.out
  rw [HLL.out] at hMk2
  replace hMk := hid hMk2
  clear hMk2
  go_wp2_with fail
  refine hMk.out.mono ?_
  rintro y w11 ⟨rfl, oM, hO⟩
  have OM := hid oM
  have nW : ∀ b, b ∈ bsW → b ∉ bsG := fun b h1 h2 => by have := gG'.out b h2; have := lW.out b h1; omega
  have nW2 : ∀ b, b ∈ bsX → b ∉ bsG := fun b h1 h2 => by have := gG'.out b h2; have := lW2.out b h1; omega
  replace P := hid (box2_block hO.size (hO.block _ P.out.1 (fun h => by have := gG'.out _ h; omega)) P.out)
  replace OW := hid (OW.out.only hO nW)
  replace OW2 := hid (OW2.out.only hO nW2)
  replace OG2 := hid (OG2.out.only hO fun b h1 h2 => DG.out b h2 h1)
  replace B := hid (hO.new B.out (fun b h => by have := gG'.out b h; omega))
  clear hO OG nW nW2 hMk oM
  have hMk := hid (BoolS.mark_any _ w11 aK cK (1 + (r.length : Int)) bsK OG2.out (by rw [HLM.out]; exact cG3) cG4 (by omega) (by rw [HLM.out]; omega))
  have hMk2 := hMk.out
  rw [HLM.out] at hMk2
  replace hMk := hid hMk2
  clear hMk2
  go_wp2_with fail
  refine hMk.out.mono ?_
  rintro y w12 ⟨rfl, oM, hO⟩
  have OM2 := hid oM
  have nW : ∀ b, b ∈ bsW → b ∉ bsK := fun b h1 h2 => by have := gK'.out b h2; have := lW.out b h1; omega
  have nW2 : ∀ b, b ∈ bsX → b ∉ bsK := fun b h1 h2 => by have := gK'.out b h2; have := lW2.out b h1; omega
  replace P := hid (box2_block hO.size (hO.block _ P.out.1 (fun h => by have := gK'.out _ h; omega)) P.out)
  replace OW := hid (OW.out.only hO nW)
  replace OW2 := hid (OW2.out.only hO nW2)
  replace OM := hid (OM.out.only hO DG.out)
  replace B := hid (hO.new B.out (fun b h => by have := gK'.out b h; omega))
  clear hO OG2 nW nW2 hMk oM
  have hk1 : ¬ ((1 : Int) + r.length < 0) := by omega
  have hk2 : ¬ ((1 : Int) + r.length + m.length < 0) := by omega
  have nn : ((1 : Int) + r.length + m.length != 1 + r.length + m.length) = false := by simp
  go_wp2_with fail
  refine (BoolS.held_any r.length _ aG cG 1 OM.out.any cG1 cG2 (by omega) (by omega)).mono ?_
  rintro y wh1 ⟨rfl, hb⟩
  replace OM := hid (OM.out.below hb)
  replace OM2 := hid (OM2.out.below hb)
  replace OW := hid (OW.out.below hb)
  replace OW2 := hid (OW2.out.below hb)
  replace P := hid (box2_next hb P.out)
  replace B := hid (below_next B.out hb)
  clear hb
  go_wp2_with fail
  refine (BoolS.held_any m.length _ aK cK (1 + (r.length : Int)) OM2.out.any cG3 cG4 (by omega) (by omega)).mono ?_
  rintro y wh2 ⟨rfl, hb⟩
  replace OM := hid (OM.out.below hb)
  replace OM2 := hid (OM2.out.below hb)
  replace OW := hid (OW.out.below hb)
  replace OW2 := hid (OW2.out.below hb)
  replace P := hid (box2_next hb P.out)
  replace B := hid (below_next B.out hb)
  clear hb
  obtain ⟨p0, p1, p2, _⟩ := id P.out
  go_wp2_with fail
  refine (HTO.out _ B.out).mono ?_
  rintro y w13 ⟨v4, rfl, hn4, hb⟩
  have N4 := hid (NewSy_any hn4)
  replace OM := hid (OM.out.below hb)
  replace OM2 := hid (OM2.out.below hb)
  replace OW := hid (OW.out.below hb)
  replace OW2 := hid (OW2.out.below hb)
  replace P := hid (box2_next hb P.out)
  replace B := hid (below_next B.out hb)
  clear hb hn4 p0 p1 p2
  go_wp2_with fail
  refine (HI.out _ _ N4.out).mono ?_
  rintro y w14 ⟨vH, rfl, ⟨aH, cH, bsH, aJ, cJ, bsJ, rfl, ⟨cH1, cH2, oH, gH⟩, ⟨cH3, cH4, oH2, gH2⟩, dH⟩, hb⟩
  rw [HLL.out] at cH1 ⊢
  rw [HLM.out] at cH3 ⊢
  have OH := hid oH
  have OH2 := hid oH2
  replace OM := hid (OM.out.below hb)
  replace OM2 := hid (OM2.out.below hb)
  replace OW := hid (OW.out.below hb)
  replace OW2 := hid (OW2.out.below hb)
  replace P := hid (box2_next hb P.out)
  replace B := hid (below_next B.out hb)
  clear hb N4 oH gH oH2 gH2 dH
  go_wp2_with fail
  refine (eqBoolS_any r r _ _ _ _ _ OH.out.any OW.out.any cH1 cH2 cW1 cW2).mono ?_
  rintro y w110 ⟨rfl, hb⟩
  rw [hrr]
  replace OH := hid (OH.out.below hb)
  replace OH2 := hid (OH2.out.below hb)
  replace OM := hid (OM.out.below hb)
  replace OM2 := hid (OM2.out.below hb)
  replace OW := hid (OW.out.below hb)
  replace OW2 := hid (OW2.out.below hb)
  replace B := hid (below_next B.out hb)
  clear hb
  go_wp2_with fail
  refine (eqBoolS_any m m _ _ _ _ _ OH2.out.any OW2.out.any cH3 cH4 cW3 cW4).mono ?_
  rintro y w111 ⟨rfl, hb⟩
  rw [hmm]
  replace OH := hid (OH.out.below hb)
  replace OH2 := hid (OH2.out.below hb)
  replace OM := hid (OM.out.below hb)
  replace OM2 := hid (OM2.out.below hb)
  replace OW := hid (OW.out.below hb)
  replace OW2 := hid (OW2.out.below hb)
  replace B := hid (below_next B.out hb)
  clear hb
  clear OW OW2 OH OH2
  go_wp2_with fail
  refine (BoolS.held_any r.length _ aG cG 1 OM.out.any cG1 cG2 (by omega) (by omega)).mono ?_
  rintro y wh1 ⟨rfl, hb⟩
  replace OM := hid (OM.out.below hb)
  replace OM2 := hid (OM2.out.below hb)
  replace B := hid (below_next B.out hb)
  clear hb
  go_wp2_with fail
  refine (BoolS.held_any m.length _ aK cK (1 + (r.length : Int)) OM2.out.any cG3 cG4 (by omega) (by omega)).mono ?_
  rintro y wh2 ⟨rfl, hb⟩
  replace OM := hid (OM.out.below hb)
  replace OM2 := hid (OM2.out.below hb)
  replace B := hid (below_next B.out hb)
  clear hb
  go_wp2_with fail
  go_ret
  exact Ret.mk rfl B.out

theorem walk_FnExactSystemVars (t : Sy) (w : World) (x : Value) (hx : SyIn Any w t x) : Calls Try.prog 6 #[x] w (Ret (.bool true) w) := by
  by_cases hs : Sys.szS t 1048576 < 0
  · have HX := hid hx
    have HSZ := hid (fun (W : World) (M : Below w.heap.size w W) => Sys.szS_any t W x 1048576 (HX.out.below M) (by omega) (by omega))
    obtain ⟨a, c, b, d, rfl⟩ := hx.shape
    clear hx
    go_enter Try.func6, Try.ntmps6
    go_wp2_with fail
    refine (HSZ.out _ (by repeat (first | exact Below.refl _ _ | assumption | refine below_a ?_ _ | refine below_o ?_ _ | refine below_d ?_ | refine below_n ?_ _ | refine below_s ?_ (by first | (simp; done) | (simp; omega) | omega) _))).mono ?_
    rintro y w1 ⟨rfl, hb⟩
    go_wp2_with fail
    go_ret
    exact Ret.mk rfl (below_next (by repeat (first | exact Below.refl _ _ | assumption | refine below_a ?_ _ | refine below_o ?_ _ | refine below_d ?_ | refine below_n ?_ _ | refine below_s ?_ (by first | (simp; done) | (simp; omega) | omega) _)) hb)
  · have hsm := Sys.small_of_sz t (by omega)
    exact core_FnExactSystemVars t (varsS Sys.rdE t) (varsS wrE t) (varsS_len _ t) (varsS_len _ t) hsm (fun w x hx => specSysVars_any t w x hx) (fun w x hx => sysVars_any t w x hx) w x hx (by omega)
end Go.Proofs.Ytchlpeflfiecdaa
