/- FnExactInitialState returns true for every system. Conditions: none. -/
import Derived.Test.YtchlpeflfiecdaaInitV
import Derived.Test.YtchlpeflfiecdaaStateMark
import Derived.Test.YtchlpeflfiecdaaStatePair
import Derived.Test.YtchlpeflfiecdaaSysEq
import Derived.Test.YtchlpeflfiecdaaSysTo2
import Derived.Test.YtchlpeflfiecdaaSysMark2
import Derived.Test.YtchlpeflfiecdaaLawSysValid
import Derived.Test.YtchlpeflfiecdaaRegOrd
import Derived.Deep.RegionHeld3
namespace Go.Proofs.Ytchlpeflfiecdaa
open Go.RowKit
open Go.Proofs.Ytchlpeflfiecdaa.Sys
set_option linter.unusedVariables false
set_option linter.unusedSimpArgs false

theorem st_pair {l m : List Int} {a b : Option Addr} {bs bs' : List Nat} {c d : Nat} {w : World} (h : OwnV (l.map (Value.int .i64)) a bs w) (h' : OwnV (m.map (Value.int .i64)) b bs' w) (c1 : l.length ≤ c) (c2 : c ≤ maxLen) (c3 : m.length ≤ d) (c4 : d ≤ maxLen) (hl : ∀ n, n ∈ l → i64 n) (hm : ∀ n, n ∈ m → i64 n) :
    State.PairIn Any w l m (.agg #[.slice a l.length c, .slice b m.length d]) := ⟨a, b, c, d, rfl, ⟨h.any, hl⟩, ⟨h'.any, hm⟩, c1, c2, c3, c4⟩
set_option maxRecDepth 100000 in
set_option maxHeartbeats 8000000 in
theorem core_FnExactInitialState (t : Sy) (l m : List Int) (ok : Bool) (hl : l.length ≤ 1000) (hm : m.length ≤ 1000) (hli : ∀ n, n ∈ l → i64 n) (hmi : ∀ n, n ∈ m → i64 n) (hsm : SmallS t) (hS : ∀ w x, SyIn Any w t x → Calls Try.prog 44 #[x] w (RetP (StV w.heap.size l m ok) w)) (hI : ∀ w x, SyIn Any w t x → Calls Try.prog 45 #[x] w (RetP (StV w.heap.size l m ok) w))
    (w : World) (x : Value) (hx : SyIn Any w t x) (hs : 0 ≤ Sys.szS t 1048576) : Calls Try.prog 10 #[x] w (Ret (.bool true) w) := by
  have HX := hid hx
  obtain ⟨a, c, b, d, rfl⟩ := hx.shape
  have HSZ := hid (fun (W : World) (M : Below w.heap.size w W) => Sys.szS_any t W _ 1048576 (HX.out.below M) (by omega) (by omega))
  have hs0 : ¬ (Sys.szS t 1048576 < 0) := by omega
  have hmb := mS_bd hsm
  have HS := hid hS
  have HI := hid hI
  have HTO := hid (fun (W : World) (M : Below w.heap.size w W) => Sys.toS_any t W _ (HX.out.below M) hsm)
  have hee : (l == l && m == m) = true := by simp
  have hoo : (ok != ok) = false := by simp
  have HLI := hid hli
  have HMI := hid hmi
  have HLL := hid (show (l.map (Value.int .i64)).length = l.length by simp)
  have HLM := hid (show (m.map (Value.int .i64)).length = m.length by simp)
  clear hli hmi
  clear hS hI hx hsm hs
  generalize Sys.szS t 1048576 = g at *
  go_enter Try.func10, Try.ntmps10
  go_wp2_with fail
  refine (HSZ.out _ (by repeat (first | exact Below.refl _ _ | assumption | refine below_a ?_ _ | refine below_o ?_ _ | refine below_d ?_ | refine below_n ?_ _ | refine below_s ?_ (by first | (simp; done) | (simp; omega) | omega) _))).mono ?_
  rintro y w1 ⟨rfl, hb⟩
  have P := hid (box2_next hb (box2_at (w := w) (a := .slice a t.init.length c) (b := .slice b t.procs.length d) (t := 40) rfl))
  have B := hid (below_next (below_alloc _ _) hb)
  clear hb HSZ
  obtain ⟨p0, p1, p2, _⟩ := id P.out
  go_wp2_with fail
  refine (HTO.out _ B.out).mono ?_
  rintro y w2 ⟨v1, rfl, hn1, hb⟩
  have N1 := hid (NewSy_any hn1)
  replace P := hid (box2_next hb P.out)
  replace B := hid (below_next B.out hb)
  clear hb hn1 p0 p1 p2
  go_wp2_with fail
  refine (HS.out _ _ N1.out).mono ?_
  rintro y w3 ⟨vW, rfl, ⟨aW, cW, bsW, aX, cX, bsX, rfl, ⟨cW1, cW2, oW, gW⟩, ⟨cW3, cW4, oW2, gW2⟩, dW⟩, hb⟩
  have lW := hid oW.lt
  have lW2 := hid oW2.lt
  have OW := hid oW
  have OW2 := hid oW2
  replace P := hid (box2_next hb P.out)
  replace B := hid (below_next B.out hb)
  have l13 : w.heap.size < w3.heap.size := P.out.1
  clear hb N1 oW gW oW2 gW2 dW
  obtain ⟨p0, p1, p2, _⟩ := id P.out
  go_wp2_with fail
  have hb := below_alloc w3 (.cells #[.slice aW l.length cW, .slice aX m.length cX] 62)
  have WB := hid (box2_at (w := w3) (a := .slice aW l.length cW) (b := .slice aX m.length cX) (t := 62) rfl)
  replace OW := hid (OW.out.below hb)
  replace OW2 := hid (OW2.out.below hb)
  replace P := hid (box2_next hb P.out)
  replace B := hid (below_next B.out hb)
  have l3b : w3.heap.size < (w3.alloc (.cells #[.slice aW l.length cW, .slice aX m.length cX] 62)).heap.size := by simp
  clear hb
  refine (HTO.out _ B.out).mono ?_
  generalize w3.alloc (.cells #[.slice aW l.length cW, .slice aX m.length cX] 62) = w3b at *
  rintro y w4 ⟨v2, rfl, hn2, hb⟩
  have FR := hid (NewSy.fresh hn2)
  have s34 := hb.size
  replace OW := hid (OW.out.below hb)
  replace OW2 := hid (OW2.out.below hb)
  replace P := hid (box2_next hb P.out)
  replace B := hid (below_next B.out hb)
  replace WB := hid (box2_next hb WB.out)
  obtain ⟨a2, c2, b2, d2, rfl⟩ := SyIn.shape FR.out
  clear hb hn2 p0 p1 p2
  have PP := hid (show ∀ b, Fresh w4 w3b.heap.size w4.heap.size b → w3b.heap.size ≤ b ∧ b < w4.heap.size from fun b h => ⟨h.1, h.2.1⟩)
  have PF := hid (show ∀ b, Fresh w4 w3b.heap.size w4.heap.size b → ∀ i, w4.frozen? ⟨b, i, none⟩ = false from fun b h => h.2.2)
  obtain ⟨pr, hpr⟩ : ∃ pr : Nat → Prop, Hid (pr = Fresh w4 w3b.heap.size w4.heap.size) := ⟨_, hid rfl⟩
  rw [← hpr.out] at FR PP PF
  go_wp2_with fail
  refine (HI.out _ _ ((SyIn.any FR.out).below (below_alloc _ _))).mono ?_
  rintro y w5 ⟨vG, rfl, ⟨aG, cG, bsG, aK, cK, bsK, rfl, ⟨cG1, cG2, oG, gG⟩, ⟨cG3, cG4, oG2, gG2⟩, dG⟩, hb⟩
  have gG' := hid (show ∀ b, b ∈ bsG → w4.heap.size ≤ b from fun b h => by have := gG b h; simp at this; omega)
  have gK' := hid (show ∀ b, b ∈ bsK → w4.heap.size ≤ b from fun b h => by have := gG2 b h; simp at this; omega)
  have DG := hid dG
  have X0 := hid (box2_next hb (box2_at (w := w4) (a := .slice a2 t.init.length c2) (b := .slice b2 t.procs.length d2) (t := 45) rfl))
  replace hb := below_next (below_alloc ..) hb
  have OG := hid oG
  have OG2 := hid oG2
  have M4 := hid hb
  replace OW := hid (OW.out.below hb)
  replace OW2 := hid (OW2.out.below hb)
  replace P := hid (box2_next hb P.out)
  replace B := hid (below_next B.out hb)
  replace WB := hid (box2_next hb WB.out)
  have lG := hid oG.lt
  have lG2 := hid oG2.lt
  have s45 := hb.size
  clear hb oG gG oG2 gG2 dG
  obtain ⟨v0, v1, v2, _⟩ := id WB.out
  go_wp2_with fail
  have hb := below_alloc w5 (.cells #[.slice aG l.length cG, .slice aK m.length cK] 62)
  have GB := hid (box2_at (w := w5) (a := .slice aG l.length cG) (b := .slice aK m.length cK) (t := 62) rfl)
  replace OG := hid (OG.out.below hb)
  replace OG2 := hid (OG2.out.below hb)
  replace OW := hid (OW.out.below hb)
  replace OW2 := hid (OW2.out.below hb)
  replace X0 := hid (box2_next hb X0.out)
  replace M4 := hid (below_next M4.out hb)
  replace P := hid (box2_next hb P.out)
  replace B := hid (below_next B.out hb)
  replace WB := hid (box2_next hb WB.out)
  clear hb v0 v1 v2
  generalize w5.alloc (.cells #[.slice aG l.length cG, .slice aK m.length cK] 62) = w5b at *
  obtain ⟨v0, v1, v2, _⟩ := id WB.out
  obtain ⟨u0, u1, u2, _⟩ := id GB.out
  go_wp2_with fail
  refine (State.eq_any l m l m _ _ _ (st_pair OG.out OG2.out cG1 cG2 cG3 cG4 HLI.out HMI.out) (st_pair OW.out OW2.out cW1 cW2 cW3 cW4 HLI.out HMI.out)).mono ?_
  rintro y w106 ⟨rfl, hb⟩
  rw [hee]
  replace OG := hid (OG.out.below hb)
  replace OG2 := hid (OG2.out.below hb)
  replace OW := hid (OW.out.below hb)
  replace OW2 := hid (OW2.out.below hb)
  replace X0 := hid (box2_next hb X0.out)
  replace M4 := hid (below_next M4.out hb)
  replace P := hid (box2_next hb P.out)
  replace B := hid (below_next B.out hb)
  replace WB := hid (box2_next hb WB.out)
  replace GB := hid (box2_next hb GB.out)
  clear hb v0 v1 v2 u0 u1 u2
  obtain ⟨w6, hw6⟩ : ∃ w6 : World, w6 = w106 := ⟨_, rfl⟩
  subst hw6
  go_wp2_with fail
  have h1 := box2_next (below_d (Below.refl _ _)) P.out
  have h2 := box2_next (below_d (Below.refl _ _)) X0.out
  have Bd := below_d B.out
  have hm := ((SyIn.any FR.out).below M4.out).below (below_d (Below.refl _ _))
  go_region_held3 (fun w' => w'.cell? ⟨w.heap.size, 0, none⟩ = some (.slice a t.init.length c) ∧ w'.cell? ⟨w.heap.size, 1, none⟩ = some (.slice b t.procs.length d) ∧ w'.cell? ⟨w4.heap.size, 0, none⟩ = some (.slice a2 t.init.length c2) ∧ w'.cell? ⟨w4.heap.size, 1, none⟩ = some (.slice b2 t.procs.length d2))
    (first | exact ⟨h1.2.1, h1.2.2.1, h2.2.1, h2.2.2.1⟩ | exact ⟨k1.2.1, k1.2.2.1, k2.2.1, k2.2.2.1⟩ | exact ⟨l1.2.1, l1.2.2.1, l2.2.1, l2.2.2.1⟩)
    (first
      | (go_at_call 19; have HT := HTO.out _ Bd; refine HT.mono ?_; clear HT; rintro y w7 ⟨v3, rfl, hn3, hb⟩; have N3 := hid (NewSy_any hn3); obtain ⟨a3, c3, b3, d3, rfl⟩ := N3.out.shape; have k1 := box2_next hb h1; have k2 := box2_next hb h2; have hm3 := hm.below hb; have B7 := below_next Bd hb; have Z7 := below_next (below_d (Below.refl w6.heap.size w6)) hb; clear hb hn3)
      | (go_at_call 21; have HT := Sys.eqS_any t t _ _ _ hm3 N3.out; refine HT.mono ?_; clear HT; rintro y w8 ⟨rfl, hb⟩; rw [eqS_refl]; have l1 := box2_next hb k1; have l2 := box2_next hb k2; have B8 := below_next B7 hb; have Z8 := hid (below_next Z7 hb); clear hb))
  have hb := Z8.out
  replace OG := hid (OG.out.below hb)
  replace OG2 := hid (OG2.out.below hb)
  replace OW := hid (OW.out.below hb)
  replace OW2 := hid (OW2.out.below hb)
  replace X0 := hid (box2_next hb X0.out)
  replace M4 := hid (below_next M4.out hb)
  replace P := hid (box2_next hb P.out)
  replace B := hid (below_next B.out hb)
  replace WB := hid (box2_next hb WB.out)
  replace GB := hid (box2_next hb GB.out)
  clear hb h1 h2 hm k1 k2 l1 l2 hm3 Bd B7 B8 Z7 Z8 N3
  have FX := hid (SyIn.frame (q := pr) FR.out M4.out.size fun b h1 h2 => ⟨h1, M4.out.block b h2⟩)
  have FF := hid (show Free pr w8 from fun b hb i => by rw [M4.out.frozen (p := ⟨b, i, none⟩) (PP.out b hb).2]; exact PF.out b hb i)
  have s48 := M4.out.size
  obtain ⟨x0, x1, x2, _⟩ := id X0.out
  go_wp2_with fail
  refine (mkS_any pr _ FF.out t _ 1 FX.out (fun b hb => by have := (PP.out b hb).2; omega) (by omega) (by omega)).mono ?_
  rintro y w9 ⟨rfl, hm⟩
  have nW : ∀ b, b ∈ bsW → ¬ pr b := fun b h1 h2 => by have := lW.out b h1; have := (PP.out b h2).1; omega
  have nW2 : ∀ b, b ∈ bsX → ¬ pr b := fun b h1 h2 => by have := lW2.out b h1; have := (PP.out b h2).1; omega
  have nG : ∀ b, b ∈ bsG → ¬ pr b := fun b h1 h2 => by have := gG'.out b h1; have := (PP.out b h2).2; omega
  have nG2 : ∀ b, b ∈ bsK → ¬ pr b := fun b h1 h2 => by have := gK'.out b h1; have := (PP.out b h2).2; omega
  replace OW := hid (OW.out.frame hm.size fun b h1 h2 => hm.block b h2 (nW b h1))
  replace OW2 := hid (OW2.out.frame hm.size fun b h1 h2 => hm.block b h2 (nW2 b h1))
  replace OG := hid (OG.out.frame hm.size fun b h1 h2 => hm.block b h2 (nG b h1))
  replace OG2 := hid (OG2.out.frame hm.size fun b h1 h2 => hm.block b h2 (nG2 b h1))
  replace P := hid (box2_marked hm (fun h => by have := (PP.out _ h).1; omega) P.out)
  replace WB := hid (box2_marked hm (fun h => by have := (PP.out _ h).1; omega) WB.out)
  replace GB := hid (box2_marked hm (fun h => by have := (PP.out _ h).2; omega) GB.out)
  replace B := hid (hm.new B.out (fun b h => by have := (PP.out b h).1; omega))
  have hk9 : ¬ (1 + mS t < 0) := by omega
  clear hm FR FX FF M4 X0 nW nG nW2 nG2 x0 x1 x2 PF PP hpr
  obtain ⟨v0, v1, v2, _⟩ := id WB.out
  obtain ⟨u0, u1, u2, _⟩ := id GB.out
  go_wp2_with fail
  refine (State.eq_any l m l m _ _ _ (st_pair OG.out OG2.out cG1 cG2 cG3 cG4 HLI.out HMI.out) (st_pair OW.out OW2.out cW1 cW2 cW3 cW4 HLI.out HMI.out)).mono ?_
  rintro y w107 ⟨rfl, hb⟩
  rw [hee]
  replace OG := hid (OG.out.below hb)
  replace OG2 := hid (OG2.out.below hb)
  replace OW := hid (OW.out.below hb)
  replace OW2 := hid (OW2.out.below hb)
  replace P := hid (box2_next hb P.out)
  replace B := hid (below_next B.out hb)
  replace WB := hid (box2_next hb WB.out)
  replace GB := hid (box2_next hb GB.out)
  clear hb v0 v1 v2 u0 u1 u2
  obtain ⟨w10, hw10⟩ : ∃ w10 : World, w10 = w107 := ⟨_, rfl⟩
  subst hw10
  have hMk := hid (StateM.mark_any (l.map (Value.int .i64)) (m.map (Value.int .i64)) w10 aG aK cG cK 1 bsG bsK OG.out OG2.out DG.out (by rw [HLL.out]; exact cG1) cG2 (by rw [HLM.out]; exact cG3) cG4 (by omega) (by rw [HLL.out, HLM.out]; omega))
  have hMk2 := hMk.out
  rw [HLL.out, HLM.out] at hMk2
  replace hMk := hid hMk2
  clear hMk2
  obtain ⟨v0, v1, v2, _⟩ := id GB.out
  go_wp2_with fail
  refine hMk.out.mono ?_
  rintro y w11 ⟨rfl, oM, oM2, hO⟩
  have OM := hid oM
  have OM2 := hid oM2
  have nW : ∀ b, b ∈ bsW → b ∉ bsG ++ bsK := fun b h1 h2 => by
    have h3 := lW.out b h1
    rcases List.mem_append.1 h2 with h2 | h2
    · have := gG'.out b h2; omega
    · have := gK'.out b h2; omega
  have nW2 : ∀ b, b ∈ bsX → b ∉ bsG ++ bsK := fun b h1 h2 => by
    have h3 := lW2.out b h1
    rcases List.mem_append.1 h2 with h2 | h2
    · have := gG'.out b h2; omega
    · have := gK'.out b h2; omega
  have nq : ∀ q, q < w4.heap.size → q ∉ bsG ++ bsK := fun q h1 h2 => by
    rcases List.mem_append.1 h2 with h2 | h2
    · have := gG'.out q h2; omega
    · have := gK'.out q h2; omega
  have nq2 : w5.heap.size ∉ bsG ++ bsK := fun h2 => by
    rcases List.mem_append.1 h2 with h2 | h2
    · have := lG.out _ h2; omega
    · have := lG2.out _ h2; omega
  replace P := hid (box2_block hO.size (hO.block _ P.out.1 (nq _ (by omega))) P.out)
  replace WB := hid (box2_block hO.size (hO.block _ WB.out.1 (nq _ (by omega))) WB.out)
  replace GB := hid (box2_block hO.size (hO.block _ GB.out.1 nq2) GB.out)
  replace OW := hid (OW.out.only hO nW)
  replace OW2 := hid (OW2.out.only hO nW2)
  replace B := hid (hO.new B.out (fun b h => by
    rcases List.mem_append.1 h with h2 | h2
    · have := gG'.out b h2; omega
    · have := gK'.out b h2; omega))
  clear hO OG OG2 nW nW2 nq nq2 hMk oM oM2 v0 v1 v2
  have hk1 : ¬ ((1 : Int) + l.length < 0) := by omega
  have hk2 : ¬ ((1 : Int) + l.length + m.length < 0) := by omega
  have nn : ((1 : Int) + l.length + m.length != 1 + l.length + m.length) = false := by simp
  obtain ⟨v0, v1, v2, _⟩ := id GB.out
  go_wp2_with fail
  refine (StateM.held_any l.length m.length _ aG aK cG cK 1 OM.out.any OM2.out.any cG1 cG2 cG3 cG4 (by omega) (by omega)).mono ?_
  rintro y wh1 ⟨rfl, hb⟩
  replace OM := hid (OM.out.below hb)
  replace OM2 := hid (OM2.out.below hb)
  replace OW := hid (OW.out.below hb)
  replace OW2 := hid (OW2.out.below hb)
  replace P := hid (box2_next hb P.out)
  replace B := hid (below_next B.out hb)
  replace WB := hid (box2_next hb WB.out)
  replace GB := hid (box2_next hb GB.out)
  clear hb v0 v1 v2
  obtain ⟨p0, p1, p2, _⟩ := id P.out
  go_wp2_with fail
  refine (HTO.out _ B.out).mono ?_
  rintro y w13 ⟨v4, rfl, hn4, hb⟩
  have N4 := hid (NewSy_any hn4)
  replace OM := hid (OM.out.below hb)
  replace OM2 := hid (OM2.out.below hb)
  replace OW := hid (OW.out.below hb)
  replace OW2 := hid (OW2.out.below hb)
  replace P := hid (box2_next hb P.out)
  replace B := hid (below_next B.out hb)
  replace WB := hid (box2_next hb WB.out)
  replace GB := hid (box2_next hb GB.out)
  clear hb hn4 p0 p1 p2
  go_wp2_with fail
  refine (HI.out _ _ N4.out).mono ?_
  rintro y w14 ⟨vH, rfl, ⟨aH, cH, bsH, aJ, cJ, bsJ, rfl, ⟨cH1, cH2, oH, gH⟩, ⟨cH3, cH4, oH2, gH2⟩, dH⟩, hb⟩
  have OH := hid oH
  have OH2 := hid oH2
  replace OM := hid (OM.out.below hb)
  replace OM2 := hid (OM2.out.below hb)
  replace OW := hid (OW.out.below hb)
  replace OW2 := hid (OW2.out.below hb)
  replace P := hid (box2_next hb P.out)
  replace B := hid (below_next B.out hb)
  replace WB := hid (box2_next hb WB.out)
  replace GB := hid (box2_next hb GB.out)
  clear hb N4 oH gH oH2 gH2 dH
  obtain ⟨v0, v1, v2, _⟩ := id WB.out
  go_wp2_with fail
  have hb := below_alloc w14 (.cells #[.slice aH l.length cH, .slice aJ m.length cJ] 62)
  replace OM := hid (OM.out.below hb)
  replace OM2 := hid (OM2.out.below hb)
  replace OH := hid (OH.out.below hb)
  replace OH2 := hid (OH2.out.below hb)
  replace OW := hid (OW.out.below hb)
  replace OW2 := hid (OW2.out.below hb)
  replace B := hid (below_next B.out hb)
  replace GB := hid (box2_next hb GB.out)
  clear hb v0 v1 v2
  go_wp2_with fail
  refine (State.eq_any l m l m _ _ _ (st_pair OH.out OH2.out cH1 cH2 cH3 cH4 HLI.out HMI.out) (st_pair OW.out OW2.out cW1 cW2 cW3 cW4 HLI.out HMI.out)).mono ?_
  rintro y w108 ⟨rfl, hb⟩
  rw [hee]
  replace OH := hid (OH.out.below hb)
  replace OH2 := hid (OH2.out.below hb)
  replace OM := hid (OM.out.below hb)
  replace OM2 := hid (OM2.out.below hb)
  replace OW := hid (OW.out.below hb)
  replace OW2 := hid (OW2.out.below hb)
  replace B := hid (below_next B.out hb)
  replace GB := hid (box2_next hb GB.out)
  clear hb
  clear OW OW2 OH OH2
  obtain ⟨v0, v1, v2, _⟩ := id GB.out
  go_wp2_with fail
  refine (StateM.held_any l.length m.length _ aG aK cG cK 1 OM.out.any OM2.out.any cG1 cG2 cG3 cG4 (by omega) (by omega)).mono ?_
  rintro y wh1 ⟨rfl, hb⟩
  replace OM := hid (OM.out.below hb)
  replace OM2 := hid (OM2.out.below hb)
  replace B := hid (below_next B.out hb)
  replace GB := hid (box2_next hb GB.out)
  clear hb v0 v1 v2
  go_wp2_with fail
  go_ret
  exact Ret.mk rfl B.out

theorem walk_FnExactInitialState (t : Sy) (w : World) (x : Value) (hx : SyIn Any w t x) : Calls Try.prog 10 #[x] w (Ret (.bool true) w) := by
  by_cases hs : Sys.szS t 1048576 < 0
  · have HX := hid hx
    have HSZ := hid (fun (W : World) (M : Below w.heap.size w W) => Sys.szS_any t W x 1048576 (HX.out.below M) (by omega) (by omega))
    obtain ⟨a, c, b, d, rfl⟩ := hx.shape
    clear hx
    go_enter Try.func10, Try.ntmps10
    go_wp2_with fail
    refine (HSZ.out _ (by repeat (first | exact Below.refl _ _ | assumption | refine below_a ?_ _ | refine below_o ?_ _ | refine below_d ?_ | refine below_n ?_ _ | refine below_s ?_ (by first | (simp; done) | (simp; omega) | omega) _))).mono ?_
    rintro y w1 ⟨rfl, hb⟩
    go_wp2_with fail
    go_ret
    exact Ret.mk rfl (below_next (by repeat (first | exact Below.refl _ _ | assumption | refine below_a ?_ _ | refine below_o ?_ _ | refine below_d ?_ | refine below_n ?_ _ | refine below_s ?_ (by first | (simp; done) | (simp; omega) | omega) _)) hb)
  · have hsm := Sys.small_of_sz t (by omega)
    have hmi : ∀ n, n ∈ initM t → i64 n := fun n hn => by
      obtain ⟨_, _, _, _, _, _, _, hi, _⟩ := hx
      unfold initM at hn
      split at hn
      · exact hi.2 n hn
      · cases hn
    have hli : ∀ n, n ∈ initL t → i64 n := fun n hn => by
      unfold initL at hn
      split at hn
      · obtain ⟨_, rfl⟩ := List.mem_replicate.1 hn; unfold i64; omega
      · cases hn
    have hl : (initL t).length ≤ 1000 := by
      unfold initL
      split
      · rename_i h; have := (okSy_procs h).1; simp; omega
      · simp
    have hm : (initM t).length ≤ 1000 := by
      unfold initM
      split
      · rename_i h; have := init_some h; omega
      · simp
    exact core_FnExactInitialState t (initL t) (initM t) (okSy t) hl hm hli hmi hsm (fun w x hx => specInit_any t w x hx) (fun w x hx => init_any t w x hx) w x hx (by omega)
end Go.Proofs.Ytchlpeflfiecdaa
