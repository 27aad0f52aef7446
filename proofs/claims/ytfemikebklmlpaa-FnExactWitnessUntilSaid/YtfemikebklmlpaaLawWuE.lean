/- FnExactWitnessUntil returns true for every graph, sets and node. Conditions: none. -/
import Derived.Test.YtfemikebklmlpaaWuS
import Derived.Test.YtfemikebklmlpaaWuI
import Derived.Test.YtfemikebklmlpaaGrA
import Derived.Test.YtfemikebklmlpaaGrTo
import Derived.Test.YtfemikebklmlpaaGrMark
import Derived.Test.YtfemikebklmlpaaBoolsA
import Derived.Test.YtfemikebklmlpaaBoolsEq
import Derived.Test.YtfemikebklmlpaaBoolsMark
import Derived.Test.YtfemikebklmlpaaIntsMark
import Derived.Test.YtfemikebklmlpaaIntsA
import Derived.Test.YtfemikebklmlpaaRegOrd
import Derived.Deep.RegionHeld3
namespace Go.Proofs.Ytfemikebklmlpaa
open Go.RowKit
set_option linter.unusedVariables false
set_option linter.unusedSimpArgs false
namespace Bfs
open Gr

set_option maxRecDepth 100000 in
set_option maxHeartbeats 8000000 in
theorem core_wu (g : G2) (thr goal : List Bool) (s : Int) (res : List Nat) (hres : res.length ≤ 60 ∧ ∀ n, n ∈ res → n < 60) (hsm : SmallG g) (hthr : thr.length ≤ 1048576) (hgoal : goal.length ≤ 1048576)
    (hS : ∀ (w : World) (x : Value) (ta tb : Option Addr) (tc td : Nat), GrIn Any w g x → BoolsIn Any w ta thr → thr.length ≤ tc → tc ≤ maxLen → BoolsIn Any w tb goal → goal.length ≤ td → td ≤ maxLen → Calls Try.prog 9 #[x, .slice ta thr.length tc, .slice tb goal.length td, .int .i64 s] w (RetP (WuV res) w))
    (hI : ∀ (w : World) (x : Value) (ta tb : Option Addr) (tc td : Nat), GrIn Any w g x → BoolsIn Any w ta thr → thr.length ≤ tc → tc ≤ maxLen → BoolsIn Any w tb goal → goal.length ≤ td → td ≤ maxLen → Calls Try.prog 8 #[x, .slice ta thr.length tc, .slice tb goal.length td, .int .i64 s] w (RetP (WuN w.heap.size res) w))
    (w : World) (x : Value) (ta tb : Option Addr) (tc td : Nat) (hx : GrIn Any w g x) (ht : BoolsIn Any w ta thr) (htc : thr.length ≤ tc) (htc2 : tc ≤ maxLen) (hg : BoolsIn Any w tb goal) (htd : goal.length ≤ td) (htd2 : td ≤ maxLen) (hs : 0 ≤ szGr g 1048576) :
    Calls Try.prog 4 #[x, .slice ta thr.length tc, .slice tb goal.length td, .int .i64 s] w (Ret (.bool true) w) := by
  have HX := hid hx
  obtain ⟨a, c, b, d, rfl⟩ := hx.shape
  have HSZ := hid (fun (W : World) (M : Below w.heap.size w W) => szGr_any g W _ 1048576 (HX.out.below M) (by omega) (by omega))
  have hs0 : ¬ (szGr g 1048576 < 0) := by omega
  have hmb := mG_bd hsm
  have HS := hid hS
  have HI := hid hI
  have HTO := hid (fun (W : World) (M : Below w.heap.size w W) => toGr_any g W _ (HX.out.below M) hsm)
  have HT1 := hid (fun (W : World) (M : Below w.heap.size w W) => toBoolS_any thr W ta tc (ht.below M) hthr htc htc2)
  have HT2 := hid (fun (W : World) (M : Below w.heap.size w W) => toBoolS_any goal W tb td (hg.below M) hgoal htd htd2)
  have HLI := hid (show ∀ n, n ∈ ints res → i64 n from fun n hn => by
    unfold ints at hn
    rw [List.mem_map] at hn
    obtain ⟨m, hm, rfl⟩ := hn
    have := hres.2 m hm
    unfold i64; omega)
  have hrl : (ints res).length ≤ 60 := by rw [ints_len]; exact hres.1
  have hml : ((ints res).map (Value.int .i64)).length = (ints res).length := by rw [List.length_map]
  have hg1 : ¬ ((thr.length : Int) > 1048576) := by omega
  have hg2 : ¬ ((goal.length : Int) > 1048576) := by omega
  obtain ⟨q, hq⟩ : ∃ q : Bool, Hid (q = !res.isEmpty) := ⟨_, hid rfl⟩
  have hqq : (q != q) = false := by simp
  have HWV := hid (show ∀ v W, WuV res v W → ∃ u c, v = .tuple #[.slice u (ints res).length c, .bool q] ∧ IntsIn Any W u (ints res) ∧ (ints res).length ≤ c ∧ c ≤ maxLen from fun v W h => by
    obtain ⟨u, rfl, a, c, rfl, h1, h2, h3, _⟩ := h
    exact ⟨a, c, by rw [hq.out], h1, h2, h3⟩)
  have HWN := hid (show ∀ B v W, WuN B res v W → ∃ u c bs, v = .tuple #[.slice u (ints res).length c, .bool q] ∧ OwnV ((ints res).map (Value.int .i64)) u bs W ∧ (∀ b, b ∈ bs → B ≤ b) ∧ (ints res).length ≤ c ∧ c ≤ maxLen from fun B v W h => by
    obtain ⟨u, rfl, a, c, bs, rfl, h1, h2, h3, h4⟩ := h
    rw [hml] at h1 ⊢
    exact ⟨a, c, bs, by rw [hq.out], h3, h4, h1, h2⟩)
  have HEQI := hid (fun (W : World) (u v : Option Addr) (c c' : Nat) (h1 : IntsIn Any W u (ints res)) (h2 : IntsIn Any W v (ints res)) (h3 : (ints res).length ≤ c) (h4 : c ≤ maxLen) (h5 : (ints res).length ≤ c') (h6 : c' ≤ maxLen) => show Calls Try.prog 16 #[.slice u (ints res).length c, .slice v (ints res).length c'] W (Ret (.bool true) W) by
    have := eqIntS_any (ints res) (ints res) W u v c c' h1 h2 h3 h4 h5 h6
    simpa using this)
  have HMKI := hid (fun (W : World) (a : Option Addr) (c : Nat) (bs : List Nat) (h1 : OwnV ((ints res).map (Value.int .i64)) a bs W) (h2 : (ints res).length ≤ c) (h3 : c ≤ maxLen) => show Calls Try.prog 21 #[.slice a (ints res).length c, .int .i64 1] W (IntS.MarkPost (ints res).length 1 a bs W) by
    have := IntS.mark_any ((ints res).map (Value.int .i64)) W a c 1 bs h1 (by rw [hml]; exact h2) h3 (by omega) (by rw [hml]; omega)
    rw [hml] at this
    exact this)
  have HHEL := hid (fun (W : World) (a : Option Addr) (c : Nat) (h1 : RowIn Any W a (markV mkI (ints res).length 1)) (h2 : (ints res).length ≤ c) (h3 : c ≤ maxLen) => IntS.held_any (ints res).length W a c 1 h1 h2 h3 (by omega) (by omega))
  generalize (ints res).length = rl at *
  clear hS hI hx ht hg hsm hs hres hml hq htc htc2 htd htd2
  generalize szGr g 1048576 = z at *
  go_enter Try.func4, Try.ntmps4
  go_wp2_with fail
  refine (HSZ.out _ (by repeat (first | exact Below.refl _ _ | assumption | refine below_a ?_ _ | refine below_o ?_ _ | refine below_d ?_ | refine below_n ?_ _ | refine below_s ?_ (by first | (simp; done) | (simp; omega) | omega) _))).mono ?_
  rintro y w1 ⟨rfl, hb⟩
  have P := hid (boxp_next hb (boxp_at (w := w) (a := .slice a g.states.length c) (b := .slice b g.next.length d) (t := 39) rfl))
  have B := hid (below_next (below_alloc _ _) hb)
  clear hb HSZ
  obtain ⟨p0, p1, p2, _⟩ := id P.out
  go_wp2_with fail
  refine (HTO.out _ B.out).mono ?_
  rintro y w2 ⟨v1, rfl, hn1, hb⟩
  have N1 := hid (GrIn.any hn1)
  replace P := hid (boxp_next hb P.out)
  replace B := hid (below_next B.out hb)
  clear hb hn1 p0 p1 p2
  go_wp2_with fail
  refine (HT1.out _ B.out).mono ?_
  rintro y w3 ⟨_, rfl, ⟨rfl, o1⟩, hb⟩
  have O1 := hid o1.boolsIn
  replace N1 := hid (N1.out.below hb)
  replace P := hid (boxp_next hb P.out)
  replace B := hid (below_next B.out hb)
  clear hb o1
  go_wp2_with fail
  refine (HT2.out _ B.out).mono ?_
  rintro y w4 ⟨_, rfl, ⟨rfl, o2⟩, hb⟩
  have O2 := hid o2.boolsIn
  replace N1 := hid (N1.out.below hb)
  replace O1 := hid (O1.out.below hb)
  replace P := hid (boxp_next hb P.out)
  replace B := hid (below_next B.out hb)
  clear hb o2
  go_wp2_with fail
  refine (HS.out _ _ _ _ _ _ N1.out O1.out (Nat.le_refl _) (by unfold maxLen; omega) O2.out (Nat.le_refl _) (by unfold maxLen; omega)).mono ?_
  rintro y wS' ⟨vS, rfl, hv, hb⟩
  obtain ⟨uS, cS, rfl, hiS, hcS, hcS2⟩ := HWV.out _ _ hv
  have OS := hid hiS
  replace P := hid (boxp_next hb P.out)
  replace B := hid (below_next B.out hb)
  clear hb hv hiS N1 O1 O2 HS HWV
  obtain ⟨p0, p1, p2, _⟩ := id P.out
  have lP : w.heap.size < wS'.heap.size := p0
  go_wp2_with fail
  refine (HTO.out _ B.out).mono ?_
  rintro y w5 ⟨v2, rfl, hn2, hb⟩
  have FR := hid hn2
  obtain ⟨a2, c2, b2, d2, rfl⟩ := hn2.shape
  have MS := hid hb
  have s5 := hb.size
  clear hb hn2 p0 p1 p2
  have lOS := hid OS
  replace OS := hid (OS.out.below MS.out)
  replace P := hid (boxp_next MS.out P.out)
  replace B := hid (below_next B.out MS.out)
  obtain ⟨pr, hpr⟩ : ∃ pr : Nat → Prop, Hid (∀ b, pr b ↔ (Fr wS'.heap.size w5 b ∧ b < w5.heap.size)) := ⟨_, hid fun b => Iff.rfl⟩
  replace FR := hid (GrIn.frame (q := pr) FR.out (Nat.le_refl _) fun b h1 h2 => ⟨(hpr.out b).2 ⟨h1, h2⟩, rfl⟩)
  have PP := hid (show ∀ b, pr b → wS'.heap.size ≤ b ∧ b < w5.heap.size from fun b h => ⟨((hpr.out b).1 h).1.1, ((hpr.out b).1 h).2⟩)
  have PF := hid (show ∀ b, pr b → ∀ i, w5.frozen? ⟨b, i, none⟩ = false from fun b h => ((hpr.out b).1 h).1.2)
  clear hpr
  obtain ⟨p0, p1, p2, _⟩ := id P.out
  go_wp2_with fail
  have hb := below_alloc w5 (.cells #[.slice a2 g.states.length c2, .slice b2 g.next.length d2] 26)
  have X0 := hid (boxp_at (w := w5) (a := .slice a2 g.states.length c2) (b := .slice b2 g.next.length d2) (t := 26) rfl)
  have M5 := hid hb
  replace P := hid (boxp_next hb P.out)
  replace B := hid (below_next B.out hb)
  replace OS := hid (OS.out.below hb)
  have s6 : w5.heap.size + 1 = (w5.alloc (.cells #[.slice a2 g.states.length c2, .slice b2 g.next.length d2] 26)).heap.size := by simp
  clear hb p0 p1 p2
  generalize w5.alloc (.cells #[.slice a2 g.states.length c2, .slice b2 g.next.length d2] 26) = w6 at *
  go_wp2_with fail
  refine (HT1.out _ B.out).mono ?_
  rintro y w7 ⟨_, rfl, ⟨rfl, o3⟩, hb⟩
  have O3 := hid o3
  replace P := hid (boxp_next hb P.out)
  replace B := hid (below_next B.out hb)
  replace OS := hid (OS.out.below hb)
  replace X0 := hid (boxp_next hb X0.out)
  replace M5 := hid (below_next M5.out hb)
  have s7 := hb.size
  have l3 : w6.heap.size < w7.heap.size := o3.lt _ (by simp)
  clear hb o3
  go_wp2_with fail
  refine (HT2.out _ B.out).mono ?_
  rintro y w8 ⟨_, rfl, ⟨rfl, o4⟩, hb⟩
  have O4 := hid o4
  replace P := hid (boxp_next hb P.out)
  replace B := hid (below_next B.out hb)
  replace OS := hid (OS.out.below hb)
  replace X0 := hid (boxp_next hb X0.out)
  replace M5 := hid (below_next M5.out hb)
  replace O3 := hid (O3.out.below hb)
  have s8 := hb.size
  have l4 : w7.heap.size < w8.heap.size := o4.lt _ (by simp)
  clear hb o4
  obtain ⟨x0, x1, x2, _⟩ := id X0.out
  go_wp2_with fail
  refine (HI.out _ _ _ _ _ _ ((FR.out.any).below M5.out) O3.out.boolsIn (Nat.le_refl _) (by unfold maxLen; omega) O4.out.boolsIn (Nat.le_refl _) (by unfold maxLen; omega)).mono ?_
  rintro y w9 ⟨vG, rfl, hv, hb⟩
  obtain ⟨uG, cG, bsG, rfl, oG, gG, hcG, hcG2⟩ := HWN.out _ _ _ hv
  have OG := hid oG
  have GG := hid gG
  replace P := hid (boxp_next hb P.out)
  replace B := hid (below_next B.out hb)
  replace OS := hid (OS.out.below hb)
  replace X0 := hid (boxp_next hb X0.out)
  replace M5 := hid (below_next M5.out hb)
  replace O3 := hid (O3.out.below hb)
  replace O4 := hid (O4.out.below hb)
  have s9 := hb.size
  clear hb oG gG hv x0 x1 x2
  go_wp2_with fail
  refine (HEQI.out _ _ _ _ _ ⟨OG.out.any, HLI.out⟩ OS.out hcG hcG2 hcS hcS2).mono ?_
  rintro y w10 ⟨rfl, hb⟩
  replace P := hid (boxp_next hb P.out)
  replace B := hid (below_next B.out hb)
  replace OS := hid (OS.out.below hb)
  replace X0 := hid (boxp_next hb X0.out)
  replace M5 := hid (below_next M5.out hb)
  replace O3 := hid (O3.out.below hb)
  replace O4 := hid (O4.out.below hb)
  replace OG := hid (OG.out.below hb)
  clear hb
  obtain ⟨w11, hw11⟩ : ∃ w11 : World, w11 = w10 := ⟨_, rfl⟩
  subst hw11
  go_wp2_with fail
  have h1 := boxp_next (below_d (Below.refl _ _)) P.out
  have h2 := boxp_next (below_d (Below.refl _ _)) X0.out
  have Bd := below_d B.out
  have hm := ((FR.out.any).below M5.out).below (below_d (Below.refl _ _))
  go_region_held3 (fun w' => w'.cell? ⟨w.heap.size, 0, none⟩ = some (.slice a g.states.length c) ∧ w'.cell? ⟨w.heap.size, 1, none⟩ = some (.slice b g.next.length d) ∧ w'.cell? ⟨w5.heap.size, 0, none⟩ = some (.slice a2 g.states.length c2) ∧ w'.cell? ⟨w5.heap.size, 1, none⟩ = some (.slice b2 g.next.length d2))
    (first | exact ⟨h1.2.1, h1.2.2.1, h2.2.1, h2.2.2.1⟩ | exact ⟨k1.2.1, k1.2.2.1, k2.2.1, k2.2.2.1⟩ | exact ⟨l1.2.1, l1.2.2.1, l2.2.1, l2.2.2.1⟩)
    (first
      | (go_at_call 14; have HT := HTO.out _ Bd; refine HT.mono ?_; clear HT; rintro y w12 ⟨v3, rfl, hn3, hb⟩; have N3 := hid (GrIn.any hn3); obtain ⟨a3, c3, b3, d3, rfl⟩ := N3.out.shape; have k1 := boxp_next hb h1; have k2 := boxp_next hb h2; have hm3 := hm.below hb; have B7 := below_next Bd hb; have Z7 := below_next (below_d (Below.refl w11.heap.size w11)) hb; clear hb hn3)
      | (go_at_call 17; have HT := eqGr_any g g _ _ _ hm3 N3.out; refine HT.mono ?_; clear HT; rintro y w13 ⟨rfl, hb⟩; rw [eqGr_refl]; have l1 := boxp_next hb k1; have l2 := boxp_next hb k2; have B8 := below_next B7 hb; have Z8 := hid (below_next Z7 hb); clear hb))
  have hb := Z8.out
  replace P := hid (boxp_next hb P.out)
  replace B := hid (below_next B.out hb)
  replace OS := hid (OS.out.below hb)
  replace X0 := hid (boxp_next hb X0.out)
  replace M5 := hid (below_next M5.out hb)
  replace O3 := hid (O3.out.below hb)
  replace O4 := hid (O4.out.below hb)
  replace OG := hid (OG.out.below hb)
  clear hb h1 h2 hm k1 k2 l1 l2 hm3 Bd B7 B8 Z7 Z8 N3
  go_wp2_with fail
  refine (HT1.out _ B.out).mono ?_
  rintro y w14 ⟨_, rfl, ⟨rfl, o5⟩, hb⟩
  replace P := hid (boxp_next hb P.out)
  replace B := hid (below_next B.out hb)
  replace OS := hid (OS.out.below hb)
  replace X0 := hid (boxp_next hb X0.out)
  replace M5 := hid (below_next M5.out hb)
  replace O3 := hid (O3.out.below hb)
  replace O4 := hid (O4.out.below hb)
  replace OG := hid (OG.out.below hb)
  clear hb
  go_wp2_with fail
  refine (eqBoolS_any thr thr _ _ _ _ _ O3.out.boolsIn o5.boolsIn (Nat.le_refl _) (by unfold maxLen; omega) (Nat.le_refl _) (by unfold maxLen; omega)).mono ?_
  rintro y w15 ⟨rfl, hb⟩
  rw [show (thr == thr) = true from by simp]
  replace P := hid (boxp_next hb P.out)
  replace B := hid (below_next B.out hb)
  replace OS := hid (OS.out.below hb)
  replace X0 := hid (boxp_next hb X0.out)
  replace M5 := hid (below_next M5.out hb)
  replace O3 := hid (O3.out.below hb)
  replace O4 := hid (O4.out.below hb)
  replace OG := hid (OG.out.below hb)
  clear hb o5
  go_wp2_with fail
  refine (HT2.out _ B.out).mono ?_
  rintro y w16 ⟨_, rfl, ⟨rfl, o5⟩, hb⟩
  replace P := hid (boxp_next hb P.out)
  replace B := hid (below_next B.out hb)
  replace OS := hid (OS.out.below hb)
  replace X0 := hid (boxp_next hb X0.out)
  replace M5 := hid (below_next M5.out hb)
  replace O3 := hid (O3.out.below hb)
  replace O4 := hid (O4.out.below hb)
  replace OG := hid (OG.out.below hb)
  clear hb
  go_wp2_with fail
  refine (eqBoolS_any goal goal _ _ _ _ _ O4.out.boolsIn o5.boolsIn (Nat.le_refl _) (by unfold maxLen; omega) (Nat.le_refl _) (by unfold maxLen; omega)).mono ?_
  rintro y w17 ⟨rfl, hb⟩
  rw [show (goal == goal) = true from by simp]
  replace P := hid (boxp_next hb P.out)
  replace B := hid (below_next B.out hb)
  replace OS := hid (OS.out.below hb)
  replace X0 := hid (boxp_next hb X0.out)
  replace M5 := hid (below_next M5.out hb)
  replace O3 := hid (O3.out.below hb)
  replace O4 := hid (O4.out.below hb)
  replace OG := hid (OG.out.below hb)
  clear hb o5
  have FX := hid (GrIn.frame (q := pr) FR.out M5.out.size fun b h1 h2 => ⟨h1, M5.out.block b h2⟩)
  have FF := hid (show Free pr w17 from fun b hb i => by rw [M5.out.frozen (p := ⟨b, i, none⟩) (PP.out b hb).2]; exact PF.out b hb i)
  obtain ⟨x0, x1, x2, _⟩ := id X0.out
  go_wp2_with fail
  refine (mkGr_any pr _ FF.out g _ 1 FX.out (fun b hb => by have := (PP.out b hb).2; have := M5.out.size; omega) (by omega) (by omega)).mono ?_
  rintro y w18 ⟨rfl, hm⟩
  have n3 : ∀ b, b ∈ [w6.heap.size] → ¬ pr b := fun b h1 h2 => by simp at h1; have := (PP.out b h2).2; omega
  have n4 : ∀ b, b ∈ [w7.heap.size] → ¬ pr b := fun b h1 h2 => by simp at h1; have := (PP.out b h2).2; omega
  have nG : ∀ b, b ∈ bsG → ¬ pr b := fun b h1 h2 => by have := GG.out b h1; have := (PP.out b h2).2; omega
  replace O3 := hid (O3.out.frame hm.size fun b h1 h2 => hm.block b h2 (n3 b h1))
  replace O4 := hid (O4.out.frame hm.size fun b h1 h2 => hm.block b h2 (n4 b h1))
  replace OG := hid (OG.out.frame hm.size fun b h1 h2 => hm.block b h2 (nG b h1))
  have MW := hid (hm.new (below_next MS.out M5.out) (fun b h => (PP.out b h).1))
  replace P := hid (boxp_keep hm.size (hm.block _ P.out.1 (fun h => by have := (PP.out _ h).1; omega)) P.out)
  replace B := hid (hm.new B.out (fun b h => by have := (PP.out b h).1; omega))
  replace OS := hid (lOS.out.below MW.out)
  clear hm FR FX FF M5 MS X0 n3 n4 nG x0 x1 x2 PF PP
  have HMB := BoolS.mark_any (thr.map Value.bool) w18 _ thr.length (1 + mG g) _ O3.out (by rw [List.length_map]; exact Nat.le_refl _) (by unfold maxLen; omega) (by omega) (by rw [List.length_map]; omega)
  rw [List.length_map] at HMB
  have HMC := hid HMB
  clear HMB
  go_wp2_with fail
  refine HMC.out.mono ?_
  rintro y w19 ⟨rfl, _, hO⟩
  replace O4 := hid (O4.out.only hO (fun b h1 h2 => by simp at h1 h2; omega))
  replace OG := hid (OG.out.only hO (fun b h1 h2 => by simp at h2; have := GG.out b h1; omega))
  replace P := hid (boxp_keep hO.size (hO.block _ P.out.1 (fun h => by simp at h; omega)) P.out)
  replace B := hid (hO.new B.out (fun b h => by simp at h; omega))
  replace MW := hid (hO.new MW.out (fun b h => by simp at h; omega))
  replace OS := hid (lOS.out.below MW.out)
  clear hO HMC
  have HMB := BoolS.mark_any (goal.map Value.bool) w19 _ goal.length (1 + mG g + thr.length) _ O4.out (by rw [List.length_map]; exact Nat.le_refl _) (by unfold maxLen; omega) (by omega) (by rw [List.length_map]; omega)
  rw [List.length_map] at HMB
  have HMC := hid HMB
  clear HMB O3
  go_wp2_with fail
  refine HMC.out.mono ?_
  rintro y w20 ⟨rfl, _, hO⟩
  replace OG := hid (OG.out.only hO (fun b h1 h2 => by simp at h2; have := GG.out b h1; omega))
  replace P := hid (boxp_keep hO.size (hO.block _ P.out.1 (fun h => by simp at h; omega)) P.out)
  replace B := hid (hO.new B.out (fun b h => by simp at h; omega))
  replace MW := hid (hO.new MW.out (fun b h => by simp at h; omega))
  replace OS := hid (lOS.out.below MW.out)
  clear hO HMC O4
  have hk9 : ¬ (1 + mG g + thr.length + goal.length < 0) := by omega
  go_wp2_with fail
  refine (HEQI.out _ _ _ _ _ ⟨OG.out.any, HLI.out⟩ OS.out hcG hcG2 hcS hcS2).mono ?_
  rintro y w21 ⟨rfl, hb⟩
  replace P := hid (boxp_next hb P.out)
  replace B := hid (below_next B.out hb)
  replace OS := hid (OS.out.below hb)
  replace MW := hid (below_next MW.out hb)
  replace OG := hid (OG.out.below hb)
  clear hb
  have HMC := hid (HMKI.out w21 uG cG bsG OG.out hcG hcG2)
  go_wp2_with fail
  refine HMC.out.mono ?_
  rintro y w22 ⟨rfl, oM, hO⟩
  have OM := hid oM
  replace P := hid (boxp_keep hO.size (hO.block _ P.out.1 (fun h => by have := GG.out _ h; omega)) P.out)
  replace B := hid (hO.new B.out (fun b h => by have := GG.out _ h; omega))
  replace MW := hid (hO.new MW.out (fun b h => by have := GG.out _ h; omega))
  replace OS := hid (lOS.out.below MW.out)
  clear hO HMC OG oM
  have hk1 : ¬ ((1 : Int) + rl < 0) := by omega
  have nn : ((1 : Int) + rl != 1 + rl) = false := by simp
  go_wp2_with fail
  refine (HHEL.out _ uG cG OM.out.any hcG hcG2).mono ?_
  rintro y w23 ⟨rfl, hb⟩
  replace P := hid (boxp_next hb P.out)
  replace B := hid (below_next B.out hb)
  replace OS := hid (OS.out.below hb)
  replace OM := hid (OM.out.below hb)
  clear hb
  obtain ⟨p0, p1, p2, _⟩ := id P.out
  go_wp2_with fail
  refine (HTO.out _ B.out).mono ?_
  rintro y w24 ⟨v4, rfl, hn4, hb⟩
  have N4 := hid (GrIn.any hn4)
  replace P := hid (boxp_next hb P.out)
  replace B := hid (below_next B.out hb)
  replace OS := hid (OS.out.below hb)
  replace OM := hid (OM.out.below hb)
  clear hb hn4 p0 p1 p2
  go_wp2_with fail
  refine (HT1.out _ B.out).mono ?_
  rintro y w25 ⟨_, rfl, ⟨rfl, o5⟩, hb⟩
  have O5 := hid o5.boolsIn
  replace N4 := hid (N4.out.below hb)
  replace P := hid (boxp_next hb P.out)
  replace B := hid (below_next B.out hb)
  replace OS := hid (OS.out.below hb)
  replace OM := hid (OM.out.below hb)
  clear hb o5
  go_wp2_with fail
  refine (HT2.out _ B.out).mono ?_
  rintro y w26 ⟨_, rfl, ⟨rfl, o6⟩, hb⟩
  have O6 := hid o6.boolsIn
  replace N4 := hid (N4.out.below hb)
  replace O5 := hid (O5.out.below hb)
  replace P := hid (boxp_next hb P.out)
  replace B := hid (below_next B.out hb)
  replace OS := hid (OS.out.below hb)
  replace OM := hid (OM.out.below hb)
  clear hb o6
  go_wp2_with fail
  refine (HI.out _ _ _ _ _ _ N4.out O5.out (Nat.le_refl _) (by unfold maxLen; omega) O6.out (Nat.le_refl _) (by unfold maxLen; omega)).mono ?_
  rintro y w27 ⟨vH, rfl, hv, hb⟩
  obtain ⟨uH, cH, bsH, rfl, oH, _, hcH, hcH2⟩ := HWN.out _ _ _ hv
  have OH := hid oH
  replace P := hid (boxp_next hb P.out)
  replace B := hid (below_next B.out hb)
  replace OS := hid (OS.out.below hb)
  replace OM := hid (OM.out.below hb)
  clear hb oH hv N4 O5 O6
  go_wp2_with fail
  refine (HEQI.out _ _ _ _ _ ⟨OH.out.any, HLI.out⟩ OS.out hcH hcH2 hcS hcS2).mono ?_
  rintro y w28 ⟨rfl, hb⟩
  replace OM := hid (OM.out.below hb)
  replace B := hid (below_next B.out hb)
  clear hb OH OS P
  go_wp2_with fail
  refine (HHEL.out _ uG cG OM.out.any hcG hcG2).mono ?_
  rintro y w29 ⟨rfl, hb⟩
  replace OM := hid (OM.out.below hb)
  replace B := hid (below_next B.out hb)
  clear hb
  go_wp2_with fail
  go_ret
  exact Ret.mk rfl B.out
set_option maxHeartbeats 1000000 in
theorem walk_FnExactWitnessUntil (g : G2) (thr goal : List Bool) (s : Int) (w : World) (x : Value) (ta tb : Option Addr) (tc td : Nat) (hx : GrIn Any w g x) (ht : BoolsIn Any w ta thr) (htc : thr.length ≤ tc) (htc2 : tc ≤ maxLen) (hg : BoolsIn Any w tb goal) (htd : goal.length ≤ td) (htd2 : td ≤ maxLen) (hs : i64 s) :
    Calls Try.prog 4 #[x, .slice ta thr.length tc, .slice tb goal.length td, .int .i64 s] w (Ret (.bool true) w) := by
  by_cases h1 : thr.length ≤ 1048576
  · by_cases h2 : goal.length ≤ 1048576
    · by_cases h3 : 0 ≤ szGr g 1048576
      · have hsm := Gr.small_of_sz g h3
        exact core_wu g thr goal s (wuT g thr goal s) (wuT_small g thr goal s) hsm h1 h2
          (fun w x ta tb tc td q1 q2 q3 q4 q5 q6 q7 => specWu_any g thr goal s w x ta tb tc td q1 q2 q3 q4 q5 q6 q7 hs)
          (fun w x ta tb tc td q1 q2 q3 q4 q5 q6 q7 => implWu_any g thr goal s w x ta tb tc td q1 q2 q3 q4 q5 q6 q7 hs hsm.1)
          w x ta tb tc td hx ht htc htc2 hg htd htd2 h3
      · have HX := hid hx
        obtain ⟨a, c, b, d, rfl⟩ := hx.shape
        have HSZ := hid (fun (W : World) (M : Below w.heap.size w W) => szGr_any g W _ 1048576 (HX.out.below M) (by omega) (by omega))
        have hs0 : szGr g 1048576 < 0 := by omega
        have hg1 : ¬ ((thr.length : Int) > 1048576) := by omega
        have hg2 : ¬ ((goal.length : Int) > 1048576) := by omega
        clear hx ht hg htc2 htd2 h3
        go_enter Try.func4, Try.ntmps4
        go_wp2_with fail
        refine (HSZ.out _ (by repeat (first | exact Below.refl _ _ | assumption | refine below_a ?_ _ | refine below_o ?_ _ | refine below_d ?_ | refine below_n ?_ _ | refine below_s ?_ (by first | (simp; done) | (simp; omega) | omega) _))).mono ?_
        rintro y w1 ⟨rfl, hb⟩
        go_wp2_with fail
        go_ret
        exact Ret.mk rfl (below_next (by repeat (first | exact Below.refl _ _ | assumption | refine below_a ?_ _ | refine below_o ?_ _ | refine below_d ?_ | refine below_n ?_ _ | refine below_s ?_ (by first | (simp; done) | (simp; omega) | omega) _)) hb)
    · have hg1 : ¬ ((thr.length : Int) > 1048576) := by omega
      have hg2 : (goal.length : Int) > 1048576 := by omega
      obtain ⟨a, c, b, d, rfl⟩ := hx.shape
      clear hx ht hg htc2 htd2
      go_enter Try.func4, Try.ntmps4
      go_wp2_with fail
      go_ret
      exact Ret.mk rfl (by repeat (first | exact Below.refl _ _ | assumption | refine below_a ?_ _ | refine below_o ?_ _ | refine below_d ?_ | refine below_n ?_ _ | refine below_s ?_ (by first | (simp; done) | (simp; omega) | omega) _))
  · have hg1 : (thr.length : Int) > 1048576 := by omega
    obtain ⟨a, c, b, d, rfl⟩ := hx.shape
    clear hx ht hg htc2 htd2
    go_enter Try.func4, Try.ntmps4
    go_wp2_with fail
    go_ret
    exact Ret.mk rfl (by repeat (first | exact Below.refl _ _ | assumption | refine below_a ?_ _ | refine below_o ?_ _ | refine below_d ?_ | refine below_n ?_ _ | refine below_s ?_ (by first | (simp; done) | (simp; omega) | omega) _))
end Bfs
end Go.Proofs.Ytfemikebklmlpaa
