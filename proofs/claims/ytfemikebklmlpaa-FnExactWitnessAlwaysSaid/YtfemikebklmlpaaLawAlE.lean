/- FnExactWitnessAlways returns true for every graph, set and node. Conditions: none. -/
import Derived.Test.YtfemikebklmlpaaAlwS3
import Derived.Test.YtfemikebklmlpaaAlwI4
import Derived.Test.YtfemikebklmlpaaGrA
import Derived.Test.YtfemikebklmlpaaGrTo
import Derived.Test.YtfemikebklmlpaaGrMark
import Derived.Test.YtfemikebklmlpaaBoolsA
import Derived.Test.YtfemikebklmlpaaBoolsEq
import Derived.Test.YtfemikebklmlpaaBoolsMark
import Derived.Test.YtfemikebklmlpaaTracePair
import Derived.Test.YtfemikebklmlpaaTraceMark
import Derived.Test.YtfemikebklmlpaaRegOrd
import Derived.Deep.RegionHeld3
namespace Go.Proofs.Ytfemikebklmlpaa
open Go.RowKit
set_option linter.unusedVariables false
set_option linter.unusedSimpArgs false
namespace Alw
open Gr Bfs

set_option maxRecDepth 100000 in
set_option maxHeartbeats 8000000 in
theorem core_al (g : G2) (thr : List Bool) (s : Int) (res : List Nat × List Nat) (hres : (res.1.length ≤ 60 ∧ ∀ n, n ∈ res.1 → n < 60) ∧ res.2.length ≤ 60 ∧ ∀ n, n ∈ res.2 → n < 60) (hsm : SmallG g) (hthr : thr.length ≤ 1048576)
    (hS : ∀ (w : World) (x : Value) (ta : Option Addr) (tc : Nat), GrIn Any w g x → BoolsIn Any w ta thr → thr.length ≤ tc → tc ≤ maxLen → Calls Try.prog 23 #[x, .slice ta thr.length tc, .int .i64 s] w (RetP (AlV res) w))
    (hI : ∀ (w : World) (x : Value) (ta : Option Addr) (tc : Nat), GrIn Any w g x → BoolsIn Any w ta thr → thr.length ≤ tc → tc ≤ maxLen → Calls Try.prog 24 #[x, .slice ta thr.length tc, .int .i64 s] w (RetP (AlN w.heap.size res) w))
    (w : World) (x : Value) (ta : Option Addr) (tc : Nat) (hx : GrIn Any w g x) (ht : BoolsIn Any w ta thr) (htc : thr.length ≤ tc) (htc2 : tc ≤ maxLen) (hs : 0 ≤ szGr g 1048576) :
    Calls Try.prog 5 #[x, .slice ta thr.length tc, .int .i64 s] w (Ret (.bool true) w) := by
  have HX := hid hx
  obtain ⟨a, c, b, d, rfl⟩ := hx.shape
  have HSZ := hid (fun (W : World) (M : Below w.heap.size w W) => szGr_any g W _ 1048576 (HX.out.below M) (by omega) (by omega))
  have hs0 : ¬ (szGr g 1048576 < 0) := by omega
  have hmb := mG_bd hsm
  have HS := hid hS
  have HI := hid hI
  have HTO := hid (fun (W : World) (M : Below w.heap.size w W) => toGr_any g W _ (HX.out.below M) hsm)
  have HT1 := hid (fun (W : World) (M : Below w.heap.size w W) => toBoolS_any thr W ta tc (ht.below M) hthr htc htc2)
  have hint : ∀ (l : List Nat), (∀ n, n ∈ l → n < 60) → ∀ n, n ∈ ints l → i64 n := fun l h n hn => by
    unfold ints at hn
    rw [List.mem_map] at hn
    obtain ⟨m, hm, rfl⟩ := hn
    have := h m hm
    unfold i64; omega
  have hg1 : ¬ ((thr.length : Int) > 1048576) := by omega
  obtain ⟨q, hq⟩ : ∃ q : Bool, Hid (q = !res.2.isEmpty) := ⟨_, hid rfl⟩
  have hqq : (q != q) = false := by simp
  obtain ⟨l, hl⟩ : ∃ l, Hid (l = ints res.1) := ⟨_, hid rfl⟩
  obtain ⟨m, hm⟩ : ∃ m, Hid (m = ints res.2) := ⟨_, hid rfl⟩
  have hll : l.length ≤ 60 := by rw [hl.out, ints_len]; exact hres.1.1
  have hml : m.length ≤ 60 := by rw [hm.out, ints_len]; exact hres.2.1
  have HLI := hid (show ∀ n, n ∈ l → i64 n by rw [hl.out]; exact hint _ hres.1.2)
  have HMI := hid (show ∀ n, n ∈ m → i64 n by rw [hm.out]; exact hint _ hres.2.2)
  have HWV := hid (show ∀ v W, AlV res v W → ∃ u c u' c', v = .tuple #[.agg #[.slice u l.length c, .slice u' m.length c'], .bool q] ∧ Trace.PairIn Any W l m (.agg #[.slice u l.length c, .slice u' m.length c']) from fun v W h => by
    obtain ⟨x, y, rfl, ⟨a, c, rfl, h1, h2, h3, _⟩, ⟨a', c', rfl, k1, k2, k3, _⟩⟩ := h
    rw [← hl.out] at h1 h2 ⊢
    rw [← hm.out] at k1 k2 ⊢
    exact ⟨a, c, a', c', by rw [hq.out], a, a', c, c', rfl, h1, k1, h2, h3, k2, k3⟩)
  have HWN := hid (show ∀ B v W, AlN B res v W → ∃ u c bs u' c' bs', v = .tuple #[.agg #[.slice u l.length c, .slice u' m.length c'], .bool q] ∧ OwnV (l.map (Value.int .i64)) u bs W ∧ OwnV (m.map (Value.int .i64)) u' bs' W ∧ (∀ b, b ∈ bs → B ≤ b) ∧ (∀ b, b ∈ bs' → B ≤ b) ∧ (∀ b, b ∈ bs → b ∉ bs') ∧ l.length ≤ c ∧ c ≤ maxLen ∧ m.length ≤ c' ∧ c' ≤ maxLen from fun B v W h => by
    obtain ⟨a, c, bs, a', c', bs', rfl, ⟨h1, h2, h3, h4⟩, ⟨k1, k2, k3, k4⟩, hd⟩ := h
    rw [← hl.out] at h1 h3 ⊢
    rw [← hm.out] at k1 k3 ⊢
    exact ⟨a, c, bs, a', c', bs', by rw [hq.out], h3, k3, h4, k4, hd, h1, h2, k1, k2⟩)
  have HEQ := hid (fun (W : World) (x y : Value) (h1 : Trace.PairIn Any W l m x) (h2 : Trace.PairIn Any W l m y) => show Calls Try.prog 25 #[x, y] W (Ret (.bool true) W) by
    have := Trace.eq_any l m l m W x y h1 h2
    simpa using this)
  have HPA := hid (fun (W : World) (u u' : Option Addr) (bs bs' : List Nat) (c c' : Nat) (h1 : OwnV (l.map (Value.int .i64)) u bs W) (h2 : OwnV (m.map (Value.int .i64)) u' bs' W) (k1 : l.length ≤ c) (k2 : c ≤ maxLen) (k3 : m.length ≤ c') (k4 : c' ≤ maxLen) => show Trace.PairIn Any W l m (.agg #[.slice u l.length c, .slice u' m.length c']) from ⟨u, u', c, c', rfl, ⟨h1.any, HLI.out⟩, ⟨h2.any, HMI.out⟩, k1, k2, k3, k4⟩)
  have HMK := hid (fun (W : World) (u u' : Option Addr) (bs bs' : List Nat) (c c' : Nat) (h1 : OwnV (l.map (Value.int .i64)) u bs W) (h2 : OwnV (m.map (Value.int .i64)) u' bs' W) (hd : ∀ b, b ∈ bs → b ∉ bs') (k1 : l.length ≤ c) (k2 : c ≤ maxLen) (k3 : m.length ≤ c') (k4 : c' ≤ maxLen) => show Calls Try.prog 26 #[.agg #[.slice u l.length c, .slice u' m.length c'], .int .i64 1] W (TraceM.MarkPost l.length m.length 1 u u' bs bs' W) by
    have := TraceM.mark_any (l.map (Value.int .i64)) (m.map (Value.int .i64)) W u u' c c' 1 bs bs' h1 h2 hd (by rw [List.length_map]; exact k1) k2 (by rw [List.length_map]; exact k3) k4 (by omega) (by rw [List.length_map, List.length_map]; omega)
    rw [List.length_map, List.length_map] at this
    exact this)
  have HHE := hid (fun (W : World) (u u' : Option Addr) (c c' : Nat) (h1 : RowIn Any W u (markV mkI l.length 1)) (h2 : RowIn Any W u' (markV mkI m.length (1 + l.length))) (k1 : l.length ≤ c) (k2 : c ≤ maxLen) (k3 : m.length ≤ c') (k4 : c' ≤ maxLen) => TraceM.held_any l.length m.length W u u' c c' 1 h1 h2 k1 k2 k3 k4 (by omega) (by omega))
  generalize l.length = ln at *
  generalize m.length = mn at *
  clear hS hI hx ht hsm hs hres hl hm hq htc htc2 hint
  generalize szGr g 1048576 = z at *
  go_enter Try.func5, Try.ntmps5
  go_wp2_with fail
  refine (HSZ.out _ (by repeat (first | exact Below.refl _ _ | assumption | refine below_a ?_ _ | refine below_o ?_ _ | refine below_d ?_ | refine below_n ?_ _ | refine below_s ?_ (by first | (simp; done) | (simp; omega) | omega) _))).mono ?_
  rintro y w1 ⟨rfl, hb⟩
  have P := hid (boxp_next hb (boxp_at (w := w) (a := .slice a g.states.length c) (b := .slice b g.next.length d) (t := 39) rfl))
  have B := hid (below_next (below_alloc _ _) hb)
  clear hb HSZ
  obtain ⟨p0, p1, p2, _⟩ := id P.out
  go_wp2_with fail
  refine (HTO.out _ B.out).mono ?_
  rintro y w2 ⟨v1, rfl, hn1, hb⟩
  have N1 := hid (GrIn.any hn1)
  replace P := hid (boxp_next hb P.out)
  replace B := hid (below_next B.out hb)
  clear hb hn1 p0 p1 p2
  go_wp2_with fail
  refine (HT1.out _ B.out).mono ?_
  rintro y w3 ⟨_, rfl, ⟨rfl, o1⟩, hb⟩
  have O1 := hid o1.boolsIn
  replace N1 := hid (N1.out.below hb)
  replace P := hid (boxp_next hb P.out)
  replace B := hid (below_next B.out hb)
  clear hb o1
  go_wp2_with fail
  refine (HS.out _ _ _ _ N1.out O1.out (Nat.le_refl _) (by unfold maxLen; omega)).mono ?_
  rintro y w4 ⟨vS, rfl, hv, hb⟩
  obtain ⟨uS, cS, uS', cS', rfl, hiS⟩ := HWV.out _ _ hv
  have OS := hid hiS
  replace P := hid (boxp_next hb P.out)
  replace B := hid (below_next B.out hb)
  clear hb hv hiS N1 O1 HS HWV
  obtain ⟨p0, p1, p2, _⟩ := id P.out
  go_wp2_with fail
  have hb := below_alloc w4 (.cells #[.slice uS ln cS, .slice uS' mn cS'] 50)
  have WB := hid (boxp_at (w := w4) (a := .slice uS ln cS) (b := .slice uS' mn cS') (t := 50) rfl)
  replace P := hid (boxp_next hb P.out)
  replace B := hid (below_next B.out hb)
  replace OS := hid (OS.out.below hb)
  clear hb p0 p1 p2
  generalize hwS : w4.alloc (.cells #[.slice uS ln cS, .slice uS' mn cS'] 50) = wS at *
  clear hwS
  have lP := P
  have lWB := WB
  have lOS := OS
  have lPs : w.heap.size < wS.heap.size := P.out.1
  refine (HTO.out _ B.out).mono ?_
  rintro y w5 ⟨v2, rfl, hn2, hb⟩
  have FR := hid hn2
  obtain ⟨a2, c2, b2, d2, rfl⟩ := hn2.shape
  have MS := hid hb
  have s5 := hb.size
  clear hb hn2
  have hb := MS.out
  replace P := hid (boxp_next hb P.out)
  replace B := hid (below_next B.out hb)
  replace OS := hid (OS.out.below hb)
  replace WB := hid (boxp_next hb WB.out)
  clear hb
  obtain ⟨pr, hpr⟩ : ∃ pr : Nat → Prop, Hid (∀ b, pr b ↔ (Fr wS.heap.size w5 b ∧ b < w5.heap.size)) := ⟨_, hid fun b => Iff.rfl⟩
  replace FR := hid (GrIn.frame (q := pr) FR.out (Nat.le_refl _) fun b h1 h2 => ⟨(hpr.out b).2 ⟨h1, h2⟩, rfl⟩)
  have PP := hid (show ∀ b, pr b → wS.heap.size ≤ b ∧ b < w5.heap.size from fun b h => ⟨((hpr.out b).1 h).1.1, ((hpr.out b).1 h).2⟩)
  have PF := hid (show ∀ b, pr b → ∀ i, w5.frozen? ⟨b, i, none⟩ = false from fun b h => ((hpr.out b).1 h).1.2)
  clear hpr
  go_wp2_with fail
  have hb := below_alloc w5 (.cells #[.slice a2 g.states.length c2, .slice b2 g.next.length d2] 26)
  have X0 := hid (boxp_at (w := w5) (a := .slice a2 g.states.length c2) (b := .slice b2 g.next.length d2) (t := 26) rfl)
  have M5 := hid hb
  replace P := hid (boxp_next hb P.out)
  replace B := hid (below_next B.out hb)
  replace OS := hid (OS.out.below hb)
  replace WB := hid (boxp_next hb WB.out)
  have s6 : w5.heap.size + 1 = (w5.alloc (.cells #[.slice a2 g.states.length c2, .slice b2 g.next.length d2] 26)).heap.size := by simp
  clear hb
  generalize w5.alloc (.cells #[.slice a2 g.states.length c2, .slice b2 g.next.length d2] 26) = w6 at *
  go_wp2_with fail
  refine (HT1.out _ B.out).mono ?_
  rintro y w7 ⟨_, rfl, ⟨rfl, o3⟩, hb⟩
  have O3 := hid o3
  replace P := hid (boxp_next hb P.out)
  replace B := hid (below_next B.out hb)
  replace OS := hid (OS.out.below hb)
  replace WB := hid (boxp_next hb WB.out)
  replace X0 := hid (boxp_next hb X0.out)
  replace M5 := hid (below_next M5.out hb)
  have s7 := hb.size
  have l3 : w6.heap.size < w7.heap.size := o3.lt _ (by simp)
  clear hb o3
  obtain ⟨x0, x1, x2, _⟩ := id X0.out
  go_wp2_with fail
  refine (HI.out _ _ _ _ ((FR.out.any).below M5.out) O3.out.boolsIn (Nat.le_refl _) (by unfold maxLen; omega)).mono ?_
  rintro y w9 ⟨vG, rfl, hv, hb⟩
  obtain ⟨uG, cG, bsG, uG', cG', bsG', rfl, oG, oG', gG, gG', dG, k1, k2, k3, k4⟩ := HWN.out _ _ _ hv
  have OG := hid oG
  have OH := hid oG'
  have GG := hid gG
  have GH := hid gG'
  have DG := hid dG
  have LG := hid oG.lt
  have LH := hid oG'.lt
  replace P := hid (boxp_next hb P.out)
  replace B := hid (below_next B.out hb)
  replace OS := hid (OS.out.below hb)
  replace WB := hid (boxp_next hb WB.out)
  replace X0 := hid (boxp_next hb X0.out)
  replace M5 := hid (below_next M5.out hb)
  replace O3 := hid (O3.out.below hb)
  have s9 := hb.size
  clear hb oG oG' gG gG' dG hv x0 x1 x2
  obtain ⟨v0, v1, v2, _⟩ := id WB.out
  go_wp2_with fail
  have hb := below_alloc w9 (.cells #[.slice uG ln cG, .slice uG' mn cG'] 50)
  have GB := hid (boxp_at (w := w9) (a := .slice uG ln cG) (b := .slice uG' mn cG') (t := 50) rfl)
  replace P := hid (boxp_next hb P.out)
  replace B := hid (below_next B.out hb)
  replace OS := hid (OS.out.below hb)
  replace WB := hid (boxp_next hb WB.out)
  replace X0 := hid (boxp_next hb X0.out)
  replace M5 := hid (below_next M5.out hb)
  replace O3 := hid (O3.out.below hb)
  replace OG := hid (OG.out.below hb)
  replace OH := hid (OH.out.below hb)
  clear hb v0 v1 v2
  generalize w9.alloc (.cells #[.slice uG ln cG, .slice uG' mn cG'] 50) = w9b at *
  refine (HEQ.out _ _ _ (HPA.out _ _ _ _ _ _ _ OG.out OH.out k1 k2 k3 k4) OS.out).mono ?_
  rintro y w10 ⟨rfl, hb⟩
  replace P := hid (boxp_next hb P.out)
  replace B := hid (below_next B.out hb)
  replace OS := hid (OS.out.below hb)
  replace WB := hid (boxp_next hb WB.out)
  replace X0 := hid (boxp_next hb X0.out)
  replace M5 := hid (below_next M5.out hb)
  replace O3 := hid (O3.out.below hb)
  replace OG := hid (OG.out.below hb)
  replace OH := hid (OH.out.below hb)
  replace GB := hid (boxp_next hb GB.out)
  clear hb
  obtain ⟨w11, hw11⟩ : ∃ w11 : World, w11 = w10 := ⟨_, rfl⟩
  subst hw11
  go_wp2_with fail
  have h1 := boxp_next (below_d (Below.refl _ _)) P.out
  have h2 := boxp_next (below_d (Below.refl _ _)) X0.out
  have Bd := below_d B.out
  have hm := ((FR.out.any).below M5.out).below (below_d (Below.refl _ _))
  go_region_held3 (fun w' => w'.cell? ⟨w.heap.size, 0, none⟩ = some (.slice a g.states.length c) ∧ w'.cell? ⟨w.heap.size, 1, none⟩ = some (.slice b g.next.length d) ∧ w'.cell? ⟨w5.heap.size, 0, none⟩ = some (.slice a2 g.states.length c2) ∧ w'.cell? ⟨w5.heap.size, 1, none⟩ = some (.slice b2 g.next.length d2))
    (first | exact ⟨h1.2.1, h1.2.2.1, h2.2.1, h2.2.2.1⟩ | exact ⟨k1x.2.1, k1x.2.2.1, k2x.2.1, k2x.2.2.1⟩ | exact ⟨l1.2.1, l1.2.2.1, l2.2.1, l2.2.2.1⟩)
    (first
      | (go_at_call 14; have HT := HTO.out _ Bd; refine HT.mono ?_; clear HT; rintro y w12 ⟨v3, rfl, hn3, hb⟩; have N3 := hid (GrIn.any hn3); obtain ⟨a3, c3, b3, d3, rfl⟩ := N3.out.shape; have k1x := boxp_next hb h1; have k2x := boxp_next hb h2; have hm3 := hm.below hb; have B7 := below_next Bd hb; have Z7 := below_next (below_d (Below.refl w11.heap.size w11)) hb; clear hb hn3)
      | (go_at_call 17; have HT := eqGr_any g g _ _ _ hm3 N3.out; refine HT.mono ?_; clear HT; rintro y w13 ⟨rfl, hb⟩; rw [eqGr_refl]; have l1 := boxp_next hb k1x; have l2 := boxp_next hb k2x; have B8 := below_next B7 hb; have Z8 := hid (below_next Z7 hb); clear hb))
  have hb := Z8.out
  replace P := hid (boxp_next hb P.out)
  replace B := hid (below_next B.out hb)
  replace OS := hid (OS.out.below hb)
  replace WB := hid (boxp_next hb WB.out)
  replace X0 := hid (boxp_next hb X0.out)
  replace M5 := hid (below_next M5.out hb)
  replace O3 := hid (O3.out.below hb)
  replace OG := hid (OG.out.below hb)
  replace OH := hid (OH.out.below hb)
  replace GB := hid (boxp_next hb GB.out)
  clear hb h1 h2 hm k1x k2x l1 l2 hm3 Bd B7 B8 Z7 Z8 N3
  go_wp2_with fail
  refine (HT1.out _ B.out).mono ?_
  rintro y w14 ⟨_, rfl, ⟨rfl, o5⟩, hb⟩
  replace P := hid (boxp_next hb P.out)
  replace B := hid (below_next B.out hb)
  replace OS := hid (OS.out.below hb)
  replace WB := hid (boxp_next hb WB.out)
  replace X0 := hid (boxp_next hb X0.out)
  replace M5 := hid (below_next M5.out hb)
  replace O3 := hid (O3.out.below hb)
  replace OG := hid (OG.out.below hb)
  replace OH := hid (OH.out.below hb)
  replace GB := hid (boxp_next hb GB.out)
  clear hb
  go_wp2_with fail
  refine (eqBoolS_any thr thr _ _ _ _ _ O3.out.boolsIn o5.boolsIn (Nat.le_refl _) (by unfold maxLen; omega) (Nat.le_refl _) (by unfold maxLen; omega)).mono ?_
  rintro y w17 ⟨rfl, hb⟩
  rw [show (thr == thr) = true from by simp]
  replace P := hid (boxp_next hb P.out)
  replace B := hid (below_next B.out hb)
  replace OS := hid (OS.out.below hb)
  replace WB := hid (boxp_next hb WB.out)
  replace X0 := hid (boxp_next hb X0.out)
  replace M5 := hid (below_next M5.out hb)
  replace O3 := hid (O3.out.below hb)
  replace OG := hid (OG.out.below hb)
  replace OH := hid (OH.out.below hb)
  replace GB := hid (boxp_next hb GB.out)
  clear hb o5
  have FX := hid (GrIn.frame (q := pr) FR.out M5.out.size fun b h1 h2 => ⟨h1, M5.out.block b h2⟩)
  have FF := hid (show Free pr w17 from fun b hb i => by rw [M5.out.frozen (p := ⟨b, i, none⟩) (PP.out b hb).2]; exact PF.out b hb i)
  obtain ⟨x0, x1, x2, _⟩ := id X0.out
  go_wp2_with fail
  refine (mkGr_any pr _ FF.out g _ 1 FX.out (fun b hb => by have := (PP.out b hb).2; have := M5.out.size; omega) (by omega) (by omega)).mono ?_
  rintro y w18 ⟨rfl, hm⟩
  have n3 : ∀ b, b ∈ [w6.heap.size] → ¬ pr b := fun b h1 h2 => by simp at h1; have := (PP.out b h2).2; omega
  have nG : ∀ b, b ∈ bsG → ¬ pr b := fun b h1 h2 => by have := GG.out b h1; have := (PP.out b h2).2; omega
  have nH : ∀ b, b ∈ bsG' → ¬ pr b := fun b h1 h2 => by have := GH.out b h1; have := (PP.out b h2).2; omega
  replace O3 := hid (O3.out.frame hm.size fun b h1 h2 => hm.block b h2 (n3 b h1))
  replace OG := hid (OG.out.frame hm.size fun b h1 h2 => hm.block b h2 (nG b h1))
  replace OH := hid (OH.out.frame hm.size fun b h1 h2 => hm.block b h2 (nH b h1))
  replace GB := hid (boxp_keep hm.size (hm.block _ GB.out.1 (fun h => by have := (PP.out _ h).2; omega)) GB.out)
  have MW := hid (hm.new (below_next MS.out M5.out) (fun b h => (PP.out b h).1))
  replace P := hid (boxp_next MW.out lP.out)
  replace WB := hid (boxp_next MW.out lWB.out)
  replace B := hid (hm.new B.out (fun b h => by have := (PP.out b h).1; omega))
  replace OS := hid (lOS.out.below MW.out)
  clear hm FR FX FF M5 MS X0 n3 nG nH x0 x1 x2 PF PP
  have HMB := BoolS.mark_any (thr.map Value.bool) w18 _ thr.length (1 + mG g) _ O3.out (by rw [List.length_map]; exact Nat.le_refl _) (by unfold maxLen; omega) (by omega) (by rw [List.length_map]; omega)
  rw [List.length_map] at HMB
  have HMC := hid HMB
  clear HMB O3
  go_wp2_with fail
  refine HMC.out.mono ?_
  rintro y w19 ⟨rfl, _, hO⟩
  replace OG := hid (OG.out.only hO (fun b h1 h2 => by simp at h2; have := GG.out b h1; omega))
  replace OH := hid (OH.out.only hO (fun b h1 h2 => by simp at h2; have := GH.out b h1; omega))
  replace GB := hid (boxp_keep hO.size (hO.block _ GB.out.1 (fun h => by simp at h; omega)) GB.out)
  replace MW := hid (hO.new MW.out (fun b h => by simp at h; omega))
  replace P := hid (boxp_next MW.out lP.out)
  replace WB := hid (boxp_next MW.out lWB.out)
  replace B := hid (hO.new B.out (fun b h => by simp at h; omega))
  replace OS := hid (lOS.out.below MW.out)
  clear hO HMC
  have hk9 : ¬ (1 + mG g + thr.length < 0) := by omega
  obtain ⟨v0, v1, v2, _⟩ := id WB.out
  obtain ⟨u0, u1, u2, _⟩ := id GB.out
  go_wp2_with fail
  refine (HEQ.out _ _ _ (HPA.out _ _ _ _ _ _ _ OG.out OH.out k1 k2 k3 k4) OS.out).mono ?_
  rintro y w21 ⟨rfl, hb⟩
  replace P := hid (boxp_next hb P.out)
  replace B := hid (below_next B.out hb)
  replace OS := hid (OS.out.below hb)
  replace WB := hid (boxp_next hb WB.out)
  replace MW := hid (below_next MW.out hb)
  replace OG := hid (OG.out.below hb)
  replace OH := hid (OH.out.below hb)
  replace GB := hid (boxp_next hb GB.out)
  clear hb v0 v1 v2 u0 u1 u2
  have HMC := hid (HMK.out w21 uG uG' bsG bsG' cG cG' OG.out OH.out DG.out k1 k2 k3 k4)
  obtain ⟨u0, u1, u2, _⟩ := id GB.out
  go_wp2_with fail
  refine HMC.out.mono ?_
  rintro y w22 ⟨rfl, oM, oN, hO⟩
  have OM := hid oM
  have ON := hid oN
  have hbs : ∀ b, b ∈ bsG ++ bsG' → w7.heap.size ≤ b ∧ b < w9.heap.size := fun b h => by
    rcases List.mem_append.1 h with h | h
    · exact ⟨GG.out b h, LG.out b h⟩
    · exact ⟨GH.out b h, LH.out b h⟩
  replace GB := hid (boxp_keep hO.size (hO.block _ GB.out.1 (fun h => by have := (hbs _ h).2; omega)) GB.out)
  replace MW := hid (hO.new MW.out (fun b h => by have := (hbs _ h).1; omega))
  replace P := hid (boxp_next MW.out lP.out)
  replace WB := hid (boxp_next MW.out lWB.out)
  replace B := hid (hO.new B.out (fun b h => by have := (hbs _ h).1; omega))
  replace OS := hid (lOS.out.below MW.out)
  clear hO HMC OG OH oM oN hbs u0 u1 u2
  have hk1 : ¬ ((1 : Int) + ln < 0) := by omega
  have hk2 : ¬ ((1 : Int) + ln + mn < 0) := by omega
  have nn : ((1 : Int) + ln + mn != 1 + ln + mn) = false := by simp
  obtain ⟨u0, u1, u2, _⟩ := id GB.out
  go_wp2_with fail
  refine (HHE.out _ uG uG' cG cG' OM.out.any ON.out.any k1 k2 k3 k4).mono ?_
  rintro y w23 ⟨rfl, hb⟩
  replace P := hid (boxp_next hb P.out)
  replace B := hid (below_next B.out hb)
  replace OS := hid (OS.out.below hb)
  replace WB := hid (boxp_next hb WB.out)
  replace GB := hid (boxp_next hb GB.out)
  replace OM := hid (OM.out.below hb)
  replace ON := hid (ON.out.below hb)
  clear hb u0 u1 u2
  obtain ⟨p0, p1, p2, _⟩ := id P.out
  go_wp2_with fail
  refine (HTO.out _ B.out).mono ?_
  rintro y w24 ⟨v4, rfl, hn4, hb⟩
  have N4 := hid (GrIn.any hn4)
  replace P := hid (boxp_next hb P.out)
  replace B := hid (below_next B.out hb)
  replace OS := hid (OS.out.below hb)
  replace WB := hid (boxp_next hb WB.out)
  replace GB := hid (boxp_next hb GB.out)
  replace OM := hid (OM.out.below hb)
  replace ON := hid (ON.out.below hb)
  clear hb hn4 p0 p1 p2
  go_wp2_with fail
  refine (HT1.out _ B.out).mono ?_
  rintro y w25 ⟨_, rfl, ⟨rfl, o5⟩, hb⟩
  have O5 := hid o5.boolsIn
  replace N4 := hid (N4.out.below hb)
  replace P := hid (boxp_next hb P.out)
  replace B := hid (below_next B.out hb)
  replace OS := hid (OS.out.below hb)
  replace WB := hid (boxp_next hb WB.out)
  replace GB := hid (boxp_next hb GB.out)
  replace OM := hid (OM.out.below hb)
  replace ON := hid (ON.out.below hb)
  clear hb o5
  go_wp2_with fail
  refine (HI.out _ _ _ _ N4.out O5.out (Nat.le_refl _) (by unfold maxLen; omega)).mono ?_
  rintro y w27 ⟨vH, rfl, hv, hb⟩
  obtain ⟨uH, cH, bsH, uH', cH', bsH', rfl, oH, oH', _, _, _, j1, j2, j3, j4⟩ := HWN.out _ _ _ hv
  have OQ := hid oH
  have OR := hid oH'
  replace P := hid (boxp_next hb P.out)
  replace B := hid (below_next B.out hb)
  replace OS := hid (OS.out.below hb)
  replace WB := hid (boxp_next hb WB.out)
  replace GB := hid (boxp_next hb GB.out)
  replace OM := hid (OM.out.below hb)
  replace ON := hid (ON.out.below hb)
  clear hb oH oH' hv N4 O5
  obtain ⟨v0, v1, v2, _⟩ := id WB.out
  go_wp2_with fail
  have hb := below_alloc w27 (.cells #[.slice uH ln cH, .slice uH' mn cH'] 50)
  have QB := hid (boxp_at (w := w27) (a := .slice uH ln cH) (b := .slice uH' mn cH') (t := 50) rfl)
  replace B := hid (below_next B.out hb)
  replace OS := hid (OS.out.below hb)
  replace GB := hid (boxp_next hb GB.out)
  replace OM := hid (OM.out.below hb)
  replace ON := hid (ON.out.below hb)
  replace OQ := hid (OQ.out.below hb)
  replace OR := hid (OR.out.below hb)
  clear hb v0 v1 v2
  refine (HEQ.out _ _ _ (HPA.out _ _ _ _ _ _ _ OQ.out OR.out j1 j2 j3 j4) OS.out).mono ?_
  rintro y w28 ⟨rfl, hb⟩
  replace OM := hid (OM.out.below hb)
  replace ON := hid (ON.out.below hb)
  replace B := hid (below_next B.out hb)
  replace GB := hid (boxp_next hb GB.out)
  clear hb OQ OR OS P
  obtain ⟨u0, u1, u2, _⟩ := id GB.out
  go_wp2_with fail
  refine (HHE.out _ uG uG' cG cG' OM.out.any ON.out.any k1 k2 k3 k4).mono ?_
  rintro y w29 ⟨rfl, hb⟩
  replace OM := hid (OM.out.below hb)
  replace ON := hid (ON.out.below hb)
  replace B := hid (below_next B.out hb)
  replace GB := hid (boxp_next hb GB.out)
  clear hb u0 u1 u2
  go_wp2_with fail
  go_ret
  exact Ret.mk rfl B.out
set_option maxHeartbeats 1000000 in
theorem walk_FnExactWitnessAlways (g : G2) (thr : List Bool) (s : Int) (w : World) (x : Value) (ta : Option Addr) (tc : Nat) (hx : GrIn Any w g x) (ht : BoolsIn Any w ta thr) (htc : thr.length ≤ tc) (htc2 : tc ≤ maxLen) (hs : i64 s) :
    Calls Try.prog 5 #[x, .slice ta thr.length tc, .int .i64 s] w (Ret (.bool true) w) := by
  by_cases h1 : thr.length ≤ 1048576
  · by_cases h3 : 0 ≤ szGr g 1048576
    · have hsm := Gr.small_of_sz g h3
      exact core_al g thr s (alwT g thr s) (alwT_small g thr s) hsm h1
        (fun w x ta tc q1 q2 q3 q4 => specAl_any g thr s w x ta tc q1 q2 q3 q4 hs)
        (fun w x ta tc q1 q2 q3 q4 => implAl_any g thr s w x ta tc q1 q2 q3 q4 hs hsm.1)
        w x ta tc hx ht htc htc2 h3
    · have HX := hid hx
      obtain ⟨a, c, b, d, rfl⟩ := hx.shape
      have HSZ := hid (fun (W : World) (M : Below w.heap.size w W) => szGr_any g W _ 1048576 (HX.out.below M) (by omega) (by omega))
      have hs0 : szGr g 1048576 < 0 := by omega
      have hg1 : ¬ ((thr.length : Int) > 1048576) := by omega
      clear hx ht htc2 h3
      go_enter Try.func5, Try.ntmps5
      go_wp2_with fail
      refine (HSZ.out _ (by repeat (first | exact Below.refl _ _ | assumption | refine below_a ?_ _ | refine below_o ?_ _ | refine below_d ?_ | refine below_n ?_ _ | refine below_s ?_ (by first | (simp; done) | (simp; omega) | omega) _))).mono ?_
      rintro y w1 ⟨rfl, hb⟩
      go_wp2_with fail
      go_ret
      exact Ret.mk rfl (below_next (by repeat (first | exact Below.refl _ _ | assumption | refine below_a ?_ _ | refine below_o ?_ _ | refine below_d ?_ | refine below_n ?_ _ | refine below_s ?_ (by first | (simp; done) | (simp; omega) | omega) _)) hb)
  · have hg1 : (thr.length : Int) > 1048576 := by omega
    obtain ⟨a, c, b, d, rfl⟩ := hx.shape
    clear hx ht htc2
    go_enter Try.func5, Try.ntmps5
    go_wp2_with fail
    go_ret
    exact Ret.mk rfl (by repeat (first | exact Below.refl _ _ | assumption | refine below_a ?_ _ | refine below_o ?_ _ | refine below_d ?_ | refine below_n ?_ _ | refine below_s ?_ (by first | (simp; done) | (simp; omega) | omega) _))
end Alw
end Go.Proofs.Ytfemikebklmlpaa
