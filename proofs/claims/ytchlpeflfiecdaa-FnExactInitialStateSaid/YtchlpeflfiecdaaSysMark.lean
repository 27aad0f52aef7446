/- The laws' markExprS, markEdgeS, markProcessS, markIntS, markSystem on memory that nothing freezes: numbers become numbers. Conditions: those of each contract. -/
import Derived.Test.YtchlpeflfiecdaaSysA
namespace Go.Proofs.Ytchlpeflfiecdaa
open Go.RowKit
set_option linter.unusedVariables false
namespace Sys

/-- what a marking call comes to, since world w -/
def MkPost (p : Nat → Prop) (w : World) (k : Int) (e : Ending) (w' : World) : Prop := e = .returned (.int .i64 k) ∧ Marked p w w'
/-- nothing freezes what p allows -/
def Free (p : Nat → Prop) (w : World) : Prop := ∀ b, p b → ∀ i, w.frozen? ⟨b, i, none⟩ = false

def MkL (p : Nat → Prop) (w : World) (l : List Tr) : Prop := ∀ (wr : World) (a : Option Addr) (c : Nat) (k : Int), TrsIn p w l a → Marked p w wr → l.length ≤ c → c ≤ maxLen → 0 ≤ k → k + 2 * nodesL l ≤ 4611686018427387904 →
  Calls Try.prog 104 #[.slice a l.length c, .int .i64 k] wr (MkPost p w (k + 2 * nodesL l))

set_option maxRecDepth 100000 in
set_option maxHeartbeats 2000000 in
theorem mkL_of (p : Nat → Prop) (w : World) (hf : Free p w) (l : List Tr) (h : ∀ k v kids, Tr.mk k v kids ∈ l → MkL p w kids) : MkL p w l := by
  intro w0 a c k hl hm hc hc2 hk hk2
  unfold maxLen at hc2
  have HL := hid hl
  have HM := hid hm
  have HF := hid hf
  have HH := hid h
  clear hl hm hf h
  go_enter Try.func104, Try.ntmps104
  go_wp2_with fail
  go_loopw [1, 5] (fun q i wr => ∃ (j : Nat) (m : Int), j ≤ l.length ∧ q = .int .i64 m ∧ i = .int .i64 j ∧ 0 ≤ m ∧ Hid (m + 2 * nodesL (l.drop j) = k + 2 * nodesL l) ∧ Hid (Marked p w wr)) (fun _ i _ => l.length - (intOf i).toNat)
  case atStart => exact ⟨0, k, Nat.zero_le _, rfl, rfl, hk, hid rfl, HM⟩
  case round =>
    obtain ⟨j, m, hj, rfl, rfl, hm, hsum, HMR⟩ := hrel
    by_cases hlt : j < l.length
    · obtain ⟨b, o, rfl, hb, hpb⟩ := TrsIn_addr HL.out (by omega)
      have hdr := List.drop_eq_getElem_cons hlt
      obtain ⟨c0, c1, c2, g0, g1, g2, hT⟩ := TrsIn_at l b o j HL.out (List.getElem?_eq_getElem hlt)
      rcases hTe : l[j] with ⟨kd, v, kids⟩
      rw [hTe] at hdr hT
      have hmem : Tr.mk kd v kids ∈ l := hTe ▸ List.getElem_mem hlt
      obtain ⟨a3, c3, rfl, rfl, rfl, hi1, hi2, hc3, hc4, hkids⟩ := TrIn_kids hT
      obtain ⟨m0, r0⟩ := HMR.out.int g0
      obtain ⟨m1, r1⟩ := HMR.out.int g1
      have r2 := HMR.out.slice g2
      have rf : ∀ i, wr.frozen? ⟨b, i, none⟩ = false := fun i => by rw [HMR.out.frozen b i hb]; exact HF.out b hpb i
      have rl : b < wr.heap.size := Nat.lt_of_lt_of_le hb HMR.out.size
      have hs0 := hsum.out
      rw [hdr] at hs0
      simp only [nodesL, nodes] at hs0
      have hp1 := nodesL_pos kids
      have hp2 := nodesL_pos (l.drop (j + 1))
      have hm2 : m + 2 + 2 * nodesL kids ≤ 4611686018427387904 := by omega
      have HS := hid hs0
      have HK := hid hkids
      have HC := hid (HH.out kd v kids hmem)
      have HM2 := hid ((HMR.out.set hpb g0 m).set hpb g1 (m + 1))
      have hlt2 : (j : Int) < (l.length : Int) := by omega
      clear hs0 hsum hkids hT hTe hdr g0 g1 g2 HMR
      go_wp2_with fail
      refine (HC.out _ a3 c3 (m + 1 + 1) HK.out HM2.out hc3 hc4 (by omega) (by omega)).mono ?_
      rintro e w2 ⟨rfl, hm3⟩
      have HM3 := hid hm3
      clear hm3 r0 r1 r2 rf rl HM2
      go_wp2_with fail
      go_roundw
      case rel => exact ⟨j + 1, m + 1 + 1 + 2 * nodesL kids, by omega, rfl, by go_num, by omega, hid (by have := HS.out; omega), HM3⟩
      case measure => simp [intOf]; omega
    · have hlt2 : ¬ ((j : Int) < (l.length : Int)) := by omega
      have h1 := hsum.out
      rw [List.drop_of_length_le (by omega)] at h1
      simp only [nodesL] at h1
      have hres := hid (show m = k + 2 * nodesL l by omega)
      clear h1 hsum
      go_wp2_with fail
      go_ret
      exact ⟨congrArg (fun x => Ending.returned (Value.int .i64 x)) hres.out, HMR.out⟩
theorem mkL_any (p : Nat → Prop) (w : World) (hf : Free p w) (l : List Tr) : MkL p w l := by
  refine (Tr.both (P := fun t => MkL p w t.kids) (Q := fun l => (∀ t, t ∈ l → MkL p w t.kids) ∧ MkL p w l) ?_ ?_ ?_).2 l |>.2
  · intro k v kids h; exact h.2
  · exact ⟨by simp, mkL_of p w hf [] (by simp)⟩
  · intro t ts ht hts
    have hall : ∀ u, u ∈ t :: ts → MkL p w u.kids := by
      intro u hu
      cases hu with
      | head => exact ht
      | tail _ hu => exact hts.1 u hu
    exact ⟨hall, mkL_of p w hf _ fun k v kids hm => hall _ hm⟩

set_option maxHeartbeats 1000000 in
theorem mkI_any (p : Nat → Prop) (w : World) (hf : Free p w) (l : List Int) (w0 : World) (a : Option Addr) (c : Nat) (k : Int) (hl : IntsIn p w a l) (hm : Marked p w w0) (hc : l.length ≤ c) (hc2 : c ≤ maxLen) (hk : 0 ≤ k) (hk2 : k + l.length ≤ 4611686018427387904) :
    Calls Try.prog 69 #[.slice a l.length c, .int .i64 k] w0 (MkPost p w (k + l.length)) := by
  unfold maxLen at hc2
  have HL := hid hl
  have HM := hid hm
  have HF := hid hf
  clear hl hm hf
  go_enter Try.func69, Try.ntmps69
  go_wp2_with fail
  go_loopw [1, 5] (fun q i wr => ∃ (j : Nat), j ≤ l.length ∧ q = .int .i64 (k + j) ∧ i = .int .i64 j ∧ Hid (Marked p w wr)) (fun _ i _ => l.length - (intOf i).toNat)
  case atStart => exact ⟨0, Nat.zero_le _, by simp, rfl, HM⟩
  case round =>
    obtain ⟨j, hj, rfl, rfl, HMR⟩ := hrel
    by_cases hlt : j < l.length
    · obtain ⟨b, o, rfl, hb, hpb, g0, _⟩ := ints_at HL.out (Below.refl _ _) hlt
      obtain ⟨m0, r0⟩ := HMR.out.int g0
      have rf : ∀ i, wr.frozen? ⟨b, i, none⟩ = false := fun i => by rw [HMR.out.frozen b i hb]; exact HF.out b hpb i
      have rl : b < wr.heap.size := Nat.lt_of_lt_of_le hb HMR.out.size
      have HM2 := hid (HMR.out.set hpb g0 (k + j))
      have hlt2 : (j : Int) < (l.length : Int) := by omega
      clear g0 HMR
      go_wp2_with fail
      go_roundw
      case rel => exact ⟨j + 1, by omega, by go_num, by go_num, HM2⟩
      case measure => simp [intOf]; omega
    · have hlt2 : ¬ ((j : Int) < (l.length : Int)) := by omega
      have hjl : j = l.length := by omega
      go_wp2_with fail
      go_ret
      exact ⟨by first | rfl | rw [hjl], HMR.out⟩

/-- how many numbers a mark of an edge, a process, a system writes -/
def mE (e : Ed) : Int := 8 + 2 * cE e
def mP (q : Pr) : Int := 1 + sumC mE q.edges
def mS (s : Sy) : Int := s.init.length + sumC mP s.procs
theorem mE_nonneg (e : Ed) : 0 ≤ mE e := by have := cE_nonneg e; unfold mE; omega
theorem mP_nonneg (q : Pr) : 0 ≤ mP q := by have := sumC_nonneg mE_nonneg q.edges; unfold mP; omega
theorem sum_mE : ∀ l : List Ed, sumC mE l = 8 * l.length + 2 * sumC cE l
  | [] => by simp [sumC]
  | t :: ts => by simp only [sumC, sum_mE ts, mE, List.length_cons]; omega
theorem sum_mP : ∀ l : List Pr, sumC mP l ≤ l.length + 8 * sumC cP l
  | [] => by simp [sumC]
  | t :: ts => by
    have h1 := sum_mP ts
    have h2 := sumC_nonneg cE_nonneg t.edges
    simp only [sumC, mP, cP, List.length_cons, sum_mE]
    omega
theorem mS_bd {s : Sy} (h : SmallS s) : 0 ≤ mS s ∧ mS s ≤ 8388608 := by
  have h1 := sum_mP s.procs
  have h2 := h.all
  have h3 := sumC_nonneg cP_nonneg s.procs
  have h4 := sumC_nonneg mP_nonneg s.procs
  unfold cS at h2
  unfold mS
  omega

set_option maxRecDepth 100000 in
set_option maxHeartbeats 4000000 in
theorem mkEs_any (p : Nat → Prop) (w : World) (hf : Free p w) (l : List Ed) (w0 : World) (a : Option Addr) (c : Nat) (k : Int) (hl : EdsIn p w l a) (hm : Marked p w w0) (hc : l.length ≤ c) (hc2 : c ≤ maxLen) (hk : 0 ≤ k) (hk2 : k + sumC mE l ≤ 4611686018427387904) :
    Calls Try.prog 92 #[.slice a l.length c, .int .i64 k] w0 (MkPost p w (k + sumC mE l)) := by
  unfold maxLen at hc2
  have HL := hid hl
  have HM := hid hm
  have HF := hid hf
  have HT := hid (fun kids => mkL_any p w hf kids)
  clear hl hm hf
  go_enter Try.func92, Try.ntmps92
  go_wp2_with fail
  go_loopw [1, 5] (fun q i wr => ∃ (j : Nat) (m : Int), j ≤ l.length ∧ q = .int .i64 m ∧ i = .int .i64 j ∧ 0 ≤ m ∧ Hid (m + sumC mE (l.drop j) = k + sumC mE l) ∧ Hid (Marked p w wr)) (fun _ i _ => l.length - (intOf i).toNat)
  case atStart => exact ⟨0, k, Nat.zero_le _, rfl, rfl, hk, hid rfl, HM⟩
  case round =>
    obtain ⟨j, m, hj, rfl, rfl, hm, hsum, HMR⟩ := hrel
    by_cases hlt : j < l.length
    · obtain ⟨b, o, rfl, hpb, hb, a1, c1, a2, c2, G, _, _, _, _, hsh, _, _, _, _, hg, hv⟩ := SeqIn.at HL.out hlt
      simp only [Value.agg.injEq, Array.mk.injEq, List.cons.injEq, Value.slice.injEq, and_true, true_and] at hsh
      obtain ⟨⟨rfl, rfl⟩, rfl, rfl⟩ := hsh
      have HGC := hid G
      have hdr := List.drop_eq_getElem_cons hlt
      generalize l[j] = e at *
      rcases hge : e.guard with ⟨gk, gv, gkids⟩
      rcases hve : e.val with ⟨vk, vv, vkids⟩
      rw [hge] at hg
      rw [hve] at hv
      obtain ⟨_, _, _, _, e5, _, _, g3, g4, HG0⟩ := TrIn_kids hg
      obtain ⟨_, _, _, _, e6, _, _, v3, v4, HV0⟩ := TrIn_kids hv
      simp only [Value.slice.injEq] at e5 e6
      obtain ⟨rfl, _, rfl⟩ := e5
      obtain ⟨rfl, _, rfl⟩ := e6
      have HG := hid HG0
      have HV := hid HV0
      have hs0 := hsum.out
      rw [hdr] at hs0
      simp only [sumC, mE, cE, hge, hve, Tr.kids] at hs0
      have hp1 := nodesL_pos gkids
      have hp2 := nodesL_pos vkids
      have hp3 := sumC_nonneg mE_nonneg (l.drop (j + 1))
      have hbig : m + 8 + 2 * nodesL gkids + 2 * nodesL vkids ≤ 4611686018427387904 := by omega
      have HS := hid hs0
      have HGK := hid (show e.guard.kids = gkids by rw [hge]; rfl)
      have HVK := hid (show e.val.kids = vkids by rw [hve]; rfl)
      clear hs0 hsum hg hv hdr HG0 HV0 hge hve G
      have hlt2 : (j : Int) < (l.length : Int) := by omega
      obtain ⟨g0, g1, g2, g3', g4', g5, g6, g7, g8, g9⟩ := HGC.out
      rw [HGK.out] at g4'
      rw [HVK.out] at g8
      obtain ⟨m0, r0⟩ := HMR.out.int g0
      obtain ⟨m1, r1⟩ := HMR.out.int g1
      obtain ⟨m2, r2⟩ := HMR.out.int g2
      obtain ⟨m3, r3⟩ := HMR.out.int g3'
      have r4 := HMR.out.slice g4'
      have rf : ∀ i, wr.frozen? ⟨b, i, none⟩ = false := fun i => by rw [HMR.out.frozen b i hb]; exact HF.out b hpb i
      have rl : b < wr.heap.size := Nat.lt_of_lt_of_le hb HMR.out.size
      have HM2 := hid ((((HMR.out.set hpb g0 m).set hpb g1 (m + 1)).set hpb g2 (m + 1 + 1)).set hpb g3' (m + 1 + 1 + 1))
      have KG := hid (And.intro g0 (And.intro g1 (And.intro g5 (And.intro g6 (And.intro g7 (And.intro g8 g9))))))
      clear g0 g1 g2 g3' g4' g5 g6 g7 g8 g9 HMR HGC HGK HVK
      go_wp2_with fail
      refine (HT.out gkids _ a1 c1 (m + 1 + 1 + 1 + 1) HG.out HM2.out g3 g4 (by omega) (by omega)).mono ?_
      rintro y w2 ⟨rfl, hm3⟩
      have HM3 := hid hm3
      clear hm3 r0 r1 r2 r3 r4 rf rl HM2
      obtain ⟨g0, g1, g5, g6, g7, g8, g9⟩ := KG.out
      obtain ⟨m5, r5⟩ := HM3.out.int g5
      obtain ⟨m6, r6⟩ := HM3.out.int g6
      obtain ⟨m7, r7⟩ := HM3.out.int g7
      have r8 := HM3.out.slice g8
      have rf : ∀ i, w2.frozen? ⟨b, i, none⟩ = false := fun i => by rw [HM3.out.frozen b i hb]; exact HF.out b hpb i
      have rl : b < w2.heap.size := Nat.lt_of_lt_of_le hb HM3.out.size
      have HM4 := hid (((HM3.out.set hpb g5 (m + 1 + 1 + 1 + 1 + 2 * nodesL gkids)).set hpb g6 (m + 1 + 1 + 1 + 1 + 2 * nodesL gkids + 1)).set hpb g7 (m + 1 + 1 + 1 + 1 + 2 * nodesL gkids + 1 + 1))
      clear g0 g1 g5 g6 g7 g8 g9 HM3
      go_wp2_with fail
      refine (HT.out vkids _ a2 c2 (m + 1 + 1 + 1 + 1 + 2 * nodesL gkids + 1 + 1 + 1) HV.out HM4.out v3 v4 (by omega) (by omega)).mono ?_
      rintro y w3 ⟨rfl, hm3⟩
      have HM5 := hid hm3
      clear hm3 r5 r6 r7 r8 rf rl HM4
      obtain ⟨g0, g1, g5, g6, g7, g8, g9⟩ := KG.out
      obtain ⟨m9, r9⟩ := HM5.out.int g9
      have rf : ∀ i, w3.frozen? ⟨b, i, none⟩ = false := fun i => by rw [HM5.out.frozen b i hb]; exact HF.out b hpb i
      have rl : b < w3.heap.size := Nat.lt_of_lt_of_le hb HM5.out.size
      have HM6 := hid (HM5.out.set hpb g9 (m + 1 + 1 + 1 + 1 + 2 * nodesL gkids + 1 + 1 + 1 + 2 * nodesL vkids))
      clear g0 g1 g5 g6 g7 g8 g9 HM5 KG
      go_wp2_with fail
      go_roundw
      case rel => exact ⟨j + 1, m + 1 + 1 + 1 + 1 + 2 * nodesL gkids + 1 + 1 + 1 + 2 * nodesL vkids + 1, by omega, rfl, by go_num, by omega, hid (by have := HS.out; omega), HM6⟩
      case measure => simp [intOf]; omega
    · have hlt2 : ¬ ((j : Int) < (l.length : Int)) := by omega
      have h1 := hsum.out
      rw [List.drop_of_length_le (by omega)] at h1
      simp only [sumC] at h1
      have hres := hid (show m = k + sumC mE l by omega)
      clear h1 hsum
      go_wp2_with fail
      go_ret
      exact ⟨congrArg (fun x => Ending.returned (Value.int .i64 x)) hres.out, HMR.out⟩
end Sys
end Go.Proofs.Ytchlpeflfiecdaa
