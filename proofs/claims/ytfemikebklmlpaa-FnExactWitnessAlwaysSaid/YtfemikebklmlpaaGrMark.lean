/- The laws' markIntS, markStateS, markIntSS, markGraph on memory that nothing freezes: numbers become numbers. Conditions: those of each contract. -/
import Derived.Test.YtfemikebklmlpaaGrTo
namespace Go.Proofs.Ytfemikebklmlpaa
open Go.RowKit
set_option linter.unusedVariables false
set_option linter.unusedSimpArgs false
namespace Gr

/-- what a marking call comes to, since world w -/
def MkPost (p : Nat → Prop) (w : World) (k : Int) (e : Ending) (w' : World) : Prop := e = .returned (.int .i64 k) ∧ Marked p w w'
/-- nothing freezes what p allows -/
def Free (p : Nat → Prop) (w : World) : Prop := ∀ b, p b → ∀ i, w.frozen? ⟨b, i, none⟩ = false

set_option maxHeartbeats 1000000 in
theorem mkI_any (p : Nat → Prop) (w : World) (hf : Free p w) (l : List Int) (w0 : World) (a : Option Addr) (c : Nat) (k : Int) (hl : IntsIn p w a l) (hm : Marked p w w0) (hc : l.length ≤ c) (hc2 : c ≤ maxLen) (hk : 0 ≤ k) (hk2 : k + l.length ≤ 4611686018427387904) :
    Calls Try.prog 21 #[.slice a l.length c, .int .i64 k] w0 (MkPost p w (k + l.length)) := by
  unfold maxLen at hc2
  have HL := hid hl
  have HM := hid hm
  have HF := hid hf
  clear hl hm hf
  go_enter Try.func21, Try.ntmps21
  go_wp2_with fail
  go_loopw [1, 5] (fun q i wr => ∃ (j : Nat), j ≤ l.length ∧ q = .int .i64 (k + j) ∧ i = .int .i64 j ∧ Hid (Marked p w wr)) (fun _ i _ => l.length - (intOf i).toNat)
  case atStart => exact ⟨0, Nat.zero_le _, by simp, rfl, HM⟩
  case round =>
    obtain ⟨j, hj, rfl, rfl, HMR⟩ := hrel
    by_cases hlt : j < l.length
    · obtain ⟨b, o, rfl, hb, hpb, g0, _⟩ := ints_at HL.out (Below.refl _ _) hlt
      obtain ⟨m0, r0⟩ := HMR.out.int g0
      have rf : ∀ i, wr.frozen? ⟨b, i, none⟩ = false := fun i => by rw [HMR.out.frozen b i hb]; exact HF.out b hpb i
      have rl : b < wr.heap.size := Nat.lt_of_lt_of_le hb HMR.out.size
      have HM2 := hid (HMR.out.set hpb g0 (k + j))
      have hlt2 : (j : Int) < (l.length : Int) := by omega
      clear g0 HMR
      go_wp2_with fail
      go_roundw
      case rel => exact ⟨j + 1, by omega, by go_num, by go_num, HM2⟩
      case measure => simp [intOf]; omega
    · have hlt2 : ¬ ((j : Int) < (l.length : Int)) := by omega
      have hjl : j = l.length := by omega
      go_wp2_with fail
      go_ret
      exact ⟨by first | rfl | rw [hjl], HMR.out⟩

theorem Marked_trans {p : Nat → Prop} {a b c : World} (h : Marked p a b) (k : Marked p b c) : Marked p a c :=
  ⟨k.os.trans h.os, k.tape.trans h.tape, k.output.trans h.output, Nat.le_trans h.size k.size, fun x hx hn => (k.block x (Nat.lt_of_lt_of_le hx h.size) hn).trans (h.block x hx hn),
    fun x i hx => (k.frozen x i (Nat.lt_of_lt_of_le hx h.size)).trans (h.frozen x i hx), fun x i v hv => by
      rcases h.cell x i v hv with h1 | ⟨n, m, h1, h2⟩
      · exact k.cell x i v h1
      · subst h1
        obtain ⟨m2, h3⟩ := k.int h2
        exact .inr ⟨n, m2, rfl, h3⟩⟩

def mG (g : G2) : Int := sumC cSt g.states + sumC cR g.next
theorem mG_bd {g : G2} (h : SmallG g) : 0 ≤ mG g ∧ mG g ≤ 1048576 := by
  have h1 := sumC_nonneg cSt_nonneg g.states
  have h2 := sumC_nonneg cR_nonneg g.next
  have h3 := h.all
  unfold cG at h3
  unfold mG
  omega

set_option maxRecDepth 100000 in
set_option maxHeartbeats 2000000 in
theorem mkSts_any (p : Nat → Prop) (w : World) (hf : Free p w) (l : List S2) (w0 : World) (a : Option Addr) (c : Nat) (k : Int) (hl : StsIn p w l a) (hm : Marked p w w0) (hc : l.length ≤ c) (hc2 : c ≤ maxLen) (hk : 0 ≤ k) (hk2 : k + sumC cSt l ≤ 4611686018427387904) :
    Calls Try.prog 51 #[.slice a l.length c, .int .i64 k] w0 (MkPost p w (k + sumC cSt l)) := by
  unfold maxLen at hc2
  have HL := hid hl
  have HM := hid hm
  have HF := hid hf
  have HE := hid (fun es => mkI_any p w hf es)
  clear hl hm hf
  go_enter Try.func51, Try.ntmps51
  go_wp2_with fail
  go_loopw [1, 5] (fun q i wr => ∃ (j : Nat) (m : Int), j ≤ l.length ∧ q = .int .i64 m ∧ i = .int .i64 j ∧ 0 ≤ m ∧ Hid (m + sumC cSt (l.drop j) = k + sumC cSt l) ∧ Hid (Marked p w wr)) (fun _ i _ => l.length - (intOf i).toNat)
  case atStart => exact ⟨0, k, Nat.zero_le _, rfl, rfl, hk, hid rfl, HM⟩
  case round =>
    obtain ⟨j, m, hj, rfl, rfl, hm, hsum, HMR⟩ := hrel
    by_cases hlt : j < l.length
    · obtain ⟨b, o, a1, c1, a2, c2, rfl, hb, hpb, g0, g1, hr1, hr2v⟩ := sts_at HL.out hlt
      obtain ⟨_, _, e1, q1, q2, q3⟩ := hr1
      simp at e1
      obtain ⟨rfl, rfl⟩ := e1
      obtain ⟨_, _, e1, q1', q2', q3'⟩ := hr2v
      simp at e1
      obtain ⟨rfl, rfl⟩ := e1
      have hdr := List.drop_eq_getElem_cons hlt
      generalize l[j] = q at *
      have hs0 := hsum.out
      rw [hdr] at hs0
      simp only [sumC] at hs0
      have hp3 := sumC_nonneg cSt_nonneg (l.drop (j + 1))
      have hcq : cSt q = q.locs.length + q.vals.length := rfl
      have hbig : m + q.locs.length + q.vals.length ≤ 4611686018427387904 := by omega
      have HS := hid (show m + q.locs.length + q.vals.length + sumC cSt (l.drop (j + 1)) = k + sumC cSt l by omega)
      have HQ := hid q3
      have HQ' := hid q3'
      have r0 := HMR.out.slice g0
      have rl : b < wr.heap.size := Nat.lt_of_lt_of_le hb HMR.out.size
      have G1 := hid g1
      have hlt2 : (j : Int) < (l.length : Int) := by omega
      clear hs0 hsum hdr g0 g1 q3 q3' hcq hp3
      go_wp2_with fail
      refine (HE.out q.locs _ a1 c1 m HQ.out HMR.out q1 q2 hm (by omega)).mono ?_
      rintro y w2 ⟨rfl, hm3⟩
      have HM3 := hid hm3
      have r1 := HM3.out.slice G1.out
      have rl2 : b < w2.heap.size := Nat.lt_of_lt_of_le hb HM3.out.size
      clear hm3 r0 rl HMR
      go_wp2_with fail
      refine (HE.out q.vals _ a2 c2 (m + q.locs.length) HQ'.out HM3.out q1' q2' (by omega) (by omega)).mono ?_
      rintro y w3 ⟨rfl, hm3⟩
      have HM4 := hid hm3
      clear hm3 r1 rl2 HM3
      go_wp2_with fail
      go_roundw
      case rel => exact ⟨j + 1, m + q.locs.length + q.vals.length, by omega, rfl, by go_num, by omega, HS, HM4⟩
      case measure => simp [intOf]; omega
    · have hlt2 : ¬ ((j : Int) < (l.length : Int)) := by omega
      have h1 := hsum.out
      rw [List.drop_of_length_le (by omega)] at h1
      simp only [sumC] at h1
      have hres := hid (show m = k + sumC cSt l by omega)
      clear h1 hsum
      go_wp2_with fail
      go_ret
      exact ⟨congrArg (fun x => Ending.returned (Value.int .i64 x)) hres.out, HMR.out⟩

set_option maxRecDepth 100000 in
set_option maxHeartbeats 2000000 in
theorem mkRs_any (p : Nat → Prop) (w : World) (hf : Free p w) (l : List (List Int)) (w0 : World) (a : Option Addr) (c : Nat) (k : Int) (hl : RowsIn p w l a) (hm : Marked p w w0) (hc : l.length ≤ c) (hc2 : c ≤ maxLen) (hk : 0 ≤ k) (hk2 : k + sumC cR l ≤ 4611686018427387904) :
    Calls Try.prog 52 #[.slice a l.length c, .int .i64 k] w0 (MkPost p w (k + sumC cR l)) := by
  unfold maxLen at hc2
  have HL := hid hl
  have HM := hid hm
  have HF := hid hf
  have HE := hid (fun es => mkI_any p w hf es)
  clear hl hm hf
  go_enter Try.func52, Try.ntmps52
  go_wp2_with fail
  go_loopw [1, 5] (fun q i wr => ∃ (j : Nat) (m : Int), j ≤ l.length ∧ q = .int .i64 m ∧ i = .int .i64 j ∧ 0 ≤ m ∧ Hid (m + sumC cR (l.drop j) = k + sumC cR l) ∧ Hid (Marked p w wr)) (fun _ i _ => l.length - (intOf i).toNat)
  case atStart => exact ⟨0, k, Nat.zero_le _, rfl, rfl, hk, hid rfl, HM⟩
  case round =>
    obtain ⟨j, m, hj, rfl, rfl, hm, hsum, HMR⟩ := hrel
    by_cases hlt : j < l.length
    · obtain ⟨b, o, a1, c1, rfl, hb, hpb, g0, q1, q2, q3⟩ := rows_at HL.out hlt
      have hdr := List.drop_eq_getElem_cons hlt
      generalize l[j] = q at *
      have hs0 := hsum.out
      rw [hdr] at hs0
      simp only [sumC] at hs0
      have hp3 := sumC_nonneg cR_nonneg (l.drop (j + 1))
      have hcq : cR q = q.length := rfl
      have hbig : m + q.length ≤ 4611686018427387904 := by omega
      have HS := hid (show m + q.length + sumC cR (l.drop (j + 1)) = k + sumC cR l by omega)
      have HQ := hid q3
      have r0 := HMR.out.slice g0
      have rl : b < wr.heap.size := Nat.lt_of_lt_of_le hb HMR.out.size
      have hlt2 : (j : Int) < (l.length : Int) := by omega
      clear hs0 hsum hdr g0 q3 hcq hp3
      go_wp2_with fail
      refine (HE.out q _ a1 c1 m HQ.out HMR.out q1 q2 hm (by omega)).mono ?_
      rintro y w2 ⟨rfl, hm3⟩
      have HM3 := hid hm3
      clear hm3 r0 rl HMR
      go_wp2_with fail
      go_roundw
      case rel => exact ⟨j + 1, m + q.length, by omega, rfl, by go_num, by omega, HS, HM3⟩
      case measure => simp [intOf]; omega
    · have hlt2 : ¬ ((j : Int) < (l.length : Int)) := by omega
      have h1 := hsum.out
      rw [List.drop_of_length_le (by omega)] at h1
      simp only [sumC] at h1
      have hres := hid (show m = k + sumC cR l by omega)
      clear h1 hsum
      go_wp2_with fail
      go_ret
      exact ⟨congrArg (fun x => Ending.returned (Value.int .i64 x)) hres.out, HMR.out⟩

theorem pbox_marked {p : Nat → Prop} {w w' : World} {B : Nat} {a b : Value} (h : Marked p w w') (hp : ¬ p B) (hb : State.PBox w B a b) : State.PBox w' B a b := by
  have e := h.block B hb.1 hp
  exact ⟨Nat.lt_of_lt_of_le hb.1 h.size, by rw [World.cell?_of_block (w := w) (a := ⟨B, 0, none⟩) e]; exact hb.2.1, by rw [World.cell?_of_block (w := w) (a := ⟨B, 1, none⟩) e]; exact hb.2.2.1, by rw [World.frozen?_of_block (w := w) (a := ⟨B, 0, none⟩) e]; exact hb.2.2.2.1, by rw [World.frozen?_of_block (w := w) (a := ⟨B, 1, none⟩) e]; exact hb.2.2.2.2⟩

set_option maxHeartbeats 1000000 in
theorem mkGr_any (p : Nat → Prop) (w : World) (hf : Free p w) (g : G2) (x : Value) (k : Int) (hx : GrIn p w g x) (hp : ∀ b, p b → b < w.heap.size) (hk : 0 ≤ k) (hk2 : k + mG g ≤ 4611686018427387904) :
    Calls Try.prog 19 #[x, .int .i64 k] w (MkPost p w (k + mG g)) := by
  have HX := hid hx
  obtain ⟨a, c, b, d, rfl, _⟩ := hx
  have h1 := sumC_nonneg cSt_nonneg g.states
  have h2 := sumC_nonneg cR_nonneg g.next
  have hms : mG g = sumC cSt g.states + sumC cR g.next := rfl
  have HB := hid (below_alloc w (.cells #[.slice a g.states.length c, .slice b g.next.length d] 26))
  obtain ⟨WA, HWA⟩ : ∃ WA, Hid (WA = w.alloc (.cells #[.slice a g.states.length c, .slice b g.next.length d] 26)) := ⟨_, hid rfl⟩
  have HFA := hid (show Free p WA from fun x hx i => by rw [HWA.out, HB.out.frozen (p := ⟨x, i, none⟩) (hp x hx)]; exact hf x hx i)
  have HXA := hid (show GrIn p WA g (.agg #[.slice a g.states.length c, .slice b g.next.length d]) by rw [HWA.out]; exact HX.out.below HB.out)
  obtain ⟨a', c', b', d', e0, hc, hc2, hi, hd, hd2, hps⟩ := HXA.out
  simp only [Value.agg.injEq, Array.mk.injEq, List.cons.injEq, Value.slice.injEq, and_true, true_and] at e0
  obtain ⟨⟨rfl, rfl⟩, rfl, rfl⟩ := e0
  have HI := hid (fun (w' : World) (M : Marked p WA w') => mkSts_any p WA HFA.out g.states w' a c k hi M hc hc2 hk (by omega))
  have HP := hid (fun (w' : World) (M : Marked p WA w') => mkRs_any p WA HFA.out g.next w' b d (k + sumC cSt g.states) hps M hd hd2 (by omega) (by omega))
  have BX := hid (show State.PBox WA w.heap.size (.slice a g.states.length c) (.slice b g.next.length d) by rw [HWA.out]; exact State.pbox_at rfl)
  have HN := hid (fun h => Nat.lt_irrefl _ (hp w.heap.size h))
  have MA := hid (show Marked p w WA by rw [HWA.out]; exact (Marked.refl p w).below (below_alloc _ _))
  have E := hid (show k + sumC cSt g.states + sumC cR g.next = k + mG g by omega)
  clear hi hps hms hf hp
  go_enter Try.func19, Try.ntmps19
  go_wp2_with fail
  refine (HI.out _ (by rw [HWA.out]; exact Marked.refl _ _)).mono ?_
  rintro y w1 ⟨rfl, hm⟩
  have HM := hid hm
  obtain ⟨p0, p1, p2, _⟩ := pbox_marked hm HN.out BX.out
  clear hm
  go_wp2_with fail
  refine (HP.out _ HM.out).mono ?_
  rintro y w2 ⟨rfl, hm⟩
  have HM2 := hid (Marked_trans MA.out hm)
  clear hm
  go_wp2_with fail
  go_ret
  exact ⟨congrArg (fun x => Ending.returned (Value.int .i64 x)) E.out, HM2.out⟩
end Gr
end Go.Proofs.Ytfemikebklmlpaa
