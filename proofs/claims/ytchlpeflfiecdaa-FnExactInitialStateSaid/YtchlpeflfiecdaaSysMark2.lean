/- The laws' markProcessS, markSystem, on memory that nothing freezes. Conditions: those of each contract. -/
import Derived.Test.YtchlpeflfiecdaaSysMark
import Derived.Test.YtchlpeflfiecdaaSysTo2
namespace Go.Proofs.Ytchlpeflfiecdaa
open Go.RowKit
set_option linter.unusedVariables false
namespace Sys

set_option maxRecDepth 100000 in
set_option maxHeartbeats 2000000 in
theorem mkPs_any (p : Nat → Prop) (w : World) (hf : Free p w) (l : List Pr) (w0 : World) (a : Option Addr) (c : Nat) (k : Int) (hl : PrsIn p w l a) (hm : Marked p w w0) (hc : l.length ≤ c) (hc2 : c ≤ maxLen) (hk : 0 ≤ k) (hk2 : k + sumC mP l ≤ 4611686018427387904) :
    Calls Try.prog 70 #[.slice a l.length c, .int .i64 k] w0 (MkPost p w (k + sumC mP l)) := by
  unfold maxLen at hc2
  have HL := hid hl
  have HM := hid hm
  have HF := hid hf
  have HE := hid (fun es => mkEs_any p w hf es)
  clear hl hm hf
  go_enter Try.func70, Try.ntmps70
  go_wp2_with fail
  go_loopw [1, 5] (fun q i wr => ∃ (j : Nat) (m : Int), j ≤ l.length ∧ q = .int .i64 m ∧ i = .int .i64 j ∧ 0 ≤ m ∧ Hid (m + sumC mP (l.drop j) = k + sumC mP l) ∧ Hid (Marked p w wr)) (fun _ i _ => l.length - (intOf i).toNat)
  case atStart => exact ⟨0, k, Nat.zero_le _, rfl, rfl, hk, hid rfl, HM⟩
  case round =>
    obtain ⟨j, m, hj, rfl, rfl, hm, hsum, HMR⟩ := hrel
    by_cases hlt : j < l.length
    · obtain ⟨b, o, rfl, hpb, hb, a1, c1, ⟨g0, g1⟩, _, _, hsh, hq, h3, h4, he⟩ := SeqIn.at HL.out hlt
      simp only [Value.agg.injEq, Array.mk.injEq, List.cons.injEq, Value.slice.injEq, and_true, true_and] at hsh
      obtain ⟨rfl, rfl⟩ := hsh
      have hdr := List.drop_eq_getElem_cons hlt
      generalize l[j] = q at *
      have hs0 := hsum.out
      rw [hdr] at hs0
      simp only [sumC, mP] at hs0
      have hp1 := sumC_nonneg mE_nonneg q.edges
      have hp3 := sumC_nonneg mP_nonneg (l.drop (j + 1))
      have hbig : m + 1 + sumC mE q.edges ≤ 4611686018427387904 := by omega
      have HS := hid hs0
      have HQ := hid he
      obtain ⟨m0, r0⟩ := HMR.out.int g0
      have r1 := HMR.out.slice g1
      have rf : ∀ i, wr.frozen? ⟨b, i, none⟩ = false := fun i => by rw [HMR.out.frozen b i hb]; exact HF.out b hpb i
      have rl : b < wr.heap.size := Nat.lt_of_lt_of_le hb HMR.out.size
      have HM2 := hid (HMR.out.set hpb g0 m)
      have hlt2 : (j : Int) < (l.length : Int) := by omega
      clear hs0 hsum hdr g0 g1 HMR he
      go_wp2_with fail
      refine (HE.out q.edges _ a1 c1 (m + 1) HQ.out HM2.out h3 h4 (by omega) (by omega)).mono ?_
      rintro y w2 ⟨rfl, hm3⟩
      have HM3 := hid hm3
      clear hm3 r0 r1 rf rl HM2
      go_wp2_with fail
      go_roundw
      case rel => exact ⟨j + 1, m + 1 + sumC mE q.edges, by omega, rfl, by go_num, by omega, hid (by have := HS.out; omega), HM3⟩
      case measure => simp [intOf]; omega
    · have hlt2 : ¬ ((j : Int) < (l.length : Int)) := by omega
      have h1 := hsum.out
      rw [List.drop_of_length_le (by omega)] at h1
      simp only [sumC] at h1
      have hres := hid (show m = k + sumC mP l by omega)
      clear h1 hsum
      go_wp2_with fail
      go_ret
      exact ⟨congrArg (fun x => Ending.returned (Value.int .i64 x)) hres.out, HMR.out⟩

theorem Marked_trans {p : Nat → Prop} {a b c : World} (h : Marked p a b) (k : Marked p b c) : Marked p a c :=
  ⟨k.os.trans h.os, k.tape.trans h.tape, k.output.trans h.output, Nat.le_trans h.size k.size, fun x hx hn => (k.block x (Nat.lt_of_lt_of_le hx h.size) hn).trans (h.block x hx hn),
    fun x i hx => (k.frozen x i (Nat.lt_of_lt_of_le hx h.size)).trans (h.frozen x i hx), fun x i v hv => by
      rcases h.cell x i v hv with h1 | ⟨n, m, h1, h2⟩
      · exact k.cell x i v h1
      · subst h1
        obtain ⟨m2, h3⟩ := k.int h2
        exact .inr ⟨n, m2, rfl, h3⟩⟩
theorem box2_marked {p : Nat → Prop} {w w' : World} {B : Nat} {a b : Value} (h : Marked p w w') (hp : ¬ p B) (hb : Box2 w B a b) : Box2 w' B a b := box2_block h.size (h.block B hb.1 hp) hb

set_option maxHeartbeats 1000000 in
theorem mkS_any (p : Nat → Prop) (w : World) (hf : Free p w) (s : Sy) (x : Value) (k : Int) (hx : SyIn p w s x) (hp : ∀ b, p b → b < w.heap.size) (hk : 0 ≤ k) (hk2 : k + mS s ≤ 4611686018427387904) :
    Calls Try.prog 25 #[x, .int .i64 k] w (MkPost p w (k + mS s)) := by
  have HX := hid hx
  obtain ⟨a, c, b, d, rfl, _⟩ := hx
  have h1 := sumC_nonneg mP_nonneg s.procs
  have hms : mS s = s.init.length + sumC mP s.procs := rfl
  have HA := hid (show ∀ W, Below w.heap.size w W → ∃ a' c' b' d', Value.agg #[.slice a s.init.length c, .slice b s.procs.length d] = .agg #[.slice a' s.init.length c', .slice b' s.procs.length d'] ∧ s.init.length ≤ c' ∧ c' ≤ maxLen ∧ IntsIn p W a' s.init ∧ s.procs.length ≤ d' ∧ d' ≤ maxLen ∧ PrsIn p W s.procs b' from fun W M => HX.out.below M)
  have HB := hid (below_alloc w (.cells #[.slice a s.init.length c, .slice b s.procs.length d] 45))
  obtain ⟨WA, HWA⟩ : ∃ WA, Hid (WA = w.alloc (.cells #[.slice a s.init.length c, .slice b s.procs.length d] 45)) := ⟨_, hid rfl⟩
  have HFA := hid (show Free p WA from fun x hx i => by rw [HWA.out, HB.out.frozen (p := ⟨x, i, none⟩) (hp x hx)]; exact hf x hx i)
  obtain ⟨a', c', b', d', e0, hc, hc2, hi, hd, hd2, hps⟩ := HA.out WA (by rw [HWA.out]; exact HB.out)
  simp only [Value.agg.injEq, Array.mk.injEq, List.cons.injEq, Value.slice.injEq, and_true, true_and] at e0
  obtain ⟨⟨rfl, rfl⟩, rfl, rfl⟩ := e0
  have HI := hid (fun (w' : World) (M : Marked p WA w') => mkI_any p WA HFA.out s.init w' a c k hi M hc hc2 hk (by omega))
  have HP := hid (fun (w' : World) (M : Marked p WA w') => mkPs_any p WA HFA.out s.procs w' b d (k + s.init.length) hps M hd hd2 (by omega) (by omega))
  have BX := hid (show Box2 WA w.heap.size (.slice a s.init.length c) (.slice b s.procs.length d) by rw [HWA.out]; exact box2_at rfl)
  have HN := hid (fun h => Nat.lt_irrefl _ (hp w.heap.size h))
  have MA := hid (show Marked p w WA by rw [HWA.out]; exact (Marked.refl p w).below (below_alloc _ _))
  have E := hid (show k + s.init.length + sumC mP s.procs = k + mS s by omega)
  clear hi hps hms hf hp
  go_enter Try.func25, Try.ntmps25
  go_wp2_with fail
  refine (HI.out _ (by rw [HWA.out]; exact Marked.refl _ _)).mono ?_
  rintro y w1 ⟨rfl, hm⟩
  have HM := hid hm
  obtain ⟨p0, p1, p2, _⟩ := box2_marked hm HN.out BX.out
  clear hm
  go_wp2_with fail
  refine (HP.out _ HM.out).mono ?_
  rintro y w2 ⟨rfl, hm⟩
  have HM2 := hid (Marked_trans MA.out hm)
  clear hm
  go_wp2_with fail
  go_ret
  exact ⟨congrArg (fun x => Ending.returned (Value.int .i64 x)) E.out, HM2.out⟩
end Sys
end Go.Proofs.Ytchlpeflfiecdaa
