/- Joined texts (SysTo2, SysMark2, RegOrd, SysEq, LawSysValid): contracts and plain laws. Conditions: those of each theorem. -/
import Derived.Test.YtchlpeflfiecdaaJcFnExactEnabledSteps9
import Derived.Test.YtchlpeflfiecdaaJcFnExactEnabledSteps1
import Derived.Test.YtchlpeflfiecdaaJcFnExactEnabledSteps3
import Derived.Test.YtchlpeflfiecdaaJcFnExactEnabledSteps5
import Derived.Maps.AppendAt
import Derived.Deep.RegionHeld3
namespace Go.Proofs.Ytchlpeflfiecdaa
open Go.RowKit
set_option linter.unusedVariables false
namespace Sys

theorem PrIn.keepFr {B : Nat} {q : Pr} {v : Value} {w w' : World} (h : PrIn (Fr B w) w q v) (hs : w.heap.size ≤ w'.heap.size) (hk : ∀ b, B ≤ b → b < w.heap.size → w'.heap[b]? = w.heap[b]?) : PrIn (Fr B w') w' q v :=
  PrIn.frame h hs fun b h1 h2 => ⟨h1.kept (Nat.le_refl _) (hk b h1.1 h2), hk b h1.1 h2⟩
theorem EdsIn.keepFr {B B' : Nat} {l : List Ed} {a : Option Addr} {w w' : World} (h : EdsIn (Fr B w) w l a) (hB : B' ≤ B) (hs : w.heap.size ≤ w'.heap.size) (hk : ∀ b, B ≤ b → b < w.heap.size → w'.heap[b]? = w.heap[b]?) : EdsIn (Fr B' w') w' l a :=
  EdsIn.frame h hs fun b h1 h2 => ⟨h1.kept hB (hk b h1.1 h2), hk b h1.1 h2⟩
theorem PrsIn.keepFr {B B' : Nat} {l : List Pr} {a : Option Addr} {w w' : World} (h : PrsIn (Fr B w) w l a) (hB : B' ≤ B) (hs : w.heap.size ≤ w'.heap.size) (hk : ∀ b, B ≤ b → b < w.heap.size → w'.heap[b]? = w.heap[b]?) : PrsIn (Fr B' w') w' l a :=
  PrsIn.frame h hs fun b h1 h2 => ⟨h1.kept hB (hk b h1.1 h2), hk b h1.1 h2⟩
theorem keep_set3 {B : Nat} {w : World} {a1 a2 a3 : Addr} (h1 : a1.block < B) (h2 : a2.block < B) (h3 : a3.block < B) (u1 u2 u3 : Value) : ∀ b, B ≤ b → (((w.setCell a1 u1).setCell a2 u2).setCell a3 u3).heap[b]? = w.heap[b]? := fun b hb => by
  rw [Below.heap_setCell _ _ _ _ (by omega), Below.heap_setCell _ _ _ _ (by omega), Below.heap_setCell _ _ _ _ (by omega)]

set_option maxRecDepth 100000 in
set_option maxHeartbeats 2000000 in
theorem toP_any (q : Pr) (w : World) (x : Value) (hx : PrIn Any w q x) (hlen : q.edges.length ≤ 1048576) (hs : ∀ e, e ∈ q.edges → Edge.SmallE e) :
    Calls Try.prog 87 #[x] w (RetP (fun v w' => ∃ a c, v = .agg #[.int .i64 q.locs, .slice a q.edges.length c] ∧ NewPr w.heap.size q v w') w) := by
  obtain ⟨a, c, rfl, hi, hc, hc2, he⟩ := hx
  have HE := hid (fun (w' : World) (M : Below w.heap.size w w') => toEs_any q.edges w' a c (he.below M) hlen hs hc hc2)
  have HI := hid hi
  clear he hs hi
  go_enter Try.func87, Try.ntmps87
  go_wp2_with fail
  refine (HE.out _ (by repeat (first | exact Below.refl _ _ | assumption | refine below_a ?_ _ | refine below_o ?_ _ | refine below_d ?_ | refine below_n ?_ _ | refine below_s ?_ (by first | (simp; done) | (simp; omega) | omega) _))).mono ?_
  rintro e w1 ⟨v, rfl, ⟨a1, c1, rfl, hc1, hc3, hin⟩, hb⟩
  have b2 := box2_next hb (box2_next (below_alloc _ _) (box2_at (w := w.alloc _) (B := w.heap.size + 1) (a := .int .i64 0) (b := .slice none 0 0) (t := 88) (by simp)))
  have b3 := box2_next hb (box2_at (B := w.heap.size + 1 + 1) (by simp))
  have B := hid (below_next (show Below w.heap.size w _ from below_next (below_next (below_alloc _ _) (below_alloc _ _)) (below_alloc _ _)) hb)
  simp only [World.size_alloc] at hin
  have HIN := hid hin
  obtain ⟨y0, y1, y2, y3, y4⟩ := id b3
  have hsz := b3.1
  clear hin hb
  go_wp2_with fail
  have T := box2_set1 (box2_set0 (box2_but (But.set w1 (w.heap.size + 1 + 1) 1 (.slice a1 q.edges.length c1)) (by omega) b2) (.int .i64 q.locs)) (.slice a1 q.edges.length c1)
  obtain ⟨_, t0, t1, _, _⟩ := T
  refine bodyPost_ret (v := .agg #[.int .i64 q.locs, .slice a1 q.edges.length c1]) (by simp [results, Try.results87, go_sem, t0, t1]) rfl ?_
  refine RetP.mk ⟨_, _, rfl, _, _, rfl, HI.out, hc1, hc3, EdsIn.keepFr HIN.out (by omega) (by simp) fun b h1 _ => keep_set3 (by first | (simp; done) | (simp; omega) | omega) (by first | (simp; done) | (simp; omega) | omega) (by first | (simp; done) | (simp; omega) | omega) _ _ _ b h1⟩ ?_
  exact ((B.out.setCell (by simp; omega) _).setCell (by simp) _).setCell (by simp) _

theorem infoP : (Try.prog.info? 88).map (fun i => (i.zero, i.size, i.bytes)) = some (some (.agg #[.int .i64 0, .slice none 0 0]), 2, 32) := by kernel_rfl
def zerosP (n : Nat) : Array Value := madeCells #[.int .i64 0, .slice none 0 0] (n * 2)
theorem make_prs (n : Nat) (h : n ≤ 1048576) (w : World) : (Instr.makeSlice 43 (.int .i64 (n : Int)) (.int .i64 (n : Int))).run Try.prog w =
    .ok (.slice (some ⟨w.heap.size, 0, none⟩) n n) (w.alloc (.cells (zerosP n) 88)) := by
  obtain ⟨i, hi, hz, h1, h2⟩ := info_parts infoP
  have := run_make (P := Try.prog) w 43 88 i _ Try.underlying43 hi hz .i64 .i64 n n (by omega) (by omega) (by rw [h2]; omega) (by omega)
  rw [this, h1]
  simp [zerosP, Value.cells]
def NewPrs (B : Nat) (l : List Pr) (v : Value) (w : World) : Prop := ∃ a c, v = .slice a l.length c ∧ l.length ≤ c ∧ c ≤ maxLen ∧ PrsIn (Fr B w) w l a

set_option maxRecDepth 100000 in
set_option maxHeartbeats 2000000 in
theorem toPs_any (l : List Pr) (w : World) (a : Option Addr) (c : Nat) (hl : PrsIn Any w l a) (hlen : l.length ≤ 1048576) (hs : ∀ q, q ∈ l → q.edges.length ≤ 1048576 ∧ ∀ e, e ∈ q.edges → Edge.SmallE e) (hc : l.length ≤ c) (hc2 : c ≤ maxLen) :
    Calls Try.prog 62 #[.slice a l.length c] w (RetP (NewPrs w.heap.size l) w) := by
  have hmk := make_prs l.length hlen
  unfold maxLen at hc2
  go_enter Try.func62, Try.ntmps62
  go_wp2_with fail
  go_loopw [4] (fun i wr => ∃ (k : Nat), k ≤ l.length ∧ i = .int .i64 k ∧ Hid (FillS PrAt 2 w w.heap.size l k wr)) (fun i _ => l.length - (intOf i).toNat)
  case atStart => exact ⟨0, Nat.zero_le _, rfl, hid ⟨below_alloc _ _, Nat.le_refl _, ⟨_, row_new (by rw [zerosP, size_madeCells]) _⟩, by omega⟩⟩
  case round =>
    obtain ⟨k, hk, rfl, hf⟩ := hrel
    by_cases hlt : k < l.length
    · obtain ⟨b, o, rfl, _, hb, a1, c1, ⟨g0, g1⟩, hT⟩ := SeqIn.at (PrsIn.below hl hf.out.1) hlt
      have HT := hid hT
      have ht := hid (List.getElem?_eq_getElem hlt)
      have HS := hid (hs l[k] (List.getElem_mem hlt))
      clear hT
      have hlt2 : (k : Int) < (l.length : Int) := by omega
      generalize l[k] = t at *
      go_wp2_with fail
      refine (toP_any t _ _ HT.out HS.out.1 HS.out.2).mono ?_
      rintro e w2 ⟨v, rfl, ⟨a3, c3, rfl, hn⟩, hby⟩
      have HF := hid (fillP_step hf.out ht.out hby hn)
      obtain ⟨_, _, ⟨g, hrow⟩, _⟩ := hf.out
      have hrow2 := hrow.below hby
      have q0 := hrow2.2.1 (k * 2) (by omega)
      have q1 := hrow2.2.1 (k * 2 + 1) (by omega)
      have qf := hrow2.2.2
      have ql := hrow2.1
      clear hrow hrow2 hby g0 g1 hf HT hn
      go_wp2_with fail
      go_roundw
      case rel => exact ⟨k + 1, by omega, by go_num, hid HF.out⟩
      case measure => simp [intOf]; omega
    · have hfin := hid (show NewPrs w.heap.size l (.slice (some ⟨w.heap.size, 0, none⟩) l.length l.length) wr from by
        obtain ⟨h1, h2, ⟨g, hr⟩, h4⟩ := hf.out
        refine ⟨_, _, rfl, Nat.le_refl _, by unfold maxLen; omega, ?_⟩
        by_cases h0 : l = []
        · exact .inl h0
        · refine .inr ⟨_, 0, rfl, ⟨Nat.le_refl _, hr.2.2⟩, hr.1, fun i t ht => ?_⟩
          rw [Nat.zero_add]
          exact (h4 i t (by have := (List.getElem?_eq_some_iff.1 ht).1; omega) ht).cells (Nat.le_refl _) (fun _ _ => rfl) fun b hb _ => ⟨hb.kept (by omega) rfl, rfl⟩)
      have hB := hid hf.out.1
      have hlt2 : ¬ ((k : Int) < (l.length : Int)) := by omega
      clear hf
      go_wp2_with fail
      go_ret
      exact RetP.mk hfin.out hB.out

set_option maxRecDepth 100000 in
set_option maxHeartbeats 2000000 in
theorem toS_any (s : Sy) (w : World) (x : Value) (hx : SyIn Any w s x) (hs : SmallS s) : Calls Try.prog 19 #[x] w (RetP (NewSy w.heap.size s) w) := by
  obtain ⟨a, c, b, d, rfl, hc, hc2, hi, hd, hd2, hp⟩ := hx
  have HG := hid (fun (w' : World) (M : Below w.heap.size w w') => toIntS_any s.init w' a c (hi.below M) hs.init hc hc2)
  have HV := hid (fun (w' : World) (M : Below w.heap.size w w') => toPs_any s.procs w' b d (hp.below M) hs.procs hs.edges hd hd2)
  have HI := hid hi.2
  have HL := hid (And.intro hs.init hs.procs)
  clear hi hp hs
  go_enter Try.func19, Try.ntmps19
  go_wp2_with fail
  refine (HG.out _ (by repeat (first | exact Below.refl _ _ | assumption | refine below_a ?_ _ | refine below_o ?_ _ | refine below_d ?_ | refine below_n ?_ _ | refine below_s ?_ (by first | (simp; done) | (simp; omega) | omega) _))).mono ?_
  rintro y w1 ⟨v1, rfl, ⟨rfl, r1⟩, hb⟩
  have b1 := box2_next hb (box2_next (below_alloc _ _) (box2_next (below_alloc _ _) (box2_at (w := w) (a := .slice a s.init.length c) (b := .slice b s.procs.length d) rfl)))
  have b2 := box2_next hb (box2_next (below_alloc _ _) (box2_at (B := w.heap.size + 1) (by simp)))
  have b3 := box2_next hb (box2_at (B := w.heap.size + 1 + 1) (by simp))
  have B := below_next (show Below w.heap.size w _ from below_next (below_next (below_alloc _ _) (below_alloc _ _)) (below_alloc _ _)) hb
  clear hb
  simp only [World.size_alloc] at r1
  obtain ⟨x0, x1, x2, x3, x4⟩ := id b1
  obtain ⟨y0, y1, y2, y3, y4⟩ := id b3
  go_wp2_with fail
  have M := But.set w1 (w.heap.size + 1 + 1) 0 (.slice (some ⟨w.heap.size + 1 + 1 + 1, 0, none⟩) s.init.length s.init.length)
  have b1' := box2_but M (show w.heap.size ≠ w.heap.size + 1 + 1 by omega) b1
  have b2' := box2_but M (show w.heap.size + 1 ≠ w.heap.size + 1 + 1 by omega) b2
  have b3' := box2_set0 b3 (.slice (some ⟨w.heap.size + 1 + 1 + 1, 0, none⟩) s.init.length s.init.length)
  have r1' := r1.setOther (a := ⟨w.heap.size + 1 + 1, 0, none⟩) (by simp) (.slice (some ⟨w.heap.size + 1 + 1 + 1, 0, none⟩) s.init.length s.init.length)
  have B' : Below w.heap.size w (w1.setCell ⟨w.heap.size + 1 + 1, 0, none⟩ (.slice (some ⟨w.heap.size + 1 + 1 + 1, 0, none⟩) s.init.length s.init.length)) := B.setCell (by simp; omega) _
  clear b1 b2 b3 r1 B M x0 x1 x2 x3 x4 y0 y1 y2 y3 y4
  refine (HV.out _ B').mono ?_
  rintro y w2 ⟨v2, rfl, ⟨a2, c2, rfl, hc4, hc5, hn2⟩, hb⟩
  have b2 := box2_next hb b2'
  have b3 := box2_next hb b3'
  have r1 := r1'.below hb
  have B := below_next B' hb
  have hlt := r1'.1
  have HN2 := hid hn2
  have hs2 := hb.size
  clear b1' b2' b3' r1' B' hb hn2
  simp only [World.size_setCell] at HN2 hlt hs2
  obtain ⟨x0, x1, x2, x3, x4⟩ := id b2
  obtain ⟨y0, y1, y2, y3, y4⟩ := id b3
  go_wp2_with fail
  have T := box2_set1 (box2_set0 (box2_but (But.set w2 (w.heap.size + 1 + 1) 1 (.slice a2 s.procs.length c2)) (show w.heap.size + 1 ≠ w.heap.size + 1 + 1 by omega) b2) (.slice (some ⟨w.heap.size + 1 + 1 + 1, 0, none⟩) s.init.length s.init.length)) (.slice a2 s.procs.length c2)
  obtain ⟨_, t0, t1, _, _⟩ := T
  refine bodyPost_ret (v := .agg #[.slice (some ⟨w.heap.size + 1 + 1 + 1, 0, none⟩) s.init.length s.init.length, .slice a2 s.procs.length c2]) (by simp [results, Try.results19, go_sem, t0, t1]) rfl ?_
  refine RetP.mk ⟨_, _, _, _, rfl, Nat.le_refl _, by have := HL.out.1; unfold maxLen; omega, ?_, hc4, hc5, PrsIn.keepFr HN2.out (by omega) (by simp) fun b h1 _ => keep_set3 (by first | (simp; done) | (simp; omega) | omega) (by first | (simp; done) | (simp; omega) | omega) (by first | (simp; done) | (simp; omega) | omega) _ _ _ b h1⟩ (((B.setCell (by simp; omega) _).setCell (by simp) _).setCell (by simp) _)
  have r2 := ((r1.setOther (a := ⟨w.heap.size + 1 + 1, 1, none⟩) (by simp) (.slice a2 s.procs.length c2)).setOther (a := ⟨w.heap.size + 1, 0, none⟩) (by simp; omega) (.slice (some ⟨w.heap.size + 1 + 1 + 1, 0, none⟩) s.init.length s.init.length)).setOther (a := ⟨w.heap.size + 1, 1, none⟩) (by simp; omega) (.slice a2 s.procs.length c2)
  exact r2.ints HI.out ⟨by omega, r2.2.2⟩
end Sys
end Go.Proofs.Ytchlpeflfiecdaa
namespace Go.Proofs.Ytchlpeflfiecdaa
open Go.RowKit
set_option linter.unusedVariables false
namespace Sys

set_option maxRecDepth 100000 in
set_option maxHeartbeats 2000000 in
theorem mkPs_any (p : Nat → Prop) (w : World) (hf : Free p w) (l : List Pr) (w0 : World) (a : Option Addr) (c : Nat) (k : Int) (hl : PrsIn p w l a) (hm : Marked p w w0) (hc : l.length ≤ c) (hc2 : c ≤ maxLen) (hk : 0 ≤ k) (hk2 : k + sumC mP l ≤ 4611686018427387904) :
    Calls Try.prog 70 #[.slice a l.length c, .int .i64 k] w0 (MkPost p w (k + sumC mP l)) := by
  unfold maxLen at hc2
  have HL := hid hl
  have HM := hid hm
  have HF := hid hf
  have HE := hid (fun es => mkEs_any p w hf es)
  clear hl hm hf
  go_enter Try.func70, Try.ntmps70
  go_wp2_with fail
  go_loopw [1, 5] (fun q i wr => ∃ (j : Nat) (m : Int), j ≤ l.length ∧ q = .int .i64 m ∧ i = .int .i64 j ∧ 0 ≤ m ∧ Hid (m + sumC mP (l.drop j) = k + sumC mP l) ∧ Hid (Marked p w wr)) (fun _ i _ => l.length - (intOf i).toNat)
  case atStart => exact ⟨0, k, Nat.zero_le _, rfl, rfl, hk, hid rfl, HM⟩
  case round =>
    obtain ⟨j, m, hj, rfl, rfl, hm, hsum, HMR⟩ := hrel
    by_cases hlt : j < l.length
    · obtain ⟨b, o, rfl, hpb, hb, a1, c1, ⟨g0, g1⟩, _, _, hsh, hq, h3, h4, he⟩ := SeqIn.at HL.out hlt
      simp only [Value.agg.injEq, Array.mk.injEq, List.cons.injEq, Value.slice.injEq, and_true, true_and] at hsh
      obtain ⟨rfl, rfl⟩ := hsh
      have hdr := List.drop_eq_getElem_cons hlt
      generalize l[j] = q at *
      have hs0 := hsum.out
      rw [hdr] at hs0
      simp only [sumC, mP] at hs0
      have hp1 := sumC_nonneg mE_nonneg q.edges
      have hp3 := sumC_nonneg mP_nonneg (l.drop (j + 1))
      have hbig : m + 1 + sumC mE q.edges ≤ 4611686018427387904 := by omega
      have HS := hid hs0
      have HQ := hid he
      obtain ⟨m0, r0⟩ := HMR.out.int g0
      have r1 := HMR.out.slice g1
      have rf : ∀ i, wr.frozen? ⟨b, i, none⟩ = false := fun i => by rw [HMR.out.frozen b i hb]; exact HF.out b hpb i
      have rl : b < wr.heap.size := Nat.lt_of_lt_of_le hb HMR.out.size
      have HM2 := hid (HMR.out.set hpb g0 m)
      have hlt2 : (j : Int) < (l.length : Int) := by omega
      clear hs0 hsum hdr g0 g1 HMR he
      go_wp2_with fail
      refine (HE.out q.edges _ a1 c1 (m + 1) HQ.out HM2.out h3 h4 (by omega) (by omega)).mono ?_
      rintro y w2 ⟨rfl, hm3⟩
      have HM3 := hid hm3
      clear hm3 r0 r1 rf rl HM2
      go_wp2_with fail
      go_roundw
      case rel => exact ⟨j + 1, m + 1 + sumC mE q.edges, by omega, rfl, by go_num, by omega, hid (by have := HS.out; omega), HM3⟩
      case measure => simp [intOf]; omega
    · have hlt2 : ¬ ((j : Int) < (l.length : Int)) := by omega
      have h1 := hsum.out
      rw [List.drop_of_length_le (by omega)] at h1
      simp only [sumC] at h1
      have hres := hid (show m = k + sumC mP l by omega)
      clear h1 hsum
      go_wp2_with fail
      go_ret
      exact ⟨congrArg (fun x => Ending.returned (Value.int .i64 x)) hres.out, HMR.out⟩

theorem Marked_trans {p : Nat → Prop} {a b c : World} (h : Marked p a b) (k : Marked p b c) : Marked p a c :=
  ⟨k.os.trans h.os, k.tape.trans h.tape, k.output.trans h.output, Nat.le_trans h.size k.size, fun x hx hn => (k.block x (Nat.lt_of_lt_of_le hx h.size) hn).trans (h.block x hx hn),
    fun x i hx => (k.frozen x i (Nat.lt_of_lt_of_le hx h.size)).trans (h.frozen x i hx), fun x i v hv => by
      rcases h.cell x i v hv with h1 | ⟨n, m, h1, h2⟩
      · exact k.cell x i v h1
      · subst h1
        obtain ⟨m2, h3⟩ := k.int h2
        exact .inr ⟨n, m2, rfl, h3⟩⟩
theorem box2_marked {p : Nat → Prop} {w w' : World} {B : Nat} {a b : Value} (h : Marked p w w') (hp : ¬ p B) (hb : Box2 w B a b) : Box2 w' B a b := box2_block h.size (h.block B hb.1 hp) hb

set_option maxHeartbeats 1000000 in
theorem mkS_any (p : Nat → Prop) (w : World) (hf : Free p w) (s : Sy) (x : Value) (k : Int) (hx : SyIn p w s x) (hp : ∀ b, p b → b < w.heap.size) (hk : 0 ≤ k) (hk2 : k + mS s ≤ 4611686018427387904) :
    Calls Try.prog 25 #[x, .int .i64 k] w (MkPost p w (k + mS s)) := by
  have HX := hid hx
  obtain ⟨a, c, b, d, rfl, _⟩ := hx
  have h1 := sumC_nonneg mP_nonneg s.procs
  have hms : mS s = s.init.length + sumC mP s.procs := rfl
  have HA := hid (show ∀ W, Below w.heap.size w W → ∃ a' c' b' d', Value.agg #[.slice a s.init.length c, .slice b s.procs.length d] = .agg #[.slice a' s.init.length c', .slice b' s.procs.length d'] ∧ s.init.length ≤ c' ∧ c' ≤ maxLen ∧ IntsIn p W a' s.init ∧ s.procs.length ≤ d' ∧ d' ≤ maxLen ∧ PrsIn p W s.procs b' from fun W M => HX.out.below M)
  have HB := hid (below_alloc w (.cells #[.slice a s.init.length c, .slice b s.procs.length d] 45))
  obtain ⟨WA, HWA⟩ : ∃ WA, Hid (WA = w.alloc (.cells #[.slice a s.init.length c, .slice b s.procs.length d] 45)) := ⟨_, hid rfl⟩
  have HFA := hid (show Free p WA from fun x hx i => by rw [HWA.out, HB.out.frozen (p := ⟨x, i, none⟩) (hp x hx)]; exact hf x hx i)
  obtain ⟨a', c', b', d', e0, hc, hc2, hi, hd, hd2, hps⟩ := HA.out WA (by rw [HWA.out]; exact HB.out)
  simp only [Value.agg.injEq, Array.mk.injEq, List.cons.injEq, Value.slice.injEq, and_true, true_and] at e0
  obtain ⟨⟨rfl, rfl⟩, rfl, rfl⟩ := e0
  have HI := hid (fun (w' : World) (M : Marked p WA w') => mkI_any p WA HFA.out s.init w' a c k hi M hc hc2 hk (by omega))
  have HP := hid (fun (w' : World) (M : Marked p WA w') => mkPs_any p WA HFA.out s.procs w' b d (k + s.init.length) hps M hd hd2 (by omega) (by omega))
  have BX := hid (show Box2 WA w.heap.size (.slice a s.init.length c) (.slice b s.procs.length d) by rw [HWA.out]; exact box2_at rfl)
  have HN := hid (fun h => Nat.lt_irrefl _ (hp w.heap.size h))
  have MA := hid (show Marked p w WA by rw [HWA.out]; exact (Marked.refl p w).below (below_alloc _ _))
  have E := hid (show k + s.init.length + sumC mP s.procs = k + mS s by omega)
  clear hi hps hms hf hp
  go_enter Try.func25, Try.ntmps25
  go_wp2_with fail
  refine (HI.out _ (by rw [HWA.out]; exact Marked.refl _ _)).mono ?_
  rintro y w1 ⟨rfl, hm⟩
  have HM := hid hm
  obtain ⟨p0, p1, p2, _⟩ := box2_marked hm HN.out BX.out
  clear hm
  go_wp2_with fail
  refine (HP.out _ HM.out).mono ?_
  rintro y w2 ⟨rfl, hm⟩
  have HM2 := hid (Marked_trans MA.out hm)
  clear hm
  go_wp2_with fail
  go_ret
  exact ⟨congrArg (fun x => Ending.returned (Value.int .i64 x)) E.out, HM2.out⟩
end Sys
end Go.Proofs.Ytchlpeflfiecdaa
namespace Go.Proofs.Ytchlpeflfiecdaa
open Go.RowKit

/-- which operations may come up, one behind the other; 'fre', 'twf': of those that wait for all reads -/
inductive Ord where
  | done
  | one (i : Nat) (r : Ord)
  | fre (i : Nat) (r : Ord)
  | two (i j : Nat) (r s : Ord)
  | twf (i j : Nat) (r s : Ord)
  | thr (i j k : Nat) (r s t : Ord)

section
variable {P : Program} {ops : Array Oper} {Q : Exit → Act → World → Prop} {md : Region.Mode} {C : World → Prop} {Z : List Nat}

/-- whatever order is picked; C holds behind each operation but those of Z -/
def AnyZ (P : Program) (md : Region.Mode) (ops : Array Oper) (Q : Exit → Act → World → Prop) (C : World → Prop) (Z : List Nat) : Nat → Array Bool → Act → World → Prop
  | 0, listed, a, w => Region.ready md ops listed = [] ∧ Q .normal a w
  | n + 1, listed, a, w => (Region.ready md ops listed = [] → Q .normal a w) ∧ ∀ i, i ∈ Region.ready md ops listed →
      wpOp P ops Q i (fun a' w' => (Z.contains i = false → C w') ∧ AnyZ P md ops Q C Z n (listed.setIfInBounds i true) a' w') a w

theorem AnyZ.sound : ∀ (n : Nat) (listed : Array Bool) (a : Act) (w : World), AnyZ P md ops Q C Z n listed a w → wpAny P md ops Q n listed a w
  | 0, _, _, _, h => h
  | n + 1, _, _, _, h => ⟨h.1, fun i hi => wpOp_mono (fun a' w' h' => AnyZ.sound n _ a' w' h'.2) (h.2 i hi)⟩

/-- all operations of Z wait for operation i -/
def waitsZ (md : Region.Mode) (ops : Array Oper) (Z : List Nat) (i : Nat) : Bool := Z.all fun z => waits md ops z i

theorem AnyZ.take {i : Nat} {o : Oper} {v : Value} (hi : ops[i]? = some o) (hsel : Region.noSelect ops = true) (hQ : ∀ c a w, Q (.panic c) (a.put o.dst v) w → Q (.panic c) a w) (hz : waitsZ md ops Z i = true) :
    ∀ (n : Nat) (listed : Array Bool) (a : Act) (w : World),
      (∀ j oj, ops[j]? = some oj → j ≠ i → listed.getD j true = false → (∀ e ∈ oj.after, Region.binds md e = true → e.on ≠ i) → o.apart ops oj = true) →
      i ∈ Region.ready md ops listed → YieldsIf P ops C o v a → C w → AnyZ P md ops Q C Z n (listed.setIfInBounds i true) (a.put o.dst v) w → AnyZ P md ops Q C Z (n + 1) listed a w := by
  intro n
  induction n with
  | zero =>
    intro listed a w _ hr hy hC H
    refine ⟨fun h => by (rw [h] at hr; cases hr), fun j hj => ?_⟩
    by_cases e : j = i
    · subst e; exact hy.wpOp hi hC ⟨fun _ => hC, H⟩
    · have h1 := ready_mono hj e
      rw [H.1] at h1; cases h1
  | succ n ih =>
    intro listed a w hfree hr hy hC H
    refine ⟨fun h => by (rw [h] at hr; cases hr), fun j hj => ?_⟩
    by_cases e : j = i
    · subst e; exact hy.wpOp hi hC ⟨fun _ => hC, H⟩
    · have h1 := H.2 j (ready_mono hj e)
      obtain ⟨hun, oj, hoj, hall⟩ := mem_ready.1 hj
      have hno : ∀ x ∈ oj.after, Region.binds md x = true → x.on ≠ i := fun x hx hb he => by
        have h2 := hall x hx hb
        have h3 := (mem_ready.1 hr).1
        rw [he] at h2
        rcases Nat.lt_or_ge i listed.size with h4 | h4
        · simp [h4] at h2 h3; rw [h3] at h2; cases h2
        · simp [Array.getElem?_eq_none h4] at h2
      have hjz : Z.contains j = false := by
        cases hjz : Z.contains j with
        | false => rfl
        | true =>
          exfalso
          unfold waitsZ at hz
          rw [List.all_eq_true] at hz
          have hz := hz j (by simpa using hjz)
          unfold waits at hz
          rw [hoj] at hz
          simp only [Option.map_some, Option.getD_some, Array.any_eq_true] at hz
          obtain ⟨k, hk, hz⟩ := hz
          simp only [Bool.and_eq_true, beq_iff_eq] at hz
          exact hno _ (Array.getElem_mem hk) hz.1 hz.2
      have h5 := wpOp_putIf hoj (hfree j oj hoj e hun hno) (fun cs b => Region.noSelect_spec hsel i o cs b hi) (fun cs b => Region.noSelect_spec hsel j oj cs b hoj) hQ hy h1
      have hri := ready_mono (md := md) hr (Ne.symm e)
      refine wpOp_mono (fun a' w' h6 => ?_) h5
      have hCw : C w' := h6.2.1 hjz
      exact ⟨fun _ => hCw, ih (listed.setIfInBounds j true) a' w' (fun k ok hk hki hu hnk => hfree k ok hk hki (by
          by_cases hjk : j = k
          · subst hjk; exact hun
          · rw [getD_set_ne true hjk] at hu; exact hu) hnk) hri h6.1 hCw (by rw [Array.setIfInBounds_comm _ _ e]; exact h6.2.2)⟩

/-- an operation that only reads: a plain one, or 'len' -/
def lenOp (o : Oper) : Bool := match o.op with
  | .call { callee := .builtin .len, .. } => true
  | _ => false
theorem len_value {o : Oper} (h : lenOp o = true) {ρ : Operand → Value} {w w' : World} {n : Next} (hr : Sem.run P (execOp ρ o) w = .ok n w') : ∃ u, n = .value u := by
  obtain ⟨dst, op, ty, pos, after, guard⟩ := o
  unfold lenOp at h
  split at h
  · rename_i c1 c2 hop
    dsimp only at hop
    subst hop
    unfold execOp at hr
    simp only [resolve, invoke, builtin, Sem.run_bind, Sem.run_pure, Result.andThen_ok] at hr
    generalize Sem.run P (Builtin.len_ c2 ty (Array.map ρ c1)) w = rr at hr
    cases rr with
    | ok v w1 => simp [Result.andThen] at hr; exact ⟨v, hr.1.symm⟩
    | halt h w1 => simp [Result.andThen] at hr
  · cases h
theorem plain2_value {o : Oper} (h : (plainOp o || lenOp o) = true) {ρ : Operand → Value} {w w' : World} {n : Next} (hr : Sem.run P (execOp ρ o) w = .ok n w') : ∃ u, n = .value u := by
  rw [Bool.or_eq_true] at h
  rcases h with h | h
  · exact plain_value h hr
  · exact len_value h hr
/-- each of these may be taken first, one behind the other -/
def preZ (md : Region.Mode) (l : List Oper) (Z : List Nat) : List Nat → Array Bool → Bool
  | [], _ => true
  | i :: r, listed => (Region.ready md l.toArray listed).contains i && (Region.free md l.toArray listed i && (waitsZ md l.toArray Z i && (((l[i]?).map fun o => plainOp o || lenOp o).getD false && preZ md l Z r (listed.setIfInBounds i true))))
theorem AnyZ.pre {l : List Oper} {n : Nat} {w : World} (hsel : Region.noSelect l.toArray = true) (hQ : ∀ d v c a w, Q (.panic c) (Act.put a d v) w → Q (.panic c) a w) (hC : C w) :
    ∀ (I : List Nat) (listed : Array Bool) (a : Act), preZ md l Z I listed = true → wpQuiet P l.toArray C (fun a' => AnyZ P md l.toArray Q C Z n (marked I listed) a' w) (pick l I) a → AnyZ P md l.toArray Q C Z (n + I.length) listed a w := by
  intro I
  induction I with
  | nil => intro listed a _ h; exact h
  | cons i r ih =>
    intro listed a hB h
    simp only [preZ, Bool.and_eq_true] at hB
    obtain ⟨h1, h2, h3, h4, h5⟩ := hB
    cases ho : l[i]? with
    | none => rw [ho] at h4; simp at h4
    | some o =>
      rw [ho] at h4
      simp only [Option.map_some, Option.getD_some] at h4
      rw [pick_cons ho] at h
      have hoa : l.toArray[i]? = some o := by simpa using ho
      unfold wpQuiet at h
      have hgo : ∀ v, YieldsIf P l.toArray C o v a → wpQuiet P l.toArray C (fun a' => AnyZ P md l.toArray Q C Z n (marked r (listed.setIfInBounds i true)) a' w) (pick l r) (a.put o.dst v) → AnyZ P md l.toArray Q C Z (n + (i :: r).length) listed a w := fun v hy hr =>
        AnyZ.take hoa hsel (fun c a w => hQ _ _ c a w) h3 _ listed a w (Region.free_spec hoa h2) (by simpa using h1) hy hC (ih _ _ h5 hr)
      split at h
      · rename_i hw
        obtain ⟨v, hv, hr⟩ := h
        refine hgo v (.inl ⟨hw, fun w1 hw1 => ?_⟩) hr
        have hq := hv w1 hw1
        unfold Oper.quietAt at hq
        cases hrun : Sem.run P (execOp a.eval o) w1 with
        | ok nx w2 =>
          obtain ⟨u, rfl⟩ := plain2_value h4 hrun
          rw [hrun] at hq
          simp only [Oper.quietUpon] at hq
          rw [hq.1, hq.2]
        | halt hh w2 => rw [hrun] at hq; simp only [Oper.quietUpon] at hq
      · rename_i hw
        exact hgo undef (.inr ⟨by simpa using hw, rfl⟩) h


/-- these orders, and no others -/
def ordB (md : Region.Mode) (l : List Oper) (Z : List Nat) : Ord → Array Bool → Bool
  | .done, listed => (Region.ready md l.toArray listed).isEmpty
  | .one i r, listed => (Region.ready md l.toArray listed) == [i] && ((l[i]?).isSome && ordB md l Z r (listed.setIfInBounds i true))
  | .fre i r, listed => (Region.ready md l.toArray listed) == [i] && ((l[i]?).isSome && (Z.contains i && ordB md l Z r (listed.setIfInBounds i true)))
  | .two i j r s, listed => (Region.ready md l.toArray listed) == [i, j] && ((l[i]?).isSome && ((l[j]?).isSome && (ordB md l Z r (listed.setIfInBounds i true) && ordB md l Z s (listed.setIfInBounds j true))))
  | .twf i j r s, listed => (Region.ready md l.toArray listed) == [i, j] && ((l[i]?).isSome && ((l[j]?).isSome && (Z.contains i && (Z.contains j && (ordB md l Z r (listed.setIfInBounds i true) && ordB md l Z s (listed.setIfInBounds j true))))))
  | .thr i j k r s t, listed => (Region.ready md l.toArray listed) == [i, j, k] && ((l[i]?).isSome && ((l[j]?).isSome && ((l[k]?).isSome && (ordB md l Z r (listed.setIfInBounds i true) && (ordB md l Z s (listed.setIfInBounds j true) && ordB md l Z t (listed.setIfInBounds k true))))))
def Ord.len : Ord → Nat
  | .done => 0
  | .one _ r => r.len + 1
  | .fre _ r => r.len + 1
  | .two _ _ r _ => r.len + 1
  | .twf _ _ r _ => r.len + 1
  | .thr _ _ _ r _ _ => r.len + 1
/-- both ways are equally long -/
def Ord.even : Ord → Bool
  | .done => true
  | .one _ r => r.even
  | .fre _ r => r.even
  | .two _ _ r s => r.len == s.len && (r.even && s.even)
  | .twf _ _ r s => r.len == s.len && (r.even && s.even)
  | .thr _ _ _ r s t => r.len == s.len && (r.len == t.len && (r.even && (s.even && t.even)))

/-- each order, an operation at a time; C is shown behind each that does not wait for all reads -/
def ordW (P : Program) (ops : Array Oper) (Q : Exit → Act → World → Prop) (C : World → Prop) (l : List Oper) : Ord → Act → World → Prop
  | .done, a, w => Q .normal a w
  | .one i r, a, w => wpList P ops (Exit.then (fun a' w' => C w' ∧ ordW P ops Q C l r a' w') Q) (pick l [i]) a w
  | .fre i r, a, w => wpList P ops (Exit.then (fun a' w' => ordW P ops Q C l r a' w') Q) (pick l [i]) a w
  | .two i j r s, a, w => wpList P ops (Exit.then (fun a' w' => C w' ∧ ordW P ops Q C l r a' w') Q) (pick l [i]) a w ∧ wpList P ops (Exit.then (fun a' w' => C w' ∧ ordW P ops Q C l s a' w') Q) (pick l [j]) a w
  | .twf i j r s, a, w => wpList P ops (Exit.then (fun a' w' => ordW P ops Q C l r a' w') Q) (pick l [i]) a w ∧ wpList P ops (Exit.then (fun a' w' => ordW P ops Q C l s a' w') Q) (pick l [j]) a w
  | .thr i j k r s t, a, w => wpList P ops (Exit.then (fun a' w' => C w' ∧ ordW P ops Q C l r a' w') Q) (pick l [i]) a w ∧ wpList P ops (Exit.then (fun a' w' => C w' ∧ ordW P ops Q C l s a' w') Q) (pick l [j]) a w ∧ wpList P ops (Exit.then (fun a' w' => C w' ∧ ordW P ops Q C l t a' w') Q) (pick l [k]) a w

theorem pick_one {l : List Oper} {i : Nat} {o : Oper} (h : l[i]? = some o) : pick l [i] = [o] := by simp [pick, h]

theorem AnyZ.ord {l : List Oper} : ∀ (T : Ord) (listed : Array Bool) (a : Act) (w : World), ordB md l Z T listed = true → T.even = true → ordW P l.toArray Q C l T a w → AnyZ P md l.toArray Q C Z T.len listed a w := by
  intro T
  induction T with
  | done => intro listed a w h _ hw; exact ⟨List.isEmpty_iff.1 h, hw⟩
  | one i r ih =>
    intro listed a w hB he h
    simp only [ordB, Bool.and_eq_true, beq_iff_eq] at hB
    obtain ⟨h1, h2, h3⟩ := hB
    obtain ⟨o, ho⟩ := Option.isSome_iff_exists.1 h2
    have hoa : l.toArray[i]? = some o := by simpa using ho
    rw [ordW, pick_one ho] at h
    refine ⟨fun hn => by (rw [h1] at hn; cases hn), fun j hj => ?_⟩
    rw [h1] at hj
    obtain rfl : j = i := by simpa using hj
    exact wpOp_mono (fun a' w' hq => ⟨fun _ => hq.1, ih _ a' w' h3 he hq.2⟩) (op_then hoa h)
  | fre i r ih =>
    intro listed a w hB he h
    simp only [ordB, Bool.and_eq_true, beq_iff_eq] at hB
    obtain ⟨h1, h2, h4, h3⟩ := hB
    obtain ⟨o, ho⟩ := Option.isSome_iff_exists.1 h2
    have hoa : l.toArray[i]? = some o := by simpa using ho
    rw [ordW, pick_one ho] at h
    refine ⟨fun hn => by (rw [h1] at hn; cases hn), fun j hj => ?_⟩
    rw [h1] at hj
    obtain rfl : j = i := by simpa using hj
    exact wpOp_mono (fun a' w' hq => ⟨fun hc => (by rw [h4] at hc; cases hc), ih _ a' w' h3 he hq⟩) (op_then hoa h)
  | two i j r s ihr ihs =>
    intro listed a w hB he h
    simp only [ordB, Bool.and_eq_true, beq_iff_eq] at hB
    obtain ⟨h1, h2, h3, h4, h5⟩ := hB
    simp only [Ord.even, Bool.and_eq_true, beq_iff_eq] at he
    obtain ⟨e1, e2, e3⟩ := he
    obtain ⟨o, ho⟩ := Option.isSome_iff_exists.1 h2
    obtain ⟨o', ho'⟩ := Option.isSome_iff_exists.1 h3
    have hoa : l.toArray[i]? = some o := by simpa using ho
    have hoa' : l.toArray[j]? = some o' := by simpa using ho'
    rw [ordW, pick_one ho, pick_one ho'] at h
    refine ⟨fun hn => by (rw [h1] at hn; cases hn), fun k hk => ?_⟩
    rw [h1] at hk
    have hk2 : k = i ∨ k = j := by simpa using hk
    rcases hk2 with rfl | rfl
    · exact wpOp_mono (fun a' w' hq => ⟨fun _ => hq.1, ihr _ a' w' h4 e2 hq.2⟩) (op_then hoa h.1)
    · exact wpOp_mono (fun a' w' hq => ⟨fun _ => hq.1, by rw [e1]; exact ihs _ a' w' h5 e3 hq.2⟩) (op_then hoa' h.2)
  | twf i j r s ihr ihs =>
    intro listed a w hB he h
    simp only [ordB, Bool.and_eq_true, beq_iff_eq] at hB
    obtain ⟨h1, h2, h3, z1, z2, h4, h5⟩ := hB
    simp only [Ord.even, Bool.and_eq_true, beq_iff_eq] at he
    obtain ⟨e1, e2, e3⟩ := he
    obtain ⟨o, ho⟩ := Option.isSome_iff_exists.1 h2
    obtain ⟨o', ho'⟩ := Option.isSome_iff_exists.1 h3
    have hoa : l.toArray[i]? = some o := by simpa using ho
    have hoa' : l.toArray[j]? = some o' := by simpa using ho'
    rw [ordW, pick_one ho, pick_one ho'] at h
    refine ⟨fun hn => by (rw [h1] at hn; cases hn), fun k hk => ?_⟩
    rw [h1] at hk
    have hk2 : k = i ∨ k = j := by simpa using hk
    rcases hk2 with rfl | rfl
    · exact wpOp_mono (fun a' w' hq => ⟨fun hc => (by rw [z1] at hc; cases hc), ihr _ a' w' h4 e2 hq⟩) (op_then hoa h.1)
    · exact wpOp_mono (fun a' w' hq => ⟨fun hc => (by rw [z2] at hc; cases hc), by rw [e1]; exact ihs _ a' w' h5 e3 hq⟩) (op_then hoa' h.2)
  | thr i j k r s t ihr ihs iht =>
    intro listed a w hB he h
    simp only [ordB, Bool.and_eq_true, beq_iff_eq] at hB
    obtain ⟨h1, h2, h3, h3', h4, h5, h6⟩ := hB
    simp only [Ord.even, Bool.and_eq_true, beq_iff_eq] at he
    obtain ⟨e1, e1', e2, e3, e4⟩ := he
    obtain ⟨o, ho⟩ := Option.isSome_iff_exists.1 h2
    obtain ⟨o', ho'⟩ := Option.isSome_iff_exists.1 h3
    obtain ⟨o2, ho2⟩ := Option.isSome_iff_exists.1 h3'
    have hoa : l.toArray[i]? = some o := by simpa using ho
    have hoa' : l.toArray[j]? = some o' := by simpa using ho'
    have hoa2 : l.toArray[k]? = some o2 := by simpa using ho2
    rw [ordW, pick_one ho, pick_one ho', pick_one ho2] at h
    refine ⟨fun hn => by (rw [h1] at hn; cases hn), fun m hk => ?_⟩
    rw [h1] at hk
    have hk2 : m = i ∨ m = j ∨ m = k := by simpa using hk
    rcases hk2 with rfl | rfl | rfl
    · exact wpOp_mono (fun a' w' hq => ⟨fun _ => hq.1, ihr _ a' w' h4 e2 hq.2⟩) (op_then hoa h.1)
    · exact wpOp_mono (fun a' w' hq => ⟨fun _ => hq.1, by rw [e1]; exact ihs _ a' w' h5 e3 hq.2⟩) (op_then hoa' h.2.1)
    · exact wpOp_mono (fun a' w' hq => ⟨fun _ => hq.1, by rw [e1']; exact iht _ a' w' h6 e4 hq.2⟩) (op_then hoa2 h.2.2)

/-- **A REGION THAT DRAWS: ITS READS FIRST (I), THEN ONE OF A FEW ORDERS (T)**; Z: the operations that wait for all reads -/
theorem wp_region_ord {id : Nat} {a : Act} {w : World} {l : List Oper} (I : List Nat) (T : Ord) (Z : List Nat) (hm : P.follows .mixedOrders = true)
    (hB : (Region.noSelect l.toArray && (preZ .any l Z I (Array.replicate l.length false) && (ordB .any l Z T (marked I (Array.replicate l.length false)) && (T.even && decide (T.len + I.length = l.length))))) = true)
    (hQ : ∀ d v c a w, Q (.panic c) (Act.put a d v) w → Q (.panic c) a w) (hC : C w.drew)
    (h : wpQuiet P l.toArray C (fun a' => ordW P l.toArray Q C l T a' w.drew) (pick l I) a) : (Code.region id l.toArray true).wp P Q a w := by
  simp only [Bool.and_eq_true, decide_eq_true_eq] at hB
  obtain ⟨h1, h2, h3, h4, h5⟩ := hB
  refine wp_region_any hm (AnyZ.sound (C := C) (Z := Z) _ _ _ _ ?_)
  have := AnyZ.pre (n := T.len) h1 hQ hC I _ a h2 (wpQuiet_mono' (fun a' ha => AnyZ.ord T _ a' _ h3 h4 ha) _ _ h)
  rw [h5] at this
  simpa using this
end
end Go.Proofs.Ytchlpeflfiecdaa
namespace Go.Proofs.Ytchlpeflfiecdaa
open Go.RowKit
set_option linter.unusedVariables false
namespace Sys

def eqEs : List Ed → List Ed → Bool := eqG Edge.eqE
def eqP (p q : Pr) : Bool := decide (p.locs = q.locs) && eqEs p.edges q.edges
def eqPs : List Pr → List Pr → Bool := eqG eqP
def eqS (s t : Sy) : Bool := (s.init == t.init) && eqPs s.procs t.procs
theorem eqEs_true (l m : List Ed) : eqEs l m = true ↔ l = m := eqG_true Edge.eqE_true l m
theorem eqP_true (p q : Pr) : eqP p q = true ↔ p = q := by
  cases p; cases q
  simp [eqP, eqEs_true]
theorem eqS_true (s t : Sy) : eqS s t = true ↔ s = t := by
  cases s; cases t
  simp [eqS, eqPs, eqG_true eqP_true]
theorem eqS_refl (s : Sy) : eqS s s = true := (eqS_true s s).2 rfl

set_option maxRecDepth 100000 in
set_option maxHeartbeats 2000000 in
theorem eqEs_any (l m : List Ed) (w : World) (a a' : Option Addr) (c c' : Nat) (hl : EdsIn Any w l a) (hm : EdsIn Any w m a') (hc : l.length ≤ c) (hc2 : c ≤ maxLen) (hc' : m.length ≤ c') (hc2' : c' ≤ maxLen) :
    Calls Try.prog 103 #[.slice a l.length c, .slice a' m.length c'] w (Ret (.bool (eqEs l m)) w) := by
  unfold maxLen at hc2 hc2'
  by_cases hn : l.length = m.length
  · have hn1 : l.length ≤ m.length := by omega
    have hn2 : m.length ≤ l.length := by omega
    have h3 : ((l.length : Int) != (m.length : Int)) = false := by rw [bne_eq_false_iff_eq]; omega
    clear hn
    go_enter Try.func103, Try.ntmps103
    go_wp2_with fail
    go_loopw [5] (fun i wr => ∃ k : Nat, k ≤ l.length ∧ i = .int .i64 k ∧ Below w.heap.size w wr ∧ Hid (eqG Edge.eqE (l.drop k) (m.drop k) = eqEs l m)) (fun i _ => l.length - (intOf i).toNat)
    case atStart => exact ⟨0, Nat.zero_le _, rfl, Below.refl _ _, hid rfl⟩
    case round =>
      obtain ⟨k, hk, rfl, B, hr⟩ := hrel
      by_cases hlt : k < l.length
      · have hltm : k < m.length := by omega
        obtain ⟨b, o, rfl, _, hb, a1, c1, a2, c2, ⟨g0, g1, g2, g3, g4, g5, g6, g7, g8, g9⟩, hT⟩ := SeqIn.at (EdsIn.below hl B) hlt
        obtain ⟨b', o', rfl, _, hb', a1', c1', a2', c2', ⟨f0, f1, f2, f3, f4, f5, f6, f7, f8, f9⟩, hU⟩ := SeqIn.at (EdsIn.below hm B) hltm
        have HR2 := hid (show eqEs l m = (Edge.eqE l[k] m[k] && eqG Edge.eqE (l.drop (k + 1)) (m.drop (k + 1))) from eqG_drop hlt hltm hr.out)
        have HT := hid hT
        have HU := hid hU
        clear hT hU hr
        have hlt2 : (k : Int) < (l.length : Int) := by omega
        have hlt3 : (k : Int) < (m.length : Int) := by omega
        generalize l[k] = t at *
        generalize m[k] = u at *
        go_wp2_with fail
        refine wp_region_over (by kernel_rfl) (by kernel_rfl) ?_; (repeat (go_big_quiet_step ((go_at_call 16; exact Calls.over (Edge.eq_any t u _ _ _ (EdIn_below (over_below _ _) HT.out) (EdIn_below (over_below _ _) HU.out)))))); refine wpQuiet_nil ?_; rintro _ ⟨xq, rfl⟩
        have hbd := below_next B (over_below wr xq)
        clear g0 g1 g2 g3 g4 g5 g6 g7 g8 g9 f0 f1 f2 f3 f4 f5 f6 f7 f8 f9
        cases hq : Edge.eqE t u with
        | true =>
          have HR3 := HR2.out
          rw [hq, Bool.true_and] at HR3
          have HR4 := hid HR3.symm; clear HR3 hq
          go_wp2_with fail
          go_roundw
          case rel => exact ⟨k + 1, by omega, by go_num, hbd, HR4⟩
          case measure => simp [intOf]; omega
        | false =>
          have HR3 := HR2.out
          rw [hq, Bool.false_and] at HR3
          have HR4 := hid HR3; clear HR3 hq
          go_wp2_with fail
          go_ret
          exact Ret.mk (bool_val HR4.out.symm) hbd
      · have hr2 := hr.out
        rw [List.drop_of_length_le (by omega), List.drop_of_length_le (by omega)] at hr2
        have HR2 := hid (show true = eqEs l m from hr2); clear hr2
        have hlt2 : ¬ ((k : Int) < (l.length : Int)) := by omega
        go_wp2_with fail
        go_ret
        exact Ret.mk (bool_val HR2.out) B
  · have E1 := hid (eqG_len Edge.eqE l m hn)
    have h3 : ((l.length : Int) != (m.length : Int)) = true := by rw [bne_iff_ne]; omega
    go_enter Try.func103, Try.ntmps103
    go_wp2_with fail
    go_ret
    exact Ret.mk (bool_val E1.out.symm) (Below.refl _ _)

set_option maxHeartbeats 1000000 in
theorem eqP_any (p q : Pr) (w : World) (x y : Value) (hx : PrIn Any w p x) (hy : PrIn Any w q y) : Calls Try.prog 91 #[x, y] w (Ret (.bool (eqP p q)) w) := by
  obtain ⟨a, c, rfl, _, hc, hc2, he⟩ := hx
  obtain ⟨a', c', rfl, _, hc', hc2', he'⟩ := hy
  have HE := hid (fun (w' : World) (M : Below w.heap.size w w') => eqEs_any p.edges q.edges w' a a' c c' (he.below M) (he'.below M) hc hc2 hc' hc2')
  have E := hid (show eqP p q = (decide (p.locs = q.locs) && eqEs p.edges q.edges) from rfl)
  generalize eqEs p.edges q.edges = g at *
  by_cases k1 : p.locs = q.locs
  · have e1 : (p.locs != q.locs) = false := by simpa using k1
    have E2 := hid (show eqP p q = g by rw [E.out, decide_eq_true k1, Bool.true_and])
    clear k1
    go_enter Try.func91, Try.ntmps91
    go_wp2_with fail
    refine (HE.out _ (by repeat (first | exact Below.refl _ _ | assumption | refine below_a ?_ _ | refine below_o ?_ _ | refine below_d ?_ | refine below_n ?_ _ | refine below_s ?_ (by first | (simp; done) | (simp; omega) | omega) _))).mono ?_
    rintro y w1 ⟨rfl, hb⟩
    have B := below_next (show Below w.heap.size w _ from below_next (below_alloc _ _) (below_alloc _ _)) hb
    cases g
    all_goals
      go_wp2_with fail
      go_ret
      exact Ret.mk (bool_val E2.out.symm) B
  · have e1 : (p.locs != q.locs) = true := by simpa using k1
    have E2 := hid (show eqP p q = false by rw [E.out, decide_eq_false k1, Bool.false_and])
    clear k1
    go_enter Try.func91, Try.ntmps91
    go_wp2_with fail
    go_ret
    exact Ret.mk (bool_val E2.out.symm) (by repeat (first | exact Below.refl _ _ | assumption | refine below_a ?_ _ | refine below_o ?_ _ | refine below_d ?_ | refine below_n ?_ _ | refine below_s ?_ (by first | (simp; done) | (simp; omega) | omega) _))

set_option maxHeartbeats 2000000 in
theorem eqPs_any (l m : List Pr) (w : World) (a a' : Option Addr) (c c' : Nat) (hl : PrsIn Any w l a) (hm : PrsIn Any w m a') (hc : l.length ≤ c) (hc2 : c ≤ maxLen) (hc' : m.length ≤ c') (hc2' : c' ≤ maxLen) :
    Calls Try.prog 67 #[.slice a l.length c, .slice a' m.length c'] w (Ret (.bool (eqPs l m)) w) := by
  unfold maxLen at hc2 hc2'
  by_cases hn : l.length = m.length
  · have hn1 : l.length ≤ m.length := by omega
    have hn2 : m.length ≤ l.length := by omega
    have h3 : ((l.length : Int) != (m.length : Int)) = false := by rw [bne_eq_false_iff_eq]; omega
    clear hn
    go_enter Try.func67, Try.ntmps67
    go_wp2_with fail
    go_loopw [5] (fun i wr => ∃ k : Nat, k ≤ l.length ∧ i = .int .i64 k ∧ Below w.heap.size w wr ∧ Hid (eqG eqP (l.drop k) (m.drop k) = eqPs l m)) (fun i _ => l.length - (intOf i).toNat)
    case atStart => exact ⟨0, Nat.zero_le _, rfl, Below.refl _ _, hid rfl⟩
    case round =>
      obtain ⟨k, hk, rfl, B, hr⟩ := hrel
      by_cases hlt : k < l.length
      · have hltm : k < m.length := by omega
        obtain ⟨b, o, rfl, _, hb, a1, c1, ⟨g0, g1⟩, hT⟩ := SeqIn.at (PrsIn.below hl B) hlt
        obtain ⟨b', o', rfl, _, hb', a1', c1', ⟨f0, f1⟩, hU⟩ := SeqIn.at (PrsIn.below hm B) hltm
        have HR2 := hid (show eqPs l m = (eqP l[k] m[k] && eqG eqP (l.drop (k + 1)) (m.drop (k + 1))) from eqG_drop hlt hltm hr.out)
        have HT := hid hT
        have HU := hid hU
        clear hT hU hr
        have hlt2 : (k : Int) < (l.length : Int) := by omega
        have hlt3 : (k : Int) < (m.length : Int) := by omega
        generalize l[k] = t at *
        generalize m[k] = u at *
        go_wp2_with fail
        refine wp_region_over (by kernel_rfl) (by kernel_rfl) ?_; (repeat (go_big_quiet_step ((go_at_call 91; exact Calls.over (eqP_any t u _ _ _ (PrIn.below HT.out (over_below _ _)) (PrIn.below HU.out (over_below _ _))))))); refine wpQuiet_nil ?_; rintro _ ⟨xq, rfl⟩
        have hbd := below_next B (over_below wr xq)
        clear g0 g1 f0 f1
        cases hq : eqP t u with
        | true =>
          have HR3 := HR2.out
          rw [hq, Bool.true_and] at HR3
          have HR4 := hid HR3.symm; clear HR3 hq
          go_wp2_with fail
          go_roundw
          case rel => exact ⟨k + 1, by omega, by go_num, hbd, HR4⟩
          case measure => simp [intOf]; omega
        | false =>
          have HR3 := HR2.out
          rw [hq, Bool.false_and] at HR3
          have HR4 := hid HR3; clear HR3 hq
          go_wp2_with fail
          go_ret
          exact Ret.mk (bool_val HR4.out.symm) hbd
      · have hr2 := hr.out
        rw [List.drop_of_length_le (by omega), List.drop_of_length_le (by omega)] at hr2
        have HR2 := hid (show true = eqPs l m from hr2); clear hr2
        have hlt2 : ¬ ((k : Int) < (l.length : Int)) := by omega
        go_wp2_with fail
        go_ret
        exact Ret.mk (bool_val HR2.out) B
  · have E1 := hid (eqG_len eqP l m hn)
    have h3 : ((l.length : Int) != (m.length : Int)) = true := by rw [bne_iff_ne]; omega
    go_enter Try.func67, Try.ntmps67
    go_wp2_with fail
    go_ret
    exact Ret.mk (bool_val E1.out.symm) (Below.refl _ _)

set_option maxHeartbeats 1000000 in
theorem eqS_any (s t : Sy) (w : World) (x y : Value) (hx : SyIn Any w s x) (hy : SyIn Any w t y) : Calls Try.prog 21 #[x, y] w (Ret (.bool (eqS s t)) w) := by
  obtain ⟨a, c, b, d, rfl, hc, hc2, hi, hd, hd2, hp⟩ := hx
  obtain ⟨a', c', b', d', rfl, hc', hc2', hi', hd', hd2', hp'⟩ := hy
  have HG := hid (fun (w' : World) (M : Below w.heap.size w w') => eqIntS_any s.init t.init w' a a' c c' (hi.below M) (hi'.below M) hc hc2 hc' hc2')
  have HV := hid (fun (w' : World) (M : Below w.heap.size w w') => eqPs_any s.procs t.procs w' b b' d d' (hp.below M) (hp'.below M) hd hd2 hd' hd2')
  have E := hid (show eqS s t = ((s.init == t.init) && eqPs s.procs t.procs) from rfl)
  generalize (s.init == t.init) = g at *
  generalize eqPs s.procs t.procs = v at *
  go_enter Try.func21, Try.ntmps21
  go_wp2_with fail
  refine (HG.out _ (by repeat (first | exact Below.refl _ _ | assumption | refine below_a ?_ _ | refine below_o ?_ _ | refine below_d ?_ | refine below_n ?_ _ | refine below_s ?_ (by first | (simp; done) | (simp; omega) | omega) _))).mono ?_
  rintro y w1 ⟨rfl, hb⟩
  obtain ⟨z, q0, q1, q2, q3⟩ := box2_next hb (box2_next (below_alloc _ _) (box2_at rfl))
  obtain ⟨z', r0, r1, r2, r3⟩ := box2_next hb (box2_at (B := w.heap.size + 1) (by simp))
  have B := below_next (show Below w.heap.size w _ from below_next (below_alloc _ _) (below_alloc _ _)) hb
  clear hb
  cases g
  · have E2 := hid (show eqS s t = false by rw [E.out]; rfl)
    go_wp2_with fail
    go_ret
    exact Ret.mk (bool_val E2.out.symm) B
  · have E2 := hid (show eqS s t = v by rw [E.out]; rfl)
    go_wp2_with fail
    refine (HV.out _ B).mono ?_
    rintro y w2 ⟨rfl, hb⟩
    cases v
    all_goals
      go_wp2_with fail
      go_ret
      exact Ret.mk (bool_val E2.out.symm) (below_next B hb)
end Sys
end Go.Proofs.Ytchlpeflfiecdaa
namespace Go.Proofs.Ytchlpeflfiecdaa
open Go.RowKit
set_option linter.unusedVariables false
open Go.Proofs.Ytchlpeflfiecdaa.Sys

theorem NewSy_any {B : Nat} {s : Sy} {v : Value} {w : World} (h : NewSy B s v w) : SyIn Any w s v := SyIn.any h

set_option maxRecDepth 100000 in
set_option maxHeartbeats 2000000 in
theorem walk_FnExactSystemValid (t : Sy) (w : World) (x : Value) (hx : SyIn Any w t x) : Calls Try.prog 4 #[x] w (Ret (.bool true) w) := by
  have hbd := Sys.szS_bd t 1048576 (by omega) (by omega)
  have HX := hid hx
  have HSZ := hid (fun (W : World) (M : Below w.heap.size w W) => Sys.szS_any t W x 1048576 (hx.below M) (by omega) (by omega))
  have HSM := hid (fun (h : 0 ≤ Sys.szS t 1048576) => Sys.small_of_sz t h)
  obtain ⟨a, c, b, d, rfl⟩ := hx.shape
  generalize Sys.szS t 1048576 = g at *
  clear hx
  by_cases hs : g < 0
  · go_enter Try.func4, Try.ntmps4
    go_wp2_with fail
    refine (HSZ.out _ (by repeat (first | exact Below.refl _ _ | assumption | refine below_a ?_ _ | refine below_o ?_ _ | refine below_d ?_ | refine below_n ?_ _ | refine below_s ?_ (by first | (simp; done) | (simp; omega) | omega) _))).mono ?_
    rintro e w1 ⟨rfl, hb⟩
    go_wp2_with fail
    go_ret
    exact Ret.mk rfl (below_next (by repeat (first | exact Below.refl _ _ | assumption | refine below_a ?_ _ | refine below_o ?_ _ | refine below_d ?_ | refine below_n ?_ _ | refine below_s ?_ (by first | (simp; done) | (simp; omega) | omega) _)) hb)
  · have hsm := hid (HSM.out (by omega))
    clear HSM
    go_enter Try.func4, Try.ntmps4
    go_wp2_with fail
    refine (HSZ.out _ (by repeat (first | exact Below.refl _ _ | assumption | refine below_a ?_ _ | refine below_o ?_ _ | refine below_d ?_ | refine below_n ?_ _ | refine below_s ?_ (by first | (simp; done) | (simp; omega) | omega) _))).mono ?_
    rintro e w1 ⟨rfl, hb⟩
    have P := hid (box2_next hb (box2_at (w := w) (a := .slice a t.init.length c) (b := .slice b t.procs.length d) (t := 40) rfl))
    have B := hid (below_next (below_alloc _ _) hb)
    clear hb
    obtain ⟨p0, p1, p2, _⟩ := id P.out
    go_wp2_with fail
    refine (Sys.toS_any t _ _ (HX.out.below B.out) hsm.out).mono ?_
    rintro e w2 ⟨v1, rfl, hn1, hb⟩
    replace P := hid (box2_next hb P.out)
    replace B := hid (below_next B.out hb)
    clear hb p0 p1 p2
    go_wp2_with fail
    refine (Sys.specValid_any t _ _ (NewSy_any hn1)).mono ?_
    rintro e w3 ⟨rfl, hb⟩
    replace P := hid (box2_next hb P.out)
    replace B := hid (below_next B.out hb)
    clear hb hn1
    obtain ⟨p0, p1, p2, _⟩ := id P.out
    go_wp2_with fail
    refine (Sys.toS_any t _ _ (HX.out.below B.out) hsm.out).mono ?_
    rintro e w4 ⟨v2, rfl, hn2, hb⟩
    replace P := hid (box2_next hb P.out)
    replace B := hid (below_next B.out hb)
    have N2 := hid (NewSy_any hn2)
    obtain ⟨a2, c2, b2, d2, rfl⟩ := N2.out.shape
    clear hb p0 p1 p2 hn2
    go_wp2_with fail
    refine (Sys.valid_any t _ _ (N2.out.below (below_alloc _ _))).mono ?_
    rintro e w5 ⟨rfl, hb⟩
    have X0 := hid (box2_next hb (box2_at (w := w4) (a := .slice a2 t.init.length c2) (b := .slice b2 t.procs.length d2) (t := 45) rfl))
    replace hb := below_next (below_alloc ..) hb
    replace N2 := hid (N2.out.below hb)
    replace P := hid (box2_next hb P.out)
    replace B := hid (below_next B.out hb)
    clear hb
    have e1 : (okSy t != okSy t) = false := by simp
    generalize okSy t = ov at *
    go_wp2_with fail
    have h1 := box2_next (below_d (Below.refl _ _)) P.out
    have h2 := box2_next (below_d (Below.refl _ _)) X0.out
    have Bd := below_d B.out
    have hm := N2.out.below (below_d (Below.refl _ _))
    go_region_held3 (fun w' => w'.cell? ⟨w.heap.size, 0, none⟩ = some (.slice a t.init.length c) ∧ w'.cell? ⟨w.heap.size, 1, none⟩ = some (.slice b t.procs.length d) ∧ w'.cell? ⟨w4.heap.size, 0, none⟩ = some (.slice a2 t.init.length c2) ∧ w'.cell? ⟨w4.heap.size, 1, none⟩ = some (.slice b2 t.procs.length d2))
      (first | exact ⟨h1.2.1, h1.2.2.1, h2.2.1, h2.2.2.1⟩ | exact ⟨k1.2.1, k1.2.2.1, k2.2.1, k2.2.2.1⟩ | exact ⟨l1.2.1, l1.2.2.1, l2.2.1, l2.2.2.1⟩)
      (first
        | (go_at_call 19; have HT := Sys.toS_any t _ _ (HX.out.below Bd) hsm.out; refine HT.mono ?_; clear HT; rintro e w6 ⟨v3, rfl, hn3, hb⟩; have N3 := hid (NewSy_any hn3); obtain ⟨a3, c3, b3, d3, rfl⟩ := N3.out.shape; have k1 := box2_next hb h1; have k2 := box2_next hb h2; have hm3 := hm.below hb; have B6 := below_next Bd hb; clear hb hn3)
        | (go_at_call 21; have HT := Sys.eqS_any t t _ _ _ hm3 N3.out; refine HT.mono ?_; clear HT; rintro e w7 ⟨rfl, hb⟩; rw [eqS_refl]; have l1 := box2_next hb k1; have l2 := box2_next hb k2; have B7 := below_next B6 hb; clear hb))
    go_wp2_with fail
    go_ret
    exact Ret.mk rfl B7
end Go.Proofs.Ytchlpeflfiecdaa
