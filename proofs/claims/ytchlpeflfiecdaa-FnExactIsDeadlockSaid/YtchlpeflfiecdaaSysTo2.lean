/- The laws' toProcess, toProcessS, toSystem. Conditions: those of each contract. -/
import Derived.Test.YtchlpeflfiecdaaSysTo
namespace Go.Proofs.Ytchlpeflfiecdaa
open Go.RowKit
namespace Sys

theorem PrIn.keepFr {B : Nat} {q : Pr} {v : Value} {w w' : World} (h : PrIn (Fr B w) w q v) (hs : w.heap.size ≤ w'.heap.size) (hk : ∀ b, B ≤ b → b < w.heap.size → w'.heap[b]? = w.heap[b]?) : PrIn (Fr B w') w' q v :=
  PrIn.frame h hs fun b h1 h2 => ⟨h1.kept (Nat.le_refl _) (hk b h1.1 h2), hk b h1.1 h2⟩
theorem EdsIn.keepFr {B B' : Nat} {l : List Ed} {a : Option Addr} {w w' : World} (h : EdsIn (Fr B w) w l a) (hB : B' ≤ B) (hs : w.heap.size ≤ w'.heap.size) (hk : ∀ b, B ≤ b → b < w.heap.size → w'.heap[b]? = w.heap[b]?) : EdsIn (Fr B' w') w' l a :=
  EdsIn.frame h hs fun b h1 h2 => ⟨h1.kept hB (hk b h1.1 h2), hk b h1.1 h2⟩
theorem PrsIn.keepFr {B B' : Nat} {l : List Pr} {a : Option Addr} {w w' : World} (h : PrsIn (Fr B w) w l a) (hB : B' ≤ B) (hs : w.heap.size ≤ w'.heap.size) (hk : ∀ b, B ≤ b → b < w.heap.size → w'.heap[b]? = w.heap[b]?) : PrsIn (Fr B' w') w' l a :=
  PrsIn.frame h hs fun b h1 h2 => ⟨h1.kept hB (hk b h1.1 h2), hk b h1.1 h2⟩
theorem keep_set3 {B : Nat} {w : World} {a1 a2 a3 : Addr} (h1 : a1.block < B) (h2 : a2.block < B) (h3 : a3.block < B) (u1 u2 u3 : Value) : ∀ b, B ≤ b → (((w.setCell a1 u1).setCell a2 u2).setCell a3 u3).heap[b]? = w.heap[b]? := fun b hb => by
  rw [Below.heap_setCell _ _ _ _ (by omega), Below.heap_setCell _ _ _ _ (by omega), Below.heap_setCell _ _ _ _ (by omega)]

set_option maxRecDepth 100000 in
set_option maxHeartbeats 2000000 in
theorem toP_any (q : Pr) (w : World) (x : Value) (hx : PrIn Any w q x) (hlen : q.edges.length ≤ 1048576) (hs : ∀ e, e ∈ q.edges → Edge.SmallE e) :
    Calls Try.prog 87 #[x] w (RetP (fun v w' => ∃ a c, v = .agg #[.int .i64 q.locs, .slice a q.edges.length c] ∧ NewPr w.heap.size q v w') w) := by
  obtain ⟨a, c, rfl, hi, hc, hc2, he⟩ := hx
  have HE := hid (fun (w' : World) (M : Below w.heap.size w w') => toEs_any q.edges w' a c (he.below M) hlen hs hc hc2)
  have HI := hid hi
  clear he hs hi
  go_enter Try.func87, Try.ntmps87
  go_wp2_with fail
  refine (HE.out _ (by repeat (first | exact Below.refl _ _ | assumption | refine below_a ?_ _ | refine below_o ?_ _ | refine below_d ?_ | refine below_n ?_ _ | refine below_s ?_ (by first | (simp; done) | (simp; omega) | omega) _))).mono ?_
  rintro e w1 ⟨v, rfl, ⟨a1, c1, rfl, hc1, hc3, hin⟩, hb⟩
  have b2 := box2_next hb (box2_next (below_alloc _ _) (box2_at (w := w.alloc _) (B := w.heap.size + 1) (a := .int .i64 0) (b := .slice none 0 0) (t := 88) (by simp)))
  have b3 := box2_next hb (box2_at (B := w.heap.size + 1 + 1) (by simp))
  have B := hid (below_next (show Below w.heap.size w _ from below_next (below_next (below_alloc _ _) (below_alloc _ _)) (below_alloc _ _)) hb)
  simp only [World.size_alloc] at hin
  have HIN := hid hin
  obtain ⟨y0, y1, y2, y3, y4⟩ := id b3
  have hsz := b3.1
  clear hin hb
  go_wp2_with fail
  have T := box2_set1 (box2_set0 (box2_but (But.set w1 (w.heap.size + 1 + 1) 1 (.slice a1 q.edges.length c1)) (by omega) b2) (.int .i64 q.locs)) (.slice a1 q.edges.length c1)
  obtain ⟨_, t0, t1, _, _⟩ := T
  refine bodyPost_ret (v := .agg #[.int .i64 q.locs, .slice a1 q.edges.length c1]) (by simp [results, Try.results87, go_sem, t0, t1]) rfl ?_
  refine RetP.mk ⟨_, _, rfl, _, _, rfl, HI.out, hc1, hc3, EdsIn.keepFr HIN.out (by omega) (by simp) fun b h1 _ => keep_set3 (by first | (simp; done) | (simp; omega) | omega) (by first | (simp; done) | (simp; omega) | omega) (by first | (simp; done) | (simp; omega) | omega) _ _ _ b h1⟩ ?_
  exact ((B.out.setCell (by simp; omega) _).setCell (by simp) _).setCell (by simp) _

theorem infoP : (Try.prog.info? 88).map (fun i => (i.zero, i.size, i.bytes)) = some (some (.agg #[.int .i64 0, .slice none 0 0]), 2, 32) := by kernel_rfl
def zerosP (n : Nat) : Array Value := madeCells #[.int .i64 0, .slice none 0 0] (n * 2)
theorem make_prs (n : Nat) (h : n ≤ 1048576) (w : World) : (Instr.makeSlice 43 (.int .i64 (n : Int)) (.int .i64 (n : Int))).run Try.prog w =
    .ok (.slice (some ⟨w.heap.size, 0, none⟩) n n) (w.alloc (.cells (zerosP n) 88)) := by
  obtain ⟨i, hi, hz, h1, h2⟩ := info_parts infoP
  have := run_make (P := Try.prog) w 43 88 i _ Try.underlying43 hi hz .i64 .i64 n n (by omega) (by omega) (by rw [h2]; omega) (by omega)
  rw [this, h1]
  simp [zerosP, Value.cells]
def NewPrs (B : Nat) (l : List Pr) (v : Value) (w : World) : Prop := ∃ a c, v = .slice a l.length c ∧ l.length ≤ c ∧ c ≤ maxLen ∧ PrsIn (Fr B w) w l a

set_option maxRecDepth 100000 in
set_option maxHeartbeats 2000000 in
theorem toPs_any (l : List Pr) (w : World) (a : Option Addr) (c : Nat) (hl : PrsIn Any w l a) (hlen : l.length ≤ 1048576) (hs : ∀ q, q ∈ l → q.edges.length ≤ 1048576 ∧ ∀ e, e ∈ q.edges → Edge.SmallE e) (hc : l.length ≤ c) (hc2 : c ≤ maxLen) :
    Calls Try.prog 62 #[.slice a l.length c] w (RetP (NewPrs w.heap.size l) w) := by
  have hmk := make_prs l.length hlen
  unfold maxLen at hc2
  go_enter Try.func62, Try.ntmps62
  go_wp2_with fail
  go_loopw [4] (fun i wr => ∃ (k : Nat), k ≤ l.length ∧ i = .int .i64 k ∧ Hid (FillS PrAt 2 w w.heap.size l k wr)) (fun i _ => l.length - (intOf i).toNat)
  case atStart => exact ⟨0, Nat.zero_le _, rfl, hid ⟨below_alloc _ _, Nat.le_refl _, ⟨_, row_new (by rw [zerosP, size_madeCells]) _⟩, by omega⟩⟩
  case round =>
    obtain ⟨k, hk, rfl, hf⟩ := hrel
    by_cases hlt : k < l.length
    · obtain ⟨b, o, rfl, _, hb, a1, c1, ⟨g0, g1⟩, hT⟩ := SeqIn.at (PrsIn.below hl hf.out.1) hlt
      have HT := hid hT
      have ht := hid (List.getElem?_eq_getElem hlt)
      have HS := hid (hs l[k] (List.getElem_mem hlt))
      clear hT
      have hlt2 : (k : Int) < (l.length : Int) := by omega
      generalize l[k] = t at *
      go_wp2_with fail
      refine (toP_any t _ _ HT.out HS.out.1 HS.out.2).mono ?_
      rintro e w2 ⟨v, rfl, ⟨a3, c3, rfl, hn⟩, hby⟩
      have HF := hid (fillP_step hf.out ht.out hby hn)
      obtain ⟨_, _, ⟨g, hrow⟩, _⟩ := hf.out
      have hrow2 := hrow.below hby
      have q0 := hrow2.2.1 (k * 2) (by omega)
      have q1 := hrow2.2.1 (k * 2 + 1) (by omega)
      have qf := hrow2.2.2
      have ql := hrow2.1
      clear hrow hrow2 hby g0 g1 hf HT hn
      go_wp2_with fail
      go_roundw
      case rel => exact ⟨k + 1, by omega, by go_num, hid HF.out⟩
      case measure => simp [intOf]; omega
    · have hfin := hid (show NewPrs w.heap.size l (.slice (some ⟨w.heap.size, 0, none⟩) l.length l.length) wr from by
        obtain ⟨h1, h2, ⟨g, hr⟩, h4⟩ := hf.out
        refine ⟨_, _, rfl, Nat.le_refl _, by unfold maxLen; omega, ?_⟩
        by_cases h0 : l = []
        · exact .inl h0
        · refine .inr ⟨_, 0, rfl, ⟨Nat.le_refl _, hr.2.2⟩, hr.1, fun i t ht => ?_⟩
          rw [Nat.zero_add]
          exact (h4 i t (by have := (List.getElem?_eq_some_iff.1 ht).1; omega) ht).cells (Nat.le_refl _) (fun _ _ => rfl) fun b hb _ => ⟨hb.kept (by omega) rfl, rfl⟩)
      have hB := hid hf.out.1
      have hlt2 : ¬ ((k : Int) < (l.length : Int)) := by omega
      clear hf
      go_wp2_with fail
      go_ret
      exact RetP.mk hfin.out hB.out

set_option maxRecDepth 100000 in
set_option maxHeartbeats 2000000 in
theorem toS_any (s : Sy) (w : World) (x : Value) (hx : SyIn Any w s x) (hs : SmallS s) : Calls Try.prog 19 #[x] w (RetP (NewSy w.heap.size s) w) := by
  obtain ⟨a, c, b, d, rfl, hc, hc2, hi, hd, hd2, hp⟩ := hx
  have HG := hid (fun (w' : World) (M : Below w.heap.size w w') => toIntS_any s.init w' a c (hi.below M) hs.init hc hc2)
  have HV := hid (fun (w' : World) (M : Below w.heap.size w w') => toPs_any s.procs w' b d (hp.below M) hs.procs hs.edges hd hd2)
  have HI := hid hi.2
  have HL := hid (And.intro hs.init hs.procs)
  clear hi hp hs
  go_enter Try.func19, Try.ntmps19
  go_wp2_with fail
  refine (HG.out _ (by repeat (first | exact Below.refl _ _ | assumption | refine below_a ?_ _ | refine below_o ?_ _ | refine below_d ?_ | refine below_n ?_ _ | refine below_s ?_ (by first | (simp; done) | (simp; omega) | omega) _))).mono ?_
  rintro y w1 ⟨v1, rfl, ⟨rfl, r1⟩, hb⟩
  have b1 := box2_next hb (box2_next (below_alloc _ _) (box2_next (below_alloc _ _) (box2_at (w := w) (a := .slice a s.init.length c) (b := .slice b s.procs.length d) rfl)))
  have b2 := box2_next hb (box2_next (below_alloc _ _) (box2_at (B := w.heap.size + 1) (by simp)))
  have b3 := box2_next hb (box2_at (B := w.heap.size + 1 + 1) (by simp))
  have B := below_next (show Below w.heap.size w _ from below_next (below_next (below_alloc _ _) (below_alloc _ _)) (below_alloc _ _)) hb
  clear hb
  simp only [World.size_alloc] at r1
  obtain ⟨x0, x1, x2, x3, x4⟩ := id b1
  obtain ⟨y0, y1, y2, y3, y4⟩ := id b3
  go_wp2_with fail
  have M := But.set w1 (w.heap.size + 1 + 1) 0 (.slice (some ⟨w.heap.size + 1 + 1 + 1, 0, none⟩) s.init.length s.init.length)
  have b1' := box2_but M (show w.heap.size ≠ w.heap.size + 1 + 1 by omega) b1
  have b2' := box2_but M (show w.heap.size + 1 ≠ w.heap.size + 1 + 1 by omega) b2
  have b3' := box2_set0 b3 (.slice (some ⟨w.heap.size + 1 + 1 + 1, 0, none⟩) s.init.length s.init.length)
  have r1' := r1.setOther (a := ⟨w.heap.size + 1 + 1, 0, none⟩) (by simp) (.slice (some ⟨w.heap.size + 1 + 1 + 1, 0, none⟩) s.init.length s.init.length)
  have B' : Below w.heap.size w (w1.setCell ⟨w.heap.size + 1 + 1, 0, none⟩ (.slice (some ⟨w.heap.size + 1 + 1 + 1, 0, none⟩) s.init.length s.init.length)) := B.setCell (by simp; omega) _
  clear b1 b2 b3 r1 B M x0 x1 x2 x3 x4 y0 y1 y2 y3 y4
  refine (HV.out _ B').mono ?_
  rintro y w2 ⟨v2, rfl, ⟨a2, c2, rfl, hc4, hc5, hn2⟩, hb⟩
  have b2 := box2_next hb b2'
  have b3 := box2_next hb b3'
  have r1 := r1'.below hb
  have B := below_next B' hb
  have hlt := r1'.1
  have HN2 := hid hn2
  have hs2 := hb.size
  clear b1' b2' b3' r1' B' hb hn2
  simp only [World.size_setCell] at HN2 hlt hs2
  obtain ⟨x0, x1, x2, x3, x4⟩ := id b2
  obtain ⟨y0, y1, y2, y3, y4⟩ := id b3
  go_wp2_with fail
  have T := box2_set1 (box2_set0 (box2_but (But.set w2 (w.heap.size + 1 + 1) 1 (.slice a2 s.procs.length c2)) (show w.heap.size + 1 ≠ w.heap.size + 1 + 1 by omega) b2) (.slice (some ⟨w.heap.size + 1 + 1 + 1, 0, none⟩) s.init.length s.init.length)) (.slice a2 s.procs.length c2)
  obtain ⟨_, t0, t1, _, _⟩ := T
  refine bodyPost_ret (v := .agg #[.slice (some ⟨w.heap.size + 1 + 1 + 1, 0, none⟩) s.init.length s.init.length, .slice a2 s.procs.length c2]) (by simp [results, Try.results19, go_sem, t0, t1]) rfl ?_
  refine RetP.mk ⟨_, _, _, _, rfl, Nat.le_refl _, by have := HL.out.1; unfold maxLen; omega, ?_, hc4, hc5, PrsIn.keepFr HN2.out (by omega) (by simp) fun b h1 _ => keep_set3 (by first | (simp; done) | (simp; omega) | omega) (by first | (simp; done) | (simp; omega) | omega) (by first | (simp; done) | (simp; omega) | omega) _ _ _ b h1⟩ (((B.setCell (by simp; omega) _).setCell (by simp) _).setCell (by simp) _)
  have r2 := ((r1.setOther (a := ⟨w.heap.size + 1 + 1, 1, none⟩) (by simp) (.slice a2 s.procs.length c2)).setOther (a := ⟨w.heap.size + 1, 0, none⟩) (by simp; omega) (.slice (some ⟨w.heap.size + 1 + 1 + 1, 0, none⟩) s.init.length s.init.length)).setOther (a := ⟨w.heap.size + 1, 1, none⟩) (by simp; omega) (.slice a2 s.procs.length c2)
  exact r2.ints HI.out ⟨by omega, r2.2.2⟩
end Sys
end Go.Proofs.Ytchlpeflfiecdaa
