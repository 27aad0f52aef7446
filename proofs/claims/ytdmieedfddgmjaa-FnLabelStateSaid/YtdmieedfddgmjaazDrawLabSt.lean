/- The reference's DrawLabelState: a state and a row of labels. Conditions: those of the contract. -/
import Derived.Test.YtdmieedfddgmjaazDrawLab
import Derived.Test.YtdmieedfddgmjaaJE12
import Derived.Test.YtdmieedfddgmjaaJE8
import Derived.Test.YtdmieedfddgmjaaJE15
set_option linter.unusedVariables false
set_option linter.unusedSimpArgs false
namespace Go.Proofs.Ytdmieedfddgmjaa
open Go.RowKit
open Go.Proofs.Ytdmieedfddgmjaa.State (PairIn)
open Go.Proofs.Ytdmieedfddgmjaa.Sys
set_option linter.unusedVariables false
set_option linter.unusedSimpArgs false

/-- what the law's state and labels come to -/
def LdPost (w : World) (v : Value) (w' : World) : Prop := ∃ y ls vs a ts c, v = .tuple #[y, .slice a (ts : List Tr).length c] ∧ PairIn (fun b => w.heap.size ≤ b) w' ls vs y ∧ TrsIn (fun b => w.heap.size ≤ b) w' ts a ∧ ts.length ≤ c ∧ c ≤ maxLen

set_option maxRecDepth 100000 in
set_option maxHeartbeats 4000000 in
theorem drawLabSt_any (w : World) (a : Option Addr) (len cap : Nat) (hb : ByteArg w a len cap) : Calls Try.prog 13 #[.slice a len cap] w (RetP (LdPost w) w) := by
  go_enter Try.func13, Try.ntmps13
  go_wp2_with fail
  have k0 := below_alloc w (.cells #[.slice none 0 0, .slice none 0 0] 30)
  refine (open_any _ a len cap (hb.next k0)).mono ?_
  rintro e w1 ⟨v, rfl, ⟨R, B, rfl, hR, hr⟩, hb1⟩
  have c2 := boxp_next hb1 (boxp_at (w := w) (a := .slice none 0 0) (b := .slice none 0 0) (t := 30) rfl)
  have B1 := below_next k0 hb1
  simp at hR
  clear hb1 k0 hb
  go_wp2_with fail
  refine (Expr.labels_any w1 R B 0 hr (by omega)).mono ?_
  rintro e w2 ⟨aL, ts, cL, p2, rfl, ht2, cl1, cl2, hl3, hb2, hr2, hp2⟩
  replace c2 := boxp_but hb2 (by omega) c2
  replace B1 := hb2.new B1 (by omega)
  have hRB := hr2.lt
  have hRw := hr.lt
  have hw1 := c2.1
  have hz2 := hb2.size
  replace ht2 := (TrIn_frame (q := fun b => w.heap.size < b ∧ b ≠ R) (w' := w2) fun b hb hl => ⟨⟨by have := hb; omega, by have := hb; omega⟩, rfl⟩).2 ts aL ht2
  clear hb2 hr
  go_wp2_with fail
  refine (drawSys_any w2 R B p2 hr2 (by omega)).mono ?_
  rintro e w3 ⟨v, s, p3, rfl, hs, hbn, hni, hb3, hr3, hp3⟩
  replace c2 := boxp_but hb3 (by omega) c2
  replace B1 := hb3.new B1 (by omega)
  replace ht2 := (TrIn_frame (q := fun b => w.heap.size < b ∧ b ≠ R) (w' := w3) fun b hb hl => ⟨hb, hb3.block b hl hb.2⟩).2 ts aL ht2
  obtain ⟨a1, k1, a2, k2, rfl⟩ := hs.shape
  clear hb3 hr2
  go_wp2_with fail
  refine (drawSt_any s w3 _ R B p3 (hs.frame (q := fun b => b ≠ R) (Nat.le_refl _) (fun b hb _ => ⟨by have := hb; omega, rfl⟩)) hr3 (by omega)).mono ?_
  rintro e w4 ⟨v, l4, m4, p4, rfl, hp4, hn4, hl4, hm4, hb4, hr4, hpp4⟩
  obtain ⟨a3, a4, k3, k4, rfl, _⟩ := id hp4
  replace c2 := boxp_but hb4 (by omega) c2
  replace B1 := hb4.new B1 (by omega)
  replace ht2 := (TrIn_frame (q := fun b => w.heap.size < b ∧ b ≠ R) (w' := w4) fun b hb hl => ⟨hb, hb4.block b hl hb.2⟩).2 ts aL ht2
  clear hb4 hr3 hs
  go_wp2_with fail
  refine (mutSt_any w4 R B p4 l4 m4 _ (PairIn_frame (q := Any) hp4 (Nat.le_refl _) (fun _ _ _ => ⟨trivial, rfl⟩)) hn4 hl4 hm4 hr4 (by omega)).mono ?_
  rintro e w5 ⟨v, l5, m5, p5, rfl, hp5, hn5, hl5, hm5, hb5, hr5, hpp5⟩
  obtain ⟨a5, a6, k5, k6, rfl, _⟩ := id hp5
  have hw4 := c2.1
  have hz5 := hb5.size
  replace c2 := boxp_but hb5 (by omega) c2
  replace B1 := hb5.new B1 (by omega)
  replace ht2 := (TrIn_frame (q := fun b => w.heap.size < b) (w' := w5) fun b hb hl => ⟨hb.1, hb5.block b hl hb.2⟩).2 ts aL ht2
  have hk : ∀ b, w.heap.size < b → ((w5.setCell ⟨w.heap.size, 0, none⟩ (.slice a5 l5.length k5)).setCell ⟨w.heap.size, 1, none⟩ (.slice a6 m5.length k6)).heap[b]? = w5.heap[b]? := fun b hb =>
    (Below.heap_setCell _ _ _ _ (show b ≠ w.heap.size by omega)).trans (Below.heap_setCell _ _ _ _ (show b ≠ w.heap.size by omega))
  have HF := hid (show LdPost w (.tuple #[.agg #[.slice a5 l5.length k5, .slice a6 m5.length k6], .slice aL ts.length cL]) ((w5.setCell ⟨w.heap.size, 0, none⟩ (.slice a5 l5.length k5)).setCell ⟨w.heap.size, 1, none⟩ (.slice a6 m5.length k6)) from
    ⟨_, l5, m5, aL, ts, cL, rfl, PairIn_frame hp5 (by simp) (fun b hb hl => ⟨by have := hb; omega, hk b (by have := hb; omega)⟩), (TrIn_frame fun b hb hl => ⟨by have := hb; omega, hk b hb⟩).2 ts aL ht2, cl1, cl2⟩)
  have HB := hid (below_set2 B1 (Nat.le_refl w.heap.size) (.slice a5 l5.length k5) (.slice a6 m5.length k6))
  have T2 := hid (boxp_set1 (boxp_set0 c2 (.slice a5 l5.length k5)) (.slice a6 m5.length k6))
  clear hb5 hr4 hr5 hp5 hp4 hn4 hn5 B1 ht2 hk
  obtain ⟨x0, x1, x2, x3, x4⟩ := c2
  go_wp2_with fail
  obtain ⟨_, t0, t1, _, _⟩ := T2.out
  refine bodyPost_ret (v := .tuple #[.agg #[.slice a5 l5.length k5, .slice a6 m5.length k6], .slice aL ts.length cL]) (by simp [results, Try.results13, go_sem, t0, t1]) rfl ?_
  exact RetP.mk HF.out HB.out
end Go.Proofs.Ytdmieedfddgmjaa
