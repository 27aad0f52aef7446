/- The reference's DrawSameWord: two lassos, often of the same word. Conditions: those of the contract. -/
import Derived.Test.YtkjnmkjdooebmaazDrawRot
import Derived.Test.YtkjnmkjdooebmaaJW6
set_option linter.unusedVariables false
set_option linter.unusedSimpArgs false
namespace Go.Proofs.Ytkjnmkjdooebmaa
open Go.RowKit
set_option linter.unusedVariables false
set_option linter.unusedSimpArgs false
namespace Lasso

/-- what the law's two lassos come to -/
def SwPost (w : World) (v : Value) (w' : World) : Prop := ∃ x y s l s' l', v = .tuple #[x, y] ∧ NewLas w.heap.size s l x w' ∧ NewLas w.heap.size s' l' y w' ∧ (s.length ≤ 90 ∧ l.length ≤ 90) ∧ s'.length ≤ 90 ∧ l'.length ≤ 90
theorem NewLas.set2 {N X : Nat} {s l : List Int} {v : Value} {w : World} (h : NewLas N s l v w) (hX : X < N) (u0 u1 : Value) : NewLas N s l v ((w.setCell ⟨X, 0, none⟩ u0).setCell ⟨X, 1, none⟩ u1) :=
  h.frame (by simp) fun b hb _ => (Below.heap_setCell _ _ _ _ (show b ≠ X by omega)).trans (Below.heap_setCell _ _ _ _ (show b ≠ X by omega))
theorem sw_fin {w W : World} {N N' : Nat} {s l s' l' : List Int} {x y : Value} (h1 : NewLas N s l x W) (h2 : NewLas N' s' l' y W) (hN : w.heap.size + 1 < N) (hN' : w.heap.size + 1 < N') (hb : Below w.heap.size w W) (k1 : s.length ≤ 90 ∧ l.length ≤ 90) (k2 : s'.length ≤ 90) (k3 : l'.length ≤ 90) (u0 u1 u2 u3 : Value) :
    RetP (SwPost w) w (.returned (.tuple #[x, y])) ((((W.setCell ⟨w.heap.size, 0, none⟩ u0).setCell ⟨w.heap.size, 1, none⟩ u1).setCell ⟨w.heap.size + 1, 0, none⟩ u2).setCell ⟨w.heap.size + 1, 1, none⟩ u3) :=
  RetP.mk ⟨x, y, s, l, s', l', rfl, ((h1.set2 (X := w.heap.size) (by omega) u0 u1).set2 (X := w.heap.size + 1) (by omega) u2 u3).mono (by omega), ((h2.set2 (X := w.heap.size) (by omega) u0 u1).set2 (X := w.heap.size + 1) (by omega) u2 u3).mono (by omega), k1, k2, k3⟩
    (below_s (below_s (below_s (below_s hb (p := ⟨w.heap.size, 0, none⟩) (Nat.le_refl _) u0) (p := ⟨w.heap.size, 1, none⟩) (Nat.le_refl _) u1) (p := ⟨w.heap.size + 1, 0, none⟩) (Nat.le_succ _) u2) (p := ⟨w.heap.size + 1, 1, none⟩) (Nat.le_succ _) u3)
theorem newLas_but {N R : Nat} {s l : List Int} {v : Value} {w w' : World} (h : NewLas N s l v w) (hb : But w R w') (hR : R < N) : NewLas N s l v w' := h.frame hb.size fun b h1 h2 => hb.block b h2 (by omega)

set_option maxRecDepth 100000 in
set_option maxHeartbeats 4000000 in
theorem drawWord_any (w : World) (a : Option Addr) (len cap : Nat) (hb : ByteArg w a len cap) : Calls Try.prog 4 #[.slice a len cap] w (RetP (SwPost w) w) := by
  go_enter Try.func4, Try.ntmps4
  go_wp2_with fail
  have k0 := below_next (below_alloc w (.cells #[.slice none 0 0, .slice none 0 0] 25)) (below_alloc _ (.cells #[.slice none 0 0, .slice none 0 0] 25))
  refine (open_any _ a len cap (hb.next k0)).mono ?_
  rintro e w1 ⟨v, rfl, ⟨R, B, rfl, hR, hr⟩, hb1⟩
  have C2 := hid (boxp_next hb1 (boxp_next (below_alloc _ (.cells #[.slice none 0 0, .slice none 0 0] 25)) (boxp_at (w := w) (a := .slice none 0 0) (b := .slice none 0 0) (t := 25) rfl)))
  have C3 := hid (boxp_next hb1 (boxp_at (w := w.alloc (.cells #[.slice none 0 0, .slice none 0 0] 25)) (B := w.heap.size + 1) (a := .slice none 0 0) (b := .slice none 0 0) (t := 25) (by simp)))
  have B1 := below_next k0 hb1
  simp at hR
  have hw1 := C3.out.1
  clear hb1 k0 hb
  go_wp2_with fail
  refine (lasso_any w1 R B 0 hr (by omega)).mono ?_
  rintro e w2 ⟨v, s, l, p2, rfl, hn, hs1, hl1, hl2, hb2, hr2, hp2⟩
  replace C2 := hid (boxp_but hb2 (by omega) C2.out)
  replace C3 := hid (boxp_but hb2 (by omega) C3.out)
  replace B1 := hb2.new B1 (by omega)
  obtain ⟨a1, k1, a2, k2, rfl⟩ := hn.shape
  have hRB := hr2.lt
  have hRw := hr.lt
  have hw2 := C3.out.1
  have hz2 := hb2.size
  have h0 := below_alloc w2 (.cells #[.slice a1 s.length k1, .slice a2 l.length k2] 25)
  have FF := hid (And.intro (boxp_at (w := w2) (a := .slice a1 s.length k1) (b := .slice a2 l.length k2) (t := 25) rfl) (And.intro (boxp_next h0 C2.out) (And.intro (boxp_next h0 C3.out) (And.intro (below_next B1 h0) (And.intro (hr2.next h0) (hn.below h0))))))
  clear hb2 hr hr2 C2 C3 B1 hn h0
  go_upto_region 3 with fail
  obtain ⟨O, hO⟩ : ∃ O, O = w2.heap.size := ⟨_, rfl⟩
  rw [← hO] at FF ⊢
  have hRO : R < O := by omega
  have hwO : w.heap.size + 1 < O := by omega
  refine wp_gen (fun W => BoxP W O (.slice a1 s.length k1) (.slice a2 l.length k2) ∧ BoxP W w.heap.size (.slice none 0 0) (.slice none 0 0) ∧ BoxP W (w.heap.size + 1) (.slice none 0 0) (.slice none 0 0) ∧ Below w.heap.size w W ∧ Rd B W R p2 ∧ NewLas w1.heap.size s l (.agg #[.slice a1 s.length k1, .slice a2 l.length k2]) W) FF.out ?_
  clear FF hO
  rintro W0 ⟨bO, c2, c3, B1, hr2, hn⟩
  have hB0 := B1.size
  go_wp2_with fail
  refine (pick_any B 3 W0 R p2 hr2 (by omega) (by omega) (by omega)).mono ?_
  rintro e W1 ⟨i, rfl, ⟨hi0, hi1, _⟩, hb, hr3⟩
  replace bO := boxp_but hb (by omega) bO
  have C2 := hid (boxp_but hb (by omega) c2)
  have C3 := hid (boxp_but hb (by omega) c3)
  replace B1 := hb.new B1 (by omega)
  replace hn := newLas_but hn hb (by omega)
  have hi3 := hi1 (by omega)
  clear hb hr2 c2 c3 hi1
  have BO := hid bO
  have HB1 := hid B1
  have HR := hid hr3
  obtain ⟨hP, hN⟩ := hn.any
  have HN := hid hn
  have HPA := hid hP
  have HNO := hid hN
  have hW1 := B1.size
  have hO1 := bO.1
  clear hP hN hn B1 hr3
  obtain ⟨x0, x1, x2, x3, x4⟩ := bO
  by_cases hi : 0 < i
  · have hi' : i > 0 := hi
    go_wp2_with fail
    refine wp_region_ord (C := fun wZ => ∃ xZ, wZ = World.overP _ ([O]) xZ) [0,1,3,4,5] (.one 2 (.one 6 (.one 7 (.one 8 (.fre 9 .done))))) [9] (by kernel_rfl) (by kernel_rfl) (fun d _ _ _ _ h => by cases d <;> exact h) (KeepP.refl _ _).drew.ex ?_; simp only [pick, List.getElem?_cons_succ, List.getElem?_cons_zero]; (repeat (go_big_quiet_step (fail))); refine wpQuiet_nil ?_; simp only [ordW, pick, List.getElem?_cons_succ, List.getElem?_cons_zero]
    have K := hid ((KeepP.refl [O] W1).drew)
    have hd := below_d (Below.refl W1.heap.size W1)
    have hdz := hd.size
    go_wp2_with fail
    refine (rotate_any W1.drew R B (p2 + 1) s l _ (HPA.out.below hd) HNO.out (by omega) (by omega) hl2 (HR.out.next hd) (by omega)).mono ?_
    rintro e w3 ⟨v, s3, l3, p3, rfl, hn3, hs3, hl3, hl3', hb3, hr3, hp3⟩
    replace K := hid (K.out.trans (KeepP.but hb3 (by simp; omega)))
    replace C2 := hid (boxp_but hb3 (by omega) (boxp_next hd C2.out))
    replace C3 := hid (boxp_but hb3 (by omega) (boxp_next hd C3.out))
    have HB3 := hid (hb3.new (below_next HB1.out hd) (by omega))
    have HP3 := hid (newLas_but (HN.out.below hd) hb3 (by omega)).any.1
    have HX := hid hn3
    have hz3 := hb3.size
    have HR3 := hid hr3
    obtain ⟨a3, k3, a4, k4, rfl⟩ := hn3.shape
    clear hb3 hn3 hr3 x0 x1 x2 x3 x4
    go_wp2_with fail
    refine ⟨K.out.ex, ?_⟩
    go_wp2_with fail
    refine (rotate_any w3 R B p3 s l _ HP3.out HNO.out (by omega) (by omega) hl2 HR3.out (by omega)).mono ?_
    rintro e w4 ⟨v, s4, l4, p4, rfl, hn4, hs4, hl4, hl4', hb4, hr4, hp4⟩
    replace K := hid (K.out.trans (KeepP.but hb4 (by simp; omega)))
    replace C2 := hid (boxp_but hb4 (by omega) C2.out)
    replace C3 := hid (boxp_but hb4 (by omega) C3.out)
    have HB4 := hid (hb4.new HB3.out (by omega))
    replace HX := hid (newLas_but HX.out hb4 (by omega))
    have HY := hid hn4.any
    have hz4 := hb4.size
    have HR4 := hid hr4
    clear hb4 hn4 hr4
    go_wp2_with fail
    refine ⟨K.out.ex, ?_⟩
    go_wp2_with fail
    refine (mutate_any w4 R B p4 s4 l4 _ HY.out.1 HY.out.2 (by omega) (by omega) (by omega) HR4.out (by omega)).mono ?_
    rintro e w5 ⟨v', s5, l5, p5, rfl, hn5, hs5, hl5, hb5, hr5, hp5⟩
    replace K := hid (K.out.trans (KeepP.but hb5 (by simp; omega)))
    replace C2 := hid (boxp_but hb5 (by omega) C2.out)
    replace C3 := hid (boxp_but hb5 (by omega) C3.out)
    have HB5 := hid (hb5.new HB4.out (by omega))
    replace HX := hid (newLas_but HX.out hb5 (by omega))
    obtain ⟨a5, k5, a6, k6, rfl⟩ := hn5.shape
    have HF := hid (sw_fin (w := w) HX.out hn5 (by omega) (by omega) HB5.out ⟨by omega, by omega⟩ (by omega) (by omega))
    have K6 := hid ((K.out.set (a := ⟨w.heap.size, 0, none⟩) (by simp; omega) (.slice a3 s3.length k3)).set (a := ⟨w.heap.size, 1, none⟩) (by simp; omega) (.slice a4 l3.length k4))
    have T2 := hid (boxp_set (boxp_set (boxp_set1 (boxp_set0 C2.out (.slice a3 s3.length k3)) (.slice a4 l3.length k4)) (p := ⟨w.heap.size + 1, 0, none⟩) (show w.heap.size ≠ w.heap.size + 1 by omega) (.slice a5 s5.length k5)) (p := ⟨w.heap.size + 1, 1, none⟩) (show w.heap.size ≠ w.heap.size + 1 by omega) (.slice a6 l5.length k6))
    have T3 := hid (boxp_set1 (boxp_set0 (boxp_set (boxp_set C3.out (p := ⟨w.heap.size, 0, none⟩) (show w.heap.size + 1 ≠ w.heap.size by omega) (.slice a3 s3.length k3)) (p := ⟨w.heap.size, 1, none⟩) (show w.heap.size + 1 ≠ w.heap.size by omega) (.slice a4 l3.length k4)) (.slice a5 s5.length k5)) (.slice a6 l5.length k6))
    clear hb5 hn5 hr5 HX HY
    go_wp2_with fail
    refine ⟨K.out.ex, ?_⟩
    obtain ⟨x0, x1, x2, x3, x4⟩ := C2.out
    obtain ⟨y0, y1, y2, y3, y4⟩ := C3.out
    go_wp2_with fail
    refine ⟨K6.out.ex, ?_⟩
    go_wp2_with fail
    obtain ⟨_, t0, t1, _, _⟩ := T2.out
    obtain ⟨_, u0, u1, _, _⟩ := T3.out
    refine bodyPost_ret (v := .tuple #[.agg #[.slice a3 s3.length k3, .slice a4 l3.length k4], .agg #[.slice a5 s5.length k5, .slice a6 l5.length k6]]) (by simp [results, Try.results4, go_sem, t0, t1, u0, u1]) rfl ?_
    exact HF.out _ _ _ _
  · have hi' : ¬ (i > 0) := hi
    go_wp2_with fail
    refine wp_region_ord (C := fun wZ => ∃ xZ, wZ = World.overP _ ([O]) xZ) [0,1,2] (.one 3 (.one 4 (.one 5 (.fre 6 .done)))) [6] (by kernel_rfl) (by kernel_rfl) (fun d _ _ _ _ h => by cases d <;> exact h) (KeepP.refl _ _).drew.ex ?_; simp only [pick, List.getElem?_cons_succ, List.getElem?_cons_zero]; (repeat (go_big_quiet_step (fail))); refine wpQuiet_nil ?_; simp only [ordW, pick, List.getElem?_cons_succ, List.getElem?_cons_zero]
    have K := hid ((KeepP.refl [O] W1).drew)
    have hd := below_d (Below.refl W1.heap.size W1)
    have hdz := hd.size
    go_wp2_with fail
    refine (lasso_any W1.drew R B (p2 + 1) (HR.out.next hd) (by omega)).mono ?_
    rintro e w4 ⟨v, s4, l4, p4, rfl, hn4, hs4, hl4, hl4', hb4, hr4, hp4⟩
    replace K := hid (K.out.trans (KeepP.but hb4 (by simp; omega)))
    replace C2 := hid (boxp_but hb4 (by omega) (boxp_next hd C2.out))
    replace C3 := hid (boxp_but hb4 (by omega) (boxp_next hd C3.out))
    have HB4 := hid (hb4.new (below_next HB1.out hd) (by omega))
    have HX := hid (newLas_but (HN.out.below hd) hb4 (by omega))
    have HY := hid hn4.any
    have hz4 := hb4.size
    have HR4 := hid hr4
    clear hb4 hn4 hr4 x0 x1 x2 x3 x4
    go_wp2_with fail
    refine ⟨K.out.ex, ?_⟩
    go_wp2_with fail
    refine (mutate_any w4 R B p4 s4 l4 _ HY.out.1 HY.out.2 (by omega) (by omega) (by omega) HR4.out (by omega)).mono ?_
    rintro e w5 ⟨v', s5, l5, p5, rfl, hn5, hs5, hl5, hb5, hr5, hp5⟩
    replace K := hid (K.out.trans (KeepP.but hb5 (by simp; omega)))
    replace C2 := hid (boxp_but hb5 (by omega) C2.out)
    replace C3 := hid (boxp_but hb5 (by omega) C3.out)
    have HB5 := hid (hb5.new HB4.out (by omega))
    replace HX := hid (newLas_but HX.out hb5 (by omega))
    obtain ⟨a5, k5, a6, k6, rfl⟩ := hn5.shape
    have HF := hid (sw_fin (w := w) HX.out hn5 (by omega) (by omega) HB5.out ⟨by omega, by omega⟩ (by omega) (by omega))
    have K6 := hid ((K.out.set (a := ⟨w.heap.size, 0, none⟩) (by simp; omega) (.slice a1 s.length k1)).set (a := ⟨w.heap.size, 1, none⟩) (by simp; omega) (.slice a2 l.length k2))
    have T2 := hid (boxp_set (boxp_set (boxp_set1 (boxp_set0 C2.out (.slice a1 s.length k1)) (.slice a2 l.length k2)) (p := ⟨w.heap.size + 1, 0, none⟩) (show w.heap.size ≠ w.heap.size + 1 by omega) (.slice a5 s5.length k5)) (p := ⟨w.heap.size + 1, 1, none⟩) (show w.heap.size ≠ w.heap.size + 1 by omega) (.slice a6 l5.length k6))
    have T3 := hid (boxp_set1 (boxp_set0 (boxp_set (boxp_set C3.out (p := ⟨w.heap.size, 0, none⟩) (show w.heap.size + 1 ≠ w.heap.size by omega) (.slice a1 s.length k1)) (p := ⟨w.heap.size, 1, none⟩) (show w.heap.size + 1 ≠ w.heap.size by omega) (.slice a2 l.length k2)) (.slice a5 s5.length k5)) (.slice a6 l5.length k6))
    clear hb5 hn5 hr5 HY
    go_wp2_with fail
    refine ⟨K.out.ex, ?_⟩
    obtain ⟨x0, x1, x2, x3, x4⟩ := C2.out
    obtain ⟨y0, y1, y2, y3, y4⟩ := C3.out
    go_wp2_with fail
    refine ⟨K6.out.ex, ?_⟩
    go_wp2_with fail
    obtain ⟨_, t0, t1, _, _⟩ := T2.out
    obtain ⟨_, u0, u1, _, _⟩ := T3.out
    refine bodyPost_ret (v := .tuple #[.agg #[.slice a1 s.length k1, .slice a2 l.length k2], .agg #[.slice a5 s5.length k5, .slice a6 l5.length k6]]) (by simp [results, Try.results4, go_sem, t0, t1, u0, u1]) rfl ?_
    exact HF.out _ _ _ _
end Lasso
end Go.Proofs.Ytkjnmkjdooebmaa
