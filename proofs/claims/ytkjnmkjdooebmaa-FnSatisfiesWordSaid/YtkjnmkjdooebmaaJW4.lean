/- Joined texts (LasDraw, More): contracts and plain laws. Conditions: those of each theorem. -/
import Derived.Test.YtkjnmkjdooebmaaJW3
import Derived.Test.YtkjnmkjdooebmaaJW0
set_option linter.unusedVariables false
set_option linter.unusedSimpArgs false
namespace Go.Proofs.Ytkjnmkjdooebmaa
open Go.RowKit
set_option linter.unusedVariables false
set_option linter.unusedSimpArgs false

namespace Lasso

/-- the variable of a lasso -/
theorem pbox_keep {w w' : World} {B : Nat} {a b : Value} (hs : w.heap.size ≤ w'.heap.size) (h : w'.heap[B]? = w.heap[B]?) (hb : PBox w B a b) : PBox w' B a b :=
  ⟨Nat.lt_of_lt_of_le hb.1 hs, by rw [World.cell?_of_block (w := w) (a := ⟨B, 0, none⟩) h]; exact hb.2.1, by rw [World.cell?_of_block (w := w) (a := ⟨B, 1, none⟩) h]; exact hb.2.2.1,
    by rw [World.frozen?_of_block (w := w) (a := ⟨B, 0, none⟩) h]; exact hb.2.2.2.1, by rw [World.frozen?_of_block (w := w) (a := ⟨B, 1, none⟩) h]; exact hb.2.2.2.2⟩

theorem last_las2 {w W : World} {s l : List Int} {R B p K p' B1 B2 M : Nat} {v1 v2 : Value} (h1 : OwnI B1 v1 s W) (h2 : OwnI B2 v2 l W) (k1 : w.heap.size < B1) (k2 : w.heap.size < B2) (i1 : ∀ n, n ∈ s → i64 n) (i2 : ∀ n, n ∈ l → i64 n) (hb : But w R W) (hr : Rd B W R p') (hB : B ≤ w.heap.size)
    (m1 : s.length ≤ M) (m2 : l.length ≤ M) (m3 : 1 ≤ l.length) (u1 u2 : Value) (hp : p' ≤ p + K) :
    LasPost B K M R p w (.returned (.agg #[v1, v2])) ((W.setCell ⟨w.heap.size, 0, none⟩ u1).setCell ⟨w.heap.size, 1, none⟩ u2) :=
  ⟨_, s, l, p', rfl, ⟨v1, v2, rfl, (((h1.set (fun g _ h => by simp; omega) _).set (fun g _ h => by simp; omega) _).mono (by omega)).rowV, (((h2.set (fun g _ h => by simp; omega) _).set (fun g _ h => by simp; omega) _).mono (by omega)).rowV, i1, i2⟩, m1, m2, m3,
    But.setNew (But.setNew hb (Nat.le_refl _) _) (Nat.le_refl _) _, (hr.set hB _).set hB _, hp⟩
theorem last_las {w W : World} {s l : List Int} {b0 R B p K p' B1 B2 M : Nat} {v1 v2 : Value} (h1 : OwnI B1 v1 s W) (h2 : OwnI B2 v2 l W) (k0 : ∀ g, v1.ownBlock = some g → g < b0) (k1 : w.heap.size < B1) (k2 : b0 < B2) (k3 : w.heap.size < b0) (i1 : ∀ n, n ∈ s → i64 n) (i2 : ∀ n, n ∈ l → i64 n) (hb : But w R W) (hr : Rd B W R p') (hB : B ≤ w.heap.size)
    (m1 : s.length ≤ M) (m2 : l.length ≤ M) (m3 : 1 ≤ l.length) (u0 u1 u2 : Value) (hp : p' ≤ p + K) :
    LasPost B K M R p w (.returned (.agg #[v1, v2])) (((W.setCell ⟨b0, 1, none⟩ u0).setCell ⟨w.heap.size, 0, none⟩ u1).setCell ⟨w.heap.size, 1, none⟩ u2) :=
  last_las2 (h1.set (fun g h _ => by have := k0 g h; simp; omega) _) (h2.set (fun g _ h => by simp; omega) _) k1 (by omega) i1 i2 (But.setNew hb (by simp; omega) _) (hr.set (by simp; omega) _) hB m1 m2 m3 u1 u2 hp

set_option maxRecDepth 100000 in
set_option maxHeartbeats 1000000 in
theorem lasso_any (w : World) (R B p : Nat) (hr : Rd B w R p) (hp : p + 12 ≤ 1000000) : Calls Try.prog 10 #[.pointer (some ⟨R, 0, none⟩)] w (LasPost B 12 8 R p w) := by
  have hB := hr.lt
  go_enter Try.func10, Try.ntmps10
  go_wp2_with fail
  refine (num_at [2, 0, 3, 1, 5] 0 5 (by simp) (by decide) (by decide) B _ _ _ R p (by simp) (hr.next (below_alloc _ _)) (by omega)).mono ?_
  rintro e w1 ⟨n, rfl, ⟨hn1, hn2⟩, hb, hr1⟩
  obtain ⟨n, rfl⟩ := Int.eq_ofNat_of_zero_le hn1
  have Z := hid (pbox_but hb (by omega) (pbox_next (below_alloc _ _) (pbox_at (w := w) (B := w.heap.size) (a := .slice none 0 0) (b := .slice none 0 0) (t := 25) rfl)))
  have B1 := ((But.of (D := R) (below_alloc w _)).next (below_alloc _ _)).trans hb
  have z1 := Z.out.1
  clear hb
  go_wp2_with fail
  refine (word_any n w1 R B _ hr1 (by omega) (by omega)).mono ?_
  rintro e w2 ⟨vs, s, rfl, hvs, hsl, hsi, hb, hr2⟩
  subst hsl
  have q12 := hb.size
  replace Z := hid (pbox_but hb (by omega) Z.out)
  replace B1 := B1.trans hb
  have OS := hid hvs
  have HSI := hid hsi
  clear hb hr1 hvs hsi
  go_wp2_with fail
  refine (num_at [2, 1, 3, 4] 1 4 (by simp) (by decide) (by decide) B _ _ _ R _ rfl hr2 (by omega)).mono ?_
  rintro e w3 ⟨m, rfl, ⟨hm1, hm2⟩, hb, hr3⟩
  have q23 := hb.size
  simp only [World.size_alloc] at q23
  obtain ⟨m, rfl⟩ := Int.eq_ofNat_of_zero_le (by omega : 0 ≤ m)
  replace Z := hid (pbox_but hb (by omega) (pbox_next (below_alloc _ _) Z.out))
  replace B1 := (B1.next (below_alloc _ _)).trans hb
  replace OS := hid ((OS.out.next (below_alloc _ _)).but hb (by omega))
  clear hb hr2
  go_wp2_with fail
  refine (word_any m w3 R B _ hr3 (by omega) (by omega)).mono ?_
  rintro e w4 ⟨vl, l, rfl, hvl, hll, hli, hb, hr4⟩
  subst hll
  have q34 := hb.size
  replace Z := hid (pbox_but hb (by omega) Z.out)
  replace B1 := B1.trans hb
  replace OS := hid (OS.out.but hb (by omega))
  have hb34 := hb.size
  have OL := hid hvl
  have HLI := hid hli
  clear hb hr3 hvl hli
  obtain ⟨a, c, rfl, c1, c2, c3⟩ := OS.out.shape
  obtain ⟨b, d, rfl, d1, d2, d3⟩ := OL.out.shape
  have sz3 := hb34
  have szz := B1.size
  go_wp2_with fail
  refine (pick_any B _ _ R _ (hr4.next (below_alloc _ _)) (by omega) (by omega) (by omega)).mono ?_
  rintro e w5 ⟨i, rfl, _, hb, hr5⟩
  have X := hid (pbox_but (B := w4.heap.size) (a := .slice a s.length c) (b := .slice b l.length d) hb (by omega) (pbox_at (w := w4) (B := w4.heap.size) (a := .slice a s.length c) (b := .slice b l.length d) (t := 25) rfl))
  have LS := hid (fun g h => (OS.out.blk g h).2)
  have LL := hid (fun g h => (OL.out.blk g h).2)
  replace Z := hid (pbox_but hb (by omega) (pbox_next (below_alloc _ _) Z.out))
  replace B1 := (B1.next (below_alloc _ _)).trans hb
  replace OS := hid ((OS.out.next (below_alloc _ _)).but hb (by omega))
  replace OL := hid ((OL.out.next (below_alloc _ _)).but hb (by omega))
  have s45 : w4.heap.size < w5.heap.size := X.out.1
  have zw4 : w.heap.size < w4.heap.size := by omega
  clear hb hr4
  by_cases hi : i = 0
  · subst hi
    obtain ⟨x0, x1, x2, x3, x4⟩ := id X.out
    go_wp2_with fail
    refine wp_region_ord (C := fun wZ => ∃ xZ, wZ = World.over _ xZ) [1,2,4,5] (.one 0 (.one 3 (.one 6 (.one 7 (.fre 8 .done))))) [8] (by kernel_rfl) (by kernel_rfl) (fun d _ _ _ _ h => by cases d <;> exact h) (bex (Below.refl _ _).drew) ?_; simp only [pick, List.getElem?_cons_succ, List.getElem?_cons_zero]; (repeat (go_big_quiet_step (fail))); refine wpQuiet_nil ?_; simp only [ordW, pick, List.getElem?_cons_succ, List.getElem?_cons_zero]
    have C0 := hid (below_d (Below.refl w5.heap.size w5))
    go_wp2_with fail
    refine ⟨bex (below_a C0.out _), ?_⟩
    go_wp2_with (at_builtin; refine wp_app_own rfl _ _ rfl w5.heap.size (.slice (some ⟨w5.heap.size, 0, none⟩) 0 0) [] l b d rfl rfl d3 (OwnI.made w5.drew) (by simp) (((OL.out.next C0.out).next (below_alloc _ _)).ints2 HLI.out) (by simp) (by omega) ?_; intro v1 w6 hv1 hg1)
    have C1 := hid (below_own (below_a C0.out _) (OwnI.made w5.drew) (by simp) hg1)
    have O1 := hid (show OwnI w5.heap.size v1 l w6 by simpa using hv1)
    clear hv1 hg1
    go_wp2_with fail
    refine ⟨bex C1.out, ?_⟩
    go_wp2_with (at_builtin; refine wp_app_own rfl _ _ rfl w5.heap.size v1 l l b d rfl rfl d3 O1.out C1.out.size ((OL.out.next C1.out).ints2 HLI.out) (by omega) (by omega) ?_; intro v2 w7 hv2 hg2)
    have C2 := hid (below_own C1.out O1.out (Nat.le_refl _) hg2)
    have O2 := hid hv2
    clear hv2 hg2
    go_wp2_with fail
    refine ⟨bex C2.out, ?_⟩
    go_wp2_with fail
    refine ⟨bex C2.out, ?_⟩
    obtain ⟨b2, d2', rfl, e1, e2, e3⟩ := O2.out.shape
    replace X := hid (pbox_next C2.out X.out)
    replace Z := hid (pbox_next C2.out Z.out)
    replace OS := hid (OS.out.next C2.out)
    have B2 := B1.next C2.out
    have R2 := hr5.next C2.out
    have s57 := C2.out.size
    clear x0 x1 x2 x3 x4 B1 hr5
    obtain ⟨x0, x1, x2, x3, x4⟩ := id X.out
    obtain ⟨y0, y1, y2, y3, y4⟩ := id Z.out
    have hf := hid (last_las (w := w) (K := 12) (M := 8) (b0 := w4.heap.size) (s := s) (l := l ++ l) (R := R) (B := B) (p := p) OS.out O2.out (fun g h => by have := LS.out g h; omega) (by omega) (by omega) zw4 HSI.out (fun n hn => HLI.out n (by simpa using hn)) B2 R2 hB.2 (by omega) (by simp; omega) (by simp; omega) (.slice b2 (l ++ l).length d2') (.slice a s.length c) (.slice b2 (l ++ l).length d2') (by omega))
    have T := hid (pbox_set1 (pbox_set0 (pbox_set Z.out (show w.heap.size ≠ w4.heap.size by omega) 1 (.slice b2 (l ++ l).length d2')) (.slice a s.length c)) (.slice b2 (l ++ l).length d2'))
    rw [List.length_append] at hf T
    clear X Z OS O2 B2 R2 LS LL HSI HLI C0 C1 C2 O1 OL
    go_wp2_with fail
    obtain ⟨_, t0, t1, _, _⟩ := T.out
    refine bodyPost_ret (v := .agg #[.slice a s.length c, .slice b2 (l.length + l.length) d2']) (by simp [results, Try.results10, go_sem, t0, t1]) rfl ?_
    exact hf.out
  · have hi2 : (i == 0) = false := by simpa using hi
    obtain ⟨x0, x1, x2, x3, x4⟩ := id X.out
    obtain ⟨y0, y1, y2, y3, y4⟩ := id Z.out
    have hf := hid (last_las2 (w := w) (K := 12) (M := 8) (s := s) (l := l) (R := R) (B := B) (p := p) OS.out OL.out (by omega) (by omega) HSI.out HLI.out B1 hr5 hB.2 (by omega) (by omega) (by omega) (.slice a s.length c) (.slice b l.length d) (by omega))
    have T := hid (pbox_set1 (pbox_set0 Z.out (.slice a s.length c)) (.slice b l.length d))
    clear X Z OS OL B1 hr5 LS LL HSI HLI
    go_wp2_with fail
    obtain ⟨_, t0, t1, _, _⟩ := T.out
    refine bodyPost_ret (v := .agg #[.slice a s.length c, .slice b l.length d]) (by simp [results, Try.results10, go_sem, t0, t1]) rfl ?_
    exact hf.out
end Lasso
end Go.Proofs.Ytkjnmkjdooebmaa
namespace Go.Proofs.Ytkjnmkjdooebmaa
open Go.RowKit

/-- of the world where the walk stands only this is kept -/
theorem wp_gen {P : Program} {C : Code} {Q : Exit → Act → World → Prop} {a : Act} {w0 : World} (R : World → Prop) (h0 : R w0) (h : ∀ W, R W → C.wp P Q a W) : C.wp P Q a w0 := h _ h0
/-- three cells of an old node, in a later world -/
theorem cells_next {w W : World} (B : Below w.heap.size w W) {b o : Nat} {c0 c1 c2 : Value} (hb : b < w.heap.size) (g0 : w.cell? ⟨b, o, none⟩ = some c0) (g1 : w.cell? ⟨b, o + 1, none⟩ = some c1) (g2 : w.cell? ⟨b, o + 2, none⟩ = some c2) :
    W.cell? ⟨b, o, none⟩ = some c0 ∧ W.cell? ⟨b, o + 1, none⟩ = some c1 ∧ W.cell? ⟨b, o + 2, none⟩ = some c2 :=
  ⟨(B.cell (p := ⟨b, o, none⟩) hb).trans g0, (B.cell (p := ⟨b, o + 1, none⟩) hb).trans g1, (B.cell (p := ⟨b, o + 2, none⟩) hb).trans g2⟩

end Go.Proofs.Ytkjnmkjdooebmaa
