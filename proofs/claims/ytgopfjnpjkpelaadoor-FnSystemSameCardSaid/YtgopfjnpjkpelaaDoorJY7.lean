/- Joined texts (GuardDraw): contracts and plain laws. Conditions: those of each theorem. -/
import Derived.Test.YtgopfjnpjkpelaaDoorJY6
import Derived.Test.YtgopfjnpjkpelaaDoorJY3
import Derived.Deep.RegionHeld3
import Derived.Deep.DeepCutAuto
import Derived.Deep.CutBlock
set_option linter.unusedVariables false
set_option linter.unusedSimpArgs false
namespace Go.Proofs.YtgopfjnpjkpelaaDoor
open Go.RowKit
set_option linter.unusedVariables false
set_option linter.unusedSimpArgs false
namespace Expr

theorem nums_new (w : World) : ∀ i, i < 3 → (w.alloc (.cells #[.int .i64 6, .int .i64 7, .int .i64 6] 3)).cell? ⟨w.heap.size, i, none⟩ = some (.int .i64 ((fun i => ([6, 7, 6] : List Int).getD i 0) i)) ∧ 6 ≤ (fun i => ([6, 7, 6] : List Int).getD i 0) i ∧ (fun i => ([6, 7, 6] : List Int).getD i 0) i ≤ 7 := by
  intro i hi
  rcases (by omega : i = 0 ∨ i = 1 ∨ i = 2) with rfl | rfl | rfl <;> simp
theorem nums_next {w w' : World} {b : Nat} {g : Nat → Int} (h : Below w.heap.size w w') (hl : b < w.heap.size) (hn : ∀ i, i < 3 → w.cell? ⟨b, i, none⟩ = some (.int .i64 (g i)) ∧ 6 ≤ g i ∧ g i ≤ 7) : ∀ i, i < 3 → w'.cell? ⟨b, i, none⟩ = some (.int .i64 (g i)) ∧ 6 ≤ g i ∧ g i ≤ 7 :=
  fun i hi => ⟨(h.cell (p := ⟨b, i, none⟩) hl).trans (hn i hi).1, (hn i hi).2⟩
theorem row_six (w : World) (x0 x1 x2 x3 x4 x5 : Value) (e : TypeId) : Row (w.alloc (.cells #[x0, x1, x2, x3, x4, x5] e)) w.heap.size 6 (fun i => #[x0, x1, x2, x3, x4, x5].getD i undef) :=
  ⟨by simp, fun i hi => by
    rw [World.cell?_alloc_new]
    rcases (by omega : i = 0 ∨ i = 1 ∨ i = 2 ∨ i = 3 ∨ i = 4 ∨ i = 5) with rfl | rfl | rfl | rfl | rfl | rfl <;> rfl, fun i => by simp⟩
/-- a node above two leaves, in memory of its own -/
theorem two_leaves {W : World} {b c N : Nat} {k k1 v1 k2 v2 : Int} (hk : i64 k) (hk1 : i64 k1) (hv1 : i64 v1) (hk2 : i64 k2) (hv2 : i64 v2) (h : Row W b 6 (fun i => #[Value.int .i64 k1, .int .i64 v1, .slice none 0 0, .int .i64 k2, .int .i64 v2, .slice none 0 0].getD i undef)) (hN : N ≤ b) (hc : 2 ≤ c) (hc2 : c ≤ maxLen) :
    NewTr N (.mk k 0 [.mk k1 v1 [], .mk k2 v2 []]) (.agg #[.int .i64 k, .int .i64 0, .slice (some ⟨b, 0, none⟩) 2 c]) W := by
  obtain ⟨bs, h1, h2⟩ := TrOwn_new (w := W) (R := b) (c := c) (kids := [.mk k1 v1 [], .mk k2 v2 []]) (bs := []) (f := fun i => #[Value.int .i64 k1, .int .i64 v1, .slice none 0 0, .int .i64 k2, .int .i64 v2, .slice none 0 0].getD i undef) hk (show i64 0 by unfold i64; omega) hc hc2 h
    ((TrsOwn_cons ..).2 ⟨[], [], rfl, by simp, TrOwn_leaf hk1 hv1 (by simp), (TrsOwn_cons ..).2 ⟨[], [], rfl, by simp, TrOwn_leaf hk2 hv2 (by simp), (TrsOwn_nil ..).2 rfl⟩⟩) (by simp)
  exact ⟨bs, h1, fun x hx => by rcases h2 x hx with rfl | h; exact hN; cases h⟩
/-- a node above one tree: the row of one node is made anew -/
theorem one_above {W : World} {N : Nat} {k : Int} {t : Tr} {x y z : Value} (hk : i64 k) (h : NewTr N t (.agg #[x, y, z]) W) (hN : N ≤ W.heap.size) (e : TypeId) :
    NewTr N (.mk k 0 [t]) (.agg #[.int .i64 k, .int .i64 0, .slice (some ⟨W.heap.size, 0, none⟩) 1 1]) (W.alloc (.cells #[x, y, z] e)) := by
  obtain ⟨bs, h1, h2⟩ := h
  have hlt := TrOwn_lt.1 _ _ _ h1
  have hlt' : ∀ b, b ∈ bs → b ≠ W.heap.size := fun b hb => Nat.ne_of_lt (hlt b hb)
  obtain ⟨cs, c1, c2⟩ := TrOwn_new (w := W.alloc (.cells #[x, y, z] e)) (R := W.heap.size) (c := 1) (k := k) (v := 0) (kids := [t]) (bs := bs) (f := fun i => #[x, y, z].getD i undef) hk (by unfold i64; omega) (by simp) (by decide) ⟨by simp, fun i hi => by
      rw [World.cell?_alloc_new]
      rcases (by simp at hi; omega : i = 0 ∨ i = 1 ∨ i = 2) with rfl | rfl | rfl <;> rfl, fun i => by simp⟩
    ((TrsOwn_cons ..).2 ⟨bs, [], by simp, by simp, TrOwn_below (below_alloc W _) h1, (TrsOwn_nil ..).2 rfl⟩) (fun hm => hlt' _ hm rfl)
  exact ⟨cs, c1, fun b hb => by rcases c2 b hb with rfl | h; exact hN; exact h2 b h⟩
/-- behind the drawing of a comparison: all that is known -/
def GuardAt (w W0 : World) (R B p : Nat) (n m : Int) (O : Nat) (W : World) : Prop := ∃ (k : Int) (b : Nat), (6 ≤ k ∧ k ≤ 7) ∧ Box3 W O (.int .i64 k) (.int .i64 0) (.slice (some ⟨b, 0, none⟩) 2 2) ∧ Row W b 6 (fun i => #[Value.int .i64 2, .int .i64 n, .slice none 0 0, .int .i64 1, .int .i64 m, .slice none 0 0].getD i undef) ∧
  But w R W ∧ Rd B W R (p + 4) ∧ Box3 W w.heap.size (.int .i64 0) (.int .i64 0) (.slice none 0 0) ∧ W0.heap.size ≤ O ∧ W0.heap.size ≤ b ∧ b ≠ O
theorem guard_end {w W0 W : World} {R B p O b : Nat} {k n m : Int} {y0 y1 y2 : Value} (hX : Box3 W O y0 y1 y2) (hrow : Row W b 6 (fun i => #[Value.int .i64 2, .int .i64 n, .slice none 0 0, .int .i64 1, .int .i64 m, .slice none 0 0].getD i undef)) (hb : But w R W) (hr : Rd B W R (p + 4)) (hz : Box3 W w.heap.size (.int .i64 0) (.int .i64 0) (.slice none 0 0))
    (hO : W0.heap.size ≤ O) (hr0 : W0.heap.size ≤ b) (s0 : w.heap.size < W0.heap.size) (hB : R < B ∧ B ≤ w.heap.size) (hne : w.heap.size ≠ O) (hbo : b ≠ O) (hk : 6 ≤ k ∧ k ≤ 7) :
    GuardAt w W0 R B p n m O (((W.setCell ⟨O, 0, none⟩ (.int .i64 k)).setCell ⟨O, 1, none⟩ (.int .i64 0)).setCell ⟨O, 2, none⟩ (.slice (some ⟨b, 0, none⟩) 2 2)) :=
  ⟨k, b, hk, box3_set2 (box3_set1 (box3_set0 hX _) _) _, ((hrow.setOther (by simpa using hbo) _).setOther (by simpa using hbo) _).setOther (by simpa using hbo) _,
    But.setNew (But.setNew (But.setNew hb (by simp; omega) _) (by simp; omega) _) (by simp; omega) _, ((hr.set (by simp; omega) _).set (by simp; omega) _).set (by simp; omega) _,
    box3_but (But.set _ O 2 _) hne (box3_but (But.set _ O 1 _) hne (box3_but (But.set _ O 0 _) hne hz)), hO, hr0, hbo⟩

set_option maxRecDepth 100000 in
set_option maxHeartbeats 4000000 in
theorem guard_any (w : World) (R B p : Nat) (hr : Rd B w R p) (hp : p + 5 ≤ 1000000) : Calls Tryd.prog 38 #[.pointer (some ⟨R, 0, none⟩)] w (DrawPost B 5 4 R p w) := by
  have hB := hr.lt
  go_enter Tryd.func38, Tryd.ntmps38
  go_wp2_with fail
  refine (pick_any B _ _ R p (hr.next (below_alloc _ _)) (by omega) (by omega) (by omega)).mono ?_
  rintro e w1 ⟨i, rfl, _, hb1, hr1⟩
  have c4 := box3_but hb1 (by omega) (box3_new w (.int .i64 0) (.int .i64 0) (.slice none 0 0) 45)
  have c4l : w.heap.size < w1.heap.size := c4.1
  have B1 : But w R w1 := (But.of (below_alloc w _)).trans hb1
  clear hb1
  by_cases hi : i = 0
  · subst hi
    have hf := hid (fun u0 u1 u2 => DrawPost.ret (w := w) (K := 5) (M := 4) (leaf_new (w.heap.size + 1) w1 (k := 1) (v := 1) (by unfold i64; omega) (by unfold i64; omega)) (by omega) (by simp [nodes, nodesL]) B1 hr1 (p := p) (by omega) hB.2 u0 u1 u2)
    clear hr1 B1
    go_wp2_with fail
    refine bodyPost_ret (v := .agg #[.int .i64 1, .int .i64 1, .slice none 0 0]) (by simp [results, Tryd.results38, go_sem, c4]) rfl ?_
    exact hf.out _ _ _
  have hi2 : (i == 0) = false := by simpa using hi
  go_wp2_with fail
  refine (num_new [0, 1, 0, 2] 0 2 (by simp) (by decide) (by decide) B w1 _ R (p + 1) hr1 (by omega)).mono ?_
  rintro e w2 ⟨n, rfl, hn, hb2, hr2⟩
  have B2 := (B1.next (below_alloc _ _)).trans hb2
  have Z2 := box3_but hb2 (by omega) (box3_next (below_alloc _ _) c4)
  have s12 := hb2.size
  simp only [World.size_alloc] at s12
  clear hb2 hr1 B1 c4
  go_wp2_with fail
  refine (pick_any B _ _ R (p + 2) (hr2.next (below_alloc _ _)) (by omega) (by omega) (by omega)).mono ?_
  rintro e w3 ⟨m, rfl, ⟨m0, m1, _⟩, hb3, hr3⟩
  have hm : 0 ≤ m ∧ m < 3 := ⟨m0, m1 (by omega)⟩
  have B3 := (B2.next (below_alloc _ _)).trans hb3
  have Z3 := box3_but hb3 (by omega) (box3_next (below_alloc _ _) Z2)
  have V3 := box3_but hb3 (by omega) (box3_new w2 (.int .i64 2) (.int .i64 n) (.slice none 0 0) 45)
  have s23 := hb3.size
  simp only [World.size_alloc] at s23
  clear hb3 hr2 B2 Z2 m0 m1
  go_upto_region 5 with fail
  obtain ⟨V1, hV1⟩ : ∃ V1, V1 = w2.heap.size := ⟨_, rfl⟩
  obtain ⟨V2, hV2⟩ : ∃ V2, V2 = w3.heap.size := ⟨_, rfl⟩
  rw [← hV1] at V3
  rw [← hV1, ← hV2]
  refine wp_gen (fun W => But w R W ∧ Rd B W R (p + 3) ∧ Box3 W w.heap.size (.int .i64 0) (.int .i64 0) (.slice none 0 0) ∧ Box3 W V1 (.int .i64 2) (.int .i64 n) (.slice none 0 0) ∧ Box3 W V2 (.int .i64 1) (.int .i64 m) (.slice none 0 0) ∧ w.heap.size < W.heap.size) ⟨B3.next (below_alloc _ _), hr3.next (below_alloc _ _), box3_next (below_alloc _ _) Z3, box3_next (below_alloc _ _) V3, box3_at hV2, by simp; omega⟩ ?_
  rintro W0 ⟨B4, R4, Z4, VA, VB, sz0⟩
  have BT := hid B4
  have RD := hid R4
  have ZZ := hid Z4
  have hR1 : V1 ≠ R := by omega
  have hR2 : V2 ≠ R := by omega
  clear B4 R4 Z4 hr3 B3 Z3 V3 hV1 hV2
  go_cut [5] (fun s5 wx => ∃ O, s5 = .pointer (some ⟨O, 0, none⟩) ∧ Hid (GuardAt w W0 R B p n m O wx))
  case first =>
    obtain ⟨a0, a1, a2, a3, _⟩ := VA
    obtain ⟨d0, d1, d2, d3, _⟩ := VB
    refine wp_region_ord (C := fun wZ => ∃ xZ, wZ = World.overP _ ([V1, V2]) xZ) [0,3,4] (.thr 1 5 7 (.thr 2 5 7 (.two 5 7 (.two 6 7 (.one 7 (.fre 8 .done)) (.one 6 (.fre 8 .done))) (.one 5 (.one 6 (.fre 8 .done)))) (.two 2 7 (.two 6 7 (.one 7 (.fre 8 .done)) (.one 6 (.fre 8 .done))) (.one 2 (.one 6 (.fre 8 .done)))) (.two 2 5 (.one 5 (.one 6 (.fre 8 .done))) (.one 2 (.one 6 (.fre 8 .done))))) (.two 1 7 (.two 2 7 (.two 6 7 (.one 7 (.fre 8 .done)) (.one 6 (.fre 8 .done))) (.one 2 (.one 6 (.fre 8 .done)))) (.one 1 (.one 2 (.one 6 (.fre 8 .done))))) (.two 1 5 (.two 2 5 (.one 5 (.one 6 (.fre 8 .done))) (.one 2 (.one 6 (.fre 8 .done)))) (.one 1 (.one 2 (.one 6 (.fre 8 .done)))))) [8] (by kernel_rfl) (by kernel_rfl) (fun d _ _ _ _ h => by cases d <;> exact h) (KeepP.refl _ _).drew.ex ?_
    simp only [pick, List.getElem?_cons_succ, List.getElem?_cons_zero]
    (repeat (go_big_quiet_step (fail)))
    refine wpQuiet_nil ?_
    have h0 := below_d (Below.refl W0.heap.size W0)
    replace RD := hid (RD.out.next h0)
    replace BT := hid (BT.out.next h0)
    replace ZZ := hid (box3_next h0 ZZ.out)
    have K := hid (KeepP.below (S := [V1, V2]) h0)
    have lW := hid h0.size
    clear h0
    generalize hW0 : W0.drew = v0 at *
    clear hW0
    rw [ordW_thr]
    simp only [pick, List.getElem?_cons_succ, List.getElem?_cons_zero]
    refine ⟨?_, ?_, ?_⟩
    · go_wp2_with fail
      have h0 := below_alloc v0 (.cells #[.int .i64 6, .int .i64 7, .int .i64 6] 3)
      replace RD := hid (RD.out.next h0)
      replace BT := hid (BT.out.next h0)
      replace ZZ := hid (box3_next h0 ZZ.out)
      replace K := hid (K.out.trans (KeepP.below h0))
      have ln := hid (show v0.heap.size < (v0.alloc (.cells #[.int .i64 6, .int .i64 7, .int .i64 6] 3)).heap.size by simp)
      have gn := hid (show W0.heap.size ≤ v0.heap.size from lW.out)
      replace lW := hid (Nat.le_trans lW.out h0.size)
      have NU := hid (nums_new v0)
      refine ⟨K.out.ex, ?_⟩
      clear h0
      generalize v0.alloc (.cells #[.int .i64 6, .int .i64 7, .int .i64 6] 3) = v1 at *
      rw [ordW_thr]
      simp only [pick, List.getElem?_cons_succ, List.getElem?_cons_zero]
      refine ⟨?_, ?_, ?_⟩
      · go_wp2_with fail
        refine (num_any B 6 7 v1 R (p + 3) v0.heap.size 3 (fun i => ([6, 7, 6] : List Int).getD i 0) RD.out (by omega) (by omega) (by omega) (by have := gn.out; omega) ln.out NU.out).mono ?_
        rintro e v2 ⟨k, rfl, ⟨k1, k2⟩, hb, hr⟩
        replace BT := hid (BT.out.trans hb)
        replace ZZ := hid (box3_but hb (by omega) ZZ.out)
        replace K := hid (K.out.trans (KeepP.but hb (by simp; omega)))
        replace ln := hid (Nat.lt_of_lt_of_le ln.out hb.size)
        replace lW := hid (Nat.le_trans lW.out hb.size)
        clear RD
        have RD := hid (hr)
        clear hb hr
        clear NU
        go_wp2_with fail
        refine ⟨K.out.ex, ?_⟩
        rw [ordW_two]
        simp only [pick, List.getElem?_cons_succ, List.getElem?_cons_zero]
        refine ⟨?_, ?_⟩
        · go_wp2_with fail
          have h0 := below_alloc v2 (.cells #[.int .i64 2, .int .i64 n, .slice none 0 0, .int .i64 1, .int .i64 m, .slice none 0 0] 45)
          replace RD := hid (RD.out.next h0)
          replace BT := hid (BT.out.next h0)
          replace ZZ := hid (box3_next h0 ZZ.out)
          replace K := hid (K.out.trans (KeepP.below h0))
          have nnr := hid (show v0.heap.size ≠ v2.heap.size by have := ln.out; omega)
          replace ln := hid (Nat.lt_of_lt_of_le ln.out h0.size)
          have lr := hid (show v2.heap.size < (v2.alloc (.cells #[.int .i64 2, .int .i64 n, .slice none 0 0, .int .i64 1, .int .i64 m, .slice none 0 0] 45)).heap.size by simp)
          have gr := hid (show W0.heap.size ≤ v2.heap.size from lW.out)
          replace lW := hid (Nat.le_trans lW.out h0.size)
          have RW := hid (row_six v2 (.int .i64 2) (.int .i64 n) (.slice none 0 0) (.int .i64 1) (.int .i64 m) (.slice none 0 0) 45)
          refine ⟨K.out.ex, ?_⟩
          clear h0
          generalize v2.alloc (.cells #[.int .i64 2, .int .i64 n, .slice none 0 0, .int .i64 1, .int .i64 m, .slice none 0 0] 45) = v3 at *
          rw [ordW_two]
          simp only [pick, List.getElem?_cons_succ, List.getElem?_cons_zero]
          refine ⟨?_, ?_⟩
          · go_wp2_with fail
            refine ⟨K.out.ex, ?_⟩
            rw [ordW_one]
            simp only [pick, List.getElem?_cons_succ, List.getElem?_cons_zero]
            go_wp2_with fail
            have h0 := below_alloc v3 (.cells #[.int .i64 0, .int .i64 0, .slice none 0 0] 45)
            replace RD := hid (RD.out.next h0)
            replace BT := hid (BT.out.next h0)
            replace ZZ := hid (box3_next h0 ZZ.out)
            replace RW := hid (RW.out.below h0)
            replace K := hid (K.out.trans (KeepP.below h0))
            have nnO := hid (show v0.heap.size ≠ v3.heap.size by have := ln.out; omega)
            have nrO := hid (show v2.heap.size ≠ v3.heap.size by have := lr.out; omega)
            replace ln := hid (Nat.lt_of_lt_of_le ln.out h0.size)
            replace lr := hid (Nat.lt_of_lt_of_le lr.out h0.size)
            have lO := hid (show v3.heap.size < (v3.alloc (.cells #[.int .i64 0, .int .i64 0, .slice none 0 0] 45)).heap.size by simp)
            have gO := hid (show W0.heap.size ≤ v3.heap.size from lW.out)
            replace lW := hid (Nat.le_trans lW.out h0.size)
            have X := hid (box3_new v3 (.int .i64 0) (.int .i64 0) (.slice none 0 0) 45)
            refine ⟨K.out.ex, ?_⟩
            clear h0
            generalize v3.alloc (.cells #[.int .i64 0, .int .i64 0, .slice none 0 0] 45) = v4 at *
            rw [ordW_fre]
            simp only [pick, List.getElem?_cons_succ, List.getElem?_cons_zero]
            obtain ⟨x0, x1, x2, x3, x4, x5, x6⟩ := id X.out
            have HC := hid (guard_end (W0 := W0) (k := k) X.out RW.out BT.out RD.out ZZ.out gO.out gr.out sz0 hB (by have := gO.out; omega) (by first | exact nrO.out | exact Ne.symm nOr.out) (And.intro k1 k2))
            go_wp2_with fail
            rw [ordW_done]
            go_wp2_with fail
            go_meet
            exact ⟨_, rfl, HC⟩
          · go_wp2_with fail
            have h0 := below_alloc v3 (.cells #[.int .i64 0, .int .i64 0, .slice none 0 0] 45)
            replace RD := hid (RD.out.next h0)
            replace BT := hid (BT.out.next h0)
            replace ZZ := hid (box3_next h0 ZZ.out)
            replace RW := hid (RW.out.below h0)
            replace K := hid (K.out.trans (KeepP.below h0))
            have nnO := hid (show v0.heap.size ≠ v3.heap.size by have := ln.out; omega)
            have nrO := hid (show v2.heap.size ≠ v3.heap.size by have := lr.out; omega)
            replace ln := hid (Nat.lt_of_lt_of_le ln.out h0.size)
            replace lr := hid (Nat.lt_of_lt_of_le lr.out h0.size)
            have lO := hid (show v3.heap.size < (v3.alloc (.cells #[.int .i64 0, .int .i64 0, .slice none 0 0] 45)).heap.size by simp)
            have gO := hid (show W0.heap.size ≤ v3.heap.size from lW.out)
            replace lW := hid (Nat.le_trans lW.out h0.size)
            have X := hid (box3_new v3 (.int .i64 0) (.int .i64 0) (.slice none 0 0) 45)
            refine ⟨K.out.ex, ?_⟩
            clear h0
            generalize v3.alloc (.cells #[.int .i64 0, .int .i64 0, .slice none 0 0] 45) = v5 at *
            rw [ordW_one]
            simp only [pick, List.getElem?_cons_succ, List.getElem?_cons_zero]
            go_wp2_with fail
            refine ⟨K.out.ex, ?_⟩
            rw [ordW_fre]
            simp only [pick, List.getElem?_cons_succ, List.getElem?_cons_zero]
            obtain ⟨x0, x1, x2, x3, x4, x5, x6⟩ := id X.out
            have HC := hid (guard_end (W0 := W0) (k := k) X.out RW.out BT.out RD.out ZZ.out gO.out gr.out sz0 hB (by have := gO.out; omega) (by first | exact nrO.out | exact Ne.symm nOr.out) (And.intro k1 k2))
            go_wp2_with fail
            rw [ordW_done]
            go_wp2_with fail
            go_meet
            exact ⟨_, rfl, HC⟩
        · go_wp2_with fail
          have h0 := below_alloc v2 (.cells #[.int .i64 0, .int .i64 0, .slice none 0 0] 45)
          replace RD := hid (RD.out.next h0)
          replace BT := hid (BT.out.next h0)
          replace ZZ := hid (box3_next h0 ZZ.out)
          replace K := hid (K.out.trans (KeepP.below h0))
          have nnO := hid (show v0.heap.size ≠ v2.heap.size by have := ln.out; omega)
          replace ln := hid (Nat.lt_of_lt_of_le ln.out h0.size)
          have lO := hid (show v2.heap.size < (v2.alloc (.cells #[.int .i64 0, .int .i64 0, .slice none 0 0] 45)).heap.size by simp)
          have gO := hid (show W0.heap.size ≤ v2.heap.size from lW.out)
          replace lW := hid (Nat.le_trans lW.out h0.size)
          have X := hid (box3_new v2 (.int .i64 0) (.int .i64 0) (.slice none 0 0) 45)
          refine ⟨K.out.ex, ?_⟩
          clear h0
          generalize v2.alloc (.cells #[.int .i64 0, .int .i64 0, .slice none 0 0] 45) = v6 at *
          rw [ordW_one]
          simp only [pick, List.getElem?_cons_succ, List.getElem?_cons_zero]
          go_wp2_with fail
          have h0 := below_alloc v6 (.cells #[.int .i64 2, .int .i64 n, .slice none 0 0, .int .i64 1, .int .i64 m, .slice none 0 0] 45)
          replace RD := hid (RD.out.next h0)
          replace BT := hid (BT.out.next h0)
          replace ZZ := hid (box3_next h0 ZZ.out)
          replace X := hid (box3_next h0 X.out)
          replace K := hid (K.out.trans (KeepP.below h0))
          have nnr := hid (show v0.heap.size ≠ v6.heap.size by have := ln.out; omega)
          have nOr := hid (show v2.heap.size ≠ v6.heap.size by have := lO.out; omega)
          replace ln := hid (Nat.lt_of_lt_of_le ln.out h0.size)
          replace lO := hid (Nat.lt_of_lt_of_le lO.out h0.size)
          have lr := hid (show v6.heap.size < (v6.alloc (.cells #[.int .i64 2, .int .i64 n, .slice none 0 0, .int .i64 1, .int .i64 m, .slice none 0 0] 45)).heap.size by simp)
          have gr := hid (show W0.heap.size ≤ v6.heap.size from lW.out)
          replace lW := hid (Nat.le_trans lW.out h0.size)
          have RW := hid (row_six v6 (.int .i64 2) (.int .i64 n) (.slice none 0 0) (.int .i64 1) (.int .i64 m) (.slice none 0 0) 45)
          refine ⟨K.out.ex, ?_⟩
          clear h0
          generalize v6.alloc (.cells #[.int .i64 2, .int .i64 n, .slice none 0 0, .int .i64 1, .int .i64 m, .slice none 0 0] 45) = v7 at *
          rw [ordW_one]
          simp only [pick, List.getElem?_cons_succ, List.getElem?_cons_zero]
          go_wp2_with fail
          refine ⟨K.out.ex, ?_⟩
          rw [ordW_fre]
          simp only [pick, List.getElem?_cons_succ, List.getElem?_cons_zero]
          obtain ⟨x0, x1, x2, x3, x4, x5, x6⟩ := id X.out
          have HC := hid (guard_end (W0 := W0) (k := k) X.out RW.out BT.out RD.out ZZ.out gO.out gr.out sz0 hB (by have := gO.out; omega) (by first | exact nrO.out | exact Ne.symm nOr.out) (And.intro k1 k2))
          go_wp2_with fail
          rw [ordW_done]
          go_wp2_with fail
          go_meet
          exact ⟨_, rfl, HC⟩
      · go_wp2_with fail
        have h0 := below_alloc v1 (.cells #[.int .i64 2, .int .i64 n, .slice none 0 0, .int .i64 1, .int .i64 m, .slice none 0 0] 45)
        replace RD := hid (RD.out.next h0)
        replace BT := hid (BT.out.next h0)
        replace ZZ := hid (box3_next h0 ZZ.out)
        replace NU := hid (nums_next h0 ln.out NU.out)
        replace K := hid (K.out.trans (KeepP.below h0))
        have nnr := hid (show v0.heap.size ≠ v1.heap.size by have := ln.out; omega)
        replace ln := hid (Nat.lt_of_lt_of_le ln.out h0.size)
        have lr := hid (show v1.heap.size < (v1.alloc (.cells #[.int .i64 2, .int .i64 n, .slice none 0 0, .int .i64 1, .int .i64 m, .slice none 0 0] 45)).heap.size by simp)
        have gr := hid (show W0.heap.size ≤ v1.heap.size from lW.out)
        replace lW := hid (Nat.le_trans lW.out h0.size)
        have RW := hid (row_six v1 (.int .i64 2) (.int .i64 n) (.slice none 0 0) (.int .i64 1) (.int .i64 m) (.slice none 0 0) 45)
        refine ⟨K.out.ex, ?_⟩
        clear h0
        generalize v1.alloc (.cells #[.int .i64 2, .int .i64 n, .slice none 0 0, .int .i64 1, .int .i64 m, .slice none 0 0] 45) = v8 at *
        rw [ordW_two]
        simp only [pick, List.getElem?_cons_succ, List.getElem?_cons_zero]
        refine ⟨?_, ?_⟩
        · go_wp2_with fail
          refine (num_any B 6 7 v8 R (p + 3) v0.heap.size 3 (fun i => ([6, 7, 6] : List Int).getD i 0) RD.out (by omega) (by omega) (by omega) (by have := gn.out; omega) ln.out NU.out).mono ?_
          rintro e v9 ⟨k, rfl, ⟨k1, k2⟩, hb, hr⟩
          replace BT := hid (BT.out.trans hb)
          replace ZZ := hid (box3_but hb (by omega) ZZ.out)
          replace RW := hid (RW.out.kept hb.size (hb.block _ lr.out (by have := gr.out; omega)))
          replace K := hid (K.out.trans (KeepP.but hb (by simp; omega)))
          replace ln := hid (Nat.lt_of_lt_of_le ln.out hb.size)
          replace lr := hid (Nat.lt_of_lt_of_le lr.out hb.size)
          replace lW := hid (Nat.le_trans lW.out hb.size)
          clear RD
          have RD := hid (hr)
          clear hb hr
          clear NU
          go_wp2_with fail
          refine ⟨K.out.ex, ?_⟩
          rw [ordW_two]
          simp only [pick, List.getElem?_cons_succ, List.getElem?_cons_zero]
          refine ⟨?_, ?_⟩
          · go_wp2_with fail
            refine ⟨K.out.ex, ?_⟩
            rw [ordW_one]
            simp only [pick, List.getElem?_cons_succ, List.getElem?_cons_zero]
            go_wp2_with fail
            have h0 := below_alloc v9 (.cells #[.int .i64 0, .int .i64 0, .slice none 0 0] 45)
            replace RD := hid (RD.out.next h0)
            replace BT := hid (BT.out.next h0)
            replace ZZ := hid (box3_next h0 ZZ.out)
            replace RW := hid (RW.out.below h0)
            replace K := hid (K.out.trans (KeepP.below h0))
            have nnO := hid (show v0.heap.size ≠ v9.heap.size by have := ln.out; omega)
            have nrO := hid (show v1.heap.size ≠ v9.heap.size by have := lr.out; omega)
            replace ln := hid (Nat.lt_of_lt_of_le ln.out h0.size)
            replace lr := hid (Nat.lt_of_lt_of_le lr.out h0.size)
            have lO := hid (show v9.heap.size < (v9.alloc (.cells #[.int .i64 0, .int .i64 0, .slice none 0 0] 45)).heap.size by simp)
            have gO := hid (show W0.heap.size ≤ v9.heap.size from lW.out)
            replace lW := hid (Nat.le_trans lW.out h0.size)
            have X := hid (box3_new v9 (.int .i64 0) (.int .i64 0) (.slice none 0 0) 45)
            refine ⟨K.out.ex, ?_⟩
            clear h0
            generalize v9.alloc (.cells #[.int .i64 0, .int .i64 0, .slice none 0 0] 45) = v10 at *
            rw [ordW_fre]
            simp only [pick, List.getElem?_cons_succ, List.getElem?_cons_zero]
            obtain ⟨x0, x1, x2, x3, x4, x5, x6⟩ := id X.out
            have HC := hid (guard_end (W0 := W0) (k := k) X.out RW.out BT.out RD.out ZZ.out gO.out gr.out sz0 hB (by have := gO.out; omega) (by first | exact nrO.out | exact Ne.symm nOr.out) (And.intro k1 k2))
            go_wp2_with fail
            rw [ordW_done]
            go_wp2_with fail
            go_meet
            exact ⟨_, rfl, HC⟩
          · go_wp2_with fail
            have h0 := below_alloc v9 (.cells #[.int .i64 0, .int .i64 0, .slice none 0 0] 45)
            replace RD := hid (RD.out.next h0)
            replace BT := hid (BT.out.next h0)
            replace ZZ := hid (box3_next h0 ZZ.out)
            replace RW := hid (RW.out.below h0)
            replace K := hid (K.out.trans (KeepP.below h0))
            have nnO := hid (show v0.heap.size ≠ v9.heap.size by have := ln.out; omega)
            have nrO := hid (show v1.heap.size ≠ v9.heap.size by have := lr.out; omega)
            replace ln := hid (Nat.lt_of_lt_of_le ln.out h0.size)
            replace lr := hid (Nat.lt_of_lt_of_le lr.out h0.size)
            have lO := hid (show v9.heap.size < (v9.alloc (.cells #[.int .i64 0, .int .i64 0, .slice none 0 0] 45)).heap.size by simp)
            have gO := hid (show W0.heap.size ≤ v9.heap.size from lW.out)
            replace lW := hid (Nat.le_trans lW.out h0.size)
            have X := hid (box3_new v9 (.int .i64 0) (.int .i64 0) (.slice none 0 0) 45)
            refine ⟨K.out.ex, ?_⟩
            clear h0
            generalize v9.alloc (.cells #[.int .i64 0, .int .i64 0, .slice none 0 0] 45) = v11 at *
            rw [ordW_one]
            simp only [pick, List.getElem?_cons_succ, List.getElem?_cons_zero]
            go_wp2_with fail
            refine ⟨K.out.ex, ?_⟩
            rw [ordW_fre]
            simp only [pick, List.getElem?_cons_succ, List.getElem?_cons_zero]
            obtain ⟨x0, x1, x2, x3, x4, x5, x6⟩ := id X.out
            have HC := hid (guard_end (W0 := W0) (k := k) X.out RW.out BT.out RD.out ZZ.out gO.out gr.out sz0 hB (by have := gO.out; omega) (by first | exact nrO.out | exact Ne.symm nOr.out) (And.intro k1 k2))
            go_wp2_with fail
            rw [ordW_done]
            go_wp2_with fail
            go_meet
            exact ⟨_, rfl, HC⟩
        · go_wp2_with fail
          have h0 := below_alloc v8 (.cells #[.int .i64 0, .int .i64 0, .slice none 0 0] 45)
          replace RD := hid (RD.out.next h0)
          replace BT := hid (BT.out.next h0)
          replace ZZ := hid (box3_next h0 ZZ.out)
          replace NU := hid (nums_next h0 ln.out NU.out)
          replace RW := hid (RW.out.below h0)
          replace K := hid (K.out.trans (KeepP.below h0))
          have nnO := hid (show v0.heap.size ≠ v8.heap.size by have := ln.out; omega)
          have nrO := hid (show v1.heap.size ≠ v8.heap.size by have := lr.out; omega)
          replace ln := hid (Nat.lt_of_lt_of_le ln.out h0.size)
          replace lr := hid (Nat.lt_of_lt_of_le lr.out h0.size)
          have lO := hid (show v8.heap.size < (v8.alloc (.cells #[.int .i64 0, .int .i64 0, .slice none 0 0] 45)).heap.size by simp)
          have gO := hid (show W0.heap.size ≤ v8.heap.size from lW.out)
          replace lW := hid (Nat.le_trans lW.out h0.size)
          have X := hid (box3_new v8 (.int .i64 0) (.int .i64 0) (.slice none 0 0) 45)
          refine ⟨K.out.ex, ?_⟩
          clear h0
          generalize v8.alloc (.cells #[.int .i64 0, .int .i64 0, .slice none 0 0] 45) = v12 at *
          rw [ordW_one]
          simp only [pick, List.getElem?_cons_succ, List.getElem?_cons_zero]
          go_wp2_with fail
          refine (num_any B 6 7 v12 R (p + 3) v0.heap.size 3 (fun i => ([6, 7, 6] : List Int).getD i 0) RD.out (by omega) (by omega) (by omega) (by have := gn.out; omega) ln.out NU.out).mono ?_
          rintro e v13 ⟨k, rfl, ⟨k1, k2⟩, hb, hr⟩
          replace BT := hid (BT.out.trans hb)
          replace ZZ := hid (box3_but hb (by omega) ZZ.out)
          replace RW := hid (RW.out.kept hb.size (hb.block _ lr.out (by have := gr.out; omega)))
          replace X := hid (box3_but hb (by have := gO.out; omega) X.out)
          replace K := hid (K.out.trans (KeepP.but hb (by simp; omega)))
          replace ln := hid (Nat.lt_of_lt_of_le ln.out hb.size)
          replace lr := hid (Nat.lt_of_lt_of_le lr.out hb.size)
          replace lO := hid (Nat.lt_of_lt_of_le lO.out hb.size)
          replace lW := hid (Nat.le_trans lW.out hb.size)
          clear RD
          have RD := hid (hr)
          clear hb hr
          clear NU
          go_wp2_with fail
          refine ⟨K.out.ex, ?_⟩
          rw [ordW_one]
          simp only [pick, List.getElem?_cons_succ, List.getElem?_cons_zero]
          go_wp2_with fail
          refine ⟨K.out.ex, ?_⟩
          rw [ordW_fre]
          simp only [pick, List.getElem?_cons_succ, List.getElem?_cons_zero]
          obtain ⟨x0, x1, x2, x3, x4, x5, x6⟩ := id X.out
          have HC := hid (guard_end (W0 := W0) (k := k) X.out RW.out BT.out RD.out ZZ.out gO.out gr.out sz0 hB (by have := gO.out; omega) (by first | exact nrO.out | exact Ne.symm nOr.out) (And.intro k1 k2))
          go_wp2_with fail
          rw [ordW_done]
          go_wp2_with fail
          go_meet
          exact ⟨_, rfl, HC⟩
      · go_wp2_with fail
        have h0 := below_alloc v1 (.cells #[.int .i64 0, .int .i64 0, .slice none 0 0] 45)
        replace RD := hid (RD.out.next h0)
        replace BT := hid (BT.out.next h0)
        replace ZZ := hid (box3_next h0 ZZ.out)
        replace NU := hid (nums_next h0 ln.out NU.out)
        replace K := hid (K.out.trans (KeepP.below h0))
        have nnO := hid (show v0.heap.size ≠ v1.heap.size by have := ln.out; omega)
        replace ln := hid (Nat.lt_of_lt_of_le ln.out h0.size)
        have lO := hid (show v1.heap.size < (v1.alloc (.cells #[.int .i64 0, .int .i64 0, .slice none 0 0] 45)).heap.size by simp)
        have gO := hid (show W0.heap.size ≤ v1.heap.size from lW.out)
        replace lW := hid (Nat.le_trans lW.out h0.size)
        have X := hid (box3_new v1 (.int .i64 0) (.int .i64 0) (.slice none 0 0) 45)
        refine ⟨K.out.ex, ?_⟩
        clear h0
        generalize v1.alloc (.cells #[.int .i64 0, .int .i64 0, .slice none 0 0] 45) = v14 at *
        rw [ordW_two]
        simp only [pick, List.getElem?_cons_succ, List.getElem?_cons_zero]
        refine ⟨?_, ?_⟩
        · go_wp2_with fail
          refine (num_any B 6 7 v14 R (p + 3) v0.heap.size 3 (fun i => ([6, 7, 6] : List Int).getD i 0) RD.out (by omega) (by omega) (by omega) (by have := gn.out; omega) ln.out NU.out).mono ?_
          rintro e v15 ⟨k, rfl, ⟨k1, k2⟩, hb, hr⟩
          replace BT := hid (BT.out.trans hb)
          replace ZZ := hid (box3_but hb (by omega) ZZ.out)
          replace X := hid (box3_but hb (by have := gO.out; omega) X.out)
          replace K := hid (K.out.trans (KeepP.but hb (by simp; omega)))
          replace ln := hid (Nat.lt_of_lt_of_le ln.out hb.size)
          replace lO := hid (Nat.lt_of_lt_of_le lO.out hb.size)
          replace lW := hid (Nat.le_trans lW.out hb.size)
          clear RD
          have RD := hid (hr)
          clear hb hr
          clear NU
          go_wp2_with fail
          refine ⟨K.out.ex, ?_⟩
          rw [ordW_one]
          simp only [pick, List.getElem?_cons_succ, List.getElem?_cons_zero]
          go_wp2_with fail
          have h0 := below_alloc v15 (.cells #[.int .i64 2, .int .i64 n, .slice none 0 0, .int .i64 1, .int .i64 m, .slice none 0 0] 45)
          replace RD := hid (RD.out.next h0)
          replace BT := hid (BT.out.next h0)
          replace ZZ := hid (box3_next h0 ZZ.out)
          replace X := hid (box3_next h0 X.out)
          replace K := hid (K.out.trans (KeepP.below h0))
          have nnr := hid (show v0.heap.size ≠ v15.heap.size by have := ln.out; omega)
          have nOr := hid (show v1.heap.size ≠ v15.heap.size by have := lO.out; omega)
          replace ln := hid (Nat.lt_of_lt_of_le ln.out h0.size)
          replace lO := hid (Nat.lt_of_lt_of_le lO.out h0.size)
          have lr := hid (show v15.heap.size < (v15.alloc (.cells #[.int .i64 2, .int .i64 n, .slice none 0 0, .int .i64 1, .int .i64 m, .slice none 0 0] 45)).heap.size by simp)
          have gr := hid (show W0.heap.size ≤ v15.heap.size from lW.out)
          replace lW := hid (Nat.le_trans lW.out h0.size)
          have RW := hid (row_six v15 (.int .i64 2) (.int .i64 n) (.slice none 0 0) (.int .i64 1) (.int .i64 m) (.slice none 0 0) 45)
          refine ⟨K.out.ex, ?_⟩
          clear h0
          generalize v15.alloc (.cells #[.int .i64 2, .int .i64 n, .slice none 0 0, .int .i64 1, .int .i64 m, .slice none 0 0] 45) = v16 at *
          rw [ordW_one]
          simp only [pick, List.getElem?_cons_succ, List.getElem?_cons_zero]
          go_wp2_with fail
          refine ⟨K.out.ex, ?_⟩
          rw [ordW_fre]
          simp only [pick, List.getElem?_cons_succ, List.getElem?_cons_zero]
          obtain ⟨x0, x1, x2, x3, x4, x5, x6⟩ := id X.out
          have HC := hid (guard_end (W0 := W0) (k := k) X.out RW.out BT.out RD.out ZZ.out gO.out gr.out sz0 hB (by have := gO.out; omega) (by first | exact nrO.out | exact Ne.symm nOr.out) (And.intro k1 k2))
          go_wp2_with fail
          rw [ordW_done]
          go_wp2_with fail
          go_meet
          exact ⟨_, rfl, HC⟩
        · go_wp2_with fail
          have h0 := below_alloc v14 (.cells #[.int .i64 2, .int .i64 n, .slice none 0 0, .int .i64 1, .int .i64 m, .slice none 0 0] 45)
          replace RD := hid (RD.out.next h0)
          replace BT := hid (BT.out.next h0)
          replace ZZ := hid (box3_next h0 ZZ.out)
          replace NU := hid (nums_next h0 ln.out NU.out)
          replace X := hid (box3_next h0 X.out)
          replace K := hid (K.out.trans (KeepP.below h0))
          have nnr := hid (show v0.heap.size ≠ v14.heap.size by have := ln.out; omega)
          have nOr := hid (show v1.heap.size ≠ v14.heap.size by have := lO.out; omega)
          replace ln := hid (Nat.lt_of_lt_of_le ln.out h0.size)
          replace lO := hid (Nat.lt_of_lt_of_le lO.out h0.size)
          have lr := hid (show v14.heap.size < (v14.alloc (.cells #[.int .i64 2, .int .i64 n, .slice none 0 0, .int .i64 1, .int .i64 m, .slice none 0 0] 45)).heap.size by simp)
          have gr := hid (show W0.heap.size ≤ v14.heap.size from lW.out)
          replace lW := hid (Nat.le_trans lW.out h0.size)
          have RW := hid (row_six v14 (.int .i64 2) (.int .i64 n) (.slice none 0 0) (.int .i64 1) (.int .i64 m) (.slice none 0 0) 45)
          refine ⟨K.out.ex, ?_⟩
          clear h0
          generalize v14.alloc (.cells #[.int .i64 2, .int .i64 n, .slice none 0 0, .int .i64 1, .int .i64 m, .slice none 0 0] 45) = v17 at *
          rw [ordW_one]
          simp only [pick, List.getElem?_cons_succ, List.getElem?_cons_zero]
          go_wp2_with fail
          refine (num_any B 6 7 v17 R (p + 3) v0.heap.size 3 (fun i => ([6, 7, 6] : List Int).getD i 0) RD.out (by omega) (by omega) (by omega) (by have := gn.out; omega) ln.out NU.out).mono ?_
          rintro e v18 ⟨k, rfl, ⟨k1, k2⟩, hb, hr⟩
          replace BT := hid (BT.out.trans hb)
          replace ZZ := hid (box3_but hb (by omega) ZZ.out)
          replace X := hid (box3_but hb (by have := gO.out; omega) X.out)
          replace RW := hid (RW.out.kept hb.size (hb.block _ lr.out (by have := gr.out; omega)))
          replace K := hid (K.out.trans (KeepP.but hb (by simp; omega)))
          replace ln := hid (Nat.lt_of_lt_of_le ln.out hb.size)
          replace lO := hid (Nat.lt_of_lt_of_le lO.out hb.size)
          replace lr := hid (Nat.lt_of_lt_of_le lr.out hb.size)
          replace lW := hid (Nat.le_trans lW.out hb.size)
          clear RD
          have RD := hid (hr)
          clear hb hr
          clear NU
          go_wp2_with fail
          refine ⟨K.out.ex, ?_⟩
          rw [ordW_one]
          simp only [pick, List.getElem?_cons_succ, List.getElem?_cons_zero]
          go_wp2_with fail
          refine ⟨K.out.ex, ?_⟩
          rw [ordW_fre]
          simp only [pick, List.getElem?_cons_succ, List.getElem?_cons_zero]
          obtain ⟨x0, x1, x2, x3, x4, x5, x6⟩ := id X.out
          have HC := hid (guard_end (W0 := W0) (k := k) X.out RW.out BT.out RD.out ZZ.out gO.out gr.out sz0 hB (by have := gO.out; omega) (by first | exact nrO.out | exact Ne.symm nOr.out) (And.intro k1 k2))
          go_wp2_with fail
          rw [ordW_done]
          go_wp2_with fail
          go_meet
          exact ⟨_, rfl, HC⟩
    · go_wp2_with fail
      have h0 := below_alloc v0 (.cells #[.int .i64 2, .int .i64 n, .slice none 0 0, .int .i64 1, .int .i64 m, .slice none 0 0] 45)
      replace RD := hid (RD.out.next h0)
      replace BT := hid (BT.out.next h0)
      replace ZZ := hid (box3_next h0 ZZ.out)
      replace K := hid (K.out.trans (KeepP.below h0))
      have lr := hid (show v0.heap.size < (v0.alloc (.cells #[.int .i64 2, .int .i64 n, .slice none 0 0, .int .i64 1, .int .i64 m, .slice none 0 0] 45)).heap.size by simp)
      have gr := hid (show W0.heap.size ≤ v0.heap.size from lW.out)
      replace lW := hid (Nat.le_trans lW.out h0.size)
      have RW := hid (row_six v0 (.int .i64 2) (.int .i64 n) (.slice none 0 0) (.int .i64 1) (.int .i64 m) (.slice none 0 0) 45)
      refine ⟨K.out.ex, ?_⟩
      clear h0
      generalize v0.alloc (.cells #[.int .i64 2, .int .i64 n, .slice none 0 0, .int .i64 1, .int .i64 m, .slice none 0 0] 45) = v19 at *
      rw [ordW_two]
      simp only [pick, List.getElem?_cons_succ, List.getElem?_cons_zero]
      refine ⟨?_, ?_⟩
      · go_wp2_with fail
        have h0 := below_alloc v19 (.cells #[.int .i64 6, .int .i64 7, .int .i64 6] 3)
        replace RD := hid (RD.out.next h0)
        replace BT := hid (BT.out.next h0)
        replace ZZ := hid (box3_next h0 ZZ.out)
        replace RW := hid (RW.out.below h0)
        replace K := hid (K.out.trans (KeepP.below h0))
        have nrn := hid (show v0.heap.size ≠ v19.heap.size by have := lr.out; omega)
        replace lr := hid (Nat.lt_of_lt_of_le lr.out h0.size)
        have ln := hid (show v19.heap.size < (v19.alloc (.cells #[.int .i64 6, .int .i64 7, .int .i64 6] 3)).heap.size by simp)
        have gn := hid (show W0.heap.size ≤ v19.heap.size from lW.out)
        replace lW := hid (Nat.le_trans lW.out h0.size)
        have NU := hid (nums_new v19)
        refine ⟨K.out.ex, ?_⟩
        clear h0
        generalize v19.alloc (.cells #[.int .i64 6, .int .i64 7, .int .i64 6] 3) = v20 at *
        rw [ordW_two]
        simp only [pick, List.getElem?_cons_succ, List.getElem?_cons_zero]
        refine ⟨?_, ?_⟩
        · go_wp2_with fail
          refine (num_any B 6 7 v20 R (p + 3) v19.heap.size 3 (fun i => ([6, 7, 6] : List Int).getD i 0) RD.out (by omega) (by omega) (by omega) (by have := gn.out; omega) ln.out NU.out).mono ?_
          rintro e v21 ⟨k, rfl, ⟨k1, k2⟩, hb, hr⟩
          replace BT := hid (BT.out.trans hb)
          replace ZZ := hid (box3_but hb (by omega) ZZ.out)
          replace RW := hid (RW.out.kept hb.size (hb.block _ lr.out (by have := gr.out; omega)))
          replace K := hid (K.out.trans (KeepP.but hb (by simp; omega)))
          replace lr := hid (Nat.lt_of_lt_of_le lr.out hb.size)
          replace ln := hid (Nat.lt_of_lt_of_le ln.out hb.size)
          replace lW := hid (Nat.le_trans lW.out hb.size)
          clear RD
          have RD := hid (hr)
          clear hb hr
          clear NU
          go_wp2_with fail
          refine ⟨K.out.ex, ?_⟩
          rw [ordW_two]
          simp only [pick, List.getElem?_cons_succ, List.getElem?_cons_zero]
          refine ⟨?_, ?_⟩
          · go_wp2_with fail
            refine ⟨K.out.ex, ?_⟩
            rw [ordW_one]
            simp only [pick, List.getElem?_cons_succ, List.getElem?_cons_zero]
            go_wp2_with fail
            have h0 := below_alloc v21 (.cells #[.int .i64 0, .int .i64 0, .slice none 0 0] 45)
            replace RD := hid (RD.out.next h0)
            replace BT := hid (BT.out.next h0)
            replace ZZ := hid (box3_next h0 ZZ.out)
            replace RW := hid (RW.out.below h0)
            replace K := hid (K.out.trans (KeepP.below h0))
            have nrO := hid (show v0.heap.size ≠ v21.heap.size by have := lr.out; omega)
            have nnO := hid (show v19.heap.size ≠ v21.heap.size by have := ln.out; omega)
            replace lr := hid (Nat.lt_of_lt_of_le lr.out h0.size)
            replace ln := hid (Nat.lt_of_lt_of_le ln.out h0.size)
            have lO := hid (show v21.heap.size < (v21.alloc (.cells #[.int .i64 0, .int .i64 0, .slice none 0 0] 45)).heap.size by simp)
            have gO := hid (show W0.heap.size ≤ v21.heap.size from lW.out)
            replace lW := hid (Nat.le_trans lW.out h0.size)
            have X := hid (box3_new v21 (.int .i64 0) (.int .i64 0) (.slice none 0 0) 45)
            refine ⟨K.out.ex, ?_⟩
            clear h0
            generalize v21.alloc (.cells #[.int .i64 0, .int .i64 0, .slice none 0 0] 45) = v22 at *
            rw [ordW_fre]
            simp only [pick, List.getElem?_cons_succ, List.getElem?_cons_zero]
            obtain ⟨x0, x1, x2, x3, x4, x5, x6⟩ := id X.out
            have HC := hid (guard_end (W0 := W0) (k := k) X.out RW.out BT.out RD.out ZZ.out gO.out gr.out sz0 hB (by have := gO.out; omega) (by first | exact nrO.out | exact Ne.symm nOr.out) (And.intro k1 k2))
            go_wp2_with fail
            rw [ordW_done]
            go_wp2_with fail
            go_meet
            exact ⟨_, rfl, HC⟩
          · go_wp2_with fail
            have h0 := below_alloc v21 (.cells #[.int .i64 0, .int .i64 0, .slice none 0 0] 45)
            replace RD := hid (RD.out.next h0)
            replace BT := hid (BT.out.next h0)
            replace ZZ := hid (box3_next h0 ZZ.out)
            replace RW := hid (RW.out.below h0)
            replace K := hid (K.out.trans (KeepP.below h0))
            have nrO := hid (show v0.heap.size ≠ v21.heap.size by have := lr.out; omega)
            have nnO := hid (show v19.heap.size ≠ v21.heap.size by have := ln.out; omega)
            replace lr := hid (Nat.lt_of_lt_of_le lr.out h0.size)
            replace ln := hid (Nat.lt_of_lt_of_le ln.out h0.size)
            have lO := hid (show v21.heap.size < (v21.alloc (.cells #[.int .i64 0, .int .i64 0, .slice none 0 0] 45)).heap.size by simp)
            have gO := hid (show W0.heap.size ≤ v21.heap.size from lW.out)
            replace lW := hid (Nat.le_trans lW.out h0.size)
            have X := hid (box3_new v21 (.int .i64 0) (.int .i64 0) (.slice none 0 0) 45)
            refine ⟨K.out.ex, ?_⟩
            clear h0
            generalize v21.alloc (.cells #[.int .i64 0, .int .i64 0, .slice none 0 0] 45) = v23 at *
            rw [ordW_one]
            simp only [pick, List.getElem?_cons_succ, List.getElem?_cons_zero]
            go_wp2_with fail
            refine ⟨K.out.ex, ?_⟩
            rw [ordW_fre]
            simp only [pick, List.getElem?_cons_succ, List.getElem?_cons_zero]
            obtain ⟨x0, x1, x2, x3, x4, x5, x6⟩ := id X.out
            have HC := hid (guard_end (W0 := W0) (k := k) X.out RW.out BT.out RD.out ZZ.out gO.out gr.out sz0 hB (by have := gO.out; omega) (by first | exact nrO.out | exact Ne.symm nOr.out) (And.intro k1 k2))
            go_wp2_with fail
            rw [ordW_done]
            go_wp2_with fail
            go_meet
            exact ⟨_, rfl, HC⟩
        · go_wp2_with fail
          have h0 := below_alloc v20 (.cells #[.int .i64 0, .int .i64 0, .slice none 0 0] 45)
          replace RD := hid (RD.out.next h0)
          replace BT := hid (BT.out.next h0)
          replace ZZ := hid (box3_next h0 ZZ.out)
          replace RW := hid (RW.out.below h0)
          replace NU := hid (nums_next h0 ln.out NU.out)
          replace K := hid (K.out.trans (KeepP.below h0))
          have nrO := hid (show v0.heap.size ≠ v20.heap.size by have := lr.out; omega)
          have nnO := hid (show v19.heap.size ≠ v20.heap.size by have := ln.out; omega)
          replace lr := hid (Nat.lt_of_lt_of_le lr.out h0.size)
          replace ln := hid (Nat.lt_of_lt_of_le ln.out h0.size)
          have lO := hid (show v20.heap.size < (v20.alloc (.cells #[.int .i64 0, .int .i64 0, .slice none 0 0] 45)).heap.size by simp)
          have gO := hid (show W0.heap.size ≤ v20.heap.size from lW.out)
          replace lW := hid (Nat.le_trans lW.out h0.size)
          have X := hid (box3_new v20 (.int .i64 0) (.int .i64 0) (.slice none 0 0) 45)
          refine ⟨K.out.ex, ?_⟩
          clear h0
          generalize v20.alloc (.cells #[.int .i64 0, .int .i64 0, .slice none 0 0] 45) = v24 at *
          rw [ordW_one]
          simp only [pick, List.getElem?_cons_succ, List.getElem?_cons_zero]
          go_wp2_with fail
          refine (num_any B 6 7 v24 R (p + 3) v19.heap.size 3 (fun i => ([6, 7, 6] : List Int).getD i 0) RD.out (by omega) (by omega) (by omega) (by have := gn.out; omega) ln.out NU.out).mono ?_
          rintro e v25 ⟨k, rfl, ⟨k1, k2⟩, hb, hr⟩
          replace BT := hid (BT.out.trans hb)
          replace ZZ := hid (box3_but hb (by omega) ZZ.out)
          replace RW := hid (RW.out.kept hb.size (hb.block _ lr.out (by have := gr.out; omega)))
          replace X := hid (box3_but hb (by have := gO.out; omega) X.out)
          replace K := hid (K.out.trans (KeepP.but hb (by simp; omega)))
          replace lr := hid (Nat.lt_of_lt_of_le lr.out hb.size)
          replace ln := hid (Nat.lt_of_lt_of_le ln.out hb.size)
          replace lO := hid (Nat.lt_of_lt_of_le lO.out hb.size)
          replace lW := hid (Nat.le_trans lW.out hb.size)
          clear RD
          have RD := hid (hr)
          clear hb hr
          clear NU
          go_wp2_with fail
          refine ⟨K.out.ex, ?_⟩
          rw [ordW_one]
          simp only [pick, List.getElem?_cons_succ, List.getElem?_cons_zero]
          go_wp2_with fail
          refine ⟨K.out.ex, ?_⟩
          rw [ordW_fre]
          simp only [pick, List.getElem?_cons_succ, List.getElem?_cons_zero]
          obtain ⟨x0, x1, x2, x3, x4, x5, x6⟩ := id X.out
          have HC := hid (guard_end (W0 := W0) (k := k) X.out RW.out BT.out RD.out ZZ.out gO.out gr.out sz0 hB (by have := gO.out; omega) (by first | exact nrO.out | exact Ne.symm nOr.out) (And.intro k1 k2))
          go_wp2_with fail
          rw [ordW_done]
          go_wp2_with fail
          go_meet
          exact ⟨_, rfl, HC⟩
      · go_wp2_with fail
        have h0 := below_alloc v19 (.cells #[.int .i64 0, .int .i64 0, .slice none 0 0] 45)
        replace RD := hid (RD.out.next h0)
        replace BT := hid (BT.out.next h0)
        replace ZZ := hid (box3_next h0 ZZ.out)
        replace RW := hid (RW.out.below h0)
        replace K := hid (K.out.trans (KeepP.below h0))
        have nrO := hid (show v0.heap.size ≠ v19.heap.size by have := lr.out; omega)
        replace lr := hid (Nat.lt_of_lt_of_le lr.out h0.size)
        have lO := hid (show v19.heap.size < (v19.alloc (.cells #[.int .i64 0, .int .i64 0, .slice none 0 0] 45)).heap.size by simp)
        have gO := hid (show W0.heap.size ≤ v19.heap.size from lW.out)
        replace lW := hid (Nat.le_trans lW.out h0.size)
        have X := hid (box3_new v19 (.int .i64 0) (.int .i64 0) (.slice none 0 0) 45)
        refine ⟨K.out.ex, ?_⟩
        clear h0
        generalize v19.alloc (.cells #[.int .i64 0, .int .i64 0, .slice none 0 0] 45) = v26 at *
        rw [ordW_one]
        simp only [pick, List.getElem?_cons_succ, List.getElem?_cons_zero]
        go_wp2_with fail
        have h0 := below_alloc v26 (.cells #[.int .i64 6, .int .i64 7, .int .i64 6] 3)
        replace RD := hid (RD.out.next h0)
        replace BT := hid (BT.out.next h0)
        replace ZZ := hid (box3_next h0 ZZ.out)
        replace RW := hid (RW.out.below h0)
        replace X := hid (box3_next h0 X.out)
        replace K := hid (K.out.trans (KeepP.below h0))
        have nrn := hid (show v0.heap.size ≠ v26.heap.size by have := lr.out; omega)
        have nOn := hid (show v19.heap.size ≠ v26.heap.size by have := lO.out; omega)
        replace lr := hid (Nat.lt_of_lt_of_le lr.out h0.size)
        replace lO := hid (Nat.lt_of_lt_of_le lO.out h0.size)
        have ln := hid (show v26.heap.size < (v26.alloc (.cells #[.int .i64 6, .int .i64 7, .int .i64 6] 3)).heap.size by simp)
        have gn := hid (show W0.heap.size ≤ v26.heap.size from lW.out)
        replace lW := hid (Nat.le_trans lW.out h0.size)
        have NU := hid (nums_new v26)
        refine ⟨K.out.ex, ?_⟩
        clear h0
        generalize v26.alloc (.cells #[.int .i64 6, .int .i64 7, .int .i64 6] 3) = v27 at *
        rw [ordW_one]
        simp only [pick, List.getElem?_cons_succ, List.getElem?_cons_zero]
        go_wp2_with fail
        refine (num_any B 6 7 v27 R (p + 3) v26.heap.size 3 (fun i => ([6, 7, 6] : List Int).getD i 0) RD.out (by omega) (by omega) (by omega) (by have := gn.out; omega) ln.out NU.out).mono ?_
        rintro e v28 ⟨k, rfl, ⟨k1, k2⟩, hb, hr⟩
        replace BT := hid (BT.out.trans hb)
        replace ZZ := hid (box3_but hb (by omega) ZZ.out)
        replace RW := hid (RW.out.kept hb.size (hb.block _ lr.out (by have := gr.out; omega)))
        replace X := hid (box3_but hb (by have := gO.out; omega) X.out)
        replace K := hid (K.out.trans (KeepP.but hb (by simp; omega)))
        replace lr := hid (Nat.lt_of_lt_of_le lr.out hb.size)
        replace lO := hid (Nat.lt_of_lt_of_le lO.out hb.size)
        replace ln := hid (Nat.lt_of_lt_of_le ln.out hb.size)
        replace lW := hid (Nat.le_trans lW.out hb.size)
        clear RD
        have RD := hid (hr)
        clear hb hr
        clear NU
        go_wp2_with fail
        refine ⟨K.out.ex, ?_⟩
        rw [ordW_one]
        simp only [pick, List.getElem?_cons_succ, List.getElem?_cons_zero]
        go_wp2_with fail
        refine ⟨K.out.ex, ?_⟩
        rw [ordW_fre]
        simp only [pick, List.getElem?_cons_succ, List.getElem?_cons_zero]
        obtain ⟨x0, x1, x2, x3, x4, x5, x6⟩ := id X.out
        have HC := hid (guard_end (W0 := W0) (k := k) X.out RW.out BT.out RD.out ZZ.out gO.out gr.out sz0 hB (by have := gO.out; omega) (by first | exact nrO.out | exact Ne.symm nOr.out) (And.intro k1 k2))
        go_wp2_with fail
        rw [ordW_done]
        go_wp2_with fail
        go_meet
        exact ⟨_, rfl, HC⟩
    · go_wp2_with fail
      have h0 := below_alloc v0 (.cells #[.int .i64 0, .int .i64 0, .slice none 0 0] 45)
      replace RD := hid (RD.out.next h0)
      replace BT := hid (BT.out.next h0)
      replace ZZ := hid (box3_next h0 ZZ.out)
      replace K := hid (K.out.trans (KeepP.below h0))
      have lO := hid (show v0.heap.size < (v0.alloc (.cells #[.int .i64 0, .int .i64 0, .slice none 0 0] 45)).heap.size by simp)
      have gO := hid (show W0.heap.size ≤ v0.heap.size from lW.out)
      replace lW := hid (Nat.le_trans lW.out h0.size)
      have X := hid (box3_new v0 (.int .i64 0) (.int .i64 0) (.slice none 0 0) 45)
      refine ⟨K.out.ex, ?_⟩
      clear h0
      generalize v0.alloc (.cells #[.int .i64 0, .int .i64 0, .slice none 0 0] 45) = v29 at *
      rw [ordW_two]
      simp only [pick, List.getElem?_cons_succ, List.getElem?_cons_zero]
      refine ⟨?_, ?_⟩
      · go_wp2_with fail
        have h0 := below_alloc v29 (.cells #[.int .i64 6, .int .i64 7, .int .i64 6] 3)
        replace RD := hid (RD.out.next h0)
        replace BT := hid (BT.out.next h0)
        replace ZZ := hid (box3_next h0 ZZ.out)
        replace X := hid (box3_next h0 X.out)
        replace K := hid (K.out.trans (KeepP.below h0))
        have nOn := hid (show v0.heap.size ≠ v29.heap.size by have := lO.out; omega)
        replace lO := hid (Nat.lt_of_lt_of_le lO.out h0.size)
        have ln := hid (show v29.heap.size < (v29.alloc (.cells #[.int .i64 6, .int .i64 7, .int .i64 6] 3)).heap.size by simp)
        have gn := hid (show W0.heap.size ≤ v29.heap.size from lW.out)
        replace lW := hid (Nat.le_trans lW.out h0.size)
        have NU := hid (nums_new v29)
        refine ⟨K.out.ex, ?_⟩
        clear h0
        generalize v29.alloc (.cells #[.int .i64 6, .int .i64 7, .int .i64 6] 3) = v30 at *
        rw [ordW_two]
        simp only [pick, List.getElem?_cons_succ, List.getElem?_cons_zero]
        refine ⟨?_, ?_⟩
        · go_wp2_with fail
          refine (num_any B 6 7 v30 R (p + 3) v29.heap.size 3 (fun i => ([6, 7, 6] : List Int).getD i 0) RD.out (by omega) (by omega) (by omega) (by have := gn.out; omega) ln.out NU.out).mono ?_
          rintro e v31 ⟨k, rfl, ⟨k1, k2⟩, hb, hr⟩
          replace BT := hid (BT.out.trans hb)
          replace ZZ := hid (box3_but hb (by omega) ZZ.out)
          replace X := hid (box3_but hb (by have := gO.out; omega) X.out)
          replace K := hid (K.out.trans (KeepP.but hb (by simp; omega)))
          replace lO := hid (Nat.lt_of_lt_of_le lO.out hb.size)
          replace ln := hid (Nat.lt_of_lt_of_le ln.out hb.size)
          replace lW := hid (Nat.le_trans lW.out hb.size)
          clear RD
          have RD := hid (hr)
          clear hb hr
          clear NU
          go_wp2_with fail
          refine ⟨K.out.ex, ?_⟩
          rw [ordW_one]
          simp only [pick, List.getElem?_cons_succ, List.getElem?_cons_zero]
          go_wp2_with fail
          have h0 := below_alloc v31 (.cells #[.int .i64 2, .int .i64 n, .slice none 0 0, .int .i64 1, .int .i64 m, .slice none 0 0] 45)
          replace RD := hid (RD.out.next h0)
          replace BT := hid (BT.out.next h0)
          replace ZZ := hid (box3_next h0 ZZ.out)
          replace X := hid (box3_next h0 X.out)
          replace K := hid (K.out.trans (KeepP.below h0))
          have nOr := hid (show v0.heap.size ≠ v31.heap.size by have := lO.out; omega)
          have nnr := hid (show v29.heap.size ≠ v31.heap.size by have := ln.out; omega)
          replace lO := hid (Nat.lt_of_lt_of_le lO.out h0.size)
          replace ln := hid (Nat.lt_of_lt_of_le ln.out h0.size)
          have lr := hid (show v31.heap.size < (v31.alloc (.cells #[.int .i64 2, .int .i64 n, .slice none 0 0, .int .i64 1, .int .i64 m, .slice none 0 0] 45)).heap.size by simp)
          have gr := hid (show W0.heap.size ≤ v31.heap.size from lW.out)
          replace lW := hid (Nat.le_trans lW.out h0.size)
          have RW := hid (row_six v31 (.int .i64 2) (.int .i64 n) (.slice none 0 0) (.int .i64 1) (.int .i64 m) (.slice none 0 0) 45)
          refine ⟨K.out.ex, ?_⟩
          clear h0
          generalize v31.alloc (.cells #[.int .i64 2, .int .i64 n, .slice none 0 0, .int .i64 1, .int .i64 m, .slice none 0 0] 45) = v32 at *
          rw [ordW_one]
          simp only [pick, List.getElem?_cons_succ, List.getElem?_cons_zero]
          go_wp2_with fail
          refine ⟨K.out.ex, ?_⟩
          rw [ordW_fre]
          simp only [pick, List.getElem?_cons_succ, List.getElem?_cons_zero]
          obtain ⟨x0, x1, x2, x3, x4, x5, x6⟩ := id X.out
          have HC := hid (guard_end (W0 := W0) (k := k) X.out RW.out BT.out RD.out ZZ.out gO.out gr.out sz0 hB (by have := gO.out; omega) (by first | exact nrO.out | exact Ne.symm nOr.out) (And.intro k1 k2))
          go_wp2_with fail
          rw [ordW_done]
          go_wp2_with fail
          go_meet
          exact ⟨_, rfl, HC⟩
        · go_wp2_with fail
          have h0 := below_alloc v30 (.cells #[.int .i64 2, .int .i64 n, .slice none 0 0, .int .i64 1, .int .i64 m, .slice none 0 0] 45)
          replace RD := hid (RD.out.next h0)
          replace BT := hid (BT.out.next h0)
          replace ZZ := hid (box3_next h0 ZZ.out)
          replace X := hid (box3_next h0 X.out)
          replace NU := hid (nums_next h0 ln.out NU.out)
          replace K := hid (K.out.trans (KeepP.below h0))
          have nOr := hid (show v0.heap.size ≠ v30.heap.size by have := lO.out; omega)
          have nnr := hid (show v29.heap.size ≠ v30.heap.size by have := ln.out; omega)
          replace lO := hid (Nat.lt_of_lt_of_le lO.out h0.size)
          replace ln := hid (Nat.lt_of_lt_of_le ln.out h0.size)
          have lr := hid (show v30.heap.size < (v30.alloc (.cells #[.int .i64 2, .int .i64 n, .slice none 0 0, .int .i64 1, .int .i64 m, .slice none 0 0] 45)).heap.size by simp)
          have gr := hid (show W0.heap.size ≤ v30.heap.size from lW.out)
          replace lW := hid (Nat.le_trans lW.out h0.size)
          have RW := hid (row_six v30 (.int .i64 2) (.int .i64 n) (.slice none 0 0) (.int .i64 1) (.int .i64 m) (.slice none 0 0) 45)
          refine ⟨K.out.ex, ?_⟩
          clear h0
          generalize v30.alloc (.cells #[.int .i64 2, .int .i64 n, .slice none 0 0, .int .i64 1, .int .i64 m, .slice none 0 0] 45) = v33 at *
          rw [ordW_one]
          simp only [pick, List.getElem?_cons_succ, List.getElem?_cons_zero]
          go_wp2_with fail
          refine (num_any B 6 7 v33 R (p + 3) v29.heap.size 3 (fun i => ([6, 7, 6] : List Int).getD i 0) RD.out (by omega) (by omega) (by omega) (by have := gn.out; omega) ln.out NU.out).mono ?_
          rintro e v34 ⟨k, rfl, ⟨k1, k2⟩, hb, hr⟩
          replace BT := hid (BT.out.trans hb)
          replace ZZ := hid (box3_but hb (by omega) ZZ.out)
          replace X := hid (box3_but hb (by have := gO.out; omega) X.out)
          replace RW := hid (RW.out.kept hb.size (hb.block _ lr.out (by have := gr.out; omega)))
          replace K := hid (K.out.trans (KeepP.but hb (by simp; omega)))
          replace lO := hid (Nat.lt_of_lt_of_le lO.out hb.size)
          replace ln := hid (Nat.lt_of_lt_of_le ln.out hb.size)
          replace lr := hid (Nat.lt_of_lt_of_le lr.out hb.size)
          replace lW := hid (Nat.le_trans lW.out hb.size)
          clear RD
          have RD := hid (hr)
          clear hb hr
          clear NU
          go_wp2_with fail
          refine ⟨K.out.ex, ?_⟩
          rw [ordW_one]
          simp only [pick, List.getElem?_cons_succ, List.getElem?_cons_zero]
          go_wp2_with fail
          refine ⟨K.out.ex, ?_⟩
          rw [ordW_fre]
          simp only [pick, List.getElem?_cons_succ, List.getElem?_cons_zero]
          obtain ⟨x0, x1, x2, x3, x4, x5, x6⟩ := id X.out
          have HC := hid (guard_end (W0 := W0) (k := k) X.out RW.out BT.out RD.out ZZ.out gO.out gr.out sz0 hB (by have := gO.out; omega) (by first | exact nrO.out | exact Ne.symm nOr.out) (And.intro k1 k2))
          go_wp2_with fail
          rw [ordW_done]
          go_wp2_with fail
          go_meet
          exact ⟨_, rfl, HC⟩
      · go_wp2_with fail
        have h0 := below_alloc v29 (.cells #[.int .i64 2, .int .i64 n, .slice none 0 0, .int .i64 1, .int .i64 m, .slice none 0 0] 45)
        replace RD := hid (RD.out.next h0)
        replace BT := hid (BT.out.next h0)
        replace ZZ := hid (box3_next h0 ZZ.out)
        replace X := hid (box3_next h0 X.out)
        replace K := hid (K.out.trans (KeepP.below h0))
        have nOr := hid (show v0.heap.size ≠ v29.heap.size by have := lO.out; omega)
        replace lO := hid (Nat.lt_of_lt_of_le lO.out h0.size)
        have lr := hid (show v29.heap.size < (v29.alloc (.cells #[.int .i64 2, .int .i64 n, .slice none 0 0, .int .i64 1, .int .i64 m, .slice none 0 0] 45)).heap.size by simp)
        have gr := hid (show W0.heap.size ≤ v29.heap.size from lW.out)
        replace lW := hid (Nat.le_trans lW.out h0.size)
        have RW := hid (row_six v29 (.int .i64 2) (.int .i64 n) (.slice none 0 0) (.int .i64 1) (.int .i64 m) (.slice none 0 0) 45)
        refine ⟨K.out.ex, ?_⟩
        clear h0
        generalize v29.alloc (.cells #[.int .i64 2, .int .i64 n, .slice none 0 0, .int .i64 1, .int .i64 m, .slice none 0 0] 45) = v35 at *
        rw [ordW_one]
        simp only [pick, List.getElem?_cons_succ, List.getElem?_cons_zero]
        go_wp2_with fail
        have h0 := below_alloc v35 (.cells #[.int .i64 6, .int .i64 7, .int .i64 6] 3)
        replace RD := hid (RD.out.next h0)
        replace BT := hid (BT.out.next h0)
        replace ZZ := hid (box3_next h0 ZZ.out)
        replace X := hid (box3_next h0 X.out)
        replace RW := hid (RW.out.below h0)
        replace K := hid (K.out.trans (KeepP.below h0))
        have nOn := hid (show v0.heap.size ≠ v35.heap.size by have := lO.out; omega)
        have nrn := hid (show v29.heap.size ≠ v35.heap.size by have := lr.out; omega)
        replace lO := hid (Nat.lt_of_lt_of_le lO.out h0.size)
        replace lr := hid (Nat.lt_of_lt_of_le lr.out h0.size)
        have ln := hid (show v35.heap.size < (v35.alloc (.cells #[.int .i64 6, .int .i64 7, .int .i64 6] 3)).heap.size by simp)
        have gn := hid (show W0.heap.size ≤ v35.heap.size from lW.out)
        replace lW := hid (Nat.le_trans lW.out h0.size)
        have NU := hid (nums_new v35)
        refine ⟨K.out.ex, ?_⟩
        clear h0
        generalize v35.alloc (.cells #[.int .i64 6, .int .i64 7, .int .i64 6] 3) = v36 at *
        rw [ordW_one]
        simp only [pick, List.getElem?_cons_succ, List.getElem?_cons_zero]
        go_wp2_with fail
        refine (num_any B 6 7 v36 R (p + 3) v35.heap.size 3 (fun i => ([6, 7, 6] : List Int).getD i 0) RD.out (by omega) (by omega) (by omega) (by have := gn.out; omega) ln.out NU.out).mono ?_
        rintro e v37 ⟨k, rfl, ⟨k1, k2⟩, hb, hr⟩
        replace BT := hid (BT.out.trans hb)
        replace ZZ := hid (box3_but hb (by omega) ZZ.out)
        replace X := hid (box3_but hb (by have := gO.out; omega) X.out)
        replace RW := hid (RW.out.kept hb.size (hb.block _ lr.out (by have := gr.out; omega)))
        replace K := hid (K.out.trans (KeepP.but hb (by simp; omega)))
        replace lO := hid (Nat.lt_of_lt_of_le lO.out hb.size)
        replace lr := hid (Nat.lt_of_lt_of_le lr.out hb.size)
        replace ln := hid (Nat.lt_of_lt_of_le ln.out hb.size)
        replace lW := hid (Nat.le_trans lW.out hb.size)
        clear RD
        have RD := hid (hr)
        clear hb hr
        clear NU
        go_wp2_with fail
        refine ⟨K.out.ex, ?_⟩
        rw [ordW_one]
        simp only [pick, List.getElem?_cons_succ, List.getElem?_cons_zero]
        go_wp2_with fail
        refine ⟨K.out.ex, ?_⟩
        rw [ordW_fre]
        simp only [pick, List.getElem?_cons_succ, List.getElem?_cons_zero]
        obtain ⟨x0, x1, x2, x3, x4, x5, x6⟩ := id X.out
        have HC := hid (guard_end (W0 := W0) (k := k) X.out RW.out BT.out RD.out ZZ.out gO.out gr.out sz0 hB (by have := gO.out; omega) (by first | exact nrO.out | exact Ne.symm nOr.out) (And.intro k1 k2))
        go_wp2_with fail
        rw [ordW_done]
        go_wp2_with fail
        go_meet
        exact ⟨_, rfl, HC⟩
  case rest =>
    obtain ⟨O, rfl, HC⟩ := hcut
    obtain ⟨k, b, hk, hX, hrow, hbt, hrd, hz, g1, g2, g3⟩ := HC.out
    clear HC
    have hn0 := two_leaves (W := wc) (N := W0.heap.size) (k := k) (k1 := 2) (v1 := n) (k2 := 1) (v2 := m) (c := 2) (by unfold i64; omega) (by unfold i64; omega) (by unfold i64; omega) (by unfold i64; omega) (by unfold i64; omega) hrow g2 (by omega) (by decide)
    generalize hT : Tr.mk k 0 [.mk 2 n [], .mk 1 m []] = T at hn0
    have hNT : nodes T = 3 := by subst hT; simp [nodes, nodesL]
    have hXs := hX.1
    clear hT hrow ZZ RD BT
    go_wp2_with fail
    refine (pick_any B _ _ R (p + 4) hrd (by omega) (by omega) (by omega)).mono ?_
    rintro e w5 ⟨j, rfl, _, hb5, hr5⟩
    have hX5 := box3_but hb5 (by omega) hX
    have hz5 := box3_but hb5 (by omega) hz
    have B5 := hbt.trans hb5
    have hn5 : NewTr W0.heap.size T (.agg #[.int .i64 k, .int .i64 0, .slice (some ⟨b, 0, none⟩) 2 2]) w5 := hn0.keep (Keep.but hb5 (by omega))
    have s5 := hb5.size
    clear hb5 hX hz hbt hrd hn0
    by_cases hj : j = 0
    · subst hj
      have hf := hid (fun u0 u1 u2 => DrawPost.ret (w := w) (K := 5) (M := 4) (one_above (k := 3) (by unfold i64; omega) hn5 (by omega) 45) sz0 (by simp only [nodes, nodesL]; omega) (B5.next (below_alloc _ _)) (hr5.next (below_alloc _ _)) (p := p) (by omega) hB.2 u0 u1 u2)
      clear hr5 B5 hn5
      obtain ⟨x0, x1, x2, x3, x4, x5, x6⟩ := id hX5
      have hlt := hz5.1
      have HF := hf.out (.int .i64 3) (.int .i64 0) (.slice (some ⟨w5.heap.size, 0, none⟩) 1 1)
      rw [World.setCell_alloc_past _ _ _ _ hlt, World.setCell_alloc_past _ _ _ _ (by simpa using hlt), World.setCell_alloc_past _ _ _ _ (by simpa using hlt)] at HF
      replace HF := hid HF
      clear hf
      go_wp2_with fail
      refine bodyPost_ret (v := .agg #[.int .i64 3, .int .i64 0, .slice (some ⟨w5.heap.size, 0, none⟩) 1 1]) (by simp [results, Tryd.results38, go_sem, hz5, hlt]) rfl ?_
      exact HF.out
    have hj2 : (j == 0) = false := by simpa using hj
    have hf := hid (fun u0 u1 u2 => DrawPost.ret (w := w) (K := 5) (M := 4) hn5 sz0 (by omega) B5 hr5 (p := p) (by omega) hB.2 u0 u1 u2)
    clear hr5 B5 hn5
    obtain ⟨x0, x1, x2, x3, x4, x5, x6⟩ := id hX5
    go_wp2_with fail
    refine bodyPost_ret (v := .agg #[.int .i64 k, .int .i64 0, .slice (some ⟨b, 0, none⟩) 2 2]) (by simp [results, Tryd.results38, go_sem, hz5]) rfl ?_
    exact hf.out _ _ _
end Expr
end Go.Proofs.YtgopfjnpjkpelaaDoor
