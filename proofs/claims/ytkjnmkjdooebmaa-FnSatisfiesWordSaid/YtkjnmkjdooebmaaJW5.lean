/- Joined texts (LasMut): contracts and plain laws. Conditions: those of each theorem. -/
import Derived.Test.YtkjnmkjdooebmaaJW4
import Derived.Deep.RegionHeld3
import Derived.Deep.DeepCutAuto
import Derived.Deep.CutBlock
set_option linter.unusedVariables false
set_option linter.unusedSimpArgs false
namespace Go.Proofs.Ytkjnmkjdooebmaa
open Go.RowKit
set_option linter.unusedVariables false
set_option linter.unusedSimpArgs false
namespace Lasso

theorem RowV.mono {N N' : Nat} {l : List Int} {v : Value} {w : World} (h : RowV N l v w) (hN : N' ≤ N) : RowV N' l v w := by
  obtain ⟨a, c, bs, h1, h2, h3, h4, h5, h6⟩ := h
  exact ⟨a, c, bs, h1, h2, h3, h4, h5, fun b hb => Nat.le_trans hN (h6 b hb)⟩
theorem RowV.set {N : Nat} {l : List Int} {v : Value} {w : World} (h : RowV N l v w) {a : Addr} (ha : a.block < N) (u : Value) : RowV N l v (w.setCell a u) :=
  h.frame (by simp) fun b hb _ => Below.heap_setCell _ _ _ _ (by omega)
/-- what a changed lasso comes to -/
def MutPost (B K M R p : Nat) (w : World) (e : Ending) (w' : World) : Prop :=
  ∃ v s l p', e = .returned v ∧ NewLas w.heap.size s l v w' ∧ s.length ≤ M ∧ l.length ≤ M ∧ But w R w' ∧ Rd B w' R p' ∧ p' ≤ p + K

theorem mut_last {w W : World} {s l : List Int} {R B p K p' N M : Nat} {v1 v2 : Value} (h1 : RowV N s v1 W) (h2 : RowV N l v2 W) (hN : w.heap.size + 1 < N) (i1 : ∀ n, n ∈ s → i64 n) (i2 : ∀ n, n ∈ l → i64 n) (hb : But w R W) (hr : Rd B W R p') (hB : B ≤ w.heap.size)
    (m1 : s.length ≤ M) (m2 : l.length ≤ M) (u1 u2 : Value) (hp : p' ≤ p + K) :
    MutPost B K M R p w (.returned (.agg #[v1, v2])) ((W.setCell ⟨w.heap.size + 1, 0, none⟩ u1).setCell ⟨w.heap.size + 1, 1, none⟩ u2) :=
  ⟨_, s, l, p', rfl, ⟨v1, v2, rfl, ((h1.set (by simpa using hN) _).set (by simpa using hN) _).mono (by omega), ((h2.set (by simpa using hN) _).set (by simpa using hN) _).mono (by omega), i1, i2⟩, m1, m2,
    But.setNew (But.setNew hb (by simp) _) (by simp) _, (hr.set (by simp; omega) _).set (by simp; omega) _, hp⟩
theorem mut_last0 {w W : World} {s : List Int} {R B p K p' N M b : Nat} {v1 : Value} (hb0 : b = W.heap.size) (h1 : RowV N s v1 W) (hN : w.heap.size + 1 < N) (i1 : ∀ n, n ∈ s → i64 n) (hb : But w R W) (hr : Rd B W R p')
    (m1 : s.length ≤ M) (hp : p' ≤ p + K) :
    MutPost B K M R p w (.returned (.agg #[v1, .slice (some ⟨b, 0, none⟩) 0 0])) (W.alloc (.cells #[] 3)) := by
  subst hb0
  have := hb.size
  exact ⟨_, s, [], p', rfl, ⟨v1, _, rfl, (h1.frame (below_alloc _ _).size fun b _ hl => (below_alloc W _).block b hl).mono (by omega), ((OwnI.made W).rowV).mono (by omega), i1, by simp⟩, m1, by simp, hb.next (below_alloc _ _), hr.next (below_alloc _ _), hp⟩
theorem row_one (W : World) (x : Int) (h : i64 x) : IntsIn Any (W.alloc (.cells #[.int .i64 x] 3)) (some ⟨W.heap.size, 0, none⟩) [x] := ⟨.inr ⟨W.heap.size, 0, rfl, trivial, by simp, fun i v hi => by
    cases i with
    | zero => simp at hi; subst hi; simp
    | succ i => simp at hi⟩, fun m hm => by simp at hm; subst hm; exact h⟩
/-- how long the row is that the variable O holds -/
def lenAt (w : World) (O : Nat) : Nat := match w.cell? ⟨O, 0, none⟩ with | some (.slice _ n _) => n | _ => 0
/-- while the stem grows -/
def StemAt (w : World) (N O R B p n : Nat) (vl : Value) (l : List Int) (wr : World) : Prop := ∃ (v : Value) (t : List Int) (q : Nat), BoxP wr O v vl ∧ OwnI N v t wr ∧ OwnI N vl l wr ∧ BoxP wr (w.heap.size + 1) (.slice none 0 0) (.slice none 0 0) ∧ But w R wr ∧ Rd B wr R q ∧ t.length ≤ 81 ∧
  (∀ m, m ∈ t → i64 m) ∧ (∀ g, v.ownBlock = some g → g ≠ O) ∧ (∀ g, v.ownBlock = some g → vl.ownBlock ≠ some g) ∧ q + n = p + 1 + t.length
theorem own_rowset {B g c q : Nat} {l : List Int} {w : World} {n : Int} (h : OwnI B (.slice (some ⟨g, 0, none⟩) l.length c) l w) (hq : q < l.length) : RowV B (l.set q n) (.slice (some ⟨g, 0, none⟩) l.length c) (w.setCell ⟨g, q, none⟩ (.int .i64 n)) := by
  rcases h.row with ⟨rfl, _⟩ | ⟨g', c', e, h1, h2, h3, h4⟩
  · simp at hq
  · simp at e
    obtain ⟨rfl, rfl⟩ := e
    refine ⟨_, c, [g], by simp, by simpa using h2, h3, (fun e => by cases e), .inr ⟨g, rfl, rfl, ?_⟩, by simpa using h1⟩
    have h5 := h4.set hq (.int .i64 n)
    simp only [List.length_map, List.length_set]
    refine h5.congr fun i hi => ?_
    show (if i = q then _ else (l.map (Value.int .i64)).getD i undef) = ((l.set q n).map (Value.int .i64)).getD i undef
    rw [List.getD_eq_getElem?_getD, List.getD_eq_getElem?_getD, List.getElem?_map, List.getElem?_map, List.getElem?_set]
    by_cases hiq : i = q
    · subst hiq; simp [hi]
    · rw [if_neg hiq, if_neg (Ne.symm hiq)]

set_option maxRecDepth 100000 in
set_option maxHeartbeats 4000000 in
theorem mutate_any (w : World) (R B p : Nat) (s l : List Int) (x : Value) (hx : PairIn Any w s l x) (hn : NilOk x) (h1 : s.length ≤ 20) (h2 : l.length ≤ 20) (h3 : 1 ≤ l.length) (hr : Rd B w R p) (hp : p + 100 ≤ 1000000) : Calls Try.prog 13 #[.pointer (some ⟨R, 0, none⟩), x] w (MutPost B 100 90 R p w) := by
  have hB := hr.lt
  obtain ⟨a, b, c, d, rfl, hi1, hi2, c1, c2, d1, d2⟩ := hx
  obtain ⟨n1, n2⟩ := hn _ _ _ _ _ _ rfl
  have I1 := hid hi1
  have I2 := hid hi2
  clear hn hi1 hi2
  go_enter Try.func13, Try.ntmps13
  go_upto_region 1 with fail
  refine wp_gen (fun W => Below w.heap.size w W ∧ BoxP W w.heap.size (.slice a s.length c) (.slice b l.length d) ∧ BoxP W (w.heap.size + 1) (.slice none 0 0) (.slice none 0 0) ∧ w.heap.size + 2 = W.heap.size) ⟨(by repeat (first | exact Below.refl _ _ | assumption | refine below_a ?_ _ | refine below_o ?_ _ | refine below_d ?_ | refine below_n ?_ _ | refine below_s ?_ (by first | (simp; done) | (simp; omega) | omega) _)), boxp_next (below_alloc _ _) (boxp_at rfl), boxp_at (by simp), by simp⟩ ?_
  rintro W0 ⟨B0, P0, Z0, hs0⟩
  have HB0 := hid B0
  have HP0 := hid P0
  have HZ0 := hid Z0
  have HI1 := hid (fun (W : World) (M : Below W0.heap.size W0 W) => (I1.out.below B0).below M)
  have HI2 := hid (fun (W : World) (M : Below W0.heap.size W0 W) => (I2.out.below B0).below M)
  clear B0 Z0
  go_cut [5] (fun s5 wx => ∃ O vs vl, s5 = .pointer (some ⟨O, 0, none⟩) ∧ Hid (Cl2 W0 s l O vs vl wx))
  case first =>
    obtain ⟨p0, p1, p2, p3, p4⟩ := P0
    refine wp_region_ord (C := fun wZ => ∃ xZ, wZ = World.over _ xZ) [1,2,5,6] (.thr 0 4 9 (.thr 3 4 9 (.two 4 9 (.two 7 9 (.two 8 9 (.one 9 (.fre 10 .done)) (.one 8 (.fre 10 .done))) (.one 7 (.one 8 (.fre 10 .done)))) (.one 4 (.one 7 (.one 8 (.fre 10 .done))))) (.two 3 9 (.two 7 9 (.two 8 9 (.one 9 (.fre 10 .done)) (.one 8 (.fre 10 .done))) (.one 7 (.one 8 (.fre 10 .done)))) (.one 3 (.one 7 (.one 8 (.fre 10 .done))))) (.two 3 4 (.one 4 (.one 7 (.one 8 (.fre 10 .done)))) (.one 3 (.one 7 (.one 8 (.fre 10 .done)))))) (.two 0 9 (.two 3 9 (.two 7 9 (.two 8 9 (.one 9 (.fre 10 .done)) (.one 8 (.fre 10 .done))) (.one 7 (.one 8 (.fre 10 .done)))) (.one 3 (.one 7 (.one 8 (.fre 10 .done))))) (.one 0 (.one 3 (.one 7 (.one 8 (.fre 10 .done)))))) (.two 0 4 (.two 3 4 (.one 4 (.one 7 (.one 8 (.fre 10 .done)))) (.one 3 (.one 7 (.one 8 (.fre 10 .done))))) (.one 0 (.one 3 (.one 7 (.one 8 (.fre 10 .done))))))) [10] (by kernel_rfl) (by kernel_rfl) (fun d _ _ _ _ h => by cases d <;> exact h) (bex (Below.refl _ _).drew) ?_
    simp only [pick, List.getElem?_cons_succ, List.getElem?_cons_zero]
    (repeat (go_big_quiet_step (fail)))
    refine wpQuiet_nil ?_
    have C := hid (below_d (Below.refl W0.heap.size W0))
    have lW := hid (show W0.heap.size ≤ W0.drew.heap.size from Nat.le_refl _)
    generalize W0.drew = v0 at *
    rw [ordW_thr]
    simp only [pick, List.getElem?_cons_succ, List.getElem?_cons_zero]
    refine ⟨?_, ?_, ?_⟩
    · go_wp2_with fail
      have h0 := below_alloc v0 (.cells #[] 3)
      replace C := hid (below_next C.out h0)
      have l1 := hid (show v0.heap.size < (v0.alloc (.cells #[] 3)).heap.size by simp)
      have g1 := hid (show W0.heap.size ≤ v0.heap.size from lW.out)
      replace lW := hid (Nat.le_trans lW.out h0.size)
      have M1 := hid (OwnI.made v0)
      refine ⟨bex C.out, ?_⟩
      clear h0
      generalize v0.alloc (.cells #[] 3) = v1 at *
      rw [ordW_thr]
      simp only [pick, List.getElem?_cons_succ, List.getElem?_cons_zero]
      refine ⟨?_, ?_, ?_⟩
      · go_wp2_with (at_builtin; refine wp_app_clone rfl _ _ rfl (v0.heap.size) s a c rfl rfl M1.out l1.out n1 (HI1.out _ C.out) (by omega) ?_; intro k1 cc1 v2 hor hown hg hlt)
        have D1 := hid hown
        replace C := hid (below_own C.out M1.out g1.out hg)
        have gk := hid (show W0.heap.size ≤ k1 by rcases hor with rfl | rfl; exact g1.out; exact lW.out)
        clear l1
        have l1 := hid hlt
        replace lW := hid (Nat.le_trans lW.out hg.size)
        clear M1 hor hown hlt hg gk
        go_wp2_with fail
        refine ⟨bex C.out, ?_⟩
        rw [ordW_two]
        simp only [pick, List.getElem?_cons_succ, List.getElem?_cons_zero]
        refine ⟨?_, ?_⟩
        · go_wp2_with fail
          have h0 := below_alloc v2 (.cells #[] 3)
          replace D1 := hid (D1.out.next h0)
          replace C := hid (below_next C.out h0)
          have n12 := hid (show k1 ≠ v2.heap.size by have := l1.out; omega)
          replace l1 := hid (Nat.lt_of_lt_of_le l1.out h0.size)
          have l2 := hid (show v2.heap.size < (v2.alloc (.cells #[] 3)).heap.size by simp)
          have g2 := hid (show W0.heap.size ≤ v2.heap.size from lW.out)
          replace lW := hid (Nat.le_trans lW.out h0.size)
          have M2 := hid (OwnI.made v2)
          refine ⟨bex C.out, ?_⟩
          clear h0
          generalize v2.alloc (.cells #[] 3) = v3 at *
          rw [ordW_two]
          simp only [pick, List.getElem?_cons_succ, List.getElem?_cons_zero]
          refine ⟨?_, ?_⟩
          · go_wp2_with (at_builtin; refine wp_app_clone rfl _ _ rfl (v2.heap.size) l b d rfl rfl M2.out l2.out n2 (HI2.out _ C.out) (by omega) ?_; intro k2 cc2 v4 hor hown hg hlt)
            have D2 := hid hown
            replace C := hid (below_own C.out M2.out g2.out hg)
            replace D1 := hid (D1.out.grow hg (by first | exact n12.out | exact Ne.symm n21.out))
            have m21 := hid (show k2 ≠ k1 by rcases hor with rfl | rfl; (first | exact Ne.symm n12.out | exact n21.out); (have := l1.out; omega))
            replace l1 := hid (Nat.lt_of_lt_of_le l1.out hg.size)
            have gk := hid (show W0.heap.size ≤ k2 by rcases hor with rfl | rfl; exact g2.out; exact lW.out)
            clear l2
            have l2 := hid hlt
            replace lW := hid (Nat.le_trans lW.out hg.size)
            (first | clear n12 | clear n21); have n21 := hid m21.out; clear m21
            clear M2 hor hown hlt hg gk
            go_wp2_with fail
            refine ⟨bex C.out, ?_⟩
            rw [ordW_two]
            simp only [pick, List.getElem?_cons_succ, List.getElem?_cons_zero]
            refine ⟨?_, ?_⟩
            · go_wp2_with fail
              refine ⟨bex C.out, ?_⟩
              rw [ordW_one]
              simp only [pick, List.getElem?_cons_succ, List.getElem?_cons_zero]
              go_wp2_with fail
              have h0 := below_alloc v4 (.cells #[.slice none 0 0, .slice none 0 0] 25)
              replace D1 := hid (D1.out.next h0)
              replace D2 := hid (D2.out.next h0)
              replace C := hid (below_next C.out h0)
              have n1O := hid (show k1 ≠ v4.heap.size by have := l1.out; omega)
              have n2O := hid (show k2 ≠ v4.heap.size by have := l2.out; omega)
              replace l1 := hid (Nat.lt_of_lt_of_le l1.out h0.size)
              replace l2 := hid (Nat.lt_of_lt_of_le l2.out h0.size)
              have lO := hid (show v4.heap.size < (v4.alloc (.cells #[.slice none 0 0, .slice none 0 0] 25)).heap.size by simp)
              have gO := hid (show W0.heap.size ≤ v4.heap.size from lW.out)
              replace lW := hid (Nat.le_trans lW.out h0.size)
              have X := hid (boxp_at (w := v4) (B := v4.heap.size) (a := .slice none 0 0) (b := .slice none 0 0) (t := 25) rfl)
              refine ⟨bex C.out, ?_⟩
              clear h0
              generalize v4.alloc (.cells #[.slice none 0 0, .slice none 0 0] 25) = v5 at *
              rw [ordW_fre]
              simp only [pick, List.getElem?_cons_succ, List.getElem?_cons_zero]
              obtain ⟨x0, x1, x2, x3, x4⟩ := id X.out
              have hC := Cl2.mk2 D1.out D2.out X.out g1.out g2.out gO.out (by first | exact n1O.out | exact Ne.symm nO1.out) (by first | exact n2O.out | exact Ne.symm nO2.out) (by first | exact n12.out | exact Ne.symm n21.out) C.out
              have HC := hid hC
              clear hC
              go_wp2_with fail
              rw [ordW_done]
              go_wp2_with fail
              go_meet
              exact ⟨_, _, _, rfl, hid (HC.out)⟩
            · go_wp2_with fail
              have h0 := below_alloc v4 (.cells #[.slice none 0 0, .slice none 0 0] 25)
              replace D1 := hid (D1.out.next h0)
              replace D2 := hid (D2.out.next h0)
              replace C := hid (below_next C.out h0)
              have n1O := hid (show k1 ≠ v4.heap.size by have := l1.out; omega)
              have n2O := hid (show k2 ≠ v4.heap.size by have := l2.out; omega)
              replace l1 := hid (Nat.lt_of_lt_of_le l1.out h0.size)
              replace l2 := hid (Nat.lt_of_lt_of_le l2.out h0.size)
              have lO := hid (show v4.heap.size < (v4.alloc (.cells #[.slice none 0 0, .slice none 0 0] 25)).heap.size by simp)
              have gO := hid (show W0.heap.size ≤ v4.heap.size from lW.out)
              replace lW := hid (Nat.le_trans lW.out h0.size)
              have X := hid (boxp_at (w := v4) (B := v4.heap.size) (a := .slice none 0 0) (b := .slice none 0 0) (t := 25) rfl)
              refine ⟨bex C.out, ?_⟩
              clear h0
              generalize v4.alloc (.cells #[.slice none 0 0, .slice none 0 0] 25) = v6 at *
              rw [ordW_one]
              simp only [pick, List.getElem?_cons_succ, List.getElem?_cons_zero]
              go_wp2_with fail
              refine ⟨bex C.out, ?_⟩
              rw [ordW_fre]
              simp only [pick, List.getElem?_cons_succ, List.getElem?_cons_zero]
              obtain ⟨x0, x1, x2, x3, x4⟩ := id X.out
              have hC := Cl2.mk2 D1.out D2.out X.out g1.out g2.out gO.out (by first | exact n1O.out | exact Ne.symm nO1.out) (by first | exact n2O.out | exact Ne.symm nO2.out) (by first | exact n12.out | exact Ne.symm n21.out) C.out
              have HC := hid hC
              clear hC
              go_wp2_with fail
              rw [ordW_done]
              go_wp2_with fail
              go_meet
              exact ⟨_, _, _, rfl, hid (HC.out)⟩
          · go_wp2_with fail
            have h0 := below_alloc v3 (.cells #[.slice none 0 0, .slice none 0 0] 25)
            replace D1 := hid (D1.out.next h0)
            replace M2 := hid (M2.out.next h0)
            replace C := hid (below_next C.out h0)
            have n1O := hid (show k1 ≠ v3.heap.size by have := l1.out; omega)
            have n2O := hid (show v2.heap.size ≠ v3.heap.size by have := l2.out; omega)
            replace l1 := hid (Nat.lt_of_lt_of_le l1.out h0.size)
            replace l2 := hid (Nat.lt_of_lt_of_le l2.out h0.size)
            have lO := hid (show v3.heap.size < (v3.alloc (.cells #[.slice none 0 0, .slice none 0 0] 25)).heap.size by simp)
            have gO := hid (show W0.heap.size ≤ v3.heap.size from lW.out)
            replace lW := hid (Nat.le_trans lW.out h0.size)
            have X := hid (boxp_at (w := v3) (B := v3.heap.size) (a := .slice none 0 0) (b := .slice none 0 0) (t := 25) rfl)
            refine ⟨bex C.out, ?_⟩
            clear h0
            generalize v3.alloc (.cells #[.slice none 0 0, .slice none 0 0] 25) = v7 at *
            rw [ordW_one]
            simp only [pick, List.getElem?_cons_succ, List.getElem?_cons_zero]
            go_wp2_with (at_builtin; refine wp_app_clone rfl _ _ rfl (v2.heap.size) l b d rfl rfl M2.out l2.out n2 (HI2.out _ C.out) (by omega) ?_; intro k2 cc2 v8 hor hown hg hlt)
            have D2 := hid hown
            replace C := hid (below_own C.out M2.out g2.out hg)
            replace D1 := hid (D1.out.grow hg (by first | exact n12.out | exact Ne.symm n21.out))
            replace X := hid (boxp_grown hg (by first | exact nO2.out | exact Ne.symm n2O.out) X.out)
            have m21 := hid (show k2 ≠ k1 by rcases hor with rfl | rfl; (first | exact Ne.symm n12.out | exact n21.out); (have := l1.out; omega))
            have m2O := hid (show k2 ≠ v3.heap.size by rcases hor with rfl | rfl; (first | exact Ne.symm nO2.out | exact n2O.out); (have := lO.out; omega))
            replace l1 := hid (Nat.lt_of_lt_of_le l1.out hg.size)
            replace lO := hid (Nat.lt_of_lt_of_le lO.out hg.size)
            have gk := hid (show W0.heap.size ≤ k2 by rcases hor with rfl | rfl; exact g2.out; exact lW.out)
            clear l2
            have l2 := hid hlt
            replace lW := hid (Nat.le_trans lW.out hg.size)
            (first | clear n12 | clear n21); have n21 := hid m21.out; clear m21
            (first | clear nO2 | clear n2O); have n2O := hid m2O.out; clear m2O
            clear M2 hor hown hlt hg gk
            go_wp2_with fail
            refine ⟨bex C.out, ?_⟩
            rw [ordW_one]
            simp only [pick, List.getElem?_cons_succ, List.getElem?_cons_zero]
            go_wp2_with fail
            refine ⟨bex C.out, ?_⟩
            rw [ordW_fre]
            simp only [pick, List.getElem?_cons_succ, List.getElem?_cons_zero]
            obtain ⟨x0, x1, x2, x3, x4⟩ := id X.out
            have hC := Cl2.mk2 D1.out D2.out X.out g1.out g2.out gO.out (by first | exact n1O.out | exact Ne.symm nO1.out) (by first | exact n2O.out | exact Ne.symm nO2.out) (by first | exact n12.out | exact Ne.symm n21.out) C.out
            have HC := hid hC
            clear hC
            go_wp2_with fail
            rw [ordW_done]
            go_wp2_with fail
            go_meet
            exact ⟨_, _, _, rfl, hid (HC.out)⟩
        · go_wp2_with fail
          have h0 := below_alloc v2 (.cells #[.slice none 0 0, .slice none 0 0] 25)
          replace D1 := hid (D1.out.next h0)
          replace C := hid (below_next C.out h0)
          have n1O := hid (show k1 ≠ v2.heap.size by have := l1.out; omega)
          replace l1 := hid (Nat.lt_of_lt_of_le l1.out h0.size)
          have lO := hid (show v2.heap.size < (v2.alloc (.cells #[.slice none 0 0, .slice none 0 0] 25)).heap.size by simp)
          have gO := hid (show W0.heap.size ≤ v2.heap.size from lW.out)
          replace lW := hid (Nat.le_trans lW.out h0.size)
          have X := hid (boxp_at (w := v2) (B := v2.heap.size) (a := .slice none 0 0) (b := .slice none 0 0) (t := 25) rfl)
          refine ⟨bex C.out, ?_⟩
          clear h0
          generalize v2.alloc (.cells #[.slice none 0 0, .slice none 0 0] 25) = v9 at *
          rw [ordW_one]
          simp only [pick, List.getElem?_cons_succ, List.getElem?_cons_zero]
          go_wp2_with fail
          have h0 := below_alloc v9 (.cells #[] 3)
          replace D1 := hid (D1.out.next h0)
          replace X := hid (boxp_next h0 X.out)
          replace C := hid (below_next C.out h0)
          have n12 := hid (show k1 ≠ v9.heap.size by have := l1.out; omega)
          have nO2 := hid (show v2.heap.size ≠ v9.heap.size by have := lO.out; omega)
          replace l1 := hid (Nat.lt_of_lt_of_le l1.out h0.size)
          replace lO := hid (Nat.lt_of_lt_of_le lO.out h0.size)
          have l2 := hid (show v9.heap.size < (v9.alloc (.cells #[] 3)).heap.size by simp)
          have g2 := hid (show W0.heap.size ≤ v9.heap.size from lW.out)
          replace lW := hid (Nat.le_trans lW.out h0.size)
          have M2 := hid (OwnI.made v9)
          refine ⟨bex C.out, ?_⟩
          clear h0
          generalize v9.alloc (.cells #[] 3) = v10 at *
          rw [ordW_one]
          simp only [pick, List.getElem?_cons_succ, List.getElem?_cons_zero]
          go_wp2_with (at_builtin; refine wp_app_clone rfl _ _ rfl (v9.heap.size) l b d rfl rfl M2.out l2.out n2 (HI2.out _ C.out) (by omega) ?_; intro k2 cc2 v11 hor hown hg hlt)
          have D2 := hid hown
          replace C := hid (below_own C.out M2.out g2.out hg)
          replace D1 := hid (D1.out.grow hg (by first | exact n12.out | exact Ne.symm n21.out))
          replace X := hid (boxp_grown hg (by first | exact nO2.out | exact Ne.symm n2O.out) X.out)
          have m21 := hid (show k2 ≠ k1 by rcases hor with rfl | rfl; (first | exact Ne.symm n12.out | exact n21.out); (have := l1.out; omega))
          have m2O := hid (show k2 ≠ v2.heap.size by rcases hor with rfl | rfl; (first | exact Ne.symm nO2.out | exact n2O.out); (have := lO.out; omega))
          replace l1 := hid (Nat.lt_of_lt_of_le l1.out hg.size)
          replace lO := hid (Nat.lt_of_lt_of_le lO.out hg.size)
          have gk := hid (show W0.heap.size ≤ k2 by rcases hor with rfl | rfl; exact g2.out; exact lW.out)
          clear l2
          have l2 := hid hlt
          replace lW := hid (Nat.le_trans lW.out hg.size)
          (first | clear n12 | clear n21); have n21 := hid m21.out; clear m21
          (first | clear nO2 | clear n2O); have n2O := hid m2O.out; clear m2O
          clear M2 hor hown hlt hg gk
          go_wp2_with fail
          refine ⟨bex C.out, ?_⟩
          rw [ordW_one]
          simp only [pick, List.getElem?_cons_succ, List.getElem?_cons_zero]
          go_wp2_with fail
          refine ⟨bex C.out, ?_⟩
          rw [ordW_fre]
          simp only [pick, List.getElem?_cons_succ, List.getElem?_cons_zero]
          obtain ⟨x0, x1, x2, x3, x4⟩ := id X.out
          have hC := Cl2.mk2 D1.out D2.out X.out g1.out g2.out gO.out (by first | exact n1O.out | exact Ne.symm nO1.out) (by first | exact n2O.out | exact Ne.symm nO2.out) (by first | exact n12.out | exact Ne.symm n21.out) C.out
          have HC := hid hC
          clear hC
          go_wp2_with fail
          rw [ordW_done]
          go_wp2_with fail
          go_meet
          exact ⟨_, _, _, rfl, hid (HC.out)⟩
      · go_wp2_with fail
        have h0 := below_alloc v1 (.cells #[] 3)
        replace M1 := hid (M1.out.next h0)
        replace C := hid (below_next C.out h0)
        have n12 := hid (show v0.heap.size ≠ v1.heap.size by have := l1.out; omega)
        replace l1 := hid (Nat.lt_of_lt_of_le l1.out h0.size)
        have l2 := hid (show v1.heap.size < (v1.alloc (.cells #[] 3)).heap.size by simp)
        have g2 := hid (show W0.heap.size ≤ v1.heap.size from lW.out)
        replace lW := hid (Nat.le_trans lW.out h0.size)
        have M2 := hid (OwnI.made v1)
        refine ⟨bex C.out, ?_⟩
        clear h0
        generalize v1.alloc (.cells #[] 3) = v12 at *
        rw [ordW_two]
        simp only [pick, List.getElem?_cons_succ, List.getElem?_cons_zero]
        refine ⟨?_, ?_⟩
        · go_wp2_with (at_builtin; refine wp_app_clone rfl _ _ rfl (v0.heap.size) s a c rfl rfl M1.out l1.out n1 (HI1.out _ C.out) (by omega) ?_; intro k1 cc1 v13 hor hown hg hlt)
          have D1 := hid hown
          replace C := hid (below_own C.out M1.out g1.out hg)
          replace M2 := hid (M2.out.grow hg (by first | exact n21.out | exact Ne.symm n12.out))
          have m12 := hid (show k1 ≠ v1.heap.size by rcases hor with rfl | rfl; (first | exact Ne.symm n21.out | exact n12.out); (have := l2.out; omega))
          replace l2 := hid (Nat.lt_of_lt_of_le l2.out hg.size)
          have gk := hid (show W0.heap.size ≤ k1 by rcases hor with rfl | rfl; exact g1.out; exact lW.out)
          clear l1
          have l1 := hid hlt
          replace lW := hid (Nat.le_trans lW.out hg.size)
          (first | clear n21 | clear n12); have n12 := hid m12.out; clear m12
          clear M1 hor hown hlt hg gk
          go_wp2_with fail
          refine ⟨bex C.out, ?_⟩
          rw [ordW_two]
          simp only [pick, List.getElem?_cons_succ, List.getElem?_cons_zero]
          refine ⟨?_, ?_⟩
          · go_wp2_with (at_builtin; refine wp_app_clone rfl _ _ rfl (v1.heap.size) l b d rfl rfl M2.out l2.out n2 (HI2.out _ C.out) (by omega) ?_; intro k2 cc2 v14 hor hown hg hlt)
            have D2 := hid hown
            replace C := hid (below_own C.out M2.out g2.out hg)
            replace D1 := hid (D1.out.grow hg (by first | exact n12.out | exact Ne.symm n21.out))
            have m21 := hid (show k2 ≠ k1 by rcases hor with rfl | rfl; (first | exact Ne.symm n12.out | exact n21.out); (have := l1.out; omega))
            replace l1 := hid (Nat.lt_of_lt_of_le l1.out hg.size)
            have gk := hid (show W0.heap.size ≤ k2 by rcases hor with rfl | rfl; exact g2.out; exact lW.out)
            clear l2
            have l2 := hid hlt
            replace lW := hid (Nat.le_trans lW.out hg.size)
            (first | clear n12 | clear n21); have n21 := hid m21.out; clear m21
            clear M2 hor hown hlt hg gk
            go_wp2_with fail
            refine ⟨bex C.out, ?_⟩
            rw [ordW_two]
            simp only [pick, List.getElem?_cons_succ, List.getElem?_cons_zero]
            refine ⟨?_, ?_⟩
            · go_wp2_with fail
              refine ⟨bex C.out, ?_⟩
              rw [ordW_one]
              simp only [pick, List.getElem?_cons_succ, List.getElem?_cons_zero]
              go_wp2_with fail
              have h0 := below_alloc v14 (.cells #[.slice none 0 0, .slice none 0 0] 25)
              replace D1 := hid (D1.out.next h0)
              replace D2 := hid (D2.out.next h0)
              replace C := hid (below_next C.out h0)
              have n1O := hid (show k1 ≠ v14.heap.size by have := l1.out; omega)
              have n2O := hid (show k2 ≠ v14.heap.size by have := l2.out; omega)
              replace l1 := hid (Nat.lt_of_lt_of_le l1.out h0.size)
              replace l2 := hid (Nat.lt_of_lt_of_le l2.out h0.size)
              have lO := hid (show v14.heap.size < (v14.alloc (.cells #[.slice none 0 0, .slice none 0 0] 25)).heap.size by simp)
              have gO := hid (show W0.heap.size ≤ v14.heap.size from lW.out)
              replace lW := hid (Nat.le_trans lW.out h0.size)
              have X := hid (boxp_at (w := v14) (B := v14.heap.size) (a := .slice none 0 0) (b := .slice none 0 0) (t := 25) rfl)
              refine ⟨bex C.out, ?_⟩
              clear h0
              generalize v14.alloc (.cells #[.slice none 0 0, .slice none 0 0] 25) = v15 at *
              rw [ordW_fre]
              simp only [pick, List.getElem?_cons_succ, List.getElem?_cons_zero]
              obtain ⟨x0, x1, x2, x3, x4⟩ := id X.out
              have hC := Cl2.mk2 D1.out D2.out X.out g1.out g2.out gO.out (by first | exact n1O.out | exact Ne.symm nO1.out) (by first | exact n2O.out | exact Ne.symm nO2.out) (by first | exact n12.out | exact Ne.symm n21.out) C.out
              have HC := hid hC
              clear hC
              go_wp2_with fail
              rw [ordW_done]
              go_wp2_with fail
              go_meet
              exact ⟨_, _, _, rfl, hid (HC.out)⟩
            · go_wp2_with fail
              have h0 := below_alloc v14 (.cells #[.slice none 0 0, .slice none 0 0] 25)
              replace D1 := hid (D1.out.next h0)
              replace D2 := hid (D2.out.next h0)
              replace C := hid (below_next C.out h0)
              have n1O := hid (show k1 ≠ v14.heap.size by have := l1.out; omega)
              have n2O := hid (show k2 ≠ v14.heap.size by have := l2.out; omega)
              replace l1 := hid (Nat.lt_of_lt_of_le l1.out h0.size)
              replace l2 := hid (Nat.lt_of_lt_of_le l2.out h0.size)
              have lO := hid (show v14.heap.size < (v14.alloc (.cells #[.slice none 0 0, .slice none 0 0] 25)).heap.size by simp)
              have gO := hid (show W0.heap.size ≤ v14.heap.size from lW.out)
              replace lW := hid (Nat.le_trans lW.out h0.size)
              have X := hid (boxp_at (w := v14) (B := v14.heap.size) (a := .slice none 0 0) (b := .slice none 0 0) (t := 25) rfl)
              refine ⟨bex C.out, ?_⟩
              clear h0
              generalize v14.alloc (.cells #[.slice none 0 0, .slice none 0 0] 25) = v16 at *
              rw [ordW_one]
              simp only [pick, List.getElem?_cons_succ, List.getElem?_cons_zero]
              go_wp2_with fail
              refine ⟨bex C.out, ?_⟩
              rw [ordW_fre]
              simp only [pick, List.getElem?_cons_succ, List.getElem?_cons_zero]
              obtain ⟨x0, x1, x2, x3, x4⟩ := id X.out
              have hC := Cl2.mk2 D1.out D2.out X.out g1.out g2.out gO.out (by first | exact n1O.out | exact Ne.symm nO1.out) (by first | exact n2O.out | exact Ne.symm nO2.out) (by first | exact n12.out | exact Ne.symm n21.out) C.out
              have HC := hid hC
              clear hC
              go_wp2_with fail
              rw [ordW_done]
              go_wp2_with fail
              go_meet
              exact ⟨_, _, _, rfl, hid (HC.out)⟩
          · go_wp2_with fail
            have h0 := below_alloc v13 (.cells #[.slice none 0 0, .slice none 0 0] 25)
            replace M2 := hid (M2.out.next h0)
            replace D1 := hid (D1.out.next h0)
            replace C := hid (below_next C.out h0)
            have n1O := hid (show k1 ≠ v13.heap.size by have := l1.out; omega)
            have n2O := hid (show v1.heap.size ≠ v13.heap.size by have := l2.out; omega)
            replace l1 := hid (Nat.lt_of_lt_of_le l1.out h0.size)
            replace l2 := hid (Nat.lt_of_lt_of_le l2.out h0.size)
            have lO := hid (show v13.heap.size < (v13.alloc (.cells #[.slice none 0 0, .slice none 0 0] 25)).heap.size by simp)
            have gO := hid (show W0.heap.size ≤ v13.heap.size from lW.out)
            replace lW := hid (Nat.le_trans lW.out h0.size)
            have X := hid (boxp_at (w := v13) (B := v13.heap.size) (a := .slice none 0 0) (b := .slice none 0 0) (t := 25) rfl)
            refine ⟨bex C.out, ?_⟩
            clear h0
            generalize v13.alloc (.cells #[.slice none 0 0, .slice none 0 0] 25) = v17 at *
            rw [ordW_one]
            simp only [pick, List.getElem?_cons_succ, List.getElem?_cons_zero]
            go_wp2_with (at_builtin; refine wp_app_clone rfl _ _ rfl (v1.heap.size) l b d rfl rfl M2.out l2.out n2 (HI2.out _ C.out) (by omega) ?_; intro k2 cc2 v18 hor hown hg hlt)
            have D2 := hid hown
            replace C := hid (below_own C.out M2.out g2.out hg)
            replace D1 := hid (D1.out.grow hg (by first | exact n12.out | exact Ne.symm n21.out))
            replace X := hid (boxp_grown hg (by first | exact nO2.out | exact Ne.symm n2O.out) X.out)
            have m21 := hid (show k2 ≠ k1 by rcases hor with rfl | rfl; (first | exact Ne.symm n12.out | exact n21.out); (have := l1.out; omega))
            have m2O := hid (show k2 ≠ v13.heap.size by rcases hor with rfl | rfl; (first | exact Ne.symm nO2.out | exact n2O.out); (have := lO.out; omega))
            replace l1 := hid (Nat.lt_of_lt_of_le l1.out hg.size)
            replace lO := hid (Nat.lt_of_lt_of_le lO.out hg.size)
            have gk := hid (show W0.heap.size ≤ k2 by rcases hor with rfl | rfl; exact g2.out; exact lW.out)
            clear l2
            have l2 := hid hlt
            replace lW := hid (Nat.le_trans lW.out hg.size)
            (first | clear n12 | clear n21); have n21 := hid m21.out; clear m21
            (first | clear nO2 | clear n2O); have n2O := hid m2O.out; clear m2O
            clear M2 hor hown hlt hg gk
            go_wp2_with fail
            refine ⟨bex C.out, ?_⟩
            rw [ordW_one]
            simp only [pick, List.getElem?_cons_succ, List.getElem?_cons_zero]
            go_wp2_with fail
            refine ⟨bex C.out, ?_⟩
            rw [ordW_fre]
            simp only [pick, List.getElem?_cons_succ, List.getElem?_cons_zero]
            obtain ⟨x0, x1, x2, x3, x4⟩ := id X.out
            have hC := Cl2.mk2 D1.out D2.out X.out g1.out g2.out gO.out (by first | exact n1O.out | exact Ne.symm nO1.out) (by first | exact n2O.out | exact Ne.symm nO2.out) (by first | exact n12.out | exact Ne.symm n21.out) C.out
            have HC := hid hC
            clear hC
            go_wp2_with fail
            rw [ordW_done]
            go_wp2_with fail
            go_meet
            exact ⟨_, _, _, rfl, hid (HC.out)⟩
        · go_wp2_with fail
          have h0 := below_alloc v12 (.cells #[.slice none 0 0, .slice none 0 0] 25)
          replace M1 := hid (M1.out.next h0)
          replace M2 := hid (M2.out.next h0)
          replace C := hid (below_next C.out h0)
          have n1O := hid (show v0.heap.size ≠ v12.heap.size by have := l1.out; omega)
          have n2O := hid (show v1.heap.size ≠ v12.heap.size by have := l2.out; omega)
          replace l1 := hid (Nat.lt_of_lt_of_le l1.out h0.size)
          replace l2 := hid (Nat.lt_of_lt_of_le l2.out h0.size)
          have lO := hid (show v12.heap.size < (v12.alloc (.cells #[.slice none 0 0, .slice none 0 0] 25)).heap.size by simp)
          have gO := hid (show W0.heap.size ≤ v12.heap.size from lW.out)
          replace lW := hid (Nat.le_trans lW.out h0.size)
          have X := hid (boxp_at (w := v12) (B := v12.heap.size) (a := .slice none 0 0) (b := .slice none 0 0) (t := 25) rfl)
          refine ⟨bex C.out, ?_⟩
          clear h0
          generalize v12.alloc (.cells #[.slice none 0 0, .slice none 0 0] 25) = v19 at *
          rw [ordW_one]
          simp only [pick, List.getElem?_cons_succ, List.getElem?_cons_zero]
          go_wp2_with (at_builtin; refine wp_app_clone rfl _ _ rfl (v0.heap.size) s a c rfl rfl M1.out l1.out n1 (HI1.out _ C.out) (by omega) ?_; intro k1 cc1 v20 hor hown hg hlt)
          have D1 := hid hown
          replace C := hid (below_own C.out M1.out g1.out hg)
          replace M2 := hid (M2.out.grow hg (by first | exact n21.out | exact Ne.symm n12.out))
          replace X := hid (boxp_grown hg (by first | exact nO1.out | exact Ne.symm n1O.out) X.out)
          have m12 := hid (show k1 ≠ v1.heap.size by rcases hor with rfl | rfl; (first | exact Ne.symm n21.out | exact n12.out); (have := l2.out; omega))
          have m1O := hid (show k1 ≠ v12.heap.size by rcases hor with rfl | rfl; (first | exact Ne.symm nO1.out | exact n1O.out); (have := lO.out; omega))
          replace l2 := hid (Nat.lt_of_lt_of_le l2.out hg.size)
          replace lO := hid (Nat.lt_of_lt_of_le lO.out hg.size)
          have gk := hid (show W0.heap.size ≤ k1 by rcases hor with rfl | rfl; exact g1.out; exact lW.out)
          clear l1
          have l1 := hid hlt
          replace lW := hid (Nat.le_trans lW.out hg.size)
          (first | clear n21 | clear n12); have n12 := hid m12.out; clear m12
          (first | clear nO1 | clear n1O); have n1O := hid m1O.out; clear m1O
          clear M1 hor hown hlt hg gk
          go_wp2_with fail
          refine ⟨bex C.out, ?_⟩
          rw [ordW_one]
          simp only [pick, List.getElem?_cons_succ, List.getElem?_cons_zero]
          go_wp2_with (at_builtin; refine wp_app_clone rfl _ _ rfl (v1.heap.size) l b d rfl rfl M2.out l2.out n2 (HI2.out _ C.out) (by omega) ?_; intro k2 cc2 v21 hor hown hg hlt)
          have D2 := hid hown
          replace C := hid (below_own C.out M2.out g2.out hg)
          replace D1 := hid (D1.out.grow hg (by first | exact n12.out | exact Ne.symm n21.out))
          replace X := hid (boxp_grown hg (by first | exact nO2.out | exact Ne.symm n2O.out) X.out)
          have m21 := hid (show k2 ≠ k1 by rcases hor with rfl | rfl; (first | exact Ne.symm n12.out | exact n21.out); (have := l1.out; omega))
          have m2O := hid (show k2 ≠ v12.heap.size by rcases hor with rfl | rfl; (first | exact Ne.symm nO2.out | exact n2O.out); (have := lO.out; omega))
          replace l1 := hid (Nat.lt_of_lt_of_le l1.out hg.size)
          replace lO := hid (Nat.lt_of_lt_of_le lO.out hg.size)
          have gk := hid (show W0.heap.size ≤ k2 by rcases hor with rfl | rfl; exact g2.out; exact lW.out)
          clear l2
          have l2 := hid hlt
          replace lW := hid (Nat.le_trans lW.out hg.size)
          (first | clear n12 | clear n21); have n21 := hid m21.out; clear m21
          (first | clear nO2 | clear n2O); have n2O := hid m2O.out; clear m2O
          clear M2 hor hown hlt hg gk
          go_wp2_with fail
          refine ⟨bex C.out, ?_⟩
          rw [ordW_one]
          simp only [pick, List.getElem?_cons_succ, List.getElem?_cons_zero]
          go_wp2_with fail
          refine ⟨bex C.out, ?_⟩
          rw [ordW_fre]
          simp only [pick, List.getElem?_cons_succ, List.getElem?_cons_zero]
          obtain ⟨x0, x1, x2, x3, x4⟩ := id X.out
          have hC := Cl2.mk2 D1.out D2.out X.out g1.out g2.out gO.out (by first | exact n1O.out | exact Ne.symm nO1.out) (by first | exact n2O.out | exact Ne.symm nO2.out) (by first | exact n12.out | exact Ne.symm n21.out) C.out
          have HC := hid hC
          clear hC
          go_wp2_with fail
          rw [ordW_done]
          go_wp2_with fail
          go_meet
          exact ⟨_, _, _, rfl, hid (HC.out)⟩
      · go_wp2_with fail
        have h0 := below_alloc v1 (.cells #[.slice none 0 0, .slice none 0 0] 25)
        replace M1 := hid (M1.out.next h0)
        replace C := hid (below_next C.out h0)
        have n1O := hid (show v0.heap.size ≠ v1.heap.size by have := l1.out; omega)
        replace l1 := hid (Nat.lt_of_lt_of_le l1.out h0.size)
        have lO := hid (show v1.heap.size < (v1.alloc (.cells #[.slice none 0 0, .slice none 0 0] 25)).heap.size by simp)
        have gO := hid (show W0.heap.size ≤ v1.heap.size from lW.out)
        replace lW := hid (Nat.le_trans lW.out h0.size)
        have X := hid (boxp_at (w := v1) (B := v1.heap.size) (a := .slice none 0 0) (b := .slice none 0 0) (t := 25) rfl)
        refine ⟨bex C.out, ?_⟩
        clear h0
        generalize v1.alloc (.cells #[.slice none 0 0, .slice none 0 0] 25) = v22 at *
        rw [ordW_two]
        simp only [pick, List.getElem?_cons_succ, List.getElem?_cons_zero]
        refine ⟨?_, ?_⟩
        · go_wp2_with (at_builtin; refine wp_app_clone rfl _ _ rfl (v0.heap.size) s a c rfl rfl M1.out l1.out n1 (HI1.out _ C.out) (by omega) ?_; intro k1 cc1 v23 hor hown hg hlt)
          have D1 := hid hown
          replace C := hid (below_own C.out M1.out g1.out hg)
          replace X := hid (boxp_grown hg (by first | exact nO1.out | exact Ne.symm n1O.out) X.out)
          have m1O := hid (show k1 ≠ v1.heap.size by rcases hor with rfl | rfl; (first | exact Ne.symm nO1.out | exact n1O.out); (have := lO.out; omega))
          replace lO := hid (Nat.lt_of_lt_of_le lO.out hg.size)
          have gk := hid (show W0.heap.size ≤ k1 by rcases hor with rfl | rfl; exact g1.out; exact lW.out)
          clear l1
          have l1 := hid hlt
          replace lW := hid (Nat.le_trans lW.out hg.size)
          (first | clear nO1 | clear n1O); have n1O := hid m1O.out; clear m1O
          clear M1 hor hown hlt hg gk
          go_wp2_with fail
          refine ⟨bex C.out, ?_⟩
          rw [ordW_one]
          simp only [pick, List.getElem?_cons_succ, List.getElem?_cons_zero]
          go_wp2_with fail
          have h0 := below_alloc v23 (.cells #[] 3)
          replace D1 := hid (D1.out.next h0)
          replace X := hid (boxp_next h0 X.out)
          replace C := hid (below_next C.out h0)
          have n12 := hid (show k1 ≠ v23.heap.size by have := l1.out; omega)
          have nO2 := hid (show v1.heap.size ≠ v23.heap.size by have := lO.out; omega)
          replace l1 := hid (Nat.lt_of_lt_of_le l1.out h0.size)
          replace lO := hid (Nat.lt_of_lt_of_le lO.out h0.size)
          have l2 := hid (show v23.heap.size < (v23.alloc (.cells #[] 3)).heap.size by simp)
          have g2 := hid (show W0.heap.size ≤ v23.heap.size from lW.out)
          replace lW := hid (Nat.le_trans lW.out h0.size)
          have M2 := hid (OwnI.made v23)
          refine ⟨bex C.out, ?_⟩
          clear h0
          generalize v23.alloc (.cells #[] 3) = v24 at *
          rw [ordW_one]
          simp only [pick, List.getElem?_cons_succ, List.getElem?_cons_zero]
          go_wp2_with (at_builtin; refine wp_app_clone rfl _ _ rfl (v23.heap.size) l b d rfl rfl M2.out l2.out n2 (HI2.out _ C.out) (by omega) ?_; intro k2 cc2 v25 hor hown hg hlt)
          have D2 := hid hown
          replace C := hid (below_own C.out M2.out g2.out hg)
          replace D1 := hid (D1.out.grow hg (by first | exact n12.out | exact Ne.symm n21.out))
          replace X := hid (boxp_grown hg (by first | exact nO2.out | exact Ne.symm n2O.out) X.out)
          have m21 := hid (show k2 ≠ k1 by rcases hor with rfl | rfl; (first | exact Ne.symm n12.out | exact n21.out); (have := l1.out; omega))
          have m2O := hid (show k2 ≠ v1.heap.size by rcases hor with rfl | rfl; (first | exact Ne.symm nO2.out | exact n2O.out); (have := lO.out; omega))
          replace l1 := hid (Nat.lt_of_lt_of_le l1.out hg.size)
          replace lO := hid (Nat.lt_of_lt_of_le lO.out hg.size)
          have gk := hid (show W0.heap.size ≤ k2 by rcases hor with rfl | rfl; exact g2.out; exact lW.out)
          clear l2
          have l2 := hid hlt
          replace lW := hid (Nat.le_trans lW.out hg.size)
          (first | clear n12 | clear n21); have n21 := hid m21.out; clear m21
          (first | clear nO2 | clear n2O); have n2O := hid m2O.out; clear m2O
          clear M2 hor hown hlt hg gk
          go_wp2_with fail
          refine ⟨bex C.out, ?_⟩
          rw [ordW_one]
          simp only [pick, List.getElem?_cons_succ, List.getElem?_cons_zero]
          go_wp2_with fail
          refine ⟨bex C.out, ?_⟩
          rw [ordW_fre]
          simp only [pick, List.getElem?_cons_succ, List.getElem?_cons_zero]
          obtain ⟨x0, x1, x2, x3, x4⟩ := id X.out
          have hC := Cl2.mk2 D1.out D2.out X.out g1.out g2.out gO.out (by first | exact n1O.out | exact Ne.symm nO1.out) (by first | exact n2O.out | exact Ne.symm nO2.out) (by first | exact n12.out | exact Ne.symm n21.out) C.out
          have HC := hid hC
          clear hC
          go_wp2_with fail
          rw [ordW_done]
          go_wp2_with fail
          go_meet
          exact ⟨_, _, _, rfl, hid (HC.out)⟩
        · go_wp2_with fail
          have h0 := below_alloc v22 (.cells #[] 3)
          replace M1 := hid (M1.out.next h0)
          replace X := hid (boxp_next h0 X.out)
          replace C := hid (below_next C.out h0)
          have n12 := hid (show v0.heap.size ≠ v22.heap.size by have := l1.out; omega)
          have nO2 := hid (show v1.heap.size ≠ v22.heap.size by have := lO.out; omega)
          replace l1 := hid (Nat.lt_of_lt_of_le l1.out h0.size)
          replace lO := hid (Nat.lt_of_lt_of_le lO.out h0.size)
          have l2 := hid (show v22.heap.size < (v22.alloc (.cells #[] 3)).heap.size by simp)
          have g2 := hid (show W0.heap.size ≤ v22.heap.size from lW.out)
          replace lW := hid (Nat.le_trans lW.out h0.size)
          have M2 := hid (OwnI.made v22)
          refine ⟨bex C.out, ?_⟩
          clear h0
          generalize v22.alloc (.cells #[] 3) = v26 at *
          rw [ordW_one]
          simp only [pick, List.getElem?_cons_succ, List.getElem?_cons_zero]
          go_wp2_with (at_builtin; refine wp_app_clone rfl _ _ rfl (v0.heap.size) s a c rfl rfl M1.out l1.out n1 (HI1.out _ C.out) (by omega) ?_; intro k1 cc1 v27 hor hown hg hlt)
          have D1 := hid hown
          replace C := hid (below_own C.out M1.out g1.out hg)
          replace M2 := hid (M2.out.grow hg (by first | exact n21.out | exact Ne.symm n12.out))
          replace X := hid (boxp_grown hg (by first | exact nO1.out | exact Ne.symm n1O.out) X.out)
          have m1O := hid (show k1 ≠ v1.heap.size by rcases hor with rfl | rfl; (first | exact Ne.symm nO1.out | exact n1O.out); (have := lO.out; omega))
          have m12 := hid (show k1 ≠ v22.heap.size by rcases hor with rfl | rfl; (first | exact Ne.symm n21.out | exact n12.out); (have := l2.out; omega))
          replace lO := hid (Nat.lt_of_lt_of_le lO.out hg.size)
          replace l2 := hid (Nat.lt_of_lt_of_le l2.out hg.size)
          have gk := hid (show W0.heap.size ≤ k1 by rcases hor with rfl | rfl; exact g1.out; exact lW.out)
          clear l1
          have l1 := hid hlt
          replace lW := hid (Nat.le_trans lW.out hg.size)
          (first | clear nO1 | clear n1O); have n1O := hid m1O.out; clear m1O
          (first | clear n21 | clear n12); have n12 := hid m12.out; clear m12
          clear M1 hor hown hlt hg gk
          go_wp2_with fail
          refine ⟨bex C.out, ?_⟩
          rw [ordW_one]
          simp only [pick, List.getElem?_cons_succ, List.getElem?_cons_zero]
          go_wp2_with (at_builtin; refine wp_app_clone rfl _ _ rfl (v22.heap.size) l b d rfl rfl M2.out l2.out n2 (HI2.out _ C.out) (by omega) ?_; intro k2 cc2 v28 hor hown hg hlt)
          have D2 := hid hown
          replace C := hid (below_own C.out M2.out g2.out hg)
          replace D1 := hid (D1.out.grow hg (by first | exact n12.out | exact Ne.symm n21.out))
          replace X := hid (boxp_grown hg (by first | exact nO2.out | exact Ne.symm n2O.out) X.out)
          have m21 := hid (show k2 ≠ k1 by rcases hor with rfl | rfl; (first | exact Ne.symm n12.out | exact n21.out); (have := l1.out; omega))
          have m2O := hid (show k2 ≠ v1.heap.size by rcases hor with rfl | rfl; (first | exact Ne.symm nO2.out | exact n2O.out); (have := lO.out; omega))
          replace l1 := hid (Nat.lt_of_lt_of_le l1.out hg.size)
          replace lO := hid (Nat.lt_of_lt_of_le lO.out hg.size)
          have gk := hid (show W0.heap.size ≤ k2 by rcases hor with rfl | rfl; exact g2.out; exact lW.out)
          clear l2
          have l2 := hid hlt
          replace lW := hid (Nat.le_trans lW.out hg.size)
          (first | clear n12 | clear n21); have n21 := hid m21.out; clear m21
          (first | clear nO2 | clear n2O); have n2O := hid m2O.out; clear m2O
          clear M2 hor hown hlt hg gk
          go_wp2_with fail
          refine ⟨bex C.out, ?_⟩
          rw [ordW_one]
          simp only [pick, List.getElem?_cons_succ, List.getElem?_cons_zero]
          go_wp2_with fail
          refine ⟨bex C.out, ?_⟩
          rw [ordW_fre]
          simp only [pick, List.getElem?_cons_succ, List.getElem?_cons_zero]
          obtain ⟨x0, x1, x2, x3, x4⟩ := id X.out
          have hC := Cl2.mk2 D1.out D2.out X.out g1.out g2.out gO.out (by first | exact n1O.out | exact Ne.symm nO1.out) (by first | exact n2O.out | exact Ne.symm nO2.out) (by first | exact n12.out | exact Ne.symm n21.out) C.out
          have HC := hid hC
          clear hC
          go_wp2_with fail
          rw [ordW_done]
          go_wp2_with fail
          go_meet
          exact ⟨_, _, _, rfl, hid (HC.out)⟩
    · go_wp2_with fail
      have h0 := below_alloc v0 (.cells #[] 3)
      replace C := hid (below_next C.out h0)
      have l2 := hid (show v0.heap.size < (v0.alloc (.cells #[] 3)).heap.size by simp)
      have g2 := hid (show W0.heap.size ≤ v0.heap.size from lW.out)
      replace lW := hid (Nat.le_trans lW.out h0.size)
      have M2 := hid (OwnI.made v0)
      refine ⟨bex C.out, ?_⟩
      clear h0
      generalize v0.alloc (.cells #[] 3) = v29 at *
      rw [ordW_two]
      simp only [pick, List.getElem?_cons_succ, List.getElem?_cons_zero]
      refine ⟨?_, ?_⟩
      · go_wp2_with fail
        have h0 := below_alloc v29 (.cells #[] 3)
        replace M2 := hid (M2.out.next h0)
        replace C := hid (below_next C.out h0)
        have n21 := hid (show v0.heap.size ≠ v29.heap.size by have := l2.out; omega)
        replace l2 := hid (Nat.lt_of_lt_of_le l2.out h0.size)
        have l1 := hid (show v29.heap.size < (v29.alloc (.cells #[] 3)).heap.size by simp)
        have g1 := hid (show W0.heap.size ≤ v29.heap.size from lW.out)
        replace lW := hid (Nat.le_trans lW.out h0.size)
        have M1 := hid (OwnI.made v29)
        refine ⟨bex C.out, ?_⟩
        clear h0
        generalize v29.alloc (.cells #[] 3) = v30 at *
        rw [ordW_two]
        simp only [pick, List.getElem?_cons_succ, List.getElem?_cons_zero]
        refine ⟨?_, ?_⟩
        · go_wp2_with (at_builtin; refine wp_app_clone rfl _ _ rfl (v29.heap.size) s a c rfl rfl M1.out l1.out n1 (HI1.out _ C.out) (by omega) ?_; intro k1 cc1 v31 hor hown hg hlt)
          have D1 := hid hown
          replace C := hid (below_own C.out M1.out g1.out hg)
          replace M2 := hid (M2.out.grow hg (by first | exact n21.out | exact Ne.symm n12.out))
          have m12 := hid (show k1 ≠ v0.heap.size by rcases hor with rfl | rfl; (first | exact Ne.symm n21.out | exact n12.out); (have := l2.out; omega))
          replace l2 := hid (Nat.lt_of_lt_of_le l2.out hg.size)
          have gk := hid (show W0.heap.size ≤ k1 by rcases hor with rfl | rfl; exact g1.out; exact lW.out)
          clear l1
          have l1 := hid hlt
          replace lW := hid (Nat.le_trans lW.out hg.size)
          (first | clear n21 | clear n12); have n12 := hid m12.out; clear m12
          clear M1 hor hown hlt hg gk
          go_wp2_with fail
          refine ⟨bex C.out, ?_⟩
          rw [ordW_two]
          simp only [pick, List.getElem?_cons_succ, List.getElem?_cons_zero]
          refine ⟨?_, ?_⟩
          · go_wp2_with (at_builtin; refine wp_app_clone rfl _ _ rfl (v0.heap.size) l b d rfl rfl M2.out l2.out n2 (HI2.out _ C.out) (by omega) ?_; intro k2 cc2 v32 hor hown hg hlt)
            have D2 := hid hown
            replace C := hid (below_own C.out M2.out g2.out hg)
            replace D1 := hid (D1.out.grow hg (by first | exact n12.out | exact Ne.symm n21.out))
            have m21 := hid (show k2 ≠ k1 by rcases hor with rfl | rfl; (first | exact Ne.symm n12.out | exact n21.out); (have := l1.out; omega))
            replace l1 := hid (Nat.lt_of_lt_of_le l1.out hg.size)
            have gk := hid (show W0.heap.size ≤ k2 by rcases hor with rfl | rfl; exact g2.out; exact lW.out)
            clear l2
            have l2 := hid hlt
            replace lW := hid (Nat.le_trans lW.out hg.size)
            (first | clear n12 | clear n21); have n21 := hid m21.out; clear m21
            clear M2 hor hown hlt hg gk
            go_wp2_with fail
            refine ⟨bex C.out, ?_⟩
            rw [ordW_two]
            simp only [pick, List.getElem?_cons_succ, List.getElem?_cons_zero]
            refine ⟨?_, ?_⟩
            · go_wp2_with fail
              refine ⟨bex C.out, ?_⟩
              rw [ordW_one]
              simp only [pick, List.getElem?_cons_succ, List.getElem?_cons_zero]
              go_wp2_with fail
              have h0 := below_alloc v32 (.cells #[.slice none 0 0, .slice none 0 0] 25)
              replace D1 := hid (D1.out.next h0)
              replace D2 := hid (D2.out.next h0)
              replace C := hid (below_next C.out h0)
              have n2O := hid (show k2 ≠ v32.heap.size by have := l2.out; omega)
              have n1O := hid (show k1 ≠ v32.heap.size by have := l1.out; omega)
              replace l2 := hid (Nat.lt_of_lt_of_le l2.out h0.size)
              replace l1 := hid (Nat.lt_of_lt_of_le l1.out h0.size)
              have lO := hid (show v32.heap.size < (v32.alloc (.cells #[.slice none 0 0, .slice none 0 0] 25)).heap.size by simp)
              have gO := hid (show W0.heap.size ≤ v32.heap.size from lW.out)
              replace lW := hid (Nat.le_trans lW.out h0.size)
              have X := hid (boxp_at (w := v32) (B := v32.heap.size) (a := .slice none 0 0) (b := .slice none 0 0) (t := 25) rfl)
              refine ⟨bex C.out, ?_⟩
              clear h0
              generalize v32.alloc (.cells #[.slice none 0 0, .slice none 0 0] 25) = v33 at *
              rw [ordW_fre]
              simp only [pick, List.getElem?_cons_succ, List.getElem?_cons_zero]
              obtain ⟨x0, x1, x2, x3, x4⟩ := id X.out
              have hC := Cl2.mk2 D1.out D2.out X.out g1.out g2.out gO.out (by first | exact n1O.out | exact Ne.symm nO1.out) (by first | exact n2O.out | exact Ne.symm nO2.out) (by first | exact n12.out | exact Ne.symm n21.out) C.out
              have HC := hid hC
              clear hC
              go_wp2_with fail
              rw [ordW_done]
              go_wp2_with fail
              go_meet
              exact ⟨_, _, _, rfl, hid (HC.out)⟩
            · go_wp2_with fail
              have h0 := below_alloc v32 (.cells #[.slice none 0 0, .slice none 0 0] 25)
              replace D1 := hid (D1.out.next h0)
              replace D2 := hid (D2.out.next h0)
              replace C := hid (below_next C.out h0)
              have n2O := hid (show k2 ≠ v32.heap.size by have := l2.out; omega)
              have n1O := hid (show k1 ≠ v32.heap.size by have := l1.out; omega)
              replace l2 := hid (Nat.lt_of_lt_of_le l2.out h0.size)
              replace l1 := hid (Nat.lt_of_lt_of_le l1.out h0.size)
              have lO := hid (show v32.heap.size < (v32.alloc (.cells #[.slice none 0 0, .slice none 0 0] 25)).heap.size by simp)
              have gO := hid (show W0.heap.size ≤ v32.heap.size from lW.out)
              replace lW := hid (Nat.le_trans lW.out h0.size)
              have X := hid (boxp_at (w := v32) (B := v32.heap.size) (a := .slice none 0 0) (b := .slice none 0 0) (t := 25) rfl)
              refine ⟨bex C.out, ?_⟩
              clear h0
              generalize v32.alloc (.cells #[.slice none 0 0, .slice none 0 0] 25) = v34 at *
              rw [ordW_one]
              simp only [pick, List.getElem?_cons_succ, List.getElem?_cons_zero]
              go_wp2_with fail
              refine ⟨bex C.out, ?_⟩
              rw [ordW_fre]
              simp only [pick, List.getElem?_cons_succ, List.getElem?_cons_zero]
              obtain ⟨x0, x1, x2, x3, x4⟩ := id X.out
              have hC := Cl2.mk2 D1.out D2.out X.out g1.out g2.out gO.out (by first | exact n1O.out | exact Ne.symm nO1.out) (by first | exact n2O.out | exact Ne.symm nO2.out) (by first | exact n12.out | exact Ne.symm n21.out) C.out
              have HC := hid hC
              clear hC
              go_wp2_with fail
              rw [ordW_done]
              go_wp2_with fail
              go_meet
              exact ⟨_, _, _, rfl, hid (HC.out)⟩
          · go_wp2_with fail
            have h0 := below_alloc v31 (.cells #[.slice none 0 0, .slice none 0 0] 25)
            replace M2 := hid (M2.out.next h0)
            replace D1 := hid (D1.out.next h0)
            replace C := hid (below_next C.out h0)
            have n2O := hid (show v0.heap.size ≠ v31.heap.size by have := l2.out; omega)
            have n1O := hid (show k1 ≠ v31.heap.size by have := l1.out; omega)
            replace l2 := hid (Nat.lt_of_lt_of_le l2.out h0.size)
            replace l1 := hid (Nat.lt_of_lt_of_le l1.out h0.size)
            have lO := hid (show v31.heap.size < (v31.alloc (.cells #[.slice none 0 0, .slice none 0 0] 25)).heap.size by simp)
            have gO := hid (show W0.heap.size ≤ v31.heap.size from lW.out)
            replace lW := hid (Nat.le_trans lW.out h0.size)
            have X := hid (boxp_at (w := v31) (B := v31.heap.size) (a := .slice none 0 0) (b := .slice none 0 0) (t := 25) rfl)
            refine ⟨bex C.out, ?_⟩
            clear h0
            generalize v31.alloc (.cells #[.slice none 0 0, .slice none 0 0] 25) = v35 at *
            rw [ordW_one]
            simp only [pick, List.getElem?_cons_succ, List.getElem?_cons_zero]
            go_wp2_with (at_builtin; refine wp_app_clone rfl _ _ rfl (v0.heap.size) l b d rfl rfl M2.out l2.out n2 (HI2.out _ C.out) (by omega) ?_; intro k2 cc2 v36 hor hown hg hlt)
            have D2 := hid hown
            replace C := hid (below_own C.out M2.out g2.out hg)
            replace D1 := hid (D1.out.grow hg (by first | exact n12.out | exact Ne.symm n21.out))
            replace X := hid (boxp_grown hg (by first | exact nO2.out | exact Ne.symm n2O.out) X.out)
            have m21 := hid (show k2 ≠ k1 by rcases hor with rfl | rfl; (first | exact Ne.symm n12.out | exact n21.out); (have := l1.out; omega))
            have m2O := hid (show k2 ≠ v31.heap.size by rcases hor with rfl | rfl; (first | exact Ne.symm nO2.out | exact n2O.out); (have := lO.out; omega))
            replace l1 := hid (Nat.lt_of_lt_of_le l1.out hg.size)
            replace lO := hid (Nat.lt_of_lt_of_le lO.out hg.size)
            have gk := hid (show W0.heap.size ≤ k2 by rcases hor with rfl | rfl; exact g2.out; exact lW.out)
            clear l2
            have l2 := hid hlt
            replace lW := hid (Nat.le_trans lW.out hg.size)
            (first | clear n12 | clear n21); have n21 := hid m21.out; clear m21
            (first | clear nO2 | clear n2O); have n2O := hid m2O.out; clear m2O
            clear M2 hor hown hlt hg gk
            go_wp2_with fail
            refine ⟨bex C.out, ?_⟩
            rw [ordW_one]
            simp only [pick, List.getElem?_cons_succ, List.getElem?_cons_zero]
            go_wp2_with fail
            refine ⟨bex C.out, ?_⟩
            rw [ordW_fre]
            simp only [pick, List.getElem?_cons_succ, List.getElem?_cons_zero]
            obtain ⟨x0, x1, x2, x3, x4⟩ := id X.out
            have hC := Cl2.mk2 D1.out D2.out X.out g1.out g2.out gO.out (by first | exact n1O.out | exact Ne.symm nO1.out) (by first | exact n2O.out | exact Ne.symm nO2.out) (by first | exact n12.out | exact Ne.symm n21.out) C.out
            have HC := hid hC
            clear hC
            go_wp2_with fail
            rw [ordW_done]
            go_wp2_with fail
            go_meet
            exact ⟨_, _, _, rfl, hid (HC.out)⟩
        · go_wp2_with fail
          have h0 := below_alloc v30 (.cells #[.slice none 0 0, .slice none 0 0] 25)
          replace M2 := hid (M2.out.next h0)
          replace M1 := hid (M1.out.next h0)
          replace C := hid (below_next C.out h0)
          have n2O := hid (show v0.heap.size ≠ v30.heap.size by have := l2.out; omega)
          have n1O := hid (show v29.heap.size ≠ v30.heap.size by have := l1.out; omega)
          replace l2 := hid (Nat.lt_of_lt_of_le l2.out h0.size)
          replace l1 := hid (Nat.lt_of_lt_of_le l1.out h0.size)
          have lO := hid (show v30.heap.size < (v30.alloc (.cells #[.slice none 0 0, .slice none 0 0] 25)).heap.size by simp)
          have gO := hid (show W0.heap.size ≤ v30.heap.size from lW.out)
          replace lW := hid (Nat.le_trans lW.out h0.size)
          have X := hid (boxp_at (w := v30) (B := v30.heap.size) (a := .slice none 0 0) (b := .slice none 0 0) (t := 25) rfl)
          refine ⟨bex C.out, ?_⟩
          clear h0
          generalize v30.alloc (.cells #[.slice none 0 0, .slice none 0 0] 25) = v37 at *
          rw [ordW_one]
          simp only [pick, List.getElem?_cons_succ, List.getElem?_cons_zero]
          go_wp2_with (at_builtin; refine wp_app_clone rfl _ _ rfl (v29.heap.size) s a c rfl rfl M1.out l1.out n1 (HI1.out _ C.out) (by omega) ?_; intro k1 cc1 v38 hor hown hg hlt)
          have D1 := hid hown
          replace C := hid (below_own C.out M1.out g1.out hg)
          replace M2 := hid (M2.out.grow hg (by first | exact n21.out | exact Ne.symm n12.out))
          replace X := hid (boxp_grown hg (by first | exact nO1.out | exact Ne.symm n1O.out) X.out)
          have m12 := hid (show k1 ≠ v0.heap.size by rcases hor with rfl | rfl; (first | exact Ne.symm n21.out | exact n12.out); (have := l2.out; omega))
          have m1O := hid (show k1 ≠ v30.heap.size by rcases hor with rfl | rfl; (first | exact Ne.symm nO1.out | exact n1O.out); (have := lO.out; omega))
          replace l2 := hid (Nat.lt_of_lt_of_le l2.out hg.size)
          replace lO := hid (Nat.lt_of_lt_of_le lO.out hg.size)
          have gk := hid (show W0.heap.size ≤ k1 by rcases hor with rfl | rfl; exact g1.out; exact lW.out)
          clear l1
          have l1 := hid hlt
          replace lW := hid (Nat.le_trans lW.out hg.size)
          (first | clear n21 | clear n12); have n12 := hid m12.out; clear m12
          (first | clear nO1 | clear n1O); have n1O := hid m1O.out; clear m1O
          clear M1 hor hown hlt hg gk
          go_wp2_with fail
          refine ⟨bex C.out, ?_⟩
          rw [ordW_one]
          simp only [pick, List.getElem?_cons_succ, List.getElem?_cons_zero]
          go_wp2_with (at_builtin; refine wp_app_clone rfl _ _ rfl (v0.heap.size) l b d rfl rfl M2.out l2.out n2 (HI2.out _ C.out) (by omega) ?_; intro k2 cc2 v39 hor hown hg hlt)
          have D2 := hid hown
          replace C := hid (below_own C.out M2.out g2.out hg)
          replace D1 := hid (D1.out.grow hg (by first | exact n12.out | exact Ne.symm n21.out))
          replace X := hid (boxp_grown hg (by first | exact nO2.out | exact Ne.symm n2O.out) X.out)
          have m21 := hid (show k2 ≠ k1 by rcases hor with rfl | rfl; (first | exact Ne.symm n12.out | exact n21.out); (have := l1.out; omega))
          have m2O := hid (show k2 ≠ v30.heap.size by rcases hor with rfl | rfl; (first | exact Ne.symm nO2.out | exact n2O.out); (have := lO.out; omega))
          replace l1 := hid (Nat.lt_of_lt_of_le l1.out hg.size)
          replace lO := hid (Nat.lt_of_lt_of_le lO.out hg.size)
          have gk := hid (show W0.heap.size ≤ k2 by rcases hor with rfl | rfl; exact g2.out; exact lW.out)
          clear l2
          have l2 := hid hlt
          replace lW := hid (Nat.le_trans lW.out hg.size)
          (first | clear n12 | clear n21); have n21 := hid m21.out; clear m21
          (first | clear nO2 | clear n2O); have n2O := hid m2O.out; clear m2O
          clear M2 hor hown hlt hg gk
          go_wp2_with fail
          refine ⟨bex C.out, ?_⟩
          rw [ordW_one]
          simp only [pick, List.getElem?_cons_succ, List.getElem?_cons_zero]
          go_wp2_with fail
          refine ⟨bex C.out, ?_⟩
          rw [ordW_fre]
          simp only [pick, List.getElem?_cons_succ, List.getElem?_cons_zero]
          obtain ⟨x0, x1, x2, x3, x4⟩ := id X.out
          have hC := Cl2.mk2 D1.out D2.out X.out g1.out g2.out gO.out (by first | exact n1O.out | exact Ne.symm nO1.out) (by first | exact n2O.out | exact Ne.symm nO2.out) (by first | exact n12.out | exact Ne.symm n21.out) C.out
          have HC := hid hC
          clear hC
          go_wp2_with fail
          rw [ordW_done]
          go_wp2_with fail
          go_meet
          exact ⟨_, _, _, rfl, hid (HC.out)⟩
      · go_wp2_with fail
        have h0 := below_alloc v29 (.cells #[.slice none 0 0, .slice none 0 0] 25)
        replace M2 := hid (M2.out.next h0)
        replace C := hid (below_next C.out h0)
        have n2O := hid (show v0.heap.size ≠ v29.heap.size by have := l2.out; omega)
        replace l2 := hid (Nat.lt_of_lt_of_le l2.out h0.size)
        have lO := hid (show v29.heap.size < (v29.alloc (.cells #[.slice none 0 0, .slice none 0 0] 25)).heap.size by simp)
        have gO := hid (show W0.heap.size ≤ v29.heap.size from lW.out)
        replace lW := hid (Nat.le_trans lW.out h0.size)
        have X := hid (boxp_at (w := v29) (B := v29.heap.size) (a := .slice none 0 0) (b := .slice none 0 0) (t := 25) rfl)
        refine ⟨bex C.out, ?_⟩
        clear h0
        generalize v29.alloc (.cells #[.slice none 0 0, .slice none 0 0] 25) = v40 at *
        rw [ordW_one]
        simp only [pick, List.getElem?_cons_succ, List.getElem?_cons_zero]
        go_wp2_with fail
        have h0 := below_alloc v40 (.cells #[] 3)
        replace M2 := hid (M2.out.next h0)
        replace X := hid (boxp_next h0 X.out)
        replace C := hid (below_next C.out h0)
        have n21 := hid (show v0.heap.size ≠ v40.heap.size by have := l2.out; omega)
        have nO1 := hid (show v29.heap.size ≠ v40.heap.size by have := lO.out; omega)
        replace l2 := hid (Nat.lt_of_lt_of_le l2.out h0.size)
        replace lO := hid (Nat.lt_of_lt_of_le lO.out h0.size)
        have l1 := hid (show v40.heap.size < (v40.alloc (.cells #[] 3)).heap.size by simp)
        have g1 := hid (show W0.heap.size ≤ v40.heap.size from lW.out)
        replace lW := hid (Nat.le_trans lW.out h0.size)
        have M1 := hid (OwnI.made v40)
        refine ⟨bex C.out, ?_⟩
        clear h0
        generalize v40.alloc (.cells #[] 3) = v41 at *
        rw [ordW_one]
        simp only [pick, List.getElem?_cons_succ, List.getElem?_cons_zero]
        go_wp2_with (at_builtin; refine wp_app_clone rfl _ _ rfl (v40.heap.size) s a c rfl rfl M1.out l1.out n1 (HI1.out _ C.out) (by omega) ?_; intro k1 cc1 v42 hor hown hg hlt)
        have D1 := hid hown
        replace C := hid (below_own C.out M1.out g1.out hg)
        replace M2 := hid (M2.out.grow hg (by first | exact n21.out | exact Ne.symm n12.out))
        replace X := hid (boxp_grown hg (by first | exact nO1.out | exact Ne.symm n1O.out) X.out)
        have m12 := hid (show k1 ≠ v0.heap.size by rcases hor with rfl | rfl; (first | exact Ne.symm n21.out | exact n12.out); (have := l2.out; omega))
        have m1O := hid (show k1 ≠ v29.heap.size by rcases hor with rfl | rfl; (first | exact Ne.symm nO1.out | exact n1O.out); (have := lO.out; omega))
        replace l2 := hid (Nat.lt_of_lt_of_le l2.out hg.size)
        replace lO := hid (Nat.lt_of_lt_of_le lO.out hg.size)
        have gk := hid (show W0.heap.size ≤ k1 by rcases hor with rfl | rfl; exact g1.out; exact lW.out)
        clear l1
        have l1 := hid hlt
        replace lW := hid (Nat.le_trans lW.out hg.size)
        (first | clear n21 | clear n12); have n12 := hid m12.out; clear m12
        (first | clear nO1 | clear n1O); have n1O := hid m1O.out; clear m1O
        clear M1 hor hown hlt hg gk
        go_wp2_with fail
        refine ⟨bex C.out, ?_⟩
        rw [ordW_one]
        simp only [pick, List.getElem?_cons_succ, List.getElem?_cons_zero]
        go_wp2_with (at_builtin; refine wp_app_clone rfl _ _ rfl (v0.heap.size) l b d rfl rfl M2.out l2.out n2 (HI2.out _ C.out) (by omega) ?_; intro k2 cc2 v43 hor hown hg hlt)
        have D2 := hid hown
        replace C := hid (below_own C.out M2.out g2.out hg)
        replace D1 := hid (D1.out.grow hg (by first | exact n12.out | exact Ne.symm n21.out))
        replace X := hid (boxp_grown hg (by first | exact nO2.out | exact Ne.symm n2O.out) X.out)
        have m2O := hid (show k2 ≠ v29.heap.size by rcases hor with rfl | rfl; (first | exact Ne.symm nO2.out | exact n2O.out); (have := lO.out; omega))
        have m21 := hid (show k2 ≠ k1 by rcases hor with rfl | rfl; (first | exact Ne.symm n12.out | exact n21.out); (have := l1.out; omega))
        replace lO := hid (Nat.lt_of_lt_of_le lO.out hg.size)
        replace l1 := hid (Nat.lt_of_lt_of_le l1.out hg.size)
        have gk := hid (show W0.heap.size ≤ k2 by rcases hor with rfl | rfl; exact g2.out; exact lW.out)
        clear l2
        have l2 := hid hlt
        replace lW := hid (Nat.le_trans lW.out hg.size)
        (first | clear nO2 | clear n2O); have n2O := hid m2O.out; clear m2O
        (first | clear n12 | clear n21); have n21 := hid m21.out; clear m21
        clear M2 hor hown hlt hg gk
        go_wp2_with fail
        refine ⟨bex C.out, ?_⟩
        rw [ordW_one]
        simp only [pick, List.getElem?_cons_succ, List.getElem?_cons_zero]
        go_wp2_with fail
        refine ⟨bex C.out, ?_⟩
        rw [ordW_fre]
        simp only [pick, List.getElem?_cons_succ, List.getElem?_cons_zero]
        obtain ⟨x0, x1, x2, x3, x4⟩ := id X.out
        have hC := Cl2.mk2 D1.out D2.out X.out g1.out g2.out gO.out (by first | exact n1O.out | exact Ne.symm nO1.out) (by first | exact n2O.out | exact Ne.symm nO2.out) (by first | exact n12.out | exact Ne.symm n21.out) C.out
        have HC := hid hC
        clear hC
        go_wp2_with fail
        rw [ordW_done]
        go_wp2_with fail
        go_meet
        exact ⟨_, _, _, rfl, hid (HC.out)⟩
    · go_wp2_with fail
      have h0 := below_alloc v0 (.cells #[.slice none 0 0, .slice none 0 0] 25)
      replace C := hid (below_next C.out h0)
      have lO := hid (show v0.heap.size < (v0.alloc (.cells #[.slice none 0 0, .slice none 0 0] 25)).heap.size by simp)
      have gO := hid (show W0.heap.size ≤ v0.heap.size from lW.out)
      replace lW := hid (Nat.le_trans lW.out h0.size)
      have X := hid (boxp_at (w := v0) (B := v0.heap.size) (a := .slice none 0 0) (b := .slice none 0 0) (t := 25) rfl)
      refine ⟨bex C.out, ?_⟩
      clear h0
      generalize v0.alloc (.cells #[.slice none 0 0, .slice none 0 0] 25) = v44 at *
      rw [ordW_two]
      simp only [pick, List.getElem?_cons_succ, List.getElem?_cons_zero]
      refine ⟨?_, ?_⟩
      · go_wp2_with fail
        have h0 := below_alloc v44 (.cells #[] 3)
        replace X := hid (boxp_next h0 X.out)
        replace C := hid (below_next C.out h0)
        have nO1 := hid (show v0.heap.size ≠ v44.heap.size by have := lO.out; omega)
        replace lO := hid (Nat.lt_of_lt_of_le lO.out h0.size)
        have l1 := hid (show v44.heap.size < (v44.alloc (.cells #[] 3)).heap.size by simp)
        have g1 := hid (show W0.heap.size ≤ v44.heap.size from lW.out)
        replace lW := hid (Nat.le_trans lW.out h0.size)
        have M1 := hid (OwnI.made v44)
        refine ⟨bex C.out, ?_⟩
        clear h0
        generalize v44.alloc (.cells #[] 3) = v45 at *
        rw [ordW_two]
        simp only [pick, List.getElem?_cons_succ, List.getElem?_cons_zero]
        refine ⟨?_, ?_⟩
        · go_wp2_with (at_builtin; refine wp_app_clone rfl _ _ rfl (v44.heap.size) s a c rfl rfl M1.out l1.out n1 (HI1.out _ C.out) (by omega) ?_; intro k1 cc1 v46 hor hown hg hlt)
          have D1 := hid hown
          replace C := hid (below_own C.out M1.out g1.out hg)
          replace X := hid (boxp_grown hg (by first | exact nO1.out | exact Ne.symm n1O.out) X.out)
          have m1O := hid (show k1 ≠ v0.heap.size by rcases hor with rfl | rfl; (first | exact Ne.symm nO1.out | exact n1O.out); (have := lO.out; omega))
          replace lO := hid (Nat.lt_of_lt_of_le lO.out hg.size)
          have gk := hid (show W0.heap.size ≤ k1 by rcases hor with rfl | rfl; exact g1.out; exact lW.out)
          clear l1
          have l1 := hid hlt
          replace lW := hid (Nat.le_trans lW.out hg.size)
          (first | clear nO1 | clear n1O); have n1O := hid m1O.out; clear m1O
          clear M1 hor hown hlt hg gk
          go_wp2_with fail
          refine ⟨bex C.out, ?_⟩
          rw [ordW_one]
          simp only [pick, List.getElem?_cons_succ, List.getElem?_cons_zero]
          go_wp2_with fail
          have h0 := below_alloc v46 (.cells #[] 3)
          replace D1 := hid (D1.out.next h0)
          replace X := hid (boxp_next h0 X.out)
          replace C := hid (below_next C.out h0)
          have nO2 := hid (show v0.heap.size ≠ v46.heap.size by have := lO.out; omega)
          have n12 := hid (show k1 ≠ v46.heap.size by have := l1.out; omega)
          replace lO := hid (Nat.lt_of_lt_of_le lO.out h0.size)
          replace l1 := hid (Nat.lt_of_lt_of_le l1.out h0.size)
          have l2 := hid (show v46.heap.size < (v46.alloc (.cells #[] 3)).heap.size by simp)
          have g2 := hid (show W0.heap.size ≤ v46.heap.size from lW.out)
          replace lW := hid (Nat.le_trans lW.out h0.size)
          have M2 := hid (OwnI.made v46)
          refine ⟨bex C.out, ?_⟩
          clear h0
          generalize v46.alloc (.cells #[] 3) = v47 at *
          rw [ordW_one]
          simp only [pick, List.getElem?_cons_succ, List.getElem?_cons_zero]
          go_wp2_with (at_builtin; refine wp_app_clone rfl _ _ rfl (v46.heap.size) l b d rfl rfl M2.out l2.out n2 (HI2.out _ C.out) (by omega) ?_; intro k2 cc2 v48 hor hown hg hlt)
          have D2 := hid hown
          replace C := hid (below_own C.out M2.out g2.out hg)
          replace D1 := hid (D1.out.grow hg (by first | exact n12.out | exact Ne.symm n21.out))
          replace X := hid (boxp_grown hg (by first | exact nO2.out | exact Ne.symm n2O.out) X.out)
          have m2O := hid (show k2 ≠ v0.heap.size by rcases hor with rfl | rfl; (first | exact Ne.symm nO2.out | exact n2O.out); (have := lO.out; omega))
          have m21 := hid (show k2 ≠ k1 by rcases hor with rfl | rfl; (first | exact Ne.symm n12.out | exact n21.out); (have := l1.out; omega))
          replace lO := hid (Nat.lt_of_lt_of_le lO.out hg.size)
          replace l1 := hid (Nat.lt_of_lt_of_le l1.out hg.size)
          have gk := hid (show W0.heap.size ≤ k2 by rcases hor with rfl | rfl; exact g2.out; exact lW.out)
          clear l2
          have l2 := hid hlt
          replace lW := hid (Nat.le_trans lW.out hg.size)
          (first | clear nO2 | clear n2O); have n2O := hid m2O.out; clear m2O
          (first | clear n12 | clear n21); have n21 := hid m21.out; clear m21
          clear M2 hor hown hlt hg gk
          go_wp2_with fail
          refine ⟨bex C.out, ?_⟩
          rw [ordW_one]
          simp only [pick, List.getElem?_cons_succ, List.getElem?_cons_zero]
          go_wp2_with fail
          refine ⟨bex C.out, ?_⟩
          rw [ordW_fre]
          simp only [pick, List.getElem?_cons_succ, List.getElem?_cons_zero]
          obtain ⟨x0, x1, x2, x3, x4⟩ := id X.out
          have hC := Cl2.mk2 D1.out D2.out X.out g1.out g2.out gO.out (by first | exact n1O.out | exact Ne.symm nO1.out) (by first | exact n2O.out | exact Ne.symm nO2.out) (by first | exact n12.out | exact Ne.symm n21.out) C.out
          have HC := hid hC
          clear hC
          go_wp2_with fail
          rw [ordW_done]
          go_wp2_with fail
          go_meet
          exact ⟨_, _, _, rfl, hid (HC.out)⟩
        · go_wp2_with fail
          have h0 := below_alloc v45 (.cells #[] 3)
          replace M1 := hid (M1.out.next h0)
          replace X := hid (boxp_next h0 X.out)
          replace C := hid (below_next C.out h0)
          have nO2 := hid (show v0.heap.size ≠ v45.heap.size by have := lO.out; omega)
          have n12 := hid (show v44.heap.size ≠ v45.heap.size by have := l1.out; omega)
          replace lO := hid (Nat.lt_of_lt_of_le lO.out h0.size)
          replace l1 := hid (Nat.lt_of_lt_of_le l1.out h0.size)
          have l2 := hid (show v45.heap.size < (v45.alloc (.cells #[] 3)).heap.size by simp)
          have g2 := hid (show W0.heap.size ≤ v45.heap.size from lW.out)
          replace lW := hid (Nat.le_trans lW.out h0.size)
          have M2 := hid (OwnI.made v45)
          refine ⟨bex C.out, ?_⟩
          clear h0
          generalize v45.alloc (.cells #[] 3) = v49 at *
          rw [ordW_one]
          simp only [pick, List.getElem?_cons_succ, List.getElem?_cons_zero]
          go_wp2_with (at_builtin; refine wp_app_clone rfl _ _ rfl (v44.heap.size) s a c rfl rfl M1.out l1.out n1 (HI1.out _ C.out) (by omega) ?_; intro k1 cc1 v50 hor hown hg hlt)
          have D1 := hid hown
          replace C := hid (below_own C.out M1.out g1.out hg)
          replace M2 := hid (M2.out.grow hg (by first | exact n21.out | exact Ne.symm n12.out))
          replace X := hid (boxp_grown hg (by first | exact nO1.out | exact Ne.symm n1O.out) X.out)
          have m1O := hid (show k1 ≠ v0.heap.size by rcases hor with rfl | rfl; (first | exact Ne.symm nO1.out | exact n1O.out); (have := lO.out; omega))
          have m12 := hid (show k1 ≠ v45.heap.size by rcases hor with rfl | rfl; (first | exact Ne.symm n21.out | exact n12.out); (have := l2.out; omega))
          replace lO := hid (Nat.lt_of_lt_of_le lO.out hg.size)
          replace l2 := hid (Nat.lt_of_lt_of_le l2.out hg.size)
          have gk := hid (show W0.heap.size ≤ k1 by rcases hor with rfl | rfl; exact g1.out; exact lW.out)
          clear l1
          have l1 := hid hlt
          replace lW := hid (Nat.le_trans lW.out hg.size)
          (first | clear nO1 | clear n1O); have n1O := hid m1O.out; clear m1O
          (first | clear n21 | clear n12); have n12 := hid m12.out; clear m12
          clear M1 hor hown hlt hg gk
          go_wp2_with fail
          refine ⟨bex C.out, ?_⟩
          rw [ordW_one]
          simp only [pick, List.getElem?_cons_succ, List.getElem?_cons_zero]
          go_wp2_with (at_builtin; refine wp_app_clone rfl _ _ rfl (v45.heap.size) l b d rfl rfl M2.out l2.out n2 (HI2.out _ C.out) (by omega) ?_; intro k2 cc2 v51 hor hown hg hlt)
          have D2 := hid hown
          replace C := hid (below_own C.out M2.out g2.out hg)
          replace D1 := hid (D1.out.grow hg (by first | exact n12.out | exact Ne.symm n21.out))
          replace X := hid (boxp_grown hg (by first | exact nO2.out | exact Ne.symm n2O.out) X.out)
          have m2O := hid (show k2 ≠ v0.heap.size by rcases hor with rfl | rfl; (first | exact Ne.symm nO2.out | exact n2O.out); (have := lO.out; omega))
          have m21 := hid (show k2 ≠ k1 by rcases hor with rfl | rfl; (first | exact Ne.symm n12.out | exact n21.out); (have := l1.out; omega))
          replace lO := hid (Nat.lt_of_lt_of_le lO.out hg.size)
          replace l1 := hid (Nat.lt_of_lt_of_le l1.out hg.size)
          have gk := hid (show W0.heap.size ≤ k2 by rcases hor with rfl | rfl; exact g2.out; exact lW.out)
          clear l2
          have l2 := hid hlt
          replace lW := hid (Nat.le_trans lW.out hg.size)
          (first | clear nO2 | clear n2O); have n2O := hid m2O.out; clear m2O
          (first | clear n12 | clear n21); have n21 := hid m21.out; clear m21
          clear M2 hor hown hlt hg gk
          go_wp2_with fail
          refine ⟨bex C.out, ?_⟩
          rw [ordW_one]
          simp only [pick, List.getElem?_cons_succ, List.getElem?_cons_zero]
          go_wp2_with fail
          refine ⟨bex C.out, ?_⟩
          rw [ordW_fre]
          simp only [pick, List.getElem?_cons_succ, List.getElem?_cons_zero]
          obtain ⟨x0, x1, x2, x3, x4⟩ := id X.out
          have hC := Cl2.mk2 D1.out D2.out X.out g1.out g2.out gO.out (by first | exact n1O.out | exact Ne.symm nO1.out) (by first | exact n2O.out | exact Ne.symm nO2.out) (by first | exact n12.out | exact Ne.symm n21.out) C.out
          have HC := hid hC
          clear hC
          go_wp2_with fail
          rw [ordW_done]
          go_wp2_with fail
          go_meet
          exact ⟨_, _, _, rfl, hid (HC.out)⟩
      · go_wp2_with fail
        have h0 := below_alloc v44 (.cells #[] 3)
        replace X := hid (boxp_next h0 X.out)
        replace C := hid (below_next C.out h0)
        have nO2 := hid (show v0.heap.size ≠ v44.heap.size by have := lO.out; omega)
        replace lO := hid (Nat.lt_of_lt_of_le lO.out h0.size)
        have l2 := hid (show v44.heap.size < (v44.alloc (.cells #[] 3)).heap.size by simp)
        have g2 := hid (show W0.heap.size ≤ v44.heap.size from lW.out)
        replace lW := hid (Nat.le_trans lW.out h0.size)
        have M2 := hid (OwnI.made v44)
        refine ⟨bex C.out, ?_⟩
        clear h0
        generalize v44.alloc (.cells #[] 3) = v52 at *
        rw [ordW_one]
        simp only [pick, List.getElem?_cons_succ, List.getElem?_cons_zero]
        go_wp2_with fail
        have h0 := below_alloc v52 (.cells #[] 3)
        replace M2 := hid (M2.out.next h0)
        replace X := hid (boxp_next h0 X.out)
        replace C := hid (below_next C.out h0)
        have nO1 := hid (show v0.heap.size ≠ v52.heap.size by have := lO.out; omega)
        have n21 := hid (show v44.heap.size ≠ v52.heap.size by have := l2.out; omega)
        replace lO := hid (Nat.lt_of_lt_of_le lO.out h0.size)
        replace l2 := hid (Nat.lt_of_lt_of_le l2.out h0.size)
        have l1 := hid (show v52.heap.size < (v52.alloc (.cells #[] 3)).heap.size by simp)
        have g1 := hid (show W0.heap.size ≤ v52.heap.size from lW.out)
        replace lW := hid (Nat.le_trans lW.out h0.size)
        have M1 := hid (OwnI.made v52)
        refine ⟨bex C.out, ?_⟩
        clear h0
        generalize v52.alloc (.cells #[] 3) = v53 at *
        rw [ordW_one]
        simp only [pick, List.getElem?_cons_succ, List.getElem?_cons_zero]
        go_wp2_with (at_builtin; refine wp_app_clone rfl _ _ rfl (v52.heap.size) s a c rfl rfl M1.out l1.out n1 (HI1.out _ C.out) (by omega) ?_; intro k1 cc1 v54 hor hown hg hlt)
        have D1 := hid hown
        replace C := hid (below_own C.out M1.out g1.out hg)
        replace M2 := hid (M2.out.grow hg (by first | exact n21.out | exact Ne.symm n12.out))
        replace X := hid (boxp_grown hg (by first | exact nO1.out | exact Ne.symm n1O.out) X.out)
        have m1O := hid (show k1 ≠ v0.heap.size by rcases hor with rfl | rfl; (first | exact Ne.symm nO1.out | exact n1O.out); (have := lO.out; omega))
        have m12 := hid (show k1 ≠ v44.heap.size by rcases hor with rfl | rfl; (first | exact Ne.symm n21.out | exact n12.out); (have := l2.out; omega))
        replace lO := hid (Nat.lt_of_lt_of_le lO.out hg.size)
        replace l2 := hid (Nat.lt_of_lt_of_le l2.out hg.size)
        have gk := hid (show W0.heap.size ≤ k1 by rcases hor with rfl | rfl; exact g1.out; exact lW.out)
        clear l1
        have l1 := hid hlt
        replace lW := hid (Nat.le_trans lW.out hg.size)
        (first | clear nO1 | clear n1O); have n1O := hid m1O.out; clear m1O
        (first | clear n21 | clear n12); have n12 := hid m12.out; clear m12
        clear M1 hor hown hlt hg gk
        go_wp2_with fail
        refine ⟨bex C.out, ?_⟩
        rw [ordW_one]
        simp only [pick, List.getElem?_cons_succ, List.getElem?_cons_zero]
        go_wp2_with (at_builtin; refine wp_app_clone rfl _ _ rfl (v44.heap.size) l b d rfl rfl M2.out l2.out n2 (HI2.out _ C.out) (by omega) ?_; intro k2 cc2 v55 hor hown hg hlt)
        have D2 := hid hown
        replace C := hid (below_own C.out M2.out g2.out hg)
        replace D1 := hid (D1.out.grow hg (by first | exact n12.out | exact Ne.symm n21.out))
        replace X := hid (boxp_grown hg (by first | exact nO2.out | exact Ne.symm n2O.out) X.out)
        have m2O := hid (show k2 ≠ v0.heap.size by rcases hor with rfl | rfl; (first | exact Ne.symm nO2.out | exact n2O.out); (have := lO.out; omega))
        have m21 := hid (show k2 ≠ k1 by rcases hor with rfl | rfl; (first | exact Ne.symm n12.out | exact n21.out); (have := l1.out; omega))
        replace lO := hid (Nat.lt_of_lt_of_le lO.out hg.size)
        replace l1 := hid (Nat.lt_of_lt_of_le l1.out hg.size)
        have gk := hid (show W0.heap.size ≤ k2 by rcases hor with rfl | rfl; exact g2.out; exact lW.out)
        clear l2
        have l2 := hid hlt
        replace lW := hid (Nat.le_trans lW.out hg.size)
        (first | clear nO2 | clear n2O); have n2O := hid m2O.out; clear m2O
        (first | clear n12 | clear n21); have n21 := hid m21.out; clear m21
        clear M2 hor hown hlt hg gk
        go_wp2_with fail
        refine ⟨bex C.out, ?_⟩
        rw [ordW_one]
        simp only [pick, List.getElem?_cons_succ, List.getElem?_cons_zero]
        go_wp2_with fail
        refine ⟨bex C.out, ?_⟩
        rw [ordW_fre]
        simp only [pick, List.getElem?_cons_succ, List.getElem?_cons_zero]
        obtain ⟨x0, x1, x2, x3, x4⟩ := id X.out
        have hC := Cl2.mk2 D1.out D2.out X.out g1.out g2.out gO.out (by first | exact n1O.out | exact Ne.symm nO1.out) (by first | exact n2O.out | exact Ne.symm nO2.out) (by first | exact n12.out | exact Ne.symm n21.out) C.out
        have HC := hid hC
        clear hC
        go_wp2_with fail
        rw [ordW_done]
        go_wp2_with fail
        go_meet
        exact ⟨_, _, _, rfl, hid (HC.out)⟩
  case rest =>
    obtain ⟨O, vs, vl, rfl, HC⟩ := hcut
    obtain ⟨w1, hw1⟩ : ∃ w1 : World, w1 = wc := ⟨_, rfl⟩
    subst hw1
    have hO := HC.out.new
    have B1 := But.of (D := R) (below_next HB0.out HC.out.below)
    have R1 := hr.next (below_next HB0.out HC.out.below)
    have Z1 := hid (boxp_next HC.out.below HZ0.out)
    have X1 := hid HC.out.box
    have OS := hid HC.out.own
    have OL := hid HC.out.own2
    have NE1 := hid HC.out.ne1
    have NE2 := hid HC.out.ne2
    have NE := hid HC.out.ne
    have HSI := hid I1.out.2
    have HLI := hid I2.out.2
    obtain ⟨a1, k1, rfl, e1, e2, e3⟩ := OS.out.shape
    obtain ⟨b1, k2, rfl, f1, f2, f3⟩ := OL.out.shape
    clear HC HI1 HI2 I1 I2 HB0 HP0 HZ0 n1 n2 c1 c2 d1 d2 P0 hr
    go_wp2_with fail
    refine (pick_any B _ _ R p R1 (by omega) (by omega) (by omega)).mono ?_
    rintro e w2 ⟨i, rfl, _, hb, R2⟩
    have B2 := B1.trans hb
    have Z := hid (boxp_but hb (by omega) Z1.out)
    have X := hid (boxp_but hb (by omega) X1.out)
    replace OS := hid (OS.out.but hb (by omega))
    replace OL := hid (OL.out.but hb (by omega))
    clear hb R1 B1 Z1 X1
    obtain ⟨x0, x1, x2, x3, x4⟩ := id X.out
    obtain ⟨z0, z1, z2, z3, z4⟩ := id Z.out
    by_cases i0 : i = 0
    · subst i0
      have T := hid (boxp_next (below_alloc _ (.cells #[] 3)) (boxp_set1 (boxp_set0 (boxp_set Z.out (p := ⟨O, 1, none⟩) (by simp; omega) (.slice (some ⟨w2.heap.size, 0, none⟩) 0 0)) (.slice a1 s.length k1)) (.slice (some ⟨w2.heap.size, 0, none⟩) 0 0)))
      have hf := hid (fun u0 u1 u2 => mut_last0 (w := w) (W := ((w2.setCell ⟨O, 1, none⟩ u0).setCell ⟨w.heap.size + 1, 0, none⟩ u1).setCell ⟨w.heap.size + 1, 1, none⟩ u2) (K := 100) (M := 90) (p := p) (b := w2.heap.size) (N := w.heap.size + 2) (by simp)
        ((((OS.out.set (a := ⟨O, 1, none⟩) (fun g h _ => NE1.out g h) u0).set (fun g h h2 => by simp; omega) u1).set (fun g h h2 => by simp; omega) u2).rowV.mono (by omega)) (by omega) HSI.out
        (But.setNew (But.setNew (But.setNew B2 (by simp; omega) _) (by simp) _) (by simp) _) (((R2.set (by simp; omega) _).set (by simp; omega) _).set (by simp; omega) _) (by omega) (by omega))
      clear X Z OS OL B2 R2
      go_wp2_with fail
      obtain ⟨_, t0, t1, _, _⟩ := T.out
      refine bodyPost_ret (v := .agg #[.slice a1 s.length k1, .slice (some ⟨w2.heap.size, 0, none⟩) 0 0]) (by simp [results, Try.results13, go_sem, t0, t1]) rfl ?_
      exact hf.out _ _ _
    have e0 : (i == 0) = false := by simpa using i0
    by_cases i1 : i = 1
    · subst i1
      obtain ⟨g, rfl⟩ : ∃ g, b1 = some ⟨g, 0, none⟩ := by
        rcases OL.out.row with ⟨h, _⟩ | ⟨g, c, e, _⟩
        · subst h; simp at h3
        · simp at e; exact ⟨g, e.1⟩
      have gO := NE2.out g rfl
      have gB := OL.out.blk g rfl
      have hlt : (0 : Int) < (l.length : Int) := by omega
      have hlt2 : 0 < l.length := by omega
      go_wp2_with fail
      refine wp_region_ord (C := fun wZ => ∃ xZ, wZ = World.overP _ ([O]) xZ) [0,1,2] (.one 3 (.one 4 (.one 5 (.fre 6 .done)))) [6] (by kernel_rfl) (by kernel_rfl) (fun d _ _ _ _ h => by cases d <;> exact h) (KeepP.refl _ _).drew.ex ?_; simp only [pick, List.getElem?_cons_succ, List.getElem?_cons_zero]; (repeat (go_big_quiet_step (fail))); refine wpQuiet_nil ?_; simp only [ordW, pick, List.getElem?_cons_succ, List.getElem?_cons_zero]
      have K := hid ((KeepP.refl [O] w2).drew)
      have Bd := B2.drew
      have Rdd := R2.next (below_d (Below.refl w2.heap.size w2))
      go_wp2_with fail
      refine ⟨(K.out.trans (KeepP.below (below_alloc _ _))).ex, ?_⟩
      go_wp2_with fail
      refine (num_new [8, -1, 7, 9223372036854775807] (-1) 9223372036854775807 (by simp) (by decide) (by decide) B w2.drew _ R (p + 1) Rdd (by omega)).mono ?_
      rintro e w3 ⟨n, rfl, ⟨hn1, hn2⟩, hb, R3⟩
      have h0 := below_next (below_d (Below.refl w2.heap.size w2)) (below_alloc w2.drew (.cells (([8, -1, 7, 9223372036854775807] : List Int).map (Value.int .i64)).toArray 3))
      have K3 := hid ((KeepP.below (S := [O]) h0).trans (KeepP.but hb (by simp; omega)))
      have X3 := hid (boxp_but hb (by omega) (boxp_next h0 X.out))
      have Z3 := hid (boxp_but hb (by omega) (boxp_next h0 Z.out))
      have B3 := (B2.next h0).trans hb
      have O3 := hid ((OS.out.next h0).but hb (by omega))
      have L3 := hid ((OL.out.next h0).but hb (by omega))
      clear hb h0 K Bd Rdd R2 B2 X Z OS OL x0 x1 x2 x3 x4 z0 z1 z2 z3 z4
      obtain ⟨x0, x1, x2, x3, x4⟩ := id X3.out
      obtain ⟨z0, z1, z2, z3, z4⟩ := id Z3.out
      obtain ⟨r1, r2, r3⟩ : g < w3.heap.size ∧ w3.cell? ⟨g, 0, none⟩ = some ((l.map (Value.int .i64)).getD 0 undef) ∧ w3.frozen? ⟨g, 0, none⟩ = false := by
        rcases L3.out.row with ⟨h, _⟩ | ⟨g', c, e, q1, q2, q3, q4⟩
        · subst h; simp at h3
        · simp at e
          obtain ⟨rfl, _⟩ := e
          exact ⟨q4.1, q4.2.1 0 hlt2, q4.2.2 0⟩
      go_wp2_with fail
      refine ⟨K3.out.ex, ?_⟩
      go_wp2_with fail
      refine ⟨K3.out.ex, ?_⟩
      have T := hid (boxp_set1 (boxp_set0 (boxp_set Z3.out (p := ⟨g, 0, none⟩) (by simp; omega) (.int .i64 n)) (.slice a1 s.length k1)) (.slice (some ⟨g, 0, none⟩) l.length k2))
      have hf := hid (fun u1 u2 => mut_last (w := w) (W := w3.setCell ⟨g, 0, none⟩ (.int .i64 n)) (l := l.set 0 n) (K := 100) (M := 90) (p := p) (N := w.heap.size + 2) ((O3.out.set (a := ⟨g, 0, none⟩) (fun q h _ e => NE.out q h (by rw [e]; rfl)) _).rowV.mono (by omega)) ((own_rowset L3.out hlt2).mono (by omega)) (by omega) HSI.out
        (fun m hm => by
          rcases List.mem_or_eq_of_mem_set hm with h | h
          · exact HLI.out m h
          · subst h; unfold i64; omega) (But.setNew B3 (by simp; omega) _) (R3.set (by simp; omega) _) hB.2 (by omega) (by simp; omega) u1 u2 (by omega))
      clear X3 Z3 O3 L3 B3 R3 K3
      go_wp2_with fail
      obtain ⟨_, t0, t1, _, _⟩ := T.out
      refine bodyPost_ret (v := .agg #[.slice a1 s.length k1, .slice (some ⟨g, 0, none⟩) l.length k2]) (by simp [results, Try.results13, go_sem, t0, t1]) rfl ?_
      exact hf.out _ _
    have e1' : (i == 1) = false := by simpa using i1
    by_cases i2 : i = 2
    · subst i2
      go_wp2_with fail
      refine wp_region_ord (C := fun wZ => ∃ xZ, wZ = World.overP _ ([O]) xZ) [0,1,2] (.one 3 (.one 4 (.one 5 (.one 6 (.one 7 (.fre 8 .done)))))) [8] (by kernel_rfl) (by kernel_rfl) (fun d _ _ _ _ h => by cases d <;> exact h) (KeepP.refl _ _).drew.ex ?_; simp only [pick, List.getElem?_cons_succ, List.getElem?_cons_zero]; (repeat (go_big_quiet_step (fail))); refine wpQuiet_nil ?_; simp only [ordW, pick, List.getElem?_cons_succ, List.getElem?_cons_zero]
      have K := hid ((KeepP.refl [O] w2).drew)
      have Rdd := R2.next (below_d (Below.refl w2.heap.size w2))
      go_wp2_with fail
      refine ⟨(K.out.trans (KeepP.below (below_alloc _ _))).ex, ?_⟩
      go_wp2_with fail
      refine (num_new [8, 0, -9223372036854775808] (-9223372036854775808) 8 (by simp) (by decide) (by decide) B w2.drew _ R (p + 1) Rdd (by omega)).mono ?_
      rintro e w3 ⟨n, rfl, ⟨hn1, hn2⟩, hb, R3⟩
      have h0 := below_next (below_d (Below.refl w2.heap.size w2)) (below_alloc w2.drew (.cells (([8, 0, -9223372036854775808] : List Int).map (Value.int .i64)).toArray 3))
      have K3 := hid ((KeepP.below (S := [O]) h0).trans (KeepP.but hb (by simp; omega)))
      have X3 := hid (boxp_but hb (by omega) (boxp_next h0 X.out))
      have Z3 := hid (boxp_but hb (by omega) (boxp_next h0 Z.out))
      have B3 := (B2.next h0).trans hb
      have O3 := hid ((OS.out.next h0).but hb (by omega))
      have L3 := hid ((OL.out.next h0).but hb (by omega))
      have sO := X3.out.1
      have hI := hid (row_one w3 n (by unfold i64; omega))
      have s23 := B3.size
      clear hb h0 K Rdd R2 B2 X Z OS OL x0 x1 x2 x3 x4 z0 z1 z2 z3 z4
      go_wp2_with fail
      refine ⟨K3.out.ex, ?_⟩
      go_wp2_with fail
      refine ⟨(K3.out.trans (KeepP.below (below_alloc _ _))).ex, ?_⟩
      go_wp2_with (at_builtin; refine wp_app_own2 rfl _ _ rfl W0.heap.size (.slice a1 s.length k1) s [n] (some ⟨w3.heap.size, 0, none⟩) 1 rfl rfl (fun h => by cases h) (O3.out.next (below_alloc _ _)) (by simp; omega) hI.out (by omega) (by simp) ?_; intro v4 w4 hv4 hg hbk)
      have K4 := hid ((K3.out.trans (KeepP.below (below_alloc w3 (.cells #[.int .i64 n] 3)))).trans (KeepP.grown hg (fun q hq e => by simp at hq; subst hq; exact NE1.out _ e rfl)))
      have X4 := hid (boxp_keep hg.size (hg.block O (by simp; omega) (fun e => NE1.out _ e.symm rfl)) (boxp_next (below_alloc w3 (.cells #[.int .i64 n] 3)) X3.out))
      have Z4 := hid (boxp_keep hg.size (hg.block (w.heap.size + 1) (by simp; omega) (fun e => by have := (O3.out.blk _ e.symm).1; omega)) (boxp_next (below_alloc w3 (.cells #[.int .i64 n] 3)) Z3.out))
      have B4 := But.own (B3.next (below_alloc w3 (.cells #[.int .i64 n] 3))) (O3.out.next (below_alloc _ _)) (by omega) hg
      have R4 := (R3.next (below_alloc w3 (.cells #[.int .i64 n] 3))).grown hg (fun k hk => by have := (O3.out.blk k hk).1; omega)
      have L4 := hid ((L3.out.next (below_alloc w3 (.cells #[.int .i64 n] 3))).keep fun q h1 h2 h3 => hg.block q h3 (fun e => NE.out q e.symm h1))
      have O4 := hid hv4
      have NEV := hid (show ∀ q, v4.ownBlock = some q → q ≠ O from fun q hq e => by
        rcases hbk with h | h
        · exact NE1.out q (by rw [← h]; exact hq) e
        · rw [h] at hq; simp at hq; omega)
      clear hbk
      clear hv4 hg X3 Z3 B3 R3 O3 L3 hI K3
      obtain ⟨a4, k4, rfl, q1, q2, q3⟩ := O4.out.shape
      go_wp2_with fail
      refine ⟨K4.out.ex, ?_⟩
      go_wp2_with fail
      refine ⟨K4.out.ex, ?_⟩
      obtain ⟨x0, x1, x2, x3, x4⟩ := id X4.out
      obtain ⟨z0, z1, z2, z3, z4⟩ := id Z4.out
      have T := hid (boxp_set1 (boxp_set0 (boxp_set Z4.out (p := ⟨O, 0, none⟩) (by simp; omega) (.slice a4 (s ++ [n]).length k4)) (.slice a4 (s ++ [n]).length k4)) (.slice b1 l.length k2))
      have hf := hid (fun u0 u1 u2 => mut_last (w := w) (W := w4.setCell ⟨O, 0, none⟩ u0) (s := s ++ [n]) (l := l) (K := 100) (M := 90) (p := p) (N := w.heap.size + 2) ((O4.out.set (a := ⟨O, 0, none⟩) (fun g h _ => NEV.out g h) u0).rowV.mono (by omega)) ((L4.out.set (a := ⟨O, 0, none⟩) (fun g h _ => NE2.out g h) u0).rowV.mono (by omega)) (by omega)
        (fun m hm => by
          rcases List.mem_append.1 hm with h | h
          · exact HSI.out m h
          · simp at h; subst h; unfold i64; omega) HLI.out (But.setNew B4 (by simp; omega) _) (R4.set (by simp; omega) _) hB.2 (by simp; omega) (by omega) u1 u2 (by omega))
      rw [List.length_append] at T hf
      simp only [List.length_cons, List.length_nil] at T hf
      clear X4 Z4 O4 L4 B4 R4 K4 NEV
      go_wp2_with fail
      obtain ⟨_, t0, t1, _, _⟩ := T.out
      refine bodyPost_ret (v := .agg #[.slice a4 (s.length + (0 + 1)) k4, .slice b1 l.length k2]) (by simp [results, Try.results13, go_sem, t0, t1]) rfl ?_
      exact hf.out _ _ _
    have e2' : (i == 2) = false := by simpa using i2
    by_cases i3 : i = 3
    · subst i3
      have hst := hid (show StemAt w W0.heap.size O R B p s.length (.slice b1 l.length k2) l w2 from ⟨_, s, p + 1, X.out, OS.out, OL.out, Z.out, B2, R2, by omega, HSI.out, fun g h => NE1.out g h, fun g h => NE.out g h, by omega⟩)
      have HNE2 := hid NE2.out
      have hOO : w.heap.size + 2 ≤ O := by omega
      have hWW : w.heap.size + 2 = W0.heap.size := hs0
      clear X Z OS OL B2 R2 x0 x1 x2 x3 x4 z0 z1 z2 z3 z4 NE1 NE2 NE HSI
      go_wp2_with fail
      go_loopw [] (fun wr => Hid (StemAt w W0.heap.size O R B p s.length (.slice b1 l.length k2) l wr)) (fun wr => 81 - lenAt wr O)
      case atStart => exact hst
      case round =>
        obtain ⟨v, t, q, hX, hS, hL, hZ, hB2, hR, ht, hti, hv1, hv2, hq⟩ := hrel.out
        clear hst
        obtain ⟨wo, hwo⟩ : ∃ wo : World, wo = wr := ⟨_, rfl⟩
        subst hwo
        obtain ⟨a5, k5, rfl, q1, q2, q3⟩ := hS.shape
        have X := hid hX
        have OS := hid hS
        have OL := hid hL
        have Z := hid hZ
        have TI := hid hti
        have V1 := hid hv1
        have V2 := hid hv2
        have sO := hX.1
        have hlen := hid (show lenAt wo O = t.length by unfold lenAt; rw [hX.2.1])
        clear hX hS hL hZ hti hv1 hv2 hrel
        obtain ⟨x0, x1, x2, x3, x4⟩ := id X.out
        go_wp2_with fail
        refine wp_region_ord (C := fun wZ => ∃ xZ, wZ = World.overP _ ([O]) xZ) [0,1,2,3] (.one 4 (.one 5 (.one 6 .done))) [] (by kernel_rfl) (by kernel_rfl) (fun d _ _ _ _ h => by cases d <;> exact h) (KeepP.refl _ _).drew.ex ?_; simp only [pick, List.getElem?_cons_succ, List.getElem?_cons_zero]; (repeat (go_big_quiet_step (fail))); refine wpQuiet_nil ?_; simp only [ordW, pick, List.getElem?_cons_succ, List.getElem?_cons_zero]
        have K := hid ((KeepP.refl [O] wo).drew)
        have h0 := below_d (Below.refl wo.heap.size wo)
        go_wp2_with fail
        refine (pick_any B _ _ R q (hR.next h0) (by omega) (by omega) (by omega)).mono ?_
        rintro e w3 ⟨r, rfl, ⟨hr1, hr2, _⟩, hb, R3⟩
        have hr3 := hr2 (by omega)
        have K3 := hid (K.out.trans (KeepP.but hb (by simp; omega)))
        have X3 := hid (boxp_but hb (by omega) (boxp_next h0 X.out))
        have Z3 := hid (boxp_but hb (by omega) (boxp_next h0 Z.out))
        have B3 := (hB2.next h0).trans hb
        have O3 := hid ((OS.out.next h0).but hb (by omega))
        have L3 := hid ((OL.out.next h0).but hb (by omega))
        have s3 := X3.out.1
        have s23 := B3.size
        clear hb h0 hr2 K hB2 hR X Z OS OL x0 x1 x2 x3 x4
        obtain ⟨x0, x1, x2, x3, x4⟩ := id X3.out
        obtain ⟨z0, z1, z2, z3, z4⟩ := id Z3.out
        by_cases hlt : (t.length : Int) < 80 + r
        · go_wp2_with fail
          refine ⟨K3.out.ex, ?_⟩
          go_wp2_with fail
          refine ⟨K3.out.ex, ?_⟩
          go_wp2_with fail
          refine ⟨K3.out.ex, ?_⟩
          have hI := hid (row_one w3 1 (by unfold i64; omega))
          clear z0 z1 z2 z3 z4 x0 x1 x2 x3 x4
          have HX3 := hid (fun (v4 : Value) (w4 : World) (hg : (w3.alloc (.cells #[.int .i64 1] 3)).grownBy w4 (Value.slice a5 t.length k5).ownBlock) => boxp_keep hg.size (hg.block O (by simp; omega) (fun e => V1.out _ e.symm rfl)) (boxp_next (below_alloc w3 (.cells #[.int .i64 1] 3)) X3.out))
          obtain ⟨x0, x1, x2, x3, x4⟩ := id X3.out
          go_wp2_with (at_builtin; refine wp_app_own2 rfl _ _ rfl W0.heap.size (.slice a5 t.length k5) t [1] (some ⟨w3.heap.size, 0, none⟩) 1 rfl rfl (fun h => by cases h) (O3.out.next (below_alloc _ _)) (by simp; omega) hI.out (by omega) (by simp) ?_; intro v4 w4 hv4 hg hbk; obtain ⟨a4, k4, rfl, q1, q2, q3⟩ := OwnI.shape hv4; have HV := hid hv4; have HG := hid hg; have HBK := hid hbk; obtain ⟨y0, y1, y2, y3, y4⟩ := HX3.out (.slice none 0 0) _ hg; clear hv4 hg hbk)
          have hg := HG.out
          have X4 := hid (HX3.out (.slice none 0 0) _ hg)
          have Z4 := hid (boxp_keep hg.size (hg.block (w.heap.size + 1) (by simp; omega) (fun e => by have := (O3.out.blk _ e.symm).1; omega)) (boxp_next (below_alloc w3 (.cells #[.int .i64 1] 3)) Z3.out))
          have B4 := But.own (B3.next (below_alloc w3 (.cells #[.int .i64 1] 3))) (O3.out.next (below_alloc _ _)) (by omega) hg
          have R4 := (R3.next (below_alloc w3 (.cells #[.int .i64 1] 3))).grown hg (fun k hk => by have := (O3.out.blk k hk).1; omega)
          have L4 := hid ((L3.out.next (below_alloc w3 (.cells #[.int .i64 1] 3))).keep fun q h1 h2 h3 => hg.block q h3 (fun e => V2.out q e.symm h1))
          have O4 := hid HV.out
          have NEV := hid (show ∀ q, (Value.slice a4 (t ++ [1]).length k4).ownBlock = some q → q ≠ O from fun q hq e => by
            rcases HBK.out with h | h
            · exact V1.out q (by rw [← h]; exact hq) e
            · rw [h] at hq; simp at hq; omega)
          have NEV2 := hid (show ∀ q, (Value.slice a4 (t ++ [1]).length k4).ownBlock = some q → (Value.slice b1 l.length k2).ownBlock ≠ some q from fun q hq e => by
            rcases HBK.out with h | h
            · exact V2.out q (by rw [← h]; exact hq) e
            · rw [h] at hq; simp at hq; have := (L3.out.blk q e).2; omega)
          have hst := hid (show ∀ u0, u0 = .slice a4 (t ++ [1]).length k4 → StemAt w W0.heap.size O R B p s.length (.slice b1 l.length k2) l (w4.setCell ⟨O, 0, none⟩ u0) from fun u0 hu => by
            subst hu
            exact ⟨_, t ++ [1], q + 1, boxp_set0 X4.out _, O4.out.set (a := ⟨O, 0, none⟩) (fun g h _ => NEV.out g h) _, L4.out.set (a := ⟨O, 0, none⟩) (fun g h _ => HNE2.out g h) _, boxp_set Z4.out (by simp; omega) _, But.setNew B4 (by simp; omega) _, R4.set (by simp; omega) _, (by simp; omega),
              (fun m hm => by
                rcases List.mem_append.1 hm with h | h
                · exact TI.out m h
                · simp at h; subst h; unfold i64; omega), NEV.out, NEV2.out, (by simp; omega)⟩)
          have hln2 := hid (show ∀ u0, u0 = .slice a4 (t ++ [1]).length k4 → lenAt (w4.setCell ⟨O, 0, none⟩ u0) O = t.length + 1 from fun u0 hu => by
            unfold lenAt
            rw [(boxp_set0 X4.out u0).2.1, hu]
            simp)
          clear X4 Z4 O4 L4 B4 R4 NEV NEV2 hg HG HV HBK
          go_roundw
          case rel => exact hid (hst.out _ (by simp))
          case measure => rw [hln2.out _ (by simp), hlen.out]; omega
        · go_wp2_with fail
          refine ⟨K3.out.ex, ?_⟩
          go_wp2_with fail
          refine ⟨K3.out.ex, ?_⟩
          go_wp2_with fail
          refine ⟨K3.out.ex, ?_⟩
          have T := hid (boxp_set1 (boxp_set0 Z3.out (.slice a5 t.length k5)) (.slice b1 l.length k2))
          have hf := hid (fun u1 u2 => mut_last (w := w) (K := 100) (M := 90) (p := p) (N := w.heap.size + 2) (O3.out.rowV.mono (by omega)) (L3.out.rowV.mono (by omega)) (by omega) TI.out HLI.out B3 R3 hB.2 (by omega) (by omega) u1 u2 (by omega))
          clear X3 Z3 O3 L3 B3 R3 K3
          go_wp2_with fail
          obtain ⟨_, t0, t1, _, _⟩ := T.out
          refine bodyPost_ret (v := .agg #[.slice a5 t.length k5, .slice b1 l.length k2]) (by simp [results, Try.results13, go_sem, t0, t1]) rfl ?_
          exact hf.out _ _
    have e3' : (i == 3) = false := by simpa using i3
    have T := hid (boxp_set1 (boxp_set0 Z.out (.slice a1 s.length k1)) (.slice b1 l.length k2))
    have hf := hid (fun u1 u2 => mut_last (w := w) (K := 100) (M := 90) (p := p) (N := w.heap.size + 2) (OS.out.rowV.mono (by omega)) (OL.out.rowV.mono (by omega)) (by omega) HSI.out HLI.out B2 R2 hB.2 (by omega) (by omega) u1 u2 (by omega))
    clear X Z OS OL B2 R2
    go_wp2_with fail
    obtain ⟨_, t0, t1, _, _⟩ := T.out
    refine bodyPost_ret (v := .agg #[.slice a1 s.length k1, .slice b1 l.length k2]) (by simp [results, Try.results13, go_sem, t0, t1]) rfl ?_
    exact hf.out _ _
end Lasso
end Go.Proofs.Ytkjnmkjdooebmaa
