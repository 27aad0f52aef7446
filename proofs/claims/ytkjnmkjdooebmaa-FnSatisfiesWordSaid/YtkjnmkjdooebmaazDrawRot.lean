/- The reference's l6Rotate: another lasso of the same word. Conditions: those of each contract. -/
import Derived.Test.YtkjnmkjdooebmaaJW5
import Derived.Test.YtkjnmkjdooebmaazRedS2
import Derived.Deep.DeepCutAuto
import Derived.Deep.CutBlock
set_option linter.unusedVariables false
set_option linter.unusedSimpArgs false
namespace Go.Proofs.Ytkjnmkjdooebmaa
open Go.RowKit
set_option linter.unusedVariables false
set_option linter.unusedSimpArgs false
namespace Lasso

/-- what a rotated lasso comes to -/
def RotPost (B K R p : Nat) (w : World) (e : Ending) (w' : World) : Prop :=
  ∃ v s l p', e = .returned v ∧ NewLas w.heap.size s l v w' ∧ s.length ≤ 20 ∧ 1 ≤ l.length ∧ l.length ≤ 20 ∧ But w R w' ∧ Rd B w' R p' ∧ p' ≤ p + K
/-- the variable O holds a lasso of the call's own -/
structure RotD (w : World) (O N R B q : Nat) (vs vl : Value) (t l : List Int) (wr : World) : Prop where
  box : BoxP wr O vs vl
  own : OwnI N vs t wr
  own2 : OwnI N vl l wr
  res : BoxP wr (w.heap.size + 1) (.slice none 0 0) (.slice none 0 0)
  but : But w R wr
  rd : Rd B wr R q
  ti : ∀ m, m ∈ t → i64 m
  li : ∀ m, m ∈ l → i64 m
  ne1 : ∀ g, vs.ownBlock = some g → g ≠ O
  ne2 : ∀ g, vl.ownBlock = some g → g ≠ O
  ne : ∀ g, vs.ownBlock = some g → vl.ownBlock ≠ some g
theorem RotD.next {w : World} {O N R B q : Nat} {vs vl : Value} {t l : List Int} {wr w' : World} (h : RotD w O N R B q vs vl t l wr) (hb : Below wr.heap.size wr w') : RotD w O N R B q vs vl t l w' :=
  { h with box := boxp_next hb h.box, own := h.own.next hb, own2 := h.own2.next hb, res := boxp_next hb h.res, but := h.but.next hb, rd := h.rd.next hb }
/-- the stem's row has grown, and is stored -/
theorem RotD.stem {w : World} {O N R B q : Nat} {vs vl v' : Value} {t t' l : List Int} {wr w' : World} (h : RotD w O N R B q vs vl t l wr) (hg : wr.grownBy w' vs.ownBlock) (hv : OwnI N v' t' w') (hor : v'.ownBlock = vs.ownBlock ∨ v'.ownBlock = some wr.heap.size) (hti : ∀ m, m ∈ t' → i64 m)
    (hN : w.heap.size + 2 ≤ N) (hO : N ≤ O) (hB : B ≤ w.heap.size) (hR : R < B) : RotD w O N R B q v' vl t' l (w'.setCell ⟨O, 0, none⟩ v') := by
  have hOl := h.box.1
  have k1 : ∀ b, vs.ownBlock = some b → N ≤ b := fun b hb => (h.own.blk b hb).1
  have b1 := boxp_keep hg.size (hg.block O hOl (fun e => h.ne1 _ e.symm rfl)) h.box
  have r1 := boxp_keep hg.size (hg.block (w.heap.size + 1) h.res.1 (fun e => by have := k1 _ e.symm; omega)) h.res
  have n1 : ∀ g, v'.ownBlock = some g → g ≠ O := fun g hg' e => by
    rcases hor with e2 | e2
    · exact h.ne1 g (by rw [← e2]; exact hg') e
    · rw [e2] at hg'; simp at hg'; omega
  have hs := h.but.size
  refine ⟨boxp_set0 b1 v', hv.set (fun g h1 _ => n1 g h1) _, ((h.own2.keep fun q h1 h2 h3 => hg.block q h3 (fun e => h.ne q e.symm h1))).set (fun g h1 _ => h.ne2 g h1) _, boxp_set r1 (by simp; omega) _, ?_, ?_, hti, h.li, n1, h.ne2, fun g h1 h2 => ?_⟩
  · exact But.setNew (But.own h.but h.own (by omega) hg) (by simp; omega) _
  · exact (h.rd.grown hg (fun k hk => by have := k1 k hk; omega)).set (by simp; omega) _
  · rcases hor with e2 | e2
    · exact h.ne g (by rw [← e2]; exact h1) h2
    · rw [e2] at h1; simp at h1; have := (h.own2.blk g h2).2; omega
/-- a new row is stored as the loop -/
theorem RotD.loop {w : World} {O N R B q : Nat} {vs vl v' : Value} {t l l' : List Int} {wr : World} {M : Nat} (h : RotD w O N R B q vs vl t l wr) (hv : OwnI M v' l' wr) (hM : ∀ g, vs.ownBlock = some g → g < M) (hM2 : O < M) (hli : ∀ m, m ∈ l' → i64 m)
    (hN : w.heap.size + 2 ≤ N) (hO : N ≤ O) (hB : B ≤ w.heap.size) : RotD w O N R B q vs v' t l' (wr.setCell ⟨O, 1, none⟩ v') := by
  have n2 : ∀ g, v'.ownBlock = some g → g ≠ O := fun g hg => by have := (hv.blk g hg).1; omega
  refine ⟨boxp_set1 h.box v', h.own.set (fun g h1 _ => h.ne1 g h1) _, (hv.set (fun g h1 _ => n2 g h1) _).mono (by omega), boxp_set h.res (by simp; omega) _, But.setNew h.but (by simp; omega) _, h.rd.set (by simp; omega) _, h.ti, hli, h.ne1, n2, fun g h1 h2 => ?_⟩
  have := hM g h1
  have := (hv.blk g h2).1
  omega

theorem rot_ret {w W : World} {O N R B q p K : Nat} {vs vl : Value} {t l : List Int} (h : RotD w O N R B q vs vl t l W) (hN : w.heap.size + 2 ≤ N) (h1 : t.length ≤ 20) (h2 : 1 ≤ l.length) (h3 : l.length ≤ 20) (hB : B ≤ w.heap.size) (hq : q ≤ p + K) :
    RotPost B K R p w (.returned (.agg #[vs, vl])) ((W.setCell ⟨w.heap.size + 1, 0, none⟩ vs).setCell ⟨w.heap.size + 1, 1, none⟩ vl) :=
  ⟨_, t, l, q, rfl, ⟨vs, vl, rfl, ((h.own.rowV.set (show w.heap.size + 1 < N by omega) _).set (show w.heap.size + 1 < N by omega) _).mono (by omega), ((h.own2.rowV.set (show w.heap.size + 1 < N by omega) _).set (show w.heap.size + 1 < N by omega) _).mono (by omega), h.ti, h.li⟩, h1, h2, h3,
    But.setNew (But.setNew h.but (by simp) _) (by simp) _, (h.rd.set (by simp; omega) _).set (by simp; omega) _, hq⟩
theorem row_at {w : World} {g : Nat} {x : Int} (h : w.cell? ⟨g, 0, none⟩ = some (.int .i64 x)) (hx : i64 x) : IntsIn Any w (some ⟨g, 0, none⟩) [x] :=
  ⟨.inr ⟨g, 0, rfl, trivial, blt h, fun i v hi => by
    cases i with
    | zero => simp at hi; subst hi; simpa using h
    | succ i => simp at hi⟩, fun m hm => by simp at hm; subst hm; exact hx⟩

set_option maxRecDepth 100000 in
set_option maxHeartbeats 4000000 in
theorem rotate_any (w : World) (R B p : Nat) (s l : List Int) (x : Value) (hx : PairIn Any w s l x) (hn : NilOk x) (h1 : s.length ≤ 12) (h2 : l.length ≤ 8) (h3 : 1 ≤ l.length) (hr : Rd B w R p) (hp : p + 100 ≤ 1000000) : Calls Try.prog 12 #[.pointer (some ⟨R, 0, none⟩), x] w (RotPost B 10 R p w) := by
  have hB := hr.lt
  obtain ⟨a, b, c, d, rfl, hi1, hi2, c1, c2, d1, d2⟩ := hx
  obtain ⟨n1, n2⟩ := hn _ _ _ _ _ _ rfl
  have I1 := hid hi1
  have I2 := hid hi2
  clear hn hi1 hi2
  go_enter Try.func12, Try.ntmps12
  go_upto_region 1 with fail
  refine wp_gen (fun W => Below w.heap.size w W ∧ BoxP W w.heap.size (.slice a s.length c) (.slice b l.length d) ∧ BoxP W (w.heap.size + 1) (.slice none 0 0) (.slice none 0 0) ∧ w.heap.size + 2 = W.heap.size) ⟨(by repeat (first | exact Below.refl _ _ | assumption | refine below_a ?_ _ | refine below_o ?_ _ | refine below_d ?_ | refine below_n ?_ _ | refine below_s ?_ (by first | (simp; done) | (simp; omega) | omega) _)), boxp_next (below_alloc _ _) (boxp_at rfl), boxp_at (by simp), by simp⟩ ?_
  rintro W0 ⟨B0, P0, Z0, hs0⟩
  have HB0 := hid B0
  have HP0 := hid P0
  have HZ0 := hid Z0
  have HI1 := hid (fun (W : World) (M : Below W0.heap.size W0 W) => (I1.out.below B0).below M)
  have HI2 := hid (fun (W : World) (M : Below W0.heap.size W0 W) => (I2.out.below B0).below M)
  clear B0 Z0
  go_cut [5] (fun s5 wx => ∃ O vs vl, s5 = .pointer (some ⟨O, 0, none⟩) ∧ Hid (Cl2 W0 s l O vs vl wx))
  case first =>
    obtain ⟨p0, p1, p2, p3, p4⟩ := P0
    refine wp_region_ord (C := fun wZ => ∃ xZ, wZ = World.over _ xZ) [1,2,5,6] (.thr 0 4 9 (.thr 3 4 9 (.two 4 9 (.two 7 9 (.two 8 9 (.one 9 (.fre 10 .done)) (.one 8 (.fre 10 .done))) (.one 7 (.one 8 (.fre 10 .done)))) (.one 4 (.one 7 (.one 8 (.fre 10 .done))))) (.two 3 9 (.two 7 9 (.two 8 9 (.one 9 (.fre 10 .done)) (.one 8 (.fre 10 .done))) (.one 7 (.one 8 (.fre 10 .done)))) (.one 3 (.one 7 (.one 8 (.fre 10 .done))))) (.two 3 4 (.one 4 (.one 7 (.one 8 (.fre 10 .done)))) (.one 3 (.one 7 (.one 8 (.fre 10 .done)))))) (.two 0 9 (.two 3 9 (.two 7 9 (.two 8 9 (.one 9 (.fre 10 .done)) (.one 8 (.fre 10 .done))) (.one 7 (.one 8 (.fre 10 .done)))) (.one 3 (.one 7 (.one 8 (.fre 10 .done))))) (.one 0 (.one 3 (.one 7 (.one 8 (.fre 10 .done)))))) (.two 0 4 (.two 3 4 (.one 4 (.one 7 (.one 8 (.fre 10 .done)))) (.one 3 (.one 7 (.one 8 (.fre 10 .done))))) (.one 0 (.one 3 (.one 7 (.one 8 (.fre 10 .done))))))) [10] (by kernel_rfl) (by kernel_rfl) (fun d _ _ _ _ h => by cases d <;> exact h) (bex (Below.refl _ _).drew) ?_
    simp only [pick, List.getElem?_cons_succ, List.getElem?_cons_zero]
    (repeat (go_big_quiet_step (fail)))
    refine wpQuiet_nil ?_
    have C := hid (below_d (Below.refl W0.heap.size W0))
    have lW := hid (show W0.heap.size ≤ W0.drew.heap.size from Nat.le_refl _)
    generalize W0.drew = v0 at *
    rw [ordW_thr]
    simp only [pick, List.getElem?_cons_succ, List.getElem?_cons_zero]
    refine ⟨?_, ?_, ?_⟩
    · go_wp2_with fail
      have h0 := below_alloc v0 (.cells #[] 3)
      replace C := hid (below_next C.out h0)
      have l1 := hid (show v0.heap.size < (v0.alloc (.cells #[] 3)).heap.size by simp)
      have g1 := hid (show W0.heap.size ≤ v0.heap.size from lW.out)
      replace lW := hid (Nat.le_trans lW.out h0.size)
      have M1 := hid (OwnI.made v0)
      refine ⟨bex C.out, ?_⟩
      clear h0
      generalize v0.alloc (.cells #[] 3) = v1 at *
      rw [ordW_thr]
      simp only [pick, List.getElem?_cons_succ, List.getElem?_cons_zero]
      refine ⟨?_, ?_, ?_⟩
      · go_wp2_with (at_builtin; refine wp_app_clone rfl _ _ rfl (v0.heap.size) s a c rfl rfl M1.out l1.out n1 (HI1.out _ C.out) (by omega) ?_; intro k1 cc1 v2 hor hown hg hlt)
        have D1 := hid hown
        replace C := hid (below_own C.out M1.out g1.out hg)
        have gk := hid (show W0.heap.size ≤ k1 by rcases hor with rfl | rfl; exact g1.out; exact lW.out)
        clear l1
        have l1 := hid hlt
        replace lW := hid (Nat.le_trans lW.out hg.size)
        clear M1 hor hown hlt hg gk
        go_wp2_with fail
        refine ⟨bex C.out, ?_⟩
        rw [ordW_two]
        simp only [pick, List.getElem?_cons_succ, List.getElem?_cons_zero]
        refine ⟨?_, ?_⟩
        · go_wp2_with fail
          have h0 := below_alloc v2 (.cells #[] 3)
          replace D1 := hid (D1.out.next h0)
          replace C := hid (below_next C.out h0)
          have n12 := hid (show k1 ≠ v2.heap.size by have := l1.out; omega)
          replace l1 := hid (Nat.lt_of_lt_of_le l1.out h0.size)
          have l2 := hid (show v2.heap.size < (v2.alloc (.cells #[] 3)).heap.size by simp)
          have g2 := hid (show W0.heap.size ≤ v2.heap.size from lW.out)
          replace lW := hid (Nat.le_trans lW.out h0.size)
          have M2 := hid (OwnI.made v2)
          refine ⟨bex C.out, ?_⟩
          clear h0
          generalize v2.alloc (.cells #[] 3) = v3 at *
          rw [ordW_two]
          simp only [pick, List.getElem?_cons_succ, List.getElem?_cons_zero]
          refine ⟨?_, ?_⟩
          · go_wp2_with (at_builtin; refine wp_app_clone rfl _ _ rfl (v2.heap.size) l b d rfl rfl M2.out l2.out n2 (HI2.out _ C.out) (by omega) ?_; intro k2 cc2 v4 hor hown hg hlt)
            have D2 := hid hown
            replace C := hid (below_own C.out M2.out g2.out hg)
            replace D1 := hid (D1.out.grow hg (by first | exact n12.out | exact Ne.symm n21.out))
            have m21 := hid (show k2 ≠ k1 by rcases hor with rfl | rfl; (first | exact Ne.symm n12.out | exact n21.out); (have := l1.out; omega))
            replace l1 := hid (Nat.lt_of_lt_of_le l1.out hg.size)
            have gk := hid (show W0.heap.size ≤ k2 by rcases hor with rfl | rfl; exact g2.out; exact lW.out)
            clear l2
            have l2 := hid hlt
            replace lW := hid (Nat.le_trans lW.out hg.size)
            (first | clear n12 | clear n21); have n21 := hid m21.out; clear m21
            clear M2 hor hown hlt hg gk
            go_wp2_with fail
            refine ⟨bex C.out, ?_⟩
            rw [ordW_two]
            simp only [pick, List.getElem?_cons_succ, List.getElem?_cons_zero]
            refine ⟨?_, ?_⟩
            · go_wp2_with fail
              refine ⟨bex C.out, ?_⟩
              rw [ordW_one]
              simp only [pick, List.getElem?_cons_succ, List.getElem?_cons_zero]
              go_wp2_with fail
              have h0 := below_alloc v4 (.cells #[.slice none 0 0, .slice none 0 0] 25)
              replace D1 := hid (D1.out.next h0)
              replace D2 := hid (D2.out.next h0)
              replace C := hid (below_next C.out h0)
              have n1O := hid (show k1 ≠ v4.heap.size by have := l1.out; omega)
              have n2O := hid (show k2 ≠ v4.heap.size by have := l2.out; omega)
              replace l1 := hid (Nat.lt_of_lt_of_le l1.out h0.size)
              replace l2 := hid (Nat.lt_of_lt_of_le l2.out h0.size)
              have lO := hid (show v4.heap.size < (v4.alloc (.cells #[.slice none 0 0, .slice none 0 0] 25)).heap.size by simp)
              have gO := hid (show W0.heap.size ≤ v4.heap.size from lW.out)
              replace lW := hid (Nat.le_trans lW.out h0.size)
              have X := hid (boxp_at (w := v4) (B := v4.heap.size) (a := .slice none 0 0) (b := .slice none 0 0) (t := 25) rfl)
              refine ⟨bex C.out, ?_⟩
              clear h0
              generalize v4.alloc (.cells #[.slice none 0 0, .slice none 0 0] 25) = v5 at *
              rw [ordW_fre]
              simp only [pick, List.getElem?_cons_succ, List.getElem?_cons_zero]
              obtain ⟨x0, x1, x2, x3, x4⟩ := id X.out
              have hC := Cl2.mk2 D1.out D2.out X.out g1.out g2.out gO.out (by first | exact n1O.out | exact Ne.symm nO1.out) (by first | exact n2O.out | exact Ne.symm nO2.out) (by first | exact n12.out | exact Ne.symm n21.out) C.out
              have HC := hid hC
              clear hC
              go_wp2_with fail
              rw [ordW_done]
              go_wp2_with fail
              go_meet
              exact ⟨_, _, _, rfl, hid (HC.out)⟩
            · go_wp2_with fail
              have h0 := below_alloc v4 (.cells #[.slice none 0 0, .slice none 0 0] 25)
              replace D1 := hid (D1.out.next h0)
              replace D2 := hid (D2.out.next h0)
              replace C := hid (below_next C.out h0)
              have n1O := hid (show k1 ≠ v4.heap.size by have := l1.out; omega)
              have n2O := hid (show k2 ≠ v4.heap.size by have := l2.out; omega)
              replace l1 := hid (Nat.lt_of_lt_of_le l1.out h0.size)
              replace l2 := hid (Nat.lt_of_lt_of_le l2.out h0.size)
              have lO := hid (show v4.heap.size < (v4.alloc (.cells #[.slice none 0 0, .slice none 0 0] 25)).heap.size by simp)
              have gO := hid (show W0.heap.size ≤ v4.heap.size from lW.out)
              replace lW := hid (Nat.le_trans lW.out h0.size)
              have X := hid (boxp_at (w := v4) (B := v4.heap.size) (a := .slice none 0 0) (b := .slice none 0 0) (t := 25) rfl)
              refine ⟨bex C.out, ?_⟩
              clear h0
              generalize v4.alloc (.cells #[.slice none 0 0, .slice none 0 0] 25) = v6 at *
              rw [ordW_one]
              simp only [pick, List.getElem?_cons_succ, List.getElem?_cons_zero]
              go_wp2_with fail
              refine ⟨bex C.out, ?_⟩
              rw [ordW_fre]
              simp only [pick, List.getElem?_cons_succ, List.getElem?_cons_zero]
              obtain ⟨x0, x1, x2, x3, x4⟩ := id X.out
              have hC := Cl2.mk2 D1.out D2.out X.out g1.out g2.out gO.out (by first | exact n1O.out | exact Ne.symm nO1.out) (by first | exact n2O.out | exact Ne.symm nO2.out) (by first | exact n12.out | exact Ne.symm n21.out) C.out
              have HC := hid hC
              clear hC
              go_wp2_with fail
              rw [ordW_done]
              go_wp2_with fail
              go_meet
              exact ⟨_, _, _, rfl, hid (HC.out)⟩
          · go_wp2_with fail
            have h0 := below_alloc v3 (.cells #[.slice none 0 0, .slice none 0 0] 25)
            replace D1 := hid (D1.out.next h0)
            replace M2 := hid (M2.out.next h0)
            replace C := hid (below_next C.out h0)
            have n1O := hid (show k1 ≠ v3.heap.size by have := l1.out; omega)
            have n2O := hid (show v2.heap.size ≠ v3.heap.size by have := l2.out; omega)
            replace l1 := hid (Nat.lt_of_lt_of_le l1.out h0.size)
            replace l2 := hid (Nat.lt_of_lt_of_le l2.out h0.size)
            have lO := hid (show v3.heap.size < (v3.alloc (.cells #[.slice none 0 0, .slice none 0 0] 25)).heap.size by simp)
            have gO := hid (show W0.heap.size ≤ v3.heap.size from lW.out)
            replace lW := hid (Nat.le_trans lW.out h0.size)
            have X := hid (boxp_at (w := v3) (B := v3.heap.size) (a := .slice none 0 0) (b := .slice none 0 0) (t := 25) rfl)
            refine ⟨bex C.out, ?_⟩
            clear h0
            generalize v3.alloc (.cells #[.slice none 0 0, .slice none 0 0] 25) = v7 at *
            rw [ordW_one]
            simp only [pick, List.getElem?_cons_succ, List.getElem?_cons_zero]
            go_wp2_with (at_builtin; refine wp_app_clone rfl _ _ rfl (v2.heap.size) l b d rfl rfl M2.out l2.out n2 (HI2.out _ C.out) (by omega) ?_; intro k2 cc2 v8 hor hown hg hlt)
            have D2 := hid hown
            replace C := hid (below_own C.out M2.out g2.out hg)
            replace D1 := hid (D1.out.grow hg (by first | exact n12.out | exact Ne.symm n21.out))
            replace X := hid (boxp_grown hg (by first | exact nO2.out | exact Ne.symm n2O.out) X.out)
            have m21 := hid (show k2 ≠ k1 by rcases hor with rfl | rfl; (first | exact Ne.symm n12.out | exact n21.out); (have := l1.out; omega))
            have m2O := hid (show k2 ≠ v3.heap.size by rcases hor with rfl | rfl; (first | exact Ne.symm nO2.out | exact n2O.out); (have := lO.out; omega))
            replace l1 := hid (Nat.lt_of_lt_of_le l1.out hg.size)
            replace lO := hid (Nat.lt_of_lt_of_le lO.out hg.size)
            have gk := hid (show W0.heap.size ≤ k2 by rcases hor with rfl | rfl; exact g2.out; exact lW.out)
            clear l2
            have l2 := hid hlt
            replace lW := hid (Nat.le_trans lW.out hg.size)
            (first | clear n12 | clear n21); have n21 := hid m21.out; clear m21
            (first | clear nO2 | clear n2O); have n2O := hid m2O.out; clear m2O
            clear M2 hor hown hlt hg gk
            go_wp2_with fail
            refine ⟨bex C.out, ?_⟩
            rw [ordW_one]
            simp only [pick, List.getElem?_cons_succ, List.getElem?_cons_zero]
            go_wp2_with fail
            refine ⟨bex C.out, ?_⟩
            rw [ordW_fre]
            simp only [pick, List.getElem?_cons_succ, List.getElem?_cons_zero]
            obtain ⟨x0, x1, x2, x3, x4⟩ := id X.out
            have hC := Cl2.mk2 D1.out D2.out X.out g1.out g2.out gO.out (by first | exact n1O.out | exact Ne.symm nO1.out) (by first | exact n2O.out | exact Ne.symm nO2.out) (by first | exact n12.out | exact Ne.symm n21.out) C.out
            have HC := hid hC
            clear hC
            go_wp2_with fail
            rw [ordW_done]
            go_wp2_with fail
            go_meet
            exact ⟨_, _, _, rfl, hid (HC.out)⟩
        · go_wp2_with fail
          have h0 := below_alloc v2 (.cells #[.slice none 0 0, .slice none 0 0] 25)
          replace D1 := hid (D1.out.next h0)
          replace C := hid (below_next C.out h0)
          have n1O := hid (show k1 ≠ v2.heap.size by have := l1.out; omega)
          replace l1 := hid (Nat.lt_of_lt_of_le l1.out h0.size)
          have lO := hid (show v2.heap.size < (v2.alloc (.cells #[.slice none 0 0, .slice none 0 0] 25)).heap.size by simp)
          have gO := hid (show W0.heap.size ≤ v2.heap.size from lW.out)
          replace lW := hid (Nat.le_trans lW.out h0.size)
          have X := hid (boxp_at (w := v2) (B := v2.heap.size) (a := .slice none 0 0) (b := .slice none 0 0) (t := 25) rfl)
          refine ⟨bex C.out, ?_⟩
          clear h0
          generalize v2.alloc (.cells #[.slice none 0 0, .slice none 0 0] 25) = v9 at *
          rw [ordW_one]
          simp only [pick, List.getElem?_cons_succ, List.getElem?_cons_zero]
          go_wp2_with fail
          have h0 := below_alloc v9 (.cells #[] 3)
          replace D1 := hid (D1.out.next h0)
          replace X := hid (boxp_next h0 X.out)
          replace C := hid (below_next C.out h0)
          have n12 := hid (show k1 ≠ v9.heap.size by have := l1.out; omega)
          have nO2 := hid (show v2.heap.size ≠ v9.heap.size by have := lO.out; omega)
          replace l1 := hid (Nat.lt_of_lt_of_le l1.out h0.size)
          replace lO := hid (Nat.lt_of_lt_of_le lO.out h0.size)
          have l2 := hid (show v9.heap.size < (v9.alloc (.cells #[] 3)).heap.size by simp)
          have g2 := hid (show W0.heap.size ≤ v9.heap.size from lW.out)
          replace lW := hid (Nat.le_trans lW.out h0.size)
          have M2 := hid (OwnI.made v9)
          refine ⟨bex C.out, ?_⟩
          clear h0
          generalize v9.alloc (.cells #[] 3) = v10 at *
          rw [ordW_one]
          simp only [pick, List.getElem?_cons_succ, List.getElem?_cons_zero]
          go_wp2_with (at_builtin; refine wp_app_clone rfl _ _ rfl (v9.heap.size) l b d rfl rfl M2.out l2.out n2 (HI2.out _ C.out) (by omega) ?_; intro k2 cc2 v11 hor hown hg hlt)
          have D2 := hid hown
          replace C := hid (below_own C.out M2.out g2.out hg)
          replace D1 := hid (D1.out.grow hg (by first | exact n12.out | exact Ne.symm n21.out))
          replace X := hid (boxp_grown hg (by first | exact nO2.out | exact Ne.symm n2O.out) X.out)
          have m21 := hid (show k2 ≠ k1 by rcases hor with rfl | rfl; (first | exact Ne.symm n12.out | exact n21.out); (have := l1.out; omega))
          have m2O := hid (show k2 ≠ v2.heap.size by rcases hor with rfl | rfl; (first | exact Ne.symm nO2.out | exact n2O.out); (have := lO.out; omega))
          replace l1 := hid (Nat.lt_of_lt_of_le l1.out hg.size)
          replace lO := hid (Nat.lt_of_lt_of_le lO.out hg.size)
          have gk := hid (show W0.heap.size ≤ k2 by rcases hor with rfl | rfl; exact g2.out; exact lW.out)
          clear l2
          have l2 := hid hlt
          replace lW := hid (Nat.le_trans lW.out hg.size)
          (first | clear n12 | clear n21); have n21 := hid m21.out; clear m21
          (first | clear nO2 | clear n2O); have n2O := hid m2O.out; clear m2O
          clear M2 hor hown hlt hg gk
          go_wp2_with fail
          refine ⟨bex C.out, ?_⟩
          rw [ordW_one]
          simp only [pick, List.getElem?_cons_succ, List.getElem?_cons_zero]
          go_wp2_with fail
          refine ⟨bex C.out, ?_⟩
          rw [ordW_fre]
          simp only [pick, List.getElem?_cons_succ, List.getElem?_cons_zero]
          obtain ⟨x0, x1, x2, x3, x4⟩ := id X.out
          have hC := Cl2.mk2 D1.out D2.out X.out g1.out g2.out gO.out (by first | exact n1O.out | exact Ne.symm nO1.out) (by first | exact n2O.out | exact Ne.symm nO2.out) (by first | exact n12.out | exact Ne.symm n21.out) C.out
          have HC := hid hC
          clear hC
          go_wp2_with fail
          rw [ordW_done]
          go_wp2_with fail
          go_meet
          exact ⟨_, _, _, rfl, hid (HC.out)⟩
      · go_wp2_with fail
        have h0 := below_alloc v1 (.cells #[] 3)
        replace M1 := hid (M1.out.next h0)
        replace C := hid (below_next C.out h0)
        have n12 := hid (show v0.heap.size ≠ v1.heap.size by have := l1.out; omega)
        replace l1 := hid (Nat.lt_of_lt_of_le l1.out h0.size)
        have l2 := hid (show v1.heap.size < (v1.alloc (.cells #[] 3)).heap.size by simp)
        have g2 := hid (show W0.heap.size ≤ v1.heap.size from lW.out)
        replace lW := hid (Nat.le_trans lW.out h0.size)
        have M2 := hid (OwnI.made v1)
        refine ⟨bex C.out, ?_⟩
        clear h0
        generalize v1.alloc (.cells #[] 3) = v12 at *
        rw [ordW_two]
        simp only [pick, List.getElem?_cons_succ, List.getElem?_cons_zero]
        refine ⟨?_, ?_⟩
        · go_wp2_with (at_builtin; refine wp_app_clone rfl _ _ rfl (v0.heap.size) s a c rfl rfl M1.out l1.out n1 (HI1.out _ C.out) (by omega) ?_; intro k1 cc1 v13 hor hown hg hlt)
          have D1 := hid hown
          replace C := hid (below_own C.out M1.out g1.out hg)
          replace M2 := hid (M2.out.grow hg (by first | exact n21.out | exact Ne.symm n12.out))
          have m12 := hid (show k1 ≠ v1.heap.size by rcases hor with rfl | rfl; (first | exact Ne.symm n21.out | exact n12.out); (have := l2.out; omega))
          replace l2 := hid (Nat.lt_of_lt_of_le l2.out hg.size)
          have gk := hid (show W0.heap.size ≤ k1 by rcases hor with rfl | rfl; exact g1.out; exact lW.out)
          clear l1
          have l1 := hid hlt
          replace lW := hid (Nat.le_trans lW.out hg.size)
          (first | clear n21 | clear n12); have n12 := hid m12.out; clear m12
          clear M1 hor hown hlt hg gk
          go_wp2_with fail
          refine ⟨bex C.out, ?_⟩
          rw [ordW_two]
          simp only [pick, List.getElem?_cons_succ, List.getElem?_cons_zero]
          refine ⟨?_, ?_⟩
          · go_wp2_with (at_builtin; refine wp_app_clone rfl _ _ rfl (v1.heap.size) l b d rfl rfl M2.out l2.out n2 (HI2.out _ C.out) (by omega) ?_; intro k2 cc2 v14 hor hown hg hlt)
            have D2 := hid hown
            replace C := hid (below_own C.out M2.out g2.out hg)
            replace D1 := hid (D1.out.grow hg (by first | exact n12.out | exact Ne.symm n21.out))
            have m21 := hid (show k2 ≠ k1 by rcases hor with rfl | rfl; (first | exact Ne.symm n12.out | exact n21.out); (have := l1.out; omega))
            replace l1 := hid (Nat.lt_of_lt_of_le l1.out hg.size)
            have gk := hid (show W0.heap.size ≤ k2 by rcases hor with rfl | rfl; exact g2.out; exact lW.out)
            clear l2
            have l2 := hid hlt
            replace lW := hid (Nat.le_trans lW.out hg.size)
            (first | clear n12 | clear n21); have n21 := hid m21.out; clear m21
            clear M2 hor hown hlt hg gk
            go_wp2_with fail
            refine ⟨bex C.out, ?_⟩
            rw [ordW_two]
            simp only [pick, List.getElem?_cons_succ, List.getElem?_cons_zero]
            refine ⟨?_, ?_⟩
            · go_wp2_with fail
              refine ⟨bex C.out, ?_⟩
              rw [ordW_one]
              simp only [pick, List.getElem?_cons_succ, List.getElem?_cons_zero]
              go_wp2_with fail
              have h0 := below_alloc v14 (.cells #[.slice none 0 0, .slice none 0 0] 25)
              replace D1 := hid (D1.out.next h0)
              replace D2 := hid (D2.out.next h0)
              replace C := hid (below_next C.out h0)
              have n1O := hid (show k1 ≠ v14.heap.size by have := l1.out; omega)
              have n2O := hid (show k2 ≠ v14.heap.size by have := l2.out; omega)
              replace l1 := hid (Nat.lt_of_lt_of_le l1.out h0.size)
              replace l2 := hid (Nat.lt_of_lt_of_le l2.out h0.size)
              have lO := hid (show v14.heap.size < (v14.alloc (.cells #[.slice none 0 0, .slice none 0 0] 25)).heap.size by simp)
              have gO := hid (show W0.heap.size ≤ v14.heap.size from lW.out)
              replace lW := hid (Nat.le_trans lW.out h0.size)
              have X := hid (boxp_at (w := v14) (B := v14.heap.size) (a := .slice none 0 0) (b := .slice none 0 0) (t := 25) rfl)
              refine ⟨bex C.out, ?_⟩
              clear h0
              generalize v14.alloc (.cells #[.slice none 0 0, .slice none 0 0] 25) = v15 at *
              rw [ordW_fre]
              simp only [pick, List.getElem?_cons_succ, List.getElem?_cons_zero]
              obtain ⟨x0, x1, x2, x3, x4⟩ := id X.out
              have hC := Cl2.mk2 D1.out D2.out X.out g1.out g2.out gO.out (by first | exact n1O.out | exact Ne.symm nO1.out) (by first | exact n2O.out | exact Ne.symm nO2.out) (by first | exact n12.out | exact Ne.symm n21.out) C.out
              have HC := hid hC
              clear hC
              go_wp2_with fail
              rw [ordW_done]
              go_wp2_with fail
              go_meet
              exact ⟨_, _, _, rfl, hid (HC.out)⟩
            · go_wp2_with fail
              have h0 := below_alloc v14 (.cells #[.slice none 0 0, .slice none 0 0] 25)
              replace D1 := hid (D1.out.next h0)
              replace D2 := hid (D2.out.next h0)
              replace C := hid (below_next C.out h0)
              have n1O := hid (show k1 ≠ v14.heap.size by have := l1.out; omega)
              have n2O := hid (show k2 ≠ v14.heap.size by have := l2.out; omega)
              replace l1 := hid (Nat.lt_of_lt_of_le l1.out h0.size)
              replace l2 := hid (Nat.lt_of_lt_of_le l2.out h0.size)
              have lO := hid (show v14.heap.size < (v14.alloc (.cells #[.slice none 0 0, .slice none 0 0] 25)).heap.size by simp)
              have gO := hid (show W0.heap.size ≤ v14.heap.size from lW.out)
              replace lW := hid (Nat.le_trans lW.out h0.size)
              have X := hid (boxp_at (w := v14) (B := v14.heap.size) (a := .slice none 0 0) (b := .slice none 0 0) (t := 25) rfl)
              refine ⟨bex C.out, ?_⟩
              clear h0
              generalize v14.alloc (.cells #[.slice none 0 0, .slice none 0 0] 25) = v16 at *
              rw [ordW_one]
              simp only [pick, List.getElem?_cons_succ, List.getElem?_cons_zero]
              go_wp2_with fail
              refine ⟨bex C.out, ?_⟩
              rw [ordW_fre]
              simp only [pick, List.getElem?_cons_succ, List.getElem?_cons_zero]
              obtain ⟨x0, x1, x2, x3, x4⟩ := id X.out
              have hC := Cl2.mk2 D1.out D2.out X.out g1.out g2.out gO.out (by first | exact n1O.out | exact Ne.symm nO1.out) (by first | exact n2O.out | exact Ne.symm nO2.out) (by first | exact n12.out | exact Ne.symm n21.out) C.out
              have HC := hid hC
              clear hC
              go_wp2_with fail
              rw [ordW_done]
              go_wp2_with fail
              go_meet
              exact ⟨_, _, _, rfl, hid (HC.out)⟩
          · go_wp2_with fail
            have h0 := below_alloc v13 (.cells #[.slice none 0 0, .slice none 0 0] 25)
            replace M2 := hid (M2.out.next h0)
            replace D1 := hid (D1.out.next h0)
            replace C := hid (below_next C.out h0)
            have n1O := hid (show k1 ≠ v13.heap.size by have := l1.out; omega)
            have n2O := hid (show v1.heap.size ≠ v13.heap.size by have := l2.out; omega)
            replace l1 := hid (Nat.lt_of_lt_of_le l1.out h0.size)
            replace l2 := hid (Nat.lt_of_lt_of_le l2.out h0.size)
            have lO := hid (show v13.heap.size < (v13.alloc (.cells #[.slice none 0 0, .slice none 0 0] 25)).heap.size by simp)
            have gO := hid (show W0.heap.size ≤ v13.heap.size from lW.out)
            replace lW := hid (Nat.le_trans lW.out h0.size)
            have X := hid (boxp_at (w := v13) (B := v13.heap.size) (a := .slice none 0 0) (b := .slice none 0 0) (t := 25) rfl)
            refine ⟨bex C.out, ?_⟩
            clear h0
            generalize v13.alloc (.cells #[.slice none 0 0, .slice none 0 0] 25) = v17 at *
            rw [ordW_one]
            simp only [pick, List.getElem?_cons_succ, List.getElem?_cons_zero]
            go_wp2_with (at_builtin; refine wp_app_clone rfl _ _ rfl (v1.heap.size) l b d rfl rfl M2.out l2.out n2 (HI2.out _ C.out) (by omega) ?_; intro k2 cc2 v18 hor hown hg hlt)
            have D2 := hid hown
            replace C := hid (below_own C.out M2.out g2.out hg)
            replace D1 := hid (D1.out.grow hg (by first | exact n12.out | exact Ne.symm n21.out))
            replace X := hid (boxp_grown hg (by first | exact nO2.out | exact Ne.symm n2O.out) X.out)
            have m21 := hid (show k2 ≠ k1 by rcases hor with rfl | rfl; (first | exact Ne.symm n12.out | exact n21.out); (have := l1.out; omega))
            have m2O := hid (show k2 ≠ v13.heap.size by rcases hor with rfl | rfl; (first | exact Ne.symm nO2.out | exact n2O.out); (have := lO.out; omega))
            replace l1 := hid (Nat.lt_of_lt_of_le l1.out hg.size)
            replace lO := hid (Nat.lt_of_lt_of_le lO.out hg.size)
            have gk := hid (show W0.heap.size ≤ k2 by rcases hor with rfl | rfl; exact g2.out; exact lW.out)
            clear l2
            have l2 := hid hlt
            replace lW := hid (Nat.le_trans lW.out hg.size)
            (first | clear n12 | clear n21); have n21 := hid m21.out; clear m21
            (first | clear nO2 | clear n2O); have n2O := hid m2O.out; clear m2O
            clear M2 hor hown hlt hg gk
            go_wp2_with fail
            refine ⟨bex C.out, ?_⟩
            rw [ordW_one]
            simp only [pick, List.getElem?_cons_succ, List.getElem?_cons_zero]
            go_wp2_with fail
            refine ⟨bex C.out, ?_⟩
            rw [ordW_fre]
            simp only [pick, List.getElem?_cons_succ, List.getElem?_cons_zero]
            obtain ⟨x0, x1, x2, x3, x4⟩ := id X.out
            have hC := Cl2.mk2 D1.out D2.out X.out g1.out g2.out gO.out (by first | exact n1O.out | exact Ne.symm nO1.out) (by first | exact n2O.out | exact Ne.symm nO2.out) (by first | exact n12.out | exact Ne.symm n21.out) C.out
            have HC := hid hC
            clear hC
            go_wp2_with fail
            rw [ordW_done]
            go_wp2_with fail
            go_meet
            exact ⟨_, _, _, rfl, hid (HC.out)⟩
        · go_wp2_with fail
          have h0 := below_alloc v12 (.cells #[.slice none 0 0, .slice none 0 0] 25)
          replace M1 := hid (M1.out.next h0)
          replace M2 := hid (M2.out.next h0)
          replace C := hid (below_next C.out h0)
          have n1O := hid (show v0.heap.size ≠ v12.heap.size by have := l1.out; omega)
          have n2O := hid (show v1.heap.size ≠ v12.heap.size by have := l2.out; omega)
          replace l1 := hid (Nat.lt_of_lt_of_le l1.out h0.size)
          replace l2 := hid (Nat.lt_of_lt_of_le l2.out h0.size)
          have lO := hid (show v12.heap.size < (v12.alloc (.cells #[.slice none 0 0, .slice none 0 0] 25)).heap.size by simp)
          have gO := hid (show W0.heap.size ≤ v12.heap.size from lW.out)
          replace lW := hid (Nat.le_trans lW.out h0.size)
          have X := hid (boxp_at (w := v12) (B := v12.heap.size) (a := .slice none 0 0) (b := .slice none 0 0) (t := 25) rfl)
          refine ⟨bex C.out, ?_⟩
          clear h0
          generalize v12.alloc (.cells #[.slice none 0 0, .slice none 0 0] 25) = v19 at *
          rw [ordW_one]
          simp only [pick, List.getElem?_cons_succ, List.getElem?_cons_zero]
          go_wp2_with (at_builtin; refine wp_app_clone rfl _ _ rfl (v0.heap.size) s a c rfl rfl M1.out l1.out n1 (HI1.out _ C.out) (by omega) ?_; intro k1 cc1 v20 hor hown hg hlt)
          have D1 := hid hown
          replace C := hid (below_own C.out M1.out g1.out hg)
          replace M2 := hid (M2.out.grow hg (by first | exact n21.out | exact Ne.symm n12.out))
          replace X := hid (boxp_grown hg (by first | exact nO1.out | exact Ne.symm n1O.out) X.out)
          have m12 := hid (show k1 ≠ v1.heap.size by rcases hor with rfl | rfl; (first | exact Ne.symm n21.out | exact n12.out); (have := l2.out; omega))
          have m1O := hid (show k1 ≠ v12.heap.size by rcases hor with rfl | rfl; (first | exact Ne.symm nO1.out | exact n1O.out); (have := lO.out; omega))
          replace l2 := hid (Nat.lt_of_lt_of_le l2.out hg.size)
          replace lO := hid (Nat.lt_of_lt_of_le lO.out hg.size)
          have gk := hid (show W0.heap.size ≤ k1 by rcases hor with rfl | rfl; exact g1.out; exact lW.out)
          clear l1
          have l1 := hid hlt
          replace lW := hid (Nat.le_trans lW.out hg.size)
          (first | clear n21 | clear n12); have n12 := hid m12.out; clear m12
          (first | clear nO1 | clear n1O); have n1O := hid m1O.out; clear m1O
          clear M1 hor hown hlt hg gk
          go_wp2_with fail
          refine ⟨bex C.out, ?_⟩
          rw [ordW_one]
          simp only [pick, List.getElem?_cons_succ, List.getElem?_cons_zero]
          go_wp2_with (at_builtin; refine wp_app_clone rfl _ _ rfl (v1.heap.size) l b d rfl rfl M2.out l2.out n2 (HI2.out _ C.out) (by omega) ?_; intro k2 cc2 v21 hor hown hg hlt)
          have D2 := hid hown
          replace C := hid (below_own C.out M2.out g2.out hg)
          replace D1 := hid (D1.out.grow hg (by first | exact n12.out | exact Ne.symm n21.out))
          replace X := hid (boxp_grown hg (by first | exact nO2.out | exact Ne.symm n2O.out) X.out)
          have m21 := hid (show k2 ≠ k1 by rcases hor with rfl | rfl; (first | exact Ne.symm n12.out | exact n21.out); (have := l1.out; omega))
          have m2O := hid (show k2 ≠ v12.heap.size by rcases hor with rfl | rfl; (first | exact Ne.symm nO2.out | exact n2O.out); (have := lO.out; omega))
          replace l1 := hid (Nat.lt_of_lt_of_le l1.out hg.size)
          replace lO := hid (Nat.lt_of_lt_of_le lO.out hg.size)
          have gk := hid (show W0.heap.size ≤ k2 by rcases hor with rfl | rfl; exact g2.out; exact lW.out)
          clear l2
          have l2 := hid hlt
          replace lW := hid (Nat.le_trans lW.out hg.size)
          (first | clear n12 | clear n21); have n21 := hid m21.out; clear m21
          (first | clear nO2 | clear n2O); have n2O := hid m2O.out; clear m2O
          clear M2 hor hown hlt hg gk
          go_wp2_with fail
          refine ⟨bex C.out, ?_⟩
          rw [ordW_one]
          simp only [pick, List.getElem?_cons_succ, List.getElem?_cons_zero]
          go_wp2_with fail
          refine ⟨bex C.out, ?_⟩
          rw [ordW_fre]
          simp only [pick, List.getElem?_cons_succ, List.getElem?_cons_zero]
          obtain ⟨x0, x1, x2, x3, x4⟩ := id X.out
          have hC := Cl2.mk2 D1.out D2.out X.out g1.out g2.out gO.out (by first | exact n1O.out | exact Ne.symm nO1.out) (by first | exact n2O.out | exact Ne.symm nO2.out) (by first | exact n12.out | exact Ne.symm n21.out) C.out
          have HC := hid hC
          clear hC
          go_wp2_with fail
          rw [ordW_done]
          go_wp2_with fail
          go_meet
          exact ⟨_, _, _, rfl, hid (HC.out)⟩
      · go_wp2_with fail
        have h0 := below_alloc v1 (.cells #[.slice none 0 0, .slice none 0 0] 25)
        replace M1 := hid (M1.out.next h0)
        replace C := hid (below_next C.out h0)
        have n1O := hid (show v0.heap.size ≠ v1.heap.size by have := l1.out; omega)
        replace l1 := hid (Nat.lt_of_lt_of_le l1.out h0.size)
        have lO := hid (show v1.heap.size < (v1.alloc (.cells #[.slice none 0 0, .slice none 0 0] 25)).heap.size by simp)
        have gO := hid (show W0.heap.size ≤ v1.heap.size from lW.out)
        replace lW := hid (Nat.le_trans lW.out h0.size)
        have X := hid (boxp_at (w := v1) (B := v1.heap.size) (a := .slice none 0 0) (b := .slice none 0 0) (t := 25) rfl)
        refine ⟨bex C.out, ?_⟩
        clear h0
        generalize v1.alloc (.cells #[.slice none 0 0, .slice none 0 0] 25) = v22 at *
        rw [ordW_two]
        simp only [pick, List.getElem?_cons_succ, List.getElem?_cons_zero]
        refine ⟨?_, ?_⟩
        · go_wp2_with (at_builtin; refine wp_app_clone rfl _ _ rfl (v0.heap.size) s a c rfl rfl M1.out l1.out n1 (HI1.out _ C.out) (by omega) ?_; intro k1 cc1 v23 hor hown hg hlt)
          have D1 := hid hown
          replace C := hid (below_own C.out M1.out g1.out hg)
          replace X := hid (boxp_grown hg (by first | exact nO1.out | exact Ne.symm n1O.out) X.out)
          have m1O := hid (show k1 ≠ v1.heap.size by rcases hor with rfl | rfl; (first | exact Ne.symm nO1.out | exact n1O.out); (have := lO.out; omega))
          replace lO := hid (Nat.lt_of_lt_of_le lO.out hg.size)
          have gk := hid (show W0.heap.size ≤ k1 by rcases hor with rfl | rfl; exact g1.out; exact lW.out)
          clear l1
          have l1 := hid hlt
          replace lW := hid (Nat.le_trans lW.out hg.size)
          (first | clear nO1 | clear n1O); have n1O := hid m1O.out; clear m1O
          clear M1 hor hown hlt hg gk
          go_wp2_with fail
          refine ⟨bex C.out, ?_⟩
          rw [ordW_one]
          simp only [pick, List.getElem?_cons_succ, List.getElem?_cons_zero]
          go_wp2_with fail
          have h0 := below_alloc v23 (.cells #[] 3)
          replace D1 := hid (D1.out.next h0)
          replace X := hid (boxp_next h0 X.out)
          replace C := hid (below_next C.out h0)
          have n12 := hid (show k1 ≠ v23.heap.size by have := l1.out; omega)
          have nO2 := hid (show v1.heap.size ≠ v23.heap.size by have := lO.out; omega)
          replace l1 := hid (Nat.lt_of_lt_of_le l1.out h0.size)
          replace lO := hid (Nat.lt_of_lt_of_le lO.out h0.size)
          have l2 := hid (show v23.heap.size < (v23.alloc (.cells #[] 3)).heap.size by simp)
          have g2 := hid (show W0.heap.size ≤ v23.heap.size from lW.out)
          replace lW := hid (Nat.le_trans lW.out h0.size)
          have M2 := hid (OwnI.made v23)
          refine ⟨bex C.out, ?_⟩
          clear h0
          generalize v23.alloc (.cells #[] 3) = v24 at *
          rw [ordW_one]
          simp only [pick, List.getElem?_cons_succ, List.getElem?_cons_zero]
          go_wp2_with (at_builtin; refine wp_app_clone rfl _ _ rfl (v23.heap.size) l b d rfl rfl M2.out l2.out n2 (HI2.out _ C.out) (by omega) ?_; intro k2 cc2 v25 hor hown hg hlt)
          have D2 := hid hown
          replace C := hid (below_own C.out M2.out g2.out hg)
          replace D1 := hid (D1.out.grow hg (by first | exact n12.out | exact Ne.symm n21.out))
          replace X := hid (boxp_grown hg (by first | exact nO2.out | exact Ne.symm n2O.out) X.out)
          have m21 := hid (show k2 ≠ k1 by rcases hor with rfl | rfl; (first | exact Ne.symm n12.out | exact n21.out); (have := l1.out; omega))
          have m2O := hid (show k2 ≠ v1.heap.size by rcases hor with rfl | rfl; (first | exact Ne.symm nO2.out | exact n2O.out); (have := lO.out; omega))
          replace l1 := hid (Nat.lt_of_lt_of_le l1.out hg.size)
          replace lO := hid (Nat.lt_of_lt_of_le lO.out hg.size)
          have gk := hid (show W0.heap.size ≤ k2 by rcases hor with rfl | rfl; exact g2.out; exact lW.out)
          clear l2
          have l2 := hid hlt
          replace lW := hid (Nat.le_trans lW.out hg.size)
          (first | clear n12 | clear n21); have n21 := hid m21.out; clear m21
          (first | clear nO2 | clear n2O); have n2O := hid m2O.out; clear m2O
          clear M2 hor hown hlt hg gk
          go_wp2_with fail
          refine ⟨bex C.out, ?_⟩
          rw [ordW_one]
          simp only [pick, List.getElem?_cons_succ, List.getElem?_cons_zero]
          go_wp2_with fail
          refine ⟨bex C.out, ?_⟩
          rw [ordW_fre]
          simp only [pick, List.getElem?_cons_succ, List.getElem?_cons_zero]
          obtain ⟨x0, x1, x2, x3, x4⟩ := id X.out
          have hC := Cl2.mk2 D1.out D2.out X.out g1.out g2.out gO.out (by first | exact n1O.out | exact Ne.symm nO1.out) (by first | exact n2O.out | exact Ne.symm nO2.out) (by first | exact n12.out | exact Ne.symm n21.out) C.out
          have HC := hid hC
          clear hC
          go_wp2_with fail
          rw [ordW_done]
          go_wp2_with fail
          go_meet
          exact ⟨_, _, _, rfl, hid (HC.out)⟩
        · go_wp2_with fail
          have h0 := below_alloc v22 (.cells #[] 3)
          replace M1 := hid (M1.out.next h0)
          replace X := hid (boxp_next h0 X.out)
          replace C := hid (below_next C.out h0)
          have n12 := hid (show v0.heap.size ≠ v22.heap.size by have := l1.out; omega)
          have nO2 := hid (show v1.heap.size ≠ v22.heap.size by have := lO.out; omega)
          replace l1 := hid (Nat.lt_of_lt_of_le l1.out h0.size)
          replace lO := hid (Nat.lt_of_lt_of_le lO.out h0.size)
          have l2 := hid (show v22.heap.size < (v22.alloc (.cells #[] 3)).heap.size by simp)
          have g2 := hid (show W0.heap.size ≤ v22.heap.size from lW.out)
          replace lW := hid (Nat.le_trans lW.out h0.size)
          have M2 := hid (OwnI.made v22)
          refine ⟨bex C.out, ?_⟩
          clear h0
          generalize v22.alloc (.cells #[] 3) = v26 at *
          rw [ordW_one]
          simp only [pick, List.getElem?_cons_succ, List.getElem?_cons_zero]
          go_wp2_with (at_builtin; refine wp_app_clone rfl _ _ rfl (v0.heap.size) s a c rfl rfl M1.out l1.out n1 (HI1.out _ C.out) (by omega) ?_; intro k1 cc1 v27 hor hown hg hlt)
          have D1 := hid hown
          replace C := hid (below_own C.out M1.out g1.out hg)
          replace M2 := hid (M2.out.grow hg (by first | exact n21.out | exact Ne.symm n12.out))
          replace X := hid (boxp_grown hg (by first | exact nO1.out | exact Ne.symm n1O.out) X.out)
          have m1O := hid (show k1 ≠ v1.heap.size by rcases hor with rfl | rfl; (first | exact Ne.symm nO1.out | exact n1O.out); (have := lO.out; omega))
          have m12 := hid (show k1 ≠ v22.heap.size by rcases hor with rfl | rfl; (first | exact Ne.symm n21.out | exact n12.out); (have := l2.out; omega))
          replace lO := hid (Nat.lt_of_lt_of_le lO.out hg.size)
          replace l2 := hid (Nat.lt_of_lt_of_le l2.out hg.size)
          have gk := hid (show W0.heap.size ≤ k1 by rcases hor with rfl | rfl; exact g1.out; exact lW.out)
          clear l1
          have l1 := hid hlt
          replace lW := hid (Nat.le_trans lW.out hg.size)
          (first | clear nO1 | clear n1O); have n1O := hid m1O.out; clear m1O
          (first | clear n21 | clear n12); have n12 := hid m12.out; clear m12
          clear M1 hor hown hlt hg gk
          go_wp2_with fail
          refine ⟨bex C.out, ?_⟩
          rw [ordW_one]
          simp only [pick, List.getElem?_cons_succ, List.getElem?_cons_zero]
          go_wp2_with (at_builtin; refine wp_app_clone rfl _ _ rfl (v22.heap.size) l b d rfl rfl M2.out l2.out n2 (HI2.out _ C.out) (by omega) ?_; intro k2 cc2 v28 hor hown hg hlt)
          have D2 := hid hown
          replace C := hid (below_own C.out M2.out g2.out hg)
          replace D1 := hid (D1.out.grow hg (by first | exact n12.out | exact Ne.symm n21.out))
          replace X := hid (boxp_grown hg (by first | exact nO2.out | exact Ne.symm n2O.out) X.out)
          have m21 := hid (show k2 ≠ k1 by rcases hor with rfl | rfl; (first | exact Ne.symm n12.out | exact n21.out); (have := l1.out; omega))
          have m2O := hid (show k2 ≠ v1.heap.size by rcases hor with rfl | rfl; (first | exact Ne.symm nO2.out | exact n2O.out); (have := lO.out; omega))
          replace l1 := hid (Nat.lt_of_lt_of_le l1.out hg.size)
          replace lO := hid (Nat.lt_of_lt_of_le lO.out hg.size)
          have gk := hid (show W0.heap.size ≤ k2 by rcases hor with rfl | rfl; exact g2.out; exact lW.out)
          clear l2
          have l2 := hid hlt
          replace lW := hid (Nat.le_trans lW.out hg.size)
          (first | clear n12 | clear n21); have n21 := hid m21.out; clear m21
          (first | clear nO2 | clear n2O); have n2O := hid m2O.out; clear m2O
          clear M2 hor hown hlt hg gk
          go_wp2_with fail
          refine ⟨bex C.out, ?_⟩
          rw [ordW_one]
          simp only [pick, List.getElem?_cons_succ, List.getElem?_cons_zero]
          go_wp2_with fail
          refine ⟨bex C.out, ?_⟩
          rw [ordW_fre]
          simp only [pick, List.getElem?_cons_succ, List.getElem?_cons_zero]
          obtain ⟨x0, x1, x2, x3, x4⟩ := id X.out
          have hC := Cl2.mk2 D1.out D2.out X.out g1.out g2.out gO.out (by first | exact n1O.out | exact Ne.symm nO1.out) (by first | exact n2O.out | exact Ne.symm nO2.out) (by first | exact n12.out | exact Ne.symm n21.out) C.out
          have HC := hid hC
          clear hC
          go_wp2_with fail
          rw [ordW_done]
          go_wp2_with fail
          go_meet
          exact ⟨_, _, _, rfl, hid (HC.out)⟩
    · go_wp2_with fail
      have h0 := below_alloc v0 (.cells #[] 3)
      replace C := hid (below_next C.out h0)
      have l2 := hid (show v0.heap.size < (v0.alloc (.cells #[] 3)).heap.size by simp)
      have g2 := hid (show W0.heap.size ≤ v0.heap.size from lW.out)
      replace lW := hid (Nat.le_trans lW.out h0.size)
      have M2 := hid (OwnI.made v0)
      refine ⟨bex C.out, ?_⟩
      clear h0
      generalize v0.alloc (.cells #[] 3) = v29 at *
      rw [ordW_two]
      simp only [pick, List.getElem?_cons_succ, List.getElem?_cons_zero]
      refine ⟨?_, ?_⟩
      · go_wp2_with fail
        have h0 := below_alloc v29 (.cells #[] 3)
        replace M2 := hid (M2.out.next h0)
        replace C := hid (below_next C.out h0)
        have n21 := hid (show v0.heap.size ≠ v29.heap.size by have := l2.out; omega)
        replace l2 := hid (Nat.lt_of_lt_of_le l2.out h0.size)
        have l1 := hid (show v29.heap.size < (v29.alloc (.cells #[] 3)).heap.size by simp)
        have g1 := hid (show W0.heap.size ≤ v29.heap.size from lW.out)
        replace lW := hid (Nat.le_trans lW.out h0.size)
        have M1 := hid (OwnI.made v29)
        refine ⟨bex C.out, ?_⟩
        clear h0
        generalize v29.alloc (.cells #[] 3) = v30 at *
        rw [ordW_two]
        simp only [pick, List.getElem?_cons_succ, List.getElem?_cons_zero]
        refine ⟨?_, ?_⟩
        · go_wp2_with (at_builtin; refine wp_app_clone rfl _ _ rfl (v29.heap.size) s a c rfl rfl M1.out l1.out n1 (HI1.out _ C.out) (by omega) ?_; intro k1 cc1 v31 hor hown hg hlt)
          have D1 := hid hown
          replace C := hid (below_own C.out M1.out g1.out hg)
          replace M2 := hid (M2.out.grow hg (by first | exact n21.out | exact Ne.symm n12.out))
          have m12 := hid (show k1 ≠ v0.heap.size by rcases hor with rfl | rfl; (first | exact Ne.symm n21.out | exact n12.out); (have := l2.out; omega))
          replace l2 := hid (Nat.lt_of_lt_of_le l2.out hg.size)
          have gk := hid (show W0.heap.size ≤ k1 by rcases hor with rfl | rfl; exact g1.out; exact lW.out)
          clear l1
          have l1 := hid hlt
          replace lW := hid (Nat.le_trans lW.out hg.size)
          (first | clear n21 | clear n12); have n12 := hid m12.out; clear m12
          clear M1 hor hown hlt hg gk
          go_wp2_with fail
          refine ⟨bex C.out, ?_⟩
          rw [ordW_two]
          simp only [pick, List.getElem?_cons_succ, List.getElem?_cons_zero]
          refine ⟨?_, ?_⟩
          · go_wp2_with (at_builtin; refine wp_app_clone rfl _ _ rfl (v0.heap.size) l b d rfl rfl M2.out l2.out n2 (HI2.out _ C.out) (by omega) ?_; intro k2 cc2 v32 hor hown hg hlt)
            have D2 := hid hown
            replace C := hid (below_own C.out M2.out g2.out hg)
            replace D1 := hid (D1.out.grow hg (by first | exact n12.out | exact Ne.symm n21.out))
            have m21 := hid (show k2 ≠ k1 by rcases hor with rfl | rfl; (first | exact Ne.symm n12.out | exact n21.out); (have := l1.out; omega))
            replace l1 := hid (Nat.lt_of_lt_of_le l1.out hg.size)
            have gk := hid (show W0.heap.size ≤ k2 by rcases hor with rfl | rfl; exact g2.out; exact lW.out)
            clear l2
            have l2 := hid hlt
            replace lW := hid (Nat.le_trans lW.out hg.size)
            (first | clear n12 | clear n21); have n21 := hid m21.out; clear m21
            clear M2 hor hown hlt hg gk
            go_wp2_with fail
            refine ⟨bex C.out, ?_⟩
            rw [ordW_two]
            simp only [pick, List.getElem?_cons_succ, List.getElem?_cons_zero]
            refine ⟨?_, ?_⟩
            · go_wp2_with fail
              refine ⟨bex C.out, ?_⟩
              rw [ordW_one]
              simp only [pick, List.getElem?_cons_succ, List.getElem?_cons_zero]
              go_wp2_with fail
              have h0 := below_alloc v32 (.cells #[.slice none 0 0, .slice none 0 0] 25)
              replace D1 := hid (D1.out.next h0)
              replace D2 := hid (D2.out.next h0)
              replace C := hid (below_next C.out h0)
              have n2O := hid (show k2 ≠ v32.heap.size by have := l2.out; omega)
              have n1O := hid (show k1 ≠ v32.heap.size by have := l1.out; omega)
              replace l2 := hid (Nat.lt_of_lt_of_le l2.out h0.size)
              replace l1 := hid (Nat.lt_of_lt_of_le l1.out h0.size)
              have lO := hid (show v32.heap.size < (v32.alloc (.cells #[.slice none 0 0, .slice none 0 0] 25)).heap.size by simp)
              have gO := hid (show W0.heap.size ≤ v32.heap.size from lW.out)
              replace lW := hid (Nat.le_trans lW.out h0.size)
              have X := hid (boxp_at (w := v32) (B := v32.heap.size) (a := .slice none 0 0) (b := .slice none 0 0) (t := 25) rfl)
              refine ⟨bex C.out, ?_⟩
              clear h0
              generalize v32.alloc (.cells #[.slice none 0 0, .slice none 0 0] 25) = v33 at *
              rw [ordW_fre]
              simp only [pick, List.getElem?_cons_succ, List.getElem?_cons_zero]
              obtain ⟨x0, x1, x2, x3, x4⟩ := id X.out
              have hC := Cl2.mk2 D1.out D2.out X.out g1.out g2.out gO.out (by first | exact n1O.out | exact Ne.symm nO1.out) (by first | exact n2O.out | exact Ne.symm nO2.out) (by first | exact n12.out | exact Ne.symm n21.out) C.out
              have HC := hid hC
              clear hC
              go_wp2_with fail
              rw [ordW_done]
              go_wp2_with fail
              go_meet
              exact ⟨_, _, _, rfl, hid (HC.out)⟩
            · go_wp2_with fail
              have h0 := below_alloc v32 (.cells #[.slice none 0 0, .slice none 0 0] 25)
              replace D1 := hid (D1.out.next h0)
              replace D2 := hid (D2.out.next h0)
              replace C := hid (below_next C.out h0)
              have n2O := hid (show k2 ≠ v32.heap.size by have := l2.out; omega)
              have n1O := hid (show k1 ≠ v32.heap.size by have := l1.out; omega)
              replace l2 := hid (Nat.lt_of_lt_of_le l2.out h0.size)
              replace l1 := hid (Nat.lt_of_lt_of_le l1.out h0.size)
              have lO := hid (show v32.heap.size < (v32.alloc (.cells #[.slice none 0 0, .slice none 0 0] 25)).heap.size by simp)
              have gO := hid (show W0.heap.size ≤ v32.heap.size from lW.out)
              replace lW := hid (Nat.le_trans lW.out h0.size)
              have X := hid (boxp_at (w := v32) (B := v32.heap.size) (a := .slice none 0 0) (b := .slice none 0 0) (t := 25) rfl)
              refine ⟨bex C.out, ?_⟩
              clear h0
              generalize v32.alloc (.cells #[.slice none 0 0, .slice none 0 0] 25) = v34 at *
              rw [ordW_one]
              simp only [pick, List.getElem?_cons_succ, List.getElem?_cons_zero]
              go_wp2_with fail
              refine ⟨bex C.out, ?_⟩
              rw [ordW_fre]
              simp only [pick, List.getElem?_cons_succ, List.getElem?_cons_zero]
              obtain ⟨x0, x1, x2, x3, x4⟩ := id X.out
              have hC := Cl2.mk2 D1.out D2.out X.out g1.out g2.out gO.out (by first | exact n1O.out | exact Ne.symm nO1.out) (by first | exact n2O.out | exact Ne.symm nO2.out) (by first | exact n12.out | exact Ne.symm n21.out) C.out
              have HC := hid hC
              clear hC
              go_wp2_with fail
              rw [ordW_done]
              go_wp2_with fail
              go_meet
              exact ⟨_, _, _, rfl, hid (HC.out)⟩
          · go_wp2_with fail
            have h0 := below_alloc v31 (.cells #[.slice none 0 0, .slice none 0 0] 25)
            replace M2 := hid (M2.out.next h0)
            replace D1 := hid (D1.out.next h0)
            replace C := hid (below_next C.out h0)
            have n2O := hid (show v0.heap.size ≠ v31.heap.size by have := l2.out; omega)
            have n1O := hid (show k1 ≠ v31.heap.size by have := l1.out; omega)
            replace l2 := hid (Nat.lt_of_lt_of_le l2.out h0.size)
            replace l1 := hid (Nat.lt_of_lt_of_le l1.out h0.size)
            have lO := hid (show v31.heap.size < (v31.alloc (.cells #[.slice none 0 0, .slice none 0 0] 25)).heap.size by simp)
            have gO := hid (show W0.heap.size ≤ v31.heap.size from lW.out)
            replace lW := hid (Nat.le_trans lW.out h0.size)
            have X := hid (boxp_at (w := v31) (B := v31.heap.size) (a := .slice none 0 0) (b := .slice none 0 0) (t := 25) rfl)
            refine ⟨bex C.out, ?_⟩
            clear h0
            generalize v31.alloc (.cells #[.slice none 0 0, .slice none 0 0] 25) = v35 at *
            rw [ordW_one]
            simp only [pick, List.getElem?_cons_succ, List.getElem?_cons_zero]
            go_wp2_with (at_builtin; refine wp_app_clone rfl _ _ rfl (v0.heap.size) l b d rfl rfl M2.out l2.out n2 (HI2.out _ C.out) (by omega) ?_; intro k2 cc2 v36 hor hown hg hlt)
            have D2 := hid hown
            replace C := hid (below_own C.out M2.out g2.out hg)
            replace D1 := hid (D1.out.grow hg (by first | exact n12.out | exact Ne.symm n21.out))
            replace X := hid (boxp_grown hg (by first | exact nO2.out | exact Ne.symm n2O.out) X.out)
            have m21 := hid (show k2 ≠ k1 by rcases hor with rfl | rfl; (first | exact Ne.symm n12.out | exact n21.out); (have := l1.out; omega))
            have m2O := hid (show k2 ≠ v31.heap.size by rcases hor with rfl | rfl; (first | exact Ne.symm nO2.out | exact n2O.out); (have := lO.out; omega))
            replace l1 := hid (Nat.lt_of_lt_of_le l1.out hg.size)
            replace lO := hid (Nat.lt_of_lt_of_le lO.out hg.size)
            have gk := hid (show W0.heap.size ≤ k2 by rcases hor with rfl | rfl; exact g2.out; exact lW.out)
            clear l2
            have l2 := hid hlt
            replace lW := hid (Nat.le_trans lW.out hg.size)
            (first | clear n12 | clear n21); have n21 := hid m21.out; clear m21
            (first | clear nO2 | clear n2O); have n2O := hid m2O.out; clear m2O
            clear M2 hor hown hlt hg gk
            go_wp2_with fail
            refine ⟨bex C.out, ?_⟩
            rw [ordW_one]
            simp only [pick, List.getElem?_cons_succ, List.getElem?_cons_zero]
            go_wp2_with fail
            refine ⟨bex C.out, ?_⟩
            rw [ordW_fre]
            simp only [pick, List.getElem?_cons_succ, List.getElem?_cons_zero]
            obtain ⟨x0, x1, x2, x3, x4⟩ := id X.out
            have hC := Cl2.mk2 D1.out D2.out X.out g1.out g2.out gO.out (by first | exact n1O.out | exact Ne.symm nO1.out) (by first | exact n2O.out | exact Ne.symm nO2.out) (by first | exact n12.out | exact Ne.symm n21.out) C.out
            have HC := hid hC
            clear hC
            go_wp2_with fail
            rw [ordW_done]
            go_wp2_with fail
            go_meet
            exact ⟨_, _, _, rfl, hid (HC.out)⟩
        · go_wp2_with fail
          have h0 := below_alloc v30 (.cells #[.slice none 0 0, .slice none 0 0] 25)
          replace M2 := hid (M2.out.next h0)
          replace M1 := hid (M1.out.next h0)
          replace C := hid (below_next C.out h0)
          have n2O := hid (show v0.heap.size ≠ v30.heap.size by have := l2.out; omega)
          have n1O := hid (show v29.heap.size ≠ v30.heap.size by have := l1.out; omega)
          replace l2 := hid (Nat.lt_of_lt_of_le l2.out h0.size)
          replace l1 := hid (Nat.lt_of_lt_of_le l1.out h0.size)
          have lO := hid (show v30.heap.size < (v30.alloc (.cells #[.slice none 0 0, .slice none 0 0] 25)).heap.size by simp)
          have gO := hid (show W0.heap.size ≤ v30.heap.size from lW.out)
          replace lW := hid (Nat.le_trans lW.out h0.size)
          have X := hid (boxp_at (w := v30) (B := v30.heap.size) (a := .slice none 0 0) (b := .slice none 0 0) (t := 25) rfl)
          refine ⟨bex C.out, ?_⟩
          clear h0
          generalize v30.alloc (.cells #[.slice none 0 0, .slice none 0 0] 25) = v37 at *
          rw [ordW_one]
          simp only [pick, List.getElem?_cons_succ, List.getElem?_cons_zero]
          go_wp2_with (at_builtin; refine wp_app_clone rfl _ _ rfl (v29.heap.size) s a c rfl rfl M1.out l1.out n1 (HI1.out _ C.out) (by omega) ?_; intro k1 cc1 v38 hor hown hg hlt)
          have D1 := hid hown
          replace C := hid (below_own C.out M1.out g1.out hg)
          replace M2 := hid (M2.out.grow hg (by first | exact n21.out | exact Ne.symm n12.out))
          replace X := hid (boxp_grown hg (by first | exact nO1.out | exact Ne.symm n1O.out) X.out)
          have m12 := hid (show k1 ≠ v0.heap.size by rcases hor with rfl | rfl; (first | exact Ne.symm n21.out | exact n12.out); (have := l2.out; omega))
          have m1O := hid (show k1 ≠ v30.heap.size by rcases hor with rfl | rfl; (first | exact Ne.symm nO1.out | exact n1O.out); (have := lO.out; omega))
          replace l2 := hid (Nat.lt_of_lt_of_le l2.out hg.size)
          replace lO := hid (Nat.lt_of_lt_of_le lO.out hg.size)
          have gk := hid (show W0.heap.size ≤ k1 by rcases hor with rfl | rfl; exact g1.out; exact lW.out)
          clear l1
          have l1 := hid hlt
          replace lW := hid (Nat.le_trans lW.out hg.size)
          (first | clear n21 | clear n12); have n12 := hid m12.out; clear m12
          (first | clear nO1 | clear n1O); have n1O := hid m1O.out; clear m1O
          clear M1 hor hown hlt hg gk
          go_wp2_with fail
          refine ⟨bex C.out, ?_⟩
          rw [ordW_one]
          simp only [pick, List.getElem?_cons_succ, List.getElem?_cons_zero]
          go_wp2_with (at_builtin; refine wp_app_clone rfl _ _ rfl (v0.heap.size) l b d rfl rfl M2.out l2.out n2 (HI2.out _ C.out) (by omega) ?_; intro k2 cc2 v39 hor hown hg hlt)
          have D2 := hid hown
          replace C := hid (below_own C.out M2.out g2.out hg)
          replace D1 := hid (D1.out.grow hg (by first | exact n12.out | exact Ne.symm n21.out))
          replace X := hid (boxp_grown hg (by first | exact nO2.out | exact Ne.symm n2O.out) X.out)
          have m21 := hid (show k2 ≠ k1 by rcases hor with rfl | rfl; (first | exact Ne.symm n12.out | exact n21.out); (have := l1.out; omega))
          have m2O := hid (show k2 ≠ v30.heap.size by rcases hor with rfl | rfl; (first | exact Ne.symm nO2.out | exact n2O.out); (have := lO.out; omega))
          replace l1 := hid (Nat.lt_of_lt_of_le l1.out hg.size)
          replace lO := hid (Nat.lt_of_lt_of_le lO.out hg.size)
          have gk := hid (show W0.heap.size ≤ k2 by rcases hor with rfl | rfl; exact g2.out; exact lW.out)
          clear l2
          have l2 := hid hlt
          replace lW := hid (Nat.le_trans lW.out hg.size)
          (first | clear n12 | clear n21); have n21 := hid m21.out; clear m21
          (first | clear nO2 | clear n2O); have n2O := hid m2O.out; clear m2O
          clear M2 hor hown hlt hg gk
          go_wp2_with fail
          refine ⟨bex C.out, ?_⟩
          rw [ordW_one]
          simp only [pick, List.getElem?_cons_succ, List.getElem?_cons_zero]
          go_wp2_with fail
          refine ⟨bex C.out, ?_⟩
          rw [ordW_fre]
          simp only [pick, List.getElem?_cons_succ, List.getElem?_cons_zero]
          obtain ⟨x0, x1, x2, x3, x4⟩ := id X.out
          have hC := Cl2.mk2 D1.out D2.out X.out g1.out g2.out gO.out (by first | exact n1O.out | exact Ne.symm nO1.out) (by first | exact n2O.out | exact Ne.symm nO2.out) (by first | exact n12.out | exact Ne.symm n21.out) C.out
          have HC := hid hC
          clear hC
          go_wp2_with fail
          rw [ordW_done]
          go_wp2_with fail
          go_meet
          exact ⟨_, _, _, rfl, hid (HC.out)⟩
      · go_wp2_with fail
        have h0 := below_alloc v29 (.cells #[.slice none 0 0, .slice none 0 0] 25)
        replace M2 := hid (M2.out.next h0)
        replace C := hid (below_next C.out h0)
        have n2O := hid (show v0.heap.size ≠ v29.heap.size by have := l2.out; omega)
        replace l2 := hid (Nat.lt_of_lt_of_le l2.out h0.size)
        have lO := hid (show v29.heap.size < (v29.alloc (.cells #[.slice none 0 0, .slice none 0 0] 25)).heap.size by simp)
        have gO := hid (show W0.heap.size ≤ v29.heap.size from lW.out)
        replace lW := hid (Nat.le_trans lW.out h0.size)
        have X := hid (boxp_at (w := v29) (B := v29.heap.size) (a := .slice none 0 0) (b := .slice none 0 0) (t := 25) rfl)
        refine ⟨bex C.out, ?_⟩
        clear h0
        generalize v29.alloc (.cells #[.slice none 0 0, .slice none 0 0] 25) = v40 at *
        rw [ordW_one]
        simp only [pick, List.getElem?_cons_succ, List.getElem?_cons_zero]
        go_wp2_with fail
        have h0 := below_alloc v40 (.cells #[] 3)
        replace M2 := hid (M2.out.next h0)
        replace X := hid (boxp_next h0 X.out)
        replace C := hid (below_next C.out h0)
        have n21 := hid (show v0.heap.size ≠ v40.heap.size by have := l2.out; omega)
        have nO1 := hid (show v29.heap.size ≠ v40.heap.size by have := lO.out; omega)
        replace l2 := hid (Nat.lt_of_lt_of_le l2.out h0.size)
        replace lO := hid (Nat.lt_of_lt_of_le lO.out h0.size)
        have l1 := hid (show v40.heap.size < (v40.alloc (.cells #[] 3)).heap.size by simp)
        have g1 := hid (show W0.heap.size ≤ v40.heap.size from lW.out)
        replace lW := hid (Nat.le_trans lW.out h0.size)
        have M1 := hid (OwnI.made v40)
        refine ⟨bex C.out, ?_⟩
        clear h0
        generalize v40.alloc (.cells #[] 3) = v41 at *
        rw [ordW_one]
        simp only [pick, List.getElem?_cons_succ, List.getElem?_cons_zero]
        go_wp2_with (at_builtin; refine wp_app_clone rfl _ _ rfl (v40.heap.size) s a c rfl rfl M1.out l1.out n1 (HI1.out _ C.out) (by omega) ?_; intro k1 cc1 v42 hor hown hg hlt)
        have D1 := hid hown
        replace C := hid (below_own C.out M1.out g1.out hg)
        replace M2 := hid (M2.out.grow hg (by first | exact n21.out | exact Ne.symm n12.out))
        replace X := hid (boxp_grown hg (by first | exact nO1.out | exact Ne.symm n1O.out) X.out)
        have m12 := hid (show k1 ≠ v0.heap.size by rcases hor with rfl | rfl; (first | exact Ne.symm n21.out | exact n12.out); (have := l2.out; omega))
        have m1O := hid (show k1 ≠ v29.heap.size by rcases hor with rfl | rfl; (first | exact Ne.symm nO1.out | exact n1O.out); (have := lO.out; omega))
        replace l2 := hid (Nat.lt_of_lt_of_le l2.out hg.size)
        replace lO := hid (Nat.lt_of_lt_of_le lO.out hg.size)
        have gk := hid (show W0.heap.size ≤ k1 by rcases hor with rfl | rfl; exact g1.out; exact lW.out)
        clear l1
        have l1 := hid hlt
        replace lW := hid (Nat.le_trans lW.out hg.size)
        (first | clear n21 | clear n12); have n12 := hid m12.out; clear m12
        (first | clear nO1 | clear n1O); have n1O := hid m1O.out; clear m1O
        clear M1 hor hown hlt hg gk
        go_wp2_with fail
        refine ⟨bex C.out, ?_⟩
        rw [ordW_one]
        simp only [pick, List.getElem?_cons_succ, List.getElem?_cons_zero]
        go_wp2_with (at_builtin; refine wp_app_clone rfl _ _ rfl (v0.heap.size) l b d rfl rfl M2.out l2.out n2 (HI2.out _ C.out) (by omega) ?_; intro k2 cc2 v43 hor hown hg hlt)
        have D2 := hid hown
        replace C := hid (below_own C.out M2.out g2.out hg)
        replace D1 := hid (D1.out.grow hg (by first | exact n12.out | exact Ne.symm n21.out))
        replace X := hid (boxp_grown hg (by first | exact nO2.out | exact Ne.symm n2O.out) X.out)
        have m2O := hid (show k2 ≠ v29.heap.size by rcases hor with rfl | rfl; (first | exact Ne.symm nO2.out | exact n2O.out); (have := lO.out; omega))
        have m21 := hid (show k2 ≠ k1 by rcases hor with rfl | rfl; (first | exact Ne.symm n12.out | exact n21.out); (have := l1.out; omega))
        replace lO := hid (Nat.lt_of_lt_of_le lO.out hg.size)
        replace l1 := hid (Nat.lt_of_lt_of_le l1.out hg.size)
        have gk := hid (show W0.heap.size ≤ k2 by rcases hor with rfl | rfl; exact g2.out; exact lW.out)
        clear l2
        have l2 := hid hlt
        replace lW := hid (Nat.le_trans lW.out hg.size)
        (first | clear nO2 | clear n2O); have n2O := hid m2O.out; clear m2O
        (first | clear n12 | clear n21); have n21 := hid m21.out; clear m21
        clear M2 hor hown hlt hg gk
        go_wp2_with fail
        refine ⟨bex C.out, ?_⟩
        rw [ordW_one]
        simp only [pick, List.getElem?_cons_succ, List.getElem?_cons_zero]
        go_wp2_with fail
        refine ⟨bex C.out, ?_⟩
        rw [ordW_fre]
        simp only [pick, List.getElem?_cons_succ, List.getElem?_cons_zero]
        obtain ⟨x0, x1, x2, x3, x4⟩ := id X.out
        have hC := Cl2.mk2 D1.out D2.out X.out g1.out g2.out gO.out (by first | exact n1O.out | exact Ne.symm nO1.out) (by first | exact n2O.out | exact Ne.symm nO2.out) (by first | exact n12.out | exact Ne.symm n21.out) C.out
        have HC := hid hC
        clear hC
        go_wp2_with fail
        rw [ordW_done]
        go_wp2_with fail
        go_meet
        exact ⟨_, _, _, rfl, hid (HC.out)⟩
    · go_wp2_with fail
      have h0 := below_alloc v0 (.cells #[.slice none 0 0, .slice none 0 0] 25)
      replace C := hid (below_next C.out h0)
      have lO := hid (show v0.heap.size < (v0.alloc (.cells #[.slice none 0 0, .slice none 0 0] 25)).heap.size by simp)
      have gO := hid (show W0.heap.size ≤ v0.heap.size from lW.out)
      replace lW := hid (Nat.le_trans lW.out h0.size)
      have X := hid (boxp_at (w := v0) (B := v0.heap.size) (a := .slice none 0 0) (b := .slice none 0 0) (t := 25) rfl)
      refine ⟨bex C.out, ?_⟩
      clear h0
      generalize v0.alloc (.cells #[.slice none 0 0, .slice none 0 0] 25) = v44 at *
      rw [ordW_two]
      simp only [pick, List.getElem?_cons_succ, List.getElem?_cons_zero]
      refine ⟨?_, ?_⟩
      · go_wp2_with fail
        have h0 := below_alloc v44 (.cells #[] 3)
        replace X := hid (boxp_next h0 X.out)
        replace C := hid (below_next C.out h0)
        have nO1 := hid (show v0.heap.size ≠ v44.heap.size by have := lO.out; omega)
        replace lO := hid (Nat.lt_of_lt_of_le lO.out h0.size)
        have l1 := hid (show v44.heap.size < (v44.alloc (.cells #[] 3)).heap.size by simp)
        have g1 := hid (show W0.heap.size ≤ v44.heap.size from lW.out)
        replace lW := hid (Nat.le_trans lW.out h0.size)
        have M1 := hid (OwnI.made v44)
        refine ⟨bex C.out, ?_⟩
        clear h0
        generalize v44.alloc (.cells #[] 3) = v45 at *
        rw [ordW_two]
        simp only [pick, List.getElem?_cons_succ, List.getElem?_cons_zero]
        refine ⟨?_, ?_⟩
        · go_wp2_with (at_builtin; refine wp_app_clone rfl _ _ rfl (v44.heap.size) s a c rfl rfl M1.out l1.out n1 (HI1.out _ C.out) (by omega) ?_; intro k1 cc1 v46 hor hown hg hlt)
          have D1 := hid hown
          replace C := hid (below_own C.out M1.out g1.out hg)
          replace X := hid (boxp_grown hg (by first | exact nO1.out | exact Ne.symm n1O.out) X.out)
          have m1O := hid (show k1 ≠ v0.heap.size by rcases hor with rfl | rfl; (first | exact Ne.symm nO1.out | exact n1O.out); (have := lO.out; omega))
          replace lO := hid (Nat.lt_of_lt_of_le lO.out hg.size)
          have gk := hid (show W0.heap.size ≤ k1 by rcases hor with rfl | rfl; exact g1.out; exact lW.out)
          clear l1
          have l1 := hid hlt
          replace lW := hid (Nat.le_trans lW.out hg.size)
          (first | clear nO1 | clear n1O); have n1O := hid m1O.out; clear m1O
          clear M1 hor hown hlt hg gk
          go_wp2_with fail
          refine ⟨bex C.out, ?_⟩
          rw [ordW_one]
          simp only [pick, List.getElem?_cons_succ, List.getElem?_cons_zero]
          go_wp2_with fail
          have h0 := below_alloc v46 (.cells #[] 3)
          replace D1 := hid (D1.out.next h0)
          replace X := hid (boxp_next h0 X.out)
          replace C := hid (below_next C.out h0)
          have nO2 := hid (show v0.heap.size ≠ v46.heap.size by have := lO.out; omega)
          have n12 := hid (show k1 ≠ v46.heap.size by have := l1.out; omega)
          replace lO := hid (Nat.lt_of_lt_of_le lO.out h0.size)
          replace l1 := hid (Nat.lt_of_lt_of_le l1.out h0.size)
          have l2 := hid (show v46.heap.size < (v46.alloc (.cells #[] 3)).heap.size by simp)
          have g2 := hid (show W0.heap.size ≤ v46.heap.size from lW.out)
          replace lW := hid (Nat.le_trans lW.out h0.size)
          have M2 := hid (OwnI.made v46)
          refine ⟨bex C.out, ?_⟩
          clear h0
          generalize v46.alloc (.cells #[] 3) = v47 at *
          rw [ordW_one]
          simp only [pick, List.getElem?_cons_succ, List.getElem?_cons_zero]
          go_wp2_with (at_builtin; refine wp_app_clone rfl _ _ rfl (v46.heap.size) l b d rfl rfl M2.out l2.out n2 (HI2.out _ C.out) (by omega) ?_; intro k2 cc2 v48 hor hown hg hlt)
          have D2 := hid hown
          replace C := hid (below_own C.out M2.out g2.out hg)
          replace D1 := hid (D1.out.grow hg (by first | exact n12.out | exact Ne.symm n21.out))
          replace X := hid (boxp_grown hg (by first | exact nO2.out | exact Ne.symm n2O.out) X.out)
          have m2O := hid (show k2 ≠ v0.heap.size by rcases hor with rfl | rfl; (first | exact Ne.symm nO2.out | exact n2O.out); (have := lO.out; omega))
          have m21 := hid (show k2 ≠ k1 by rcases hor with rfl | rfl; (first | exact Ne.symm n12.out | exact n21.out); (have := l1.out; omega))
          replace lO := hid (Nat.lt_of_lt_of_le lO.out hg.size)
          replace l1 := hid (Nat.lt_of_lt_of_le l1.out hg.size)
          have gk := hid (show W0.heap.size ≤ k2 by rcases hor with rfl | rfl; exact g2.out; exact lW.out)
          clear l2
          have l2 := hid hlt
          replace lW := hid (Nat.le_trans lW.out hg.size)
          (first | clear nO2 | clear n2O); have n2O := hid m2O.out; clear m2O
          (first | clear n12 | clear n21); have n21 := hid m21.out; clear m21
          clear M2 hor hown hlt hg gk
          go_wp2_with fail
          refine ⟨bex C.out, ?_⟩
          rw [ordW_one]
          simp only [pick, List.getElem?_cons_succ, List.getElem?_cons_zero]
          go_wp2_with fail
          refine ⟨bex C.out, ?_⟩
          rw [ordW_fre]
          simp only [pick, List.getElem?_cons_succ, List.getElem?_cons_zero]
          obtain ⟨x0, x1, x2, x3, x4⟩ := id X.out
          have hC := Cl2.mk2 D1.out D2.out X.out g1.out g2.out gO.out (by first | exact n1O.out | exact Ne.symm nO1.out) (by first | exact n2O.out | exact Ne.symm nO2.out) (by first | exact n12.out | exact Ne.symm n21.out) C.out
          have HC := hid hC
          clear hC
          go_wp2_with fail
          rw [ordW_done]
          go_wp2_with fail
          go_meet
          exact ⟨_, _, _, rfl, hid (HC.out)⟩
        · go_wp2_with fail
          have h0 := below_alloc v45 (.cells #[] 3)
          replace M1 := hid (M1.out.next h0)
          replace X := hid (boxp_next h0 X.out)
          replace C := hid (below_next C.out h0)
          have nO2 := hid (show v0.heap.size ≠ v45.heap.size by have := lO.out; omega)
          have n12 := hid (show v44.heap.size ≠ v45.heap.size by have := l1.out; omega)
          replace lO := hid (Nat.lt_of_lt_of_le lO.out h0.size)
          replace l1 := hid (Nat.lt_of_lt_of_le l1.out h0.size)
          have l2 := hid (show v45.heap.size < (v45.alloc (.cells #[] 3)).heap.size by simp)
          have g2 := hid (show W0.heap.size ≤ v45.heap.size from lW.out)
          replace lW := hid (Nat.le_trans lW.out h0.size)
          have M2 := hid (OwnI.made v45)
          refine ⟨bex C.out, ?_⟩
          clear h0
          generalize v45.alloc (.cells #[] 3) = v49 at *
          rw [ordW_one]
          simp only [pick, List.getElem?_cons_succ, List.getElem?_cons_zero]
          go_wp2_with (at_builtin; refine wp_app_clone rfl _ _ rfl (v44.heap.size) s a c rfl rfl M1.out l1.out n1 (HI1.out _ C.out) (by omega) ?_; intro k1 cc1 v50 hor hown hg hlt)
          have D1 := hid hown
          replace C := hid (below_own C.out M1.out g1.out hg)
          replace M2 := hid (M2.out.grow hg (by first | exact n21.out | exact Ne.symm n12.out))
          replace X := hid (boxp_grown hg (by first | exact nO1.out | exact Ne.symm n1O.out) X.out)
          have m1O := hid (show k1 ≠ v0.heap.size by rcases hor with rfl | rfl; (first | exact Ne.symm nO1.out | exact n1O.out); (have := lO.out; omega))
          have m12 := hid (show k1 ≠ v45.heap.size by rcases hor with rfl | rfl; (first | exact Ne.symm n21.out | exact n12.out); (have := l2.out; omega))
          replace lO := hid (Nat.lt_of_lt_of_le lO.out hg.size)
          replace l2 := hid (Nat.lt_of_lt_of_le l2.out hg.size)
          have gk := hid (show W0.heap.size ≤ k1 by rcases hor with rfl | rfl; exact g1.out; exact lW.out)
          clear l1
          have l1 := hid hlt
          replace lW := hid (Nat.le_trans lW.out hg.size)
          (first | clear nO1 | clear n1O); have n1O := hid m1O.out; clear m1O
          (first | clear n21 | clear n12); have n12 := hid m12.out; clear m12
          clear M1 hor hown hlt hg gk
          go_wp2_with fail
          refine ⟨bex C.out, ?_⟩
          rw [ordW_one]
          simp only [pick, List.getElem?_cons_succ, List.getElem?_cons_zero]
          go_wp2_with (at_builtin; refine wp_app_clone rfl _ _ rfl (v45.heap.size) l b d rfl rfl M2.out l2.out n2 (HI2.out _ C.out) (by omega) ?_; intro k2 cc2 v51 hor hown hg hlt)
          have D2 := hid hown
          replace C := hid (below_own C.out M2.out g2.out hg)
          replace D1 := hid (D1.out.grow hg (by first | exact n12.out | exact Ne.symm n21.out))
          replace X := hid (boxp_grown hg (by first | exact nO2.out | exact Ne.symm n2O.out) X.out)
          have m2O := hid (show k2 ≠ v0.heap.size by rcases hor with rfl | rfl; (first | exact Ne.symm nO2.out | exact n2O.out); (have := lO.out; omega))
          have m21 := hid (show k2 ≠ k1 by rcases hor with rfl | rfl; (first | exact Ne.symm n12.out | exact n21.out); (have := l1.out; omega))
          replace lO := hid (Nat.lt_of_lt_of_le lO.out hg.size)
          replace l1 := hid (Nat.lt_of_lt_of_le l1.out hg.size)
          have gk := hid (show W0.heap.size ≤ k2 by rcases hor with rfl | rfl; exact g2.out; exact lW.out)
          clear l2
          have l2 := hid hlt
          replace lW := hid (Nat.le_trans lW.out hg.size)
          (first | clear nO2 | clear n2O); have n2O := hid m2O.out; clear m2O
          (first | clear n12 | clear n21); have n21 := hid m21.out; clear m21
          clear M2 hor hown hlt hg gk
          go_wp2_with fail
          refine ⟨bex C.out, ?_⟩
          rw [ordW_one]
          simp only [pick, List.getElem?_cons_succ, List.getElem?_cons_zero]
          go_wp2_with fail
          refine ⟨bex C.out, ?_⟩
          rw [ordW_fre]
          simp only [pick, List.getElem?_cons_succ, List.getElem?_cons_zero]
          obtain ⟨x0, x1, x2, x3, x4⟩ := id X.out
          have hC := Cl2.mk2 D1.out D2.out X.out g1.out g2.out gO.out (by first | exact n1O.out | exact Ne.symm nO1.out) (by first | exact n2O.out | exact Ne.symm nO2.out) (by first | exact n12.out | exact Ne.symm n21.out) C.out
          have HC := hid hC
          clear hC
          go_wp2_with fail
          rw [ordW_done]
          go_wp2_with fail
          go_meet
          exact ⟨_, _, _, rfl, hid (HC.out)⟩
      · go_wp2_with fail
        have h0 := below_alloc v44 (.cells #[] 3)
        replace X := hid (boxp_next h0 X.out)
        replace C := hid (below_next C.out h0)
        have nO2 := hid (show v0.heap.size ≠ v44.heap.size by have := lO.out; omega)
        replace lO := hid (Nat.lt_of_lt_of_le lO.out h0.size)
        have l2 := hid (show v44.heap.size < (v44.alloc (.cells #[] 3)).heap.size by simp)
        have g2 := hid (show W0.heap.size ≤ v44.heap.size from lW.out)
        replace lW := hid (Nat.le_trans lW.out h0.size)
        have M2 := hid (OwnI.made v44)
        refine ⟨bex C.out, ?_⟩
        clear h0
        generalize v44.alloc (.cells #[] 3) = v52 at *
        rw [ordW_one]
        simp only [pick, List.getElem?_cons_succ, List.getElem?_cons_zero]
        go_wp2_with fail
        have h0 := below_alloc v52 (.cells #[] 3)
        replace M2 := hid (M2.out.next h0)
        replace X := hid (boxp_next h0 X.out)
        replace C := hid (below_next C.out h0)
        have nO1 := hid (show v0.heap.size ≠ v52.heap.size by have := lO.out; omega)
        have n21 := hid (show v44.heap.size ≠ v52.heap.size by have := l2.out; omega)
        replace lO := hid (Nat.lt_of_lt_of_le lO.out h0.size)
        replace l2 := hid (Nat.lt_of_lt_of_le l2.out h0.size)
        have l1 := hid (show v52.heap.size < (v52.alloc (.cells #[] 3)).heap.size by simp)
        have g1 := hid (show W0.heap.size ≤ v52.heap.size from lW.out)
        replace lW := hid (Nat.le_trans lW.out h0.size)
        have M1 := hid (OwnI.made v52)
        refine ⟨bex C.out, ?_⟩
        clear h0
        generalize v52.alloc (.cells #[] 3) = v53 at *
        rw [ordW_one]
        simp only [pick, List.getElem?_cons_succ, List.getElem?_cons_zero]
        go_wp2_with (at_builtin; refine wp_app_clone rfl _ _ rfl (v52.heap.size) s a c rfl rfl M1.out l1.out n1 (HI1.out _ C.out) (by omega) ?_; intro k1 cc1 v54 hor hown hg hlt)
        have D1 := hid hown
        replace C := hid (below_own C.out M1.out g1.out hg)
        replace M2 := hid (M2.out.grow hg (by first | exact n21.out | exact Ne.symm n12.out))
        replace X := hid (boxp_grown hg (by first | exact nO1.out | exact Ne.symm n1O.out) X.out)
        have m1O := hid (show k1 ≠ v0.heap.size by rcases hor with rfl | rfl; (first | exact Ne.symm nO1.out | exact n1O.out); (have := lO.out; omega))
        have m12 := hid (show k1 ≠ v44.heap.size by rcases hor with rfl | rfl; (first | exact Ne.symm n21.out | exact n12.out); (have := l2.out; omega))
        replace lO := hid (Nat.lt_of_lt_of_le lO.out hg.size)
        replace l2 := hid (Nat.lt_of_lt_of_le l2.out hg.size)
        have gk := hid (show W0.heap.size ≤ k1 by rcases hor with rfl | rfl; exact g1.out; exact lW.out)
        clear l1
        have l1 := hid hlt
        replace lW := hid (Nat.le_trans lW.out hg.size)
        (first | clear nO1 | clear n1O); have n1O := hid m1O.out; clear m1O
        (first | clear n21 | clear n12); have n12 := hid m12.out; clear m12
        clear M1 hor hown hlt hg gk
        go_wp2_with fail
        refine ⟨bex C.out, ?_⟩
        rw [ordW_one]
        simp only [pick, List.getElem?_cons_succ, List.getElem?_cons_zero]
        go_wp2_with (at_builtin; refine wp_app_clone rfl _ _ rfl (v44.heap.size) l b d rfl rfl M2.out l2.out n2 (HI2.out _ C.out) (by omega) ?_; intro k2 cc2 v55 hor hown hg hlt)
        have D2 := hid hown
        replace C := hid (below_own C.out M2.out g2.out hg)
        replace D1 := hid (D1.out.grow hg (by first | exact n12.out | exact Ne.symm n21.out))
        replace X := hid (boxp_grown hg (by first | exact nO2.out | exact Ne.symm n2O.out) X.out)
        have m2O := hid (show k2 ≠ v0.heap.size by rcases hor with rfl | rfl; (first | exact Ne.symm nO2.out | exact n2O.out); (have := lO.out; omega))
        have m21 := hid (show k2 ≠ k1 by rcases hor with rfl | rfl; (first | exact Ne.symm n12.out | exact n21.out); (have := l1.out; omega))
        replace lO := hid (Nat.lt_of_lt_of_le lO.out hg.size)
        replace l1 := hid (Nat.lt_of_lt_of_le l1.out hg.size)
        have gk := hid (show W0.heap.size ≤ k2 by rcases hor with rfl | rfl; exact g2.out; exact lW.out)
        clear l2
        have l2 := hid hlt
        replace lW := hid (Nat.le_trans lW.out hg.size)
        (first | clear nO2 | clear n2O); have n2O := hid m2O.out; clear m2O
        (first | clear n12 | clear n21); have n21 := hid m21.out; clear m21
        clear M2 hor hown hlt hg gk
        go_wp2_with fail
        refine ⟨bex C.out, ?_⟩
        rw [ordW_one]
        simp only [pick, List.getElem?_cons_succ, List.getElem?_cons_zero]
        go_wp2_with fail
        refine ⟨bex C.out, ?_⟩
        rw [ordW_fre]
        simp only [pick, List.getElem?_cons_succ, List.getElem?_cons_zero]
        obtain ⟨x0, x1, x2, x3, x4⟩ := id X.out
        have hC := Cl2.mk2 D1.out D2.out X.out g1.out g2.out gO.out (by first | exact n1O.out | exact Ne.symm nO1.out) (by first | exact n2O.out | exact Ne.symm nO2.out) (by first | exact n12.out | exact Ne.symm n21.out) C.out
        have HC := hid hC
        clear hC
        go_wp2_with fail
        rw [ordW_done]
        go_wp2_with fail
        go_meet
        exact ⟨_, _, _, rfl, hid (HC.out)⟩
  case rest =>
    obtain ⟨O, vs, vl, rfl, HC⟩ := hcut
    obtain ⟨w1, hw1⟩ : ∃ w1 : World, w1 = wc := ⟨_, rfl⟩
    subst hw1
    have hO := HC.out.new
    have HR := hid (show RotD w O W0.heap.size R B p vs vl s l w1 from ⟨HC.out.box, HC.out.own, HC.out.own2, boxp_next HC.out.below HZ0.out, But.of (D := R) (below_next HB0.out HC.out.below), hr.next (below_next HB0.out HC.out.below), I1.out.2, I2.out.2, HC.out.ne1, HC.out.ne2, HC.out.ne⟩)
    clear HC HI1 HI2 I1 I2 HB0 HP0 HZ0 n1 n2 c1 c2 d1 d2 P0 hr
    go_wp2_with fail
    refine (pick_any B _ _ R p HR.out.rd (by omega) (by omega) (by omega)).mono ?_
    rintro e w2 ⟨i, rfl, ⟨hi0, hi1, _⟩, hb, R2⟩
    have hi4 := hi1 (by omega)
    clear hi1
    have HR2 := hid (show RotD w O W0.heap.size R B (p + 1) vs vl s l w2 from { HR.out with box := boxp_but hb (by omega) HR.out.box, own := HR.out.own.but hb (by omega), own2 := HR.out.own2.but hb (by omega), res := boxp_but hb (by omega) HR.out.res, but := HR.out.but.trans hb, rd := R2 })
    clear HR hb R2
    obtain ⟨k, rfl⟩ : ∃ k : Nat, i = (k : Int) := ⟨i.toNat, by omega⟩
    have hWW : w.heap.size + 2 ≤ W0.heap.size := by omega
    go_wp2_with fail
    go_loopw [6] (fun i wr => ∃ (k : Nat) (vs vl : Value) (t m : List Int), i = .int .i64 k ∧ k ≤ 3 ∧ Hid (t.length + k ≤ 15) ∧ Hid (m.length = l.length) ∧ Hid (RotD w O W0.heap.size R B (p + 1) vs vl t m wr)) (fun i _ => (intOf i).toNat)
    case atStart => exact ⟨k, vs, vl, s, l, rfl, by omega, hid (by omega), hid rfl, HR2⟩
    case round =>
      obtain ⟨k, vs, vl, t, m, rfl, hk3, HT, HM, HD⟩ := hrel
      obtain ⟨wo, rfl⟩ : ∃ wo : World, wo = wr := ⟨_, rfl⟩
      have ht := HT.out
      have hm1 : 1 ≤ m.length := by rw [HM.out]; exact h3
      have hm8 : m.length ≤ 8 := by rw [HM.out]; exact h2
      obtain ⟨a1, k1, rfl, e1, e2, e3⟩ := HD.out.own.shape
      obtain ⟨gl, k2, rfl⟩ : ∃ gl k2, vl = .slice (some ⟨gl, 0, none⟩) m.length k2 := by
        rcases HD.out.own2.row with ⟨h, _⟩ | ⟨g, c, e, _⟩
        · rw [h] at hm1; simp at hm1
        · exact ⟨g, c, e⟩
      obtain ⟨f2, f3, hglN, hrow⟩ : m.length ≤ k2 ∧ k2 ≤ maxLen ∧ W0.heap.size ≤ gl ∧ Row wo gl m.length (fun i => (m.map (Value.int .i64)).getD i undef) := by
        rcases HD.out.own2.row with ⟨h, _⟩ | ⟨g, c, e, q1, q2, q3, q4⟩
        · rw [h] at hm1; simp at hm1
        · simp at e
          obtain ⟨rfl, rfl⟩ := e
          exact ⟨q2, q3, q1, q4⟩
      have hgO := HD.out.ne2 gl rfl
      have hO1 := HD.out.box.1
      clear HR2
      by_cases hk : 0 < k
      · obtain ⟨k', rfl⟩ : ∃ k', k = k' + 1 := ⟨k - 1, by omega⟩
        have hk2 : (0 : Int) < ((k' + 1 : Nat) : Int) := by omega
        obtain ⟨x, m', rfl⟩ : ∃ x m', m = x :: m' := by
          cases m with
          | nil => simp at hm1
          | cons x m' => exact ⟨x, m', rfl⟩
        have hxi := HD.out.li x (by simp)
        have hgc : wo.cell? ⟨gl, 0, none⟩ = some (.int .i64 x) := hrow.2.1 0 (by omega)
        have hgl := hrow.1
        have HRow := hid hrow
        clear hrow
        obtain ⟨x0, x1, x2, x3, x4⟩ := HD.out.box
        have hl0 : (0 : Int) < ((x :: m').length : Int) := by omega
        obtain ⟨N, hN⟩ : ∃ N, Hid ((x :: m').length = N) := ⟨_, hid rfl⟩
        rw [hN.out] at hm1 hm8 f2 x2 hl0
        rw [hN.out] at HD
        go_wp2_with fail
        refine wp_region_ord (C := fun wZ => ∃ xZ, wZ = World.overP _ ([O, gl]) xZ) [0,1,2,3,4,5] (.one 6 (.one 7 (.one 8 (.fre 9 .done)))) [9] (by kernel_rfl) (by kernel_rfl) (fun d _ _ _ _ h => by cases d <;> exact h) (KeepP.refl _ _).drew.ex ?_; simp only [pick, List.getElem?_cons_succ, List.getElem?_cons_zero]; (repeat (go_big_quiet_step (fail))); refine wpQuiet_nil ?_; simp only [ordW, pick, List.getElem?_cons_succ, List.getElem?_cons_zero]
        have K := hid ((KeepP.refl [O, gl] wo).drew)
        have HD0 := hid (HD.out.next (below_d (Below.refl wo.heap.size wo)))
        generalize wo.drew = v0 at *
        clear x0 x1 x2 x3 x4 hgc HD
        go_wp2_with fail
        have h0 := below_alloc v0 (.cells #[.int .i64 x] 3)
        have HI := hid (row_one v0 x hxi)
        have HD1 := hid (HD0.out.next h0)
        have K1 := hid (K.out.trans (KeepP.below h0))
        have hs1 := HD0.out.box.1
        refine ⟨K1.out.ex, ?_⟩
        go_wp2_with (at_builtin; refine wp_app_own2 rfl _ _ rfl W0.heap.size (.slice a1 t.length k1) t [x] (some ⟨v0.heap.size, 0, none⟩) 1 rfl rfl (fun h => by cases h) HD1.out.own (by simp; omega) HI.out (by omega) (by simp) ?_; intro v4 w4 hv4 hg hbk)
        obtain ⟨t', ht'⟩ : ∃ t', Hid (t' = t ++ [x]) := ⟨_, hid rfl⟩
        rw [← ht'.out] at hv4
        have HTT := hid (show t'.length + k' ≤ 15 by rw [ht'.out]; simp; omega)
        have K4 := hid (K1.out.trans (KeepP.grown hg (fun q hq e => by
          simp at hq
          rcases hq with rfl | rfl
          · exact HD1.out.ne1 _ e rfl
          · exact HD1.out.ne _ e rfl)))
        have HS := hid (HD1.out.stem hg hv4 hbk (fun q hq => by
          rw [ht'.out] at hq
          rcases List.mem_append.1 hq with h | h
          · exact HD1.out.ti q h
          · simp at h; subst h; exact hxi) hWW hO hB.2 hB.1)
        have X4 := hid (boxp_keep hg.size (hg.block O HD1.out.box.1 (fun e => HD1.out.ne1 _ e.symm rfl)) HD1.out.box)
        obtain ⟨a4, k4, rfl, _⟩ := hv4.shape
        clear hv4 hg hbk HI HD1 HD0 K K1 h0 ht'
        refine ⟨K4.out.ex, ?_⟩
        go_wp2_with fail
        refine ⟨K4.out.ex, ?_⟩
        obtain ⟨x0, x1, x2, x3, x4⟩ := X4.out
        go_upto_region 6 with fail
        refine wp_gen (fun W => RotD w O W0.heap.size R B (p + 1) (.slice a4 t'.length k4) (.slice (some ⟨gl, 0, none⟩) N k2) t' (x :: m') W) HS.out ?_
        clear HS X4 x0 x1 x2 x3 x4 K4 hs1
        rintro W1 HD2
        have HDD := hid HD2
        obtain ⟨x0, x1, x2, x3, x4⟩ := HD2.box
        obtain ⟨_, hRow⟩ : W0.heap.size ≤ gl ∧ Row W1 gl (x :: m').length (fun i => ((x :: m').map (Value.int .i64)).getD i undef) := by
          rcases HD2.own2.row with ⟨h, _⟩ | ⟨g, c, e, q1, q2, q3, q4⟩
          · cases h
          · simp at e
            obtain ⟨rfl, _⟩ := e
            exact ⟨q1, q4⟩
        have hgc : W1.cell? ⟨gl, 0, none⟩ = some (.int .i64 x) := hRow.2.1 0 (by simp)
        have hgl1 := hRow.1
        have hIn := HD2.own2.ints2 HD2.li
        have HN1 := hid (show m'.length + 1 = N by rw [← hN.out]; simp)
        have hmN : m'.length + 1 = N := HN1.out
        have hm8' : m'.length ≤ 8 := by omega
        clear HRow hRow
        unfold maxLen at f3
        by_cases hk1 : k2 = 1
        · have hm0 : m' = [] := List.length_eq_zero_iff.1 (by omega)
          have HTL := hid (show IntsIn Any W1 (some ⟨gl, 0, none⟩) m' by rw [hm0]; exact ⟨.inl rfl, by simp⟩)
          have hN1 : N = 1 := by omega
          subst hk1 hN1
          subst hm0
          clear hmN hIn HD2
          go_wp2_with fail
          refine wp_region_ord (C := fun wZ => ∃ xZ, wZ = World.over _ xZ) [1,2,3,5,6,7,8] (.two 0 9 (.two 4 9 (.one 9 (.one 10 (.one 11 (.fre 12 .done)))) (.one 4 (.one 10 (.one 11 (.fre 12 .done))))) (.one 0 (.one 4 (.one 10 (.one 11 (.fre 12 .done)))))) [12] (by kernel_rfl) (by kernel_rfl) (fun d _ _ _ _ h => by cases d <;> exact h) (bex (Below.refl _ _).drew) ?_; simp only [pick, List.getElem?_cons_succ, List.getElem?_cons_zero]; (repeat (go_big_quiet_step (fail))); refine wpQuiet_nil ?_; simp only [ordW, pick, List.getElem?_cons_succ, List.getElem?_cons_zero]
          have D := hid (below_d (Below.refl W1.heap.size W1))
          generalize W1.drew = v0 at *
          clear x0 x1 x2 x3 x4 hgc
          constructor
          · go_wp2_with fail
            have h0 := below_alloc v0 (.cells #[] 3)
            have E1 := hid (OwnI.made v0)
            have E2 := hid (show v0.heap.size < (v0.alloc (.cells #[] 3)).heap.size by simp)
            have HG := hid (show W1.heap.size ≤ v0.heap.size from D.out.size)
            replace D := hid (below_next D.out h0)
            refine ⟨bex D.out, ?_⟩
            clear h0
            obtain ⟨gE, hgE⟩ : ∃ g, g = v0.heap.size := ⟨_, rfl⟩
            rw [← hgE] at E1 E2 HG ⊢
            have GgE := hid hgE
            clear hgE
            generalize v0.alloc (.cells #[] 3) = vE at *
            constructor
            · go_wp2_with (at_builtin; refine wp_app_clone rfl _ _ rfl gE ([] : List Int) (some ⟨gl, 0, none⟩) 0 rfl rfl E1.out E2.out (fun e => by cases e) (HTL.out.below D.out) (by omega) ?_; intro gA cA vA hor hown hg hlt)
              have OA := hid hown
              replace D := hid (below_own D.out E1.out HG.out hg)
              refine ⟨bex D.out, ?_⟩
              clear hown hor hg hlt E1 E2
              go_wp2_with fail
              have h0 := below_alloc vA (.cells #[.int .i64 x] 3)
              have O1 := hid (show (vA.alloc (.cells #[.int .i64 x] 3)).cell? ⟨vA.heap.size, 0, none⟩ = some (.int .i64 x) by simp)
              replace D := hid (below_next D.out h0)
              replace OA := hid (OA.out.next h0)
              refine ⟨bex D.out, ?_⟩
              clear h0
              obtain ⟨gB, hgB⟩ : ∃ g, g = vA.heap.size := ⟨_, rfl⟩
              rw [← hgB] at O1 ⊢
              clear hgB
              generalize vA.alloc (.cells #[.int .i64 x] 3) = vB at *
              go_wp2_with (at_builtin; refine wp_app_own2 rfl _ _ rfl gE _ ([] : List Int) [x] (some ⟨gB, 0, none⟩) 1 rfl rfl (fun h => by cases h) OA.out (Nat.le_of_lt (by have := (OA.out.blk gA rfl); omega)) (row_at O1.out hxi) (by omega) (by simp) ?_; intro v5 w5 hv5 hg hbk)
              replace D := hid (below_own D.out OA.out HG.out hg)
              have HL := hid (HDD.out.next D.out)
              have HX := hid (HL.out.loop hv5 (fun g h => by have := (HDD.out.own.blk g h).2; have := HG.out; omega) (by have := HDD.out.box.1; have := HG.out; omega) (fun q hq => by
                rcases List.mem_append.1 hq with h | h
                · exact HDD.out.li q (by simp [h])
                · simp at h; subst h; exact hxi) hWW hO hB.2)
              obtain ⟨m2, hm2⟩ : ∃ m2, Hid (m2 = ([] : List Int) ++ [x]) := ⟨_, hid rfl⟩
              have HL2 := hid (show m2.length = l.length by have := HN1.out; have := HM.out; rw [hm2.out]; simp; omega)
              rw [← hm2.out] at HX hv5
              obtain ⟨a6, k6, hv6, _⟩ := hv5.shape
              clear hv5 hg hbk OA O1 HTL
              refine ⟨bex D.out, ?_⟩
              go_wp2_with fail
              refine ⟨bex D.out, ?_⟩
              obtain ⟨x0, x1, x2, x3, x4⟩ := HL.out.box
              subst hv6
              go_wp2_with fail
              go_roundw
              case rel => exact ⟨k', _, _, t', m2, by go_num, by omega, HTT, HL2, HX⟩
              case measure => simp [intOf]
            · go_wp2_with fail
              have h0 := below_alloc vE (.cells #[.int .i64 x] 3)
              have O1 := hid (show (vE.alloc (.cells #[.int .i64 x] 3)).cell? ⟨vE.heap.size, 0, none⟩ = some (.int .i64 x) by simp)
              replace D := hid (below_next D.out h0)
              replace E1 := hid (E1.out.next h0)
              have hEl := E2.out
              replace E2 := hid (Nat.lt_of_lt_of_le E2.out h0.size)
              refine ⟨bex D.out, ?_⟩
              clear h0
              obtain ⟨gB, hgB⟩ : ∃ g, g = vE.heap.size := ⟨_, rfl⟩
              rw [← hgB] at O1 ⊢
              have NEB := hid (show gB ≠ gE by omega)
              clear hEl
              clear hgB
              generalize vE.alloc (.cells #[.int .i64 x] 3) = vB at *
              go_wp2_with (at_builtin; refine wp_app_clone rfl _ _ rfl gE ([] : List Int) (some ⟨gl, 0, none⟩) 0 rfl rfl E1.out E2.out (fun e => by cases e) (HTL.out.below D.out) (by omega) ?_; intro gA cA vA hor hown hg hlt)
              have OA := hid hown
              replace O1 := hid (show vA.cell? ⟨gB, 0, none⟩ = some (.int .i64 x) by rw [World.cell?_of_block (w := vB) (a := ⟨gB, 0, none⟩) (hg.block gB (blt O1.out) (fun e => NEB.out (Option.some.inj e)))]; exact O1.out)
              replace D := hid (below_own D.out E1.out HG.out hg)
              refine ⟨bex D.out, ?_⟩
              clear hown hor hg hlt E1 E2
              go_wp2_with (at_builtin; refine wp_app_own2 rfl _ _ rfl gE _ ([] : List Int) [x] (some ⟨gB, 0, none⟩) 1 rfl rfl (fun h => by cases h) OA.out (Nat.le_of_lt (by have := (OA.out.blk gA rfl); omega)) (row_at O1.out hxi) (by omega) (by simp) ?_; intro v5 w5 hv5 hg hbk)
              replace D := hid (below_own D.out OA.out HG.out hg)
              have HL := hid (HDD.out.next D.out)
              have HX := hid (HL.out.loop hv5 (fun g h => by have := (HDD.out.own.blk g h).2; have := HG.out; omega) (by have := HDD.out.box.1; have := HG.out; omega) (fun q hq => by
                rcases List.mem_append.1 hq with h | h
                · exact HDD.out.li q (by simp [h])
                · simp at h; subst h; exact hxi) hWW hO hB.2)
              obtain ⟨m2, hm2⟩ : ∃ m2, Hid (m2 = ([] : List Int) ++ [x]) := ⟨_, hid rfl⟩
              have HL2 := hid (show m2.length = l.length by have := HN1.out; have := HM.out; rw [hm2.out]; simp; omega)
              rw [← hm2.out] at HX hv5
              obtain ⟨a6, k6, hv6, _⟩ := hv5.shape
              clear hv5 hg hbk OA O1 HTL
              refine ⟨bex D.out, ?_⟩
              go_wp2_with fail
              refine ⟨bex D.out, ?_⟩
              obtain ⟨x0, x1, x2, x3, x4⟩ := HL.out.box
              subst hv6
              go_wp2_with fail
              go_roundw
              case rel => exact ⟨k', _, _, t', m2, by go_num, by omega, HTT, HL2, HX⟩
              case measure => simp [intOf]
          · go_wp2_with fail
            have h0 := below_alloc v0 (.cells #[.int .i64 x] 3)
            have O1 := hid (show (v0.alloc (.cells #[.int .i64 x] 3)).cell? ⟨v0.heap.size, 0, none⟩ = some (.int .i64 x) by simp)
            replace D := hid (below_next D.out h0)
            refine ⟨bex D.out, ?_⟩
            clear h0
            obtain ⟨gB, hgB⟩ : ∃ g, g = v0.heap.size := ⟨_, rfl⟩
            rw [← hgB] at O1 ⊢
            clear hgB
            generalize v0.alloc (.cells #[.int .i64 x] 3) = vB at *
            go_wp2_with fail
            have h0 := below_alloc vB (.cells #[] 3)
            have E1 := hid (OwnI.made vB)
            have E2 := hid (show vB.heap.size < (vB.alloc (.cells #[] 3)).heap.size by simp)
            have HG := hid (show W1.heap.size ≤ vB.heap.size from D.out.size)
            replace D := hid (below_next D.out h0)
            have hBl := blt O1.out
            replace O1 := hid (show (vB.alloc (.cells #[] 3)).cell? ⟨gB, 0, none⟩ = some (.int .i64 x) by rw [h0.cell (p := ⟨gB, 0, none⟩) hBl]; exact O1.out)
            refine ⟨bex D.out, ?_⟩
            clear h0
            obtain ⟨gE, hgE⟩ : ∃ g, g = vB.heap.size := ⟨_, rfl⟩
            rw [← hgE] at E1 E2 HG ⊢
            have hBl2 : gB < vB.heap.size := hBl
            have NEB := hid (show gB ≠ gE by omega)
            clear hBl hBl2
            clear hgE
            generalize vB.alloc (.cells #[] 3) = vE at *
            go_wp2_with (at_builtin; refine wp_app_clone rfl _ _ rfl gE ([] : List Int) (some ⟨gl, 0, none⟩) 0 rfl rfl E1.out E2.out (fun e => by cases e) (HTL.out.below D.out) (by omega) ?_; intro gA cA vA hor hown hg hlt)
            have OA := hid hown
            replace O1 := hid (show vA.cell? ⟨gB, 0, none⟩ = some (.int .i64 x) by rw [World.cell?_of_block (w := vE) (a := ⟨gB, 0, none⟩) (hg.block gB (blt O1.out) (fun e => NEB.out (Option.some.inj e)))]; exact O1.out)
            replace D := hid (below_own D.out E1.out HG.out hg)
            refine ⟨bex D.out, ?_⟩
            clear hown hor hg hlt E1 E2
            go_wp2_with (at_builtin; refine wp_app_own2 rfl _ _ rfl gE _ ([] : List Int) [x] (some ⟨gB, 0, none⟩) 1 rfl rfl (fun h => by cases h) OA.out (Nat.le_of_lt (by have := (OA.out.blk gA rfl); omega)) (row_at O1.out hxi) (by omega) (by simp) ?_; intro v5 w5 hv5 hg hbk)
            replace D := hid (below_own D.out OA.out HG.out hg)
            have HL := hid (HDD.out.next D.out)
            have HX := hid (HL.out.loop hv5 (fun g h => by have := (HDD.out.own.blk g h).2; have := HG.out; omega) (by have := HDD.out.box.1; have := HG.out; omega) (fun q hq => by
              rcases List.mem_append.1 hq with h | h
              · exact HDD.out.li q (by simp [h])
              · simp at h; subst h; exact hxi) hWW hO hB.2)
            obtain ⟨m2, hm2⟩ : ∃ m2, Hid (m2 = ([] : List Int) ++ [x]) := ⟨_, hid rfl⟩
            have HL2 := hid (show m2.length = l.length by have := HN1.out; have := HM.out; rw [hm2.out]; simp; omega)
            rw [← hm2.out] at HX hv5
            obtain ⟨a6, k6, hv6, _⟩ := hv5.shape
            clear hv5 hg hbk OA O1 HTL
            refine ⟨bex D.out, ?_⟩
            go_wp2_with fail
            refine ⟨bex D.out, ?_⟩
            obtain ⟨x0, x1, x2, x3, x4⟩ := HL.out.box
            subst hv6
            go_wp2_with fail
            go_roundw
            case rel => exact ⟨k', _, _, t', m2, by go_num, by omega, HTT, HL2, HX⟩
            case measure => simp [intOf]
        · have hk22 : 1 < k2 := by omega
          have hN0 : N - 1 = m'.length := by omega
          have HTL := hid (show IntsIn Any W1 (some ⟨gl, 1, none⟩) m' from by
            refine ⟨?_, fun q hq => HD2.li q (by simp [hq])⟩
            rcases hIn.1 with h | ⟨b, o, e, _, h3, h4⟩
            · cases h
            · simp at e
              obtain ⟨rfl, rfl⟩ := e
              refine .inr ⟨gl, 1, rfl, trivial, h3, fun i v hi => ?_⟩
              have := h4 (i + 1) v (by simpa using hi)
              rwa [show 0 + (i + 1) = 1 + i by omega] at this)
          clear hmN hIn HD2
          go_wp2_with fail
          refine wp_region_ord (C := fun wZ => ∃ xZ, wZ = World.over _ xZ) [1,2,3,5,6,7,8] (.two 0 9 (.two 4 9 (.one 9 (.one 10 (.one 11 (.fre 12 .done)))) (.one 4 (.one 10 (.one 11 (.fre 12 .done))))) (.one 0 (.one 4 (.one 10 (.one 11 (.fre 12 .done)))))) [12] (by kernel_rfl) (by kernel_rfl) (fun d _ _ _ _ h => by cases d <;> exact h) (bex (Below.refl _ _).drew) ?_; simp only [pick, List.getElem?_cons_succ, List.getElem?_cons_zero]; (repeat (go_big_quiet_step (fail))); refine wpQuiet_nil ?_; simp only [ordW, pick, List.getElem?_cons_succ, List.getElem?_cons_zero]
          have D := hid (below_d (Below.refl W1.heap.size W1))
          generalize W1.drew = v0 at *
          clear x0 x1 x2 x3 x4 hgc
          constructor
          · go_wp2_with fail
            have h0 := below_alloc v0 (.cells #[] 3)
            have E1 := hid (OwnI.made v0)
            have E2 := hid (show v0.heap.size < (v0.alloc (.cells #[] 3)).heap.size by simp)
            have HG := hid (show W1.heap.size ≤ v0.heap.size from D.out.size)
            replace D := hid (below_next D.out h0)
            refine ⟨bex D.out, ?_⟩
            clear h0
            obtain ⟨gE, hgE⟩ : ∃ g, g = v0.heap.size := ⟨_, rfl⟩
            rw [← hgE] at E1 E2 HG ⊢
            have GgE := hid hgE
            clear hgE
            generalize v0.alloc (.cells #[] 3) = vE at *
            constructor
            · go_wp2_with (at_builtin; refine wp_app_clone rfl _ _ rfl gE m' (some ⟨gl, 1, none⟩) (k2 - 1) rfl rfl E1.out E2.out (fun e => by cases e) (HTL.out.below D.out) (by omega) ?_; intro gA cA vA hor hown hg hlt)
              have OA := hid hown
              replace D := hid (below_own D.out E1.out HG.out hg)
              refine ⟨bex D.out, ?_⟩
              clear hown hor hg hlt E1 E2
              go_wp2_with fail
              have h0 := below_alloc vA (.cells #[.int .i64 x] 3)
              have O1 := hid (show (vA.alloc (.cells #[.int .i64 x] 3)).cell? ⟨vA.heap.size, 0, none⟩ = some (.int .i64 x) by simp)
              replace D := hid (below_next D.out h0)
              replace OA := hid (OA.out.next h0)
              refine ⟨bex D.out, ?_⟩
              clear h0
              obtain ⟨gB, hgB⟩ : ∃ g, g = vA.heap.size := ⟨_, rfl⟩
              rw [← hgB] at O1 ⊢
              clear hgB
              generalize vA.alloc (.cells #[.int .i64 x] 3) = vB at *
              go_wp2_with (at_builtin; refine wp_app_own2 rfl _ _ rfl gE _ m' [x] (some ⟨gB, 0, none⟩) 1 rfl rfl (fun h => by cases h) OA.out (Nat.le_of_lt (by have := (OA.out.blk gA rfl); omega)) (row_at O1.out hxi) (by omega) (by simp) ?_; intro v5 w5 hv5 hg hbk)
              replace D := hid (below_own D.out OA.out HG.out hg)
              have HL := hid (HDD.out.next D.out)
              have HX := hid (HL.out.loop hv5 (fun g h => by have := (HDD.out.own.blk g h).2; have := HG.out; omega) (by have := HDD.out.box.1; have := HG.out; omega) (fun q hq => by
                rcases List.mem_append.1 hq with h | h
                · exact HDD.out.li q (by simp [h])
                · simp at h; subst h; exact hxi) hWW hO hB.2)
              obtain ⟨m2, hm2⟩ : ∃ m2, Hid (m2 = m' ++ [x]) := ⟨_, hid rfl⟩
              have HL2 := hid (show m2.length = l.length by have := HN1.out; have := HM.out; rw [hm2.out]; simp; omega)
              rw [← hm2.out] at HX hv5
              obtain ⟨a6, k6, hv6, _⟩ := hv5.shape
              clear hv5 hg hbk OA O1 HTL
              refine ⟨bex D.out, ?_⟩
              go_wp2_with fail
              refine ⟨bex D.out, ?_⟩
              obtain ⟨x0, x1, x2, x3, x4⟩ := HL.out.box
              subst hv6
              go_wp2_with fail
              go_roundw
              case rel => exact ⟨k', _, _, t', m2, by go_num, by omega, HTT, HL2, HX⟩
              case measure => simp [intOf]
            · go_wp2_with fail
              have h0 := below_alloc vE (.cells #[.int .i64 x] 3)
              have O1 := hid (show (vE.alloc (.cells #[.int .i64 x] 3)).cell? ⟨vE.heap.size, 0, none⟩ = some (.int .i64 x) by simp)
              replace D := hid (below_next D.out h0)
              replace E1 := hid (E1.out.next h0)
              have hEl := E2.out
              replace E2 := hid (Nat.lt_of_lt_of_le E2.out h0.size)
              refine ⟨bex D.out, ?_⟩
              clear h0
              obtain ⟨gB, hgB⟩ : ∃ g, g = vE.heap.size := ⟨_, rfl⟩
              rw [← hgB] at O1 ⊢
              have NEB := hid (show gB ≠ gE by omega)
              clear hEl
              clear hgB
              generalize vE.alloc (.cells #[.int .i64 x] 3) = vB at *
              go_wp2_with (at_builtin; refine wp_app_clone rfl _ _ rfl gE m' (some ⟨gl, 1, none⟩) (k2 - 1) rfl rfl E1.out E2.out (fun e => by cases e) (HTL.out.below D.out) (by omega) ?_; intro gA cA vA hor hown hg hlt)
              have OA := hid hown
              replace O1 := hid (show vA.cell? ⟨gB, 0, none⟩ = some (.int .i64 x) by rw [World.cell?_of_block (w := vB) (a := ⟨gB, 0, none⟩) (hg.block gB (blt O1.out) (fun e => NEB.out (Option.some.inj e)))]; exact O1.out)
              replace D := hid (below_own D.out E1.out HG.out hg)
              refine ⟨bex D.out, ?_⟩
              clear hown hor hg hlt E1 E2
              go_wp2_with (at_builtin; refine wp_app_own2 rfl _ _ rfl gE _ m' [x] (some ⟨gB, 0, none⟩) 1 rfl rfl (fun h => by cases h) OA.out (Nat.le_of_lt (by have := (OA.out.blk gA rfl); omega)) (row_at O1.out hxi) (by omega) (by simp) ?_; intro v5 w5 hv5 hg hbk)
              replace D := hid (below_own D.out OA.out HG.out hg)
              have HL := hid (HDD.out.next D.out)
              have HX := hid (HL.out.loop hv5 (fun g h => by have := (HDD.out.own.blk g h).2; have := HG.out; omega) (by have := HDD.out.box.1; have := HG.out; omega) (fun q hq => by
                rcases List.mem_append.1 hq with h | h
                · exact HDD.out.li q (by simp [h])
                · simp at h; subst h; exact hxi) hWW hO hB.2)
              obtain ⟨m2, hm2⟩ : ∃ m2, Hid (m2 = m' ++ [x]) := ⟨_, hid rfl⟩
              have HL2 := hid (show m2.length = l.length by have := HN1.out; have := HM.out; rw [hm2.out]; simp; omega)
              rw [← hm2.out] at HX hv5
              obtain ⟨a6, k6, hv6, _⟩ := hv5.shape
              clear hv5 hg hbk OA O1 HTL
              refine ⟨bex D.out, ?_⟩
              go_wp2_with fail
              refine ⟨bex D.out, ?_⟩
              obtain ⟨x0, x1, x2, x3, x4⟩ := HL.out.box
              subst hv6
              go_wp2_with fail
              go_roundw
              case rel => exact ⟨k', _, _, t', m2, by go_num, by omega, HTT, HL2, HX⟩
              case measure => simp [intOf]
          · go_wp2_with fail
            have h0 := below_alloc v0 (.cells #[.int .i64 x] 3)
            have O1 := hid (show (v0.alloc (.cells #[.int .i64 x] 3)).cell? ⟨v0.heap.size, 0, none⟩ = some (.int .i64 x) by simp)
            replace D := hid (below_next D.out h0)
            refine ⟨bex D.out, ?_⟩
            clear h0
            obtain ⟨gB, hgB⟩ : ∃ g, g = v0.heap.size := ⟨_, rfl⟩
            rw [← hgB] at O1 ⊢
            clear hgB
            generalize v0.alloc (.cells #[.int .i64 x] 3) = vB at *
            go_wp2_with fail
            have h0 := below_alloc vB (.cells #[] 3)
            have E1 := hid (OwnI.made vB)
            have E2 := hid (show vB.heap.size < (vB.alloc (.cells #[] 3)).heap.size by simp)
            have HG := hid (show W1.heap.size ≤ vB.heap.size from D.out.size)
            replace D := hid (below_next D.out h0)
            have hBl := blt O1.out
            replace O1 := hid (show (vB.alloc (.cells #[] 3)).cell? ⟨gB, 0, none⟩ = some (.int .i64 x) by rw [h0.cell (p := ⟨gB, 0, none⟩) hBl]; exact O1.out)
            refine ⟨bex D.out, ?_⟩
            clear h0
            obtain ⟨gE, hgE⟩ : ∃ g, g = vB.heap.size := ⟨_, rfl⟩
            rw [← hgE] at E1 E2 HG ⊢
            have hBl2 : gB < vB.heap.size := hBl
            have NEB := hid (show gB ≠ gE by omega)
            clear hBl hBl2
            clear hgE
            generalize vB.alloc (.cells #[] 3) = vE at *
            go_wp2_with (at_builtin; refine wp_app_clone rfl _ _ rfl gE m' (some ⟨gl, 1, none⟩) (k2 - 1) rfl rfl E1.out E2.out (fun e => by cases e) (HTL.out.below D.out) (by omega) ?_; intro gA cA vA hor hown hg hlt)
            have OA := hid hown
            replace O1 := hid (show vA.cell? ⟨gB, 0, none⟩ = some (.int .i64 x) by rw [World.cell?_of_block (w := vE) (a := ⟨gB, 0, none⟩) (hg.block gB (blt O1.out) (fun e => NEB.out (Option.some.inj e)))]; exact O1.out)
            replace D := hid (below_own D.out E1.out HG.out hg)
            refine ⟨bex D.out, ?_⟩
            clear hown hor hg hlt E1 E2
            go_wp2_with (at_builtin; refine wp_app_own2 rfl _ _ rfl gE _ m' [x] (some ⟨gB, 0, none⟩) 1 rfl rfl (fun h => by cases h) OA.out (Nat.le_of_lt (by have := (OA.out.blk gA rfl); omega)) (row_at O1.out hxi) (by omega) (by simp) ?_; intro v5 w5 hv5 hg hbk)
            replace D := hid (below_own D.out OA.out HG.out hg)
            have HL := hid (HDD.out.next D.out)
            have HX := hid (HL.out.loop hv5 (fun g h => by have := (HDD.out.own.blk g h).2; have := HG.out; omega) (by have := HDD.out.box.1; have := HG.out; omega) (fun q hq => by
              rcases List.mem_append.1 hq with h | h
              · exact HDD.out.li q (by simp [h])
              · simp at h; subst h; exact hxi) hWW hO hB.2)
            obtain ⟨m2, hm2⟩ : ∃ m2, Hid (m2 = m' ++ [x]) := ⟨_, hid rfl⟩
            have HL2 := hid (show m2.length = l.length by have := HN1.out; have := HM.out; rw [hm2.out]; simp; omega)
            rw [← hm2.out] at HX hv5
            obtain ⟨a6, k6, hv6, _⟩ := hv5.shape
            clear hv5 hg hbk OA O1 HTL
            refine ⟨bex D.out, ?_⟩
            go_wp2_with fail
            refine ⟨bex D.out, ?_⟩
            obtain ⟨x0, x1, x2, x3, x4⟩ := HL.out.box
            subst hv6
            go_wp2_with fail
            go_roundw
            case rel => exact ⟨k', _, _, t', m2, by go_num, by omega, HTT, HL2, HX⟩
            case measure => simp [intOf]

      · obtain rfl : k = 0 := by omega
        clear hrow f2 f3 hglN hgO hO1 e1 e2 e3
        go_wp2_with fail
        refine (pick_any B _ _ R (p + 1) HD.out.rd (by omega) (by omega) (by omega)).mono ?_
        rintro e w2 ⟨i, rfl, _, hb, R2⟩
        have HDD := hid (show RotD w O W0.heap.size R B (p + 1 + 1) (.slice a1 t.length k1) (.slice (some ⟨gl, 0, none⟩) m.length k2) t m w2 from { HD.out with box := boxp_but hb (by omega) HD.out.box, own := HD.out.own.but hb (by omega), own2 := HD.out.own2.but hb (by omega), res := boxp_but hb (by omega) HD.out.res, but := HD.out.but.trans hb, rd := R2 })
        clear HD hb R2
        obtain ⟨x0, x1, x2, x3, x4⟩ := HDD.out.box
        by_cases i0 : i = 0
        · subst i0
          go_wp2_with fail
          refine wp_region_ord (C := fun wZ => ∃ xZ, wZ = World.over _ xZ) [1,2,4,5] (.one 0 (.one 3 (.one 6 (.one 7 (.fre 8 .done))))) [8] (by kernel_rfl) (by kernel_rfl) (fun d _ _ _ _ h => by cases d <;> exact h) (bex (Below.refl _ _).drew) ?_; simp only [pick, List.getElem?_cons_succ, List.getElem?_cons_zero]; (repeat (go_big_quiet_step (fail))); refine wpQuiet_nil ?_; simp only [ordW, pick, List.getElem?_cons_succ, List.getElem?_cons_zero]
          have D := hid (below_d (Below.refl w2.heap.size w2))
          generalize w2.drew = v0 at *
          clear x0 x1 x2 x3 x4
          go_wp2_with fail
          have h0 := below_alloc v0 (.cells #[] 3)
          have E1 := hid (OwnI.made v0)
          have E2 := hid (show v0.heap.size < (v0.alloc (.cells #[] 3)).heap.size by simp)
          have HG := hid (show w2.heap.size ≤ v0.heap.size from D.out.size)
          replace D := hid (below_next D.out h0)
          refine ⟨bex D.out, ?_⟩
          clear h0
          obtain ⟨gE, hgE⟩ : ∃ g, g = v0.heap.size := ⟨_, rfl⟩
          rw [← hgE] at E1 E2 HG ⊢
          have GgE := hid hgE
          clear hgE
          generalize v0.alloc (.cells #[] 3) = vE at *
          go_wp2_with (at_builtin; refine wp_app_clone rfl _ _ rfl gE m (some ⟨gl, 0, none⟩) k2 rfl rfl E1.out E2.out (fun e => by cases e) ((HDD.out.own2.ints2 HDD.out.li).below D.out) (by omega) ?_; intro gA cA vA hor hown hg hlt)
          have OA := hid hown
          replace D := hid (below_own D.out E1.out HG.out hg)
          refine ⟨bex D.out, ?_⟩
          clear hown hor hg hlt E1 E2
          go_wp2_with (at_builtin; refine wp_app_own2 rfl _ _ rfl gE _ m m (some ⟨gl, 0, none⟩) k2 rfl rfl (fun h => by cases h) OA.out (Nat.le_of_lt (by have := (OA.out.blk gA rfl); omega)) ((HDD.out.own2.ints2 HDD.out.li).below D.out) (by omega) (by omega) ?_; intro v5 w5 hv5 hg hbk)
          replace D := hid (below_own D.out OA.out HG.out hg)
          have HL := hid (HDD.out.next D.out)
          have HX := hid (HL.out.loop hv5 (fun g h => by have := (HDD.out.own.blk g h).2; have := HG.out; omega) (by have := HDD.out.box.1; have := HG.out; omega) (fun q hq => by
            rcases List.mem_append.1 hq with h | h
            · exact HDD.out.li q h
            · exact HDD.out.li q h) hWW hO hB.2)
          obtain ⟨m2, hm2⟩ : ∃ m2, Hid (m2 = m ++ m) := ⟨_, hid rfl⟩
          have HL2 := hid (show 1 ≤ m2.length ∧ m2.length ≤ 20 by rw [hm2.out, List.length_append]; omega)
          rw [← hm2.out] at HX hv5
          obtain ⟨a6, k6, hv6, _⟩ := hv5.shape
          clear hv5 hg hbk OA
          refine ⟨bex D.out, ?_⟩
          go_wp2_with fail
          refine ⟨bex D.out, ?_⟩
          obtain ⟨x0, x1, x2, x3, x4⟩ := HL.out.box
          subst hv6
          go_upto_region 9 with fail
          refine wp_gen (fun W => RotD w O W0.heap.size R B (p + 1 + 1) (.slice a1 t.length k1) (.slice a6 m2.length k6) t m2 W) HX.out ?_
          clear HX HL HDD D HG x0 x1 x2 x3 x4
          rintro W1 HD2
          obtain ⟨x0, x1, x2, x3, x4⟩ := HD2.box
          obtain ⟨z0, z1, z2, z3, z4⟩ := HD2.res
          have hf := hid (rot_ret HD2 hWW (by omega) HL2.out.1 HL2.out.2 hB.2 (show p + 1 + 1 ≤ p + 10 by omega))
          have T := hid (boxp_set1 (boxp_set0 HD2.res (.slice a1 t.length k1)) (.slice a6 m2.length k6))
          clear HD2
          go_wp2_with fail
          obtain ⟨_, t0, t1, _, _⟩ := T.out
          refine bodyPost_ret (v := .agg #[.slice a1 t.length k1, .slice a6 m2.length k6]) (by simp [results, Try.results12, go_sem, t0, t1]) rfl ?_
          exact hf.out
        · have i1 : (i == 0) = false := by simpa using i0
          obtain ⟨z0, z1, z2, z3, z4⟩ := HDD.out.res
          have hf := hid (rot_ret HDD.out hWW (by omega) hm1 (by omega) hB.2 (show p + 1 + 1 ≤ p + 10 by omega))
          have T := hid (boxp_set1 (boxp_set0 HDD.out.res (.slice a1 t.length k1)) (.slice (some ⟨gl, 0, none⟩) m.length k2))
          clear HDD
          go_wp2_with fail
          obtain ⟨_, t0, t1, _, _⟩ := T.out
          refine bodyPost_ret (v := .agg #[.slice a1 t.length k1, .slice (some ⟨gl, 0, none⟩) m.length k2]) (by simp [results, Try.results12, go_sem, t0, t1]) rfl ?_
          exact hf.out
end Lasso
end Go.Proofs.Ytkjnmkjdooebmaa
