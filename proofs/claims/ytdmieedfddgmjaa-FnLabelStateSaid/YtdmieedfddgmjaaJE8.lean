/- Joined texts (StMut): contracts and plain laws. Conditions: those of each theorem. -/
import Derived.Test.YtdmieedfddgmjaaJE7
import Derived.Test.YtdmieedfddgmjaaJE2
import Derived.Test.YtdmieedfddgmjaaJE5
import Derived.Test.YtdmieedfddgmjaaJE3
import Derived.Deep.RegionHeld3
import Derived.Deep.DeepCutAuto
import Derived.Deep.CutBlock
set_option linter.unusedVariables false
set_option linter.unusedSimpArgs false
namespace Go.Proofs.Ytdmieedfddgmjaa
open Go.RowKit
open Go.Proofs.Ytdmieedfddgmjaa.State (PairIn)
set_option linter.unusedVariables false
set_option linter.unusedSimpArgs false

/-- nil rows have room for none -/
def NilO (v : Value) : Prop := ∀ a b c d n m, v = .agg #[.slice a n c, .slice b m d] → (a = none → c = 0) ∧ (b = none → d = 0)
/-- what a changed state comes to -/
def StmPost (B K M R p : Nat) (w : World) (e : Ending) (w' : World) : Prop :=
  ∃ v s l p', e = .returned v ∧ PairIn (fun b => w.heap.size + 1 < b) w' s l v ∧ NilO v ∧ s.length ≤ M ∧ l.length ≤ M ∧ But w R w' ∧ Rd B w' R p' ∧ p' ≤ p + K
theorem stm_last {w W : World} {s l : List Int} {R B p K p' M c d : Nat} {a b : Option Addr} (h1 : IntsIn (fun b => w.heap.size + 1 < b) W a s) (h2 : IntsIn (fun b => w.heap.size + 1 < b) W b l) (c1 : s.length ≤ c) (c2 : c ≤ maxLen) (d1 : l.length ≤ d) (d2 : d ≤ maxLen) (n1 : a = none → c = 0) (n2 : b = none → d = 0)
    (hb : But w R W) (hr : Rd B W R p') (hB : B ≤ w.heap.size) (m1 : s.length ≤ M) (m2 : l.length ≤ M) (u1 u2 : Value) (hp : p' ≤ p + K) :
    StmPost B K M R p w (.returned (.agg #[.slice a s.length c, .slice b l.length d])) ((W.setCell ⟨w.heap.size + 1, 0, none⟩ u1).setCell ⟨w.heap.size + 1, 1, none⟩ u2) := by
  have hk : ∀ b, w.heap.size + 1 < b → ((W.setCell ⟨w.heap.size + 1, 0, none⟩ u1).setCell ⟨w.heap.size + 1, 1, none⟩ u2).heap[b]? = W.heap[b]? := fun b hb =>
    (Below.heap_setCell _ _ _ _ (show b ≠ w.heap.size + 1 by omega)).trans (Below.heap_setCell _ _ _ _ (show b ≠ w.heap.size + 1 by omega))
  exact ⟨_, s, l, p', rfl, ⟨a, b, c, d, rfl, h1.frame (by simp) (fun b hb _ => ⟨hb, hk b hb⟩), h2.frame (by simp) (fun b hb _ => ⟨hb, hk b hb⟩), c1, c2, d1, d2⟩, fun a' b' c' d' n m he => by simp at he; obtain ⟨⟨rfl, _, rfl⟩, rfl, _, rfl⟩ := he; exact ⟨n1, n2⟩, m1, m2,
    But.setNew (But.setNew hb (show w.heap.size ≤ w.heap.size + 1 by omega) _) (show w.heap.size ≤ w.heap.size + 1 by omega) _, (hr.set (show B ≤ w.heap.size + 1 by omega) _).set (show B ≤ w.heap.size + 1 by omega) _, hp⟩
theorem ints_set {p : Nat → Prop} {w : World} {g q : Nat} {l : List Int} {n : Int} (h : IntsIn p w (some ⟨g, 0, none⟩) l) (hq : q < l.length) (hn : i64 n) : IntsIn p (w.setCell ⟨g, q, none⟩ (.int .i64 n)) (some ⟨g, 0, none⟩) (l.set q n) := by
  obtain ⟨h1 | ⟨b, o, he, h2, h3, h4⟩, h5⟩ := h
  · simp at h1; subst h1; simp at hq
  · simp at he
    obtain ⟨rfl, rfl⟩ := he
    have hold := h4 q _ (by rw [List.getElem?_map, List.getElem?_eq_getElem hq]; rfl)
    rw [Nat.zero_add] at hold
    refine ⟨.inr ⟨g, 0, rfl, h2, by simpa using h3, fun i v hv => ?_⟩, fun m hm => ?_⟩
    · rw [Nat.zero_add]
      rw [List.getElem?_map, List.getElem?_set] at hv
      by_cases e : q = i
      · subst e
        simp [hq] at hv
        subst hv
        exact World.cell?_setCell_same _ _ _ hold
      · rw [if_neg e] at hv
        have := h4 i v (by rw [List.getElem?_map]; exact hv)
        rw [Nat.zero_add] at this
        rw [World.cell?_setCell_other _ _ _ _ (by simp [e])]
        exact this
    · rcases List.mem_or_eq_of_mem_set hm with h | h
      · exact h5 m h
      · subst h; exact hn

theorem num_later (ns : List Int) (lo hi : Int) (hn : ∀ n ∈ ns, lo ≤ n ∧ n ≤ hi) (h0 : 0 < ns.length) (h1 : ns.length ≤ 100) (B0 : Nat) (w w' : World) (t : TypeId) (R p : Nat) (hb : But (w.alloc (.cells (ns.map (Value.int .i64)).toArray t)) R w') (hr : Rd B0 w' R p) (hp : p ≤ 1000000) (hR : R < w.heap.size) :
    Calls Try.prog 44 #[.pointer (some ⟨R, 0, none⟩), .slice (some ⟨w.heap.size, 0, none⟩) ns.length ns.length] w' (NumPost B0 lo hi R p w') := by
  have hs := hb.size
  simp at hs
  refine num_any B0 lo hi _ R p w.heap.size ns.length (fun i => ns.getD i 0) hr hp h0 h1 (by omega) (by omega) fun i hi => ?_
  have e : ns[i]? = some (ns.getD i 0) := by rw [List.getD_eq_getElem?_getD, List.getElem?_eq_getElem hi]; rfl
  refine ⟨?_, hn _ (List.mem_of_getElem? e)⟩
  rw [hb.cell (b := w.heap.size) (o := i) (by simp) (show w.heap.size ≠ R by omega), World.cell?_alloc_new]
  rw [List.getElem?_toArray, List.getElem?_map, e]
  rfl

set_option maxRecDepth 100000 in
set_option maxHeartbeats 4000000 in
theorem mutSt_any (w : World) (R B p : Nat) (s l : List Int) (x : Value) (hx : PairIn Any w s l x) (hn : NilO x) (h1 : s.length ≤ 20) (h2 : l.length ≤ 20) (hr : Rd B w R p) (hp : p + 100 ≤ 1000000) : Calls Try.prog 29 #[.pointer (some ⟨R, 0, none⟩), x] w (StmPost B 100 90 R p w) := by
  have hB := hr.lt
  obtain ⟨a, b, c, d, rfl, hi1, hi2, c1, c2, d1, d2⟩ := hx
  obtain ⟨n1, n2⟩ := hn _ _ _ _ _ _ rfl
  have I1 := hid hi1
  have I2 := hid hi2
  clear hn hi1 hi2
  go_enter Try.func29, Try.ntmps29
  go_upto_region 1 with fail
  refine wp_gen (fun W => Below w.heap.size w W ∧ BoxP W w.heap.size (.slice a s.length c) (.slice b l.length d) ∧ BoxP W (w.heap.size + 1) (.slice none 0 0) (.slice none 0 0) ∧ w.heap.size + 2 = W.heap.size) ⟨(by repeat (first | exact Below.refl _ _ | assumption | refine below_a ?_ _ | refine below_o ?_ _ | refine below_d ?_ | refine below_n ?_ _ | refine below_s ?_ (by first | (simp; done) | (simp; omega) | omega) _)), boxp_next (below_alloc _ _) (boxp_at rfl), boxp_at (by simp), by simp⟩ ?_
  rintro W0 ⟨B0, P0, Z0, hs0⟩
  have HB0 := hid B0
  have HP0 := hid P0
  have HZ0 := hid Z0
  have HI1 := hid (fun (W : World) (M : Below W0.heap.size W0 W) => (I1.out.below B0).below M)
  have HI2 := hid (fun (W : World) (M : Below W0.heap.size W0 W) => (I2.out.below B0).below M)
  clear B0 Z0
  go_cut [5] (fun s5 wx => ∃ O vs vl, s5 = .pointer (some ⟨O, 0, none⟩) ∧ Hid (Cl2 W0 s l O vs vl wx))
  case first =>
    obtain ⟨p0, p1, p2, p3, p4⟩ := P0
    refine wp_region_ord (C := fun wZ => ∃ xZ, wZ = World.over _ xZ) [1,2,5,6] (.thr 0 4 9 (.thr 3 4 9 (.two 4 9 (.two 7 9 (.two 8 9 (.one 9 (.fre 10 .done)) (.one 8 (.fre 10 .done))) (.one 7 (.one 8 (.fre 10 .done)))) (.one 4 (.one 7 (.one 8 (.fre 10 .done))))) (.two 3 9 (.two 7 9 (.two 8 9 (.one 9 (.fre 10 .done)) (.one 8 (.fre 10 .done))) (.one 7 (.one 8 (.fre 10 .done)))) (.one 3 (.one 7 (.one 8 (.fre 10 .done))))) (.two 3 4 (.one 4 (.one 7 (.one 8 (.fre 10 .done)))) (.one 3 (.one 7 (.one 8 (.fre 10 .done)))))) (.two 0 9 (.two 3 9 (.two 7 9 (.two 8 9 (.one 9 (.fre 10 .done)) (.one 8 (.fre 10 .done))) (.one 7 (.one 8 (.fre 10 .done)))) (.one 3 (.one 7 (.one 8 (.fre 10 .done))))) (.one 0 (.one 3 (.one 7 (.one 8 (.fre 10 .done)))))) (.two 0 4 (.two 3 4 (.one 4 (.one 7 (.one 8 (.fre 10 .done)))) (.one 3 (.one 7 (.one 8 (.fre 10 .done))))) (.one 0 (.one 3 (.one 7 (.one 8 (.fre 10 .done))))))) [10] (by kernel_rfl) (by kernel_rfl) (fun d _ _ _ _ h => by cases d <;> exact h) (bex (Below.refl _ _).drew) ?_
    simp only [pick, List.getElem?_cons_succ, List.getElem?_cons_zero]
    (repeat (go_big_quiet_step (fail)))
    refine wpQuiet_nil ?_
    have C := hid (below_d (Below.refl W0.heap.size W0))
    have lW := hid (show W0.heap.size ≤ W0.drew.heap.size from Nat.le_refl _)
    generalize W0.drew = v0 at *
    rw [ordW_thr]
    simp only [pick, List.getElem?_cons_succ, List.getElem?_cons_zero]
    refine ⟨?_, ?_, ?_⟩
    · go_wp2_with fail
      have h0 := below_alloc v0 (.cells #[] 3)
      replace C := hid (below_next C.out h0)
      have l1 := hid (show v0.heap.size < (v0.alloc (.cells #[] 3)).heap.size by simp)
      have g1 := hid (show W0.heap.size ≤ v0.heap.size from lW.out)
      replace lW := hid (Nat.le_trans lW.out h0.size)
      have M1 := hid (OwnI.made v0)
      refine ⟨bex C.out, ?_⟩
      clear h0
      generalize v0.alloc (.cells #[] 3) = v1 at *
      rw [ordW_thr]
      simp only [pick, List.getElem?_cons_succ, List.getElem?_cons_zero]
      refine ⟨?_, ?_, ?_⟩
      · go_wp2_with (at_builtin; refine wp_app_clone rfl _ _ rfl (v0.heap.size) s a c rfl rfl M1.out l1.out n1 (HI1.out _ C.out) (by omega) ?_; intro k1 cc1 v2 hor hown hg hlt)
        have D1 := hid hown
        replace C := hid (below_own C.out M1.out g1.out hg)
        have gk := hid (show W0.heap.size ≤ k1 by rcases hor with rfl | rfl; exact g1.out; exact lW.out)
        clear l1
        have l1 := hid hlt
        replace lW := hid (Nat.le_trans lW.out hg.size)
        clear M1 hor hown hlt hg gk
        go_wp2_with fail
        refine ⟨bex C.out, ?_⟩
        rw [ordW_two]
        simp only [pick, List.getElem?_cons_succ, List.getElem?_cons_zero]
        refine ⟨?_, ?_⟩
        · go_wp2_with fail
          have h0 := below_alloc v2 (.cells #[] 3)
          replace D1 := hid (D1.out.next h0)
          replace C := hid (below_next C.out h0)
          have n12 := hid (show k1 ≠ v2.heap.size by have := l1.out; omega)
          replace l1 := hid (Nat.lt_of_lt_of_le l1.out h0.size)
          have l2 := hid (show v2.heap.size < (v2.alloc (.cells #[] 3)).heap.size by simp)
          have g2 := hid (show W0.heap.size ≤ v2.heap.size from lW.out)
          replace lW := hid (Nat.le_trans lW.out h0.size)
          have M2 := hid (OwnI.made v2)
          refine ⟨bex C.out, ?_⟩
          clear h0
          generalize v2.alloc (.cells #[] 3) = v3 at *
          rw [ordW_two]
          simp only [pick, List.getElem?_cons_succ, List.getElem?_cons_zero]
          refine ⟨?_, ?_⟩
          · go_wp2_with (at_builtin; refine wp_app_clone rfl _ _ rfl (v2.heap.size) l b d rfl rfl M2.out l2.out n2 (HI2.out _ C.out) (by omega) ?_; intro k2 cc2 v4 hor hown hg hlt)
            have D2 := hid hown
            replace C := hid (below_own C.out M2.out g2.out hg)
            replace D1 := hid (D1.out.grow hg (by first | exact n12.out | exact Ne.symm n21.out))
            have m21 := hid (show k2 ≠ k1 by rcases hor with rfl | rfl; (first | exact Ne.symm n12.out | exact n21.out); (have := l1.out; omega))
            replace l1 := hid (Nat.lt_of_lt_of_le l1.out hg.size)
            have gk := hid (show W0.heap.size ≤ k2 by rcases hor with rfl | rfl; exact g2.out; exact lW.out)
            clear l2
            have l2 := hid hlt
            replace lW := hid (Nat.le_trans lW.out hg.size)
            (first | clear n12 | clear n21); have n21 := hid m21.out; clear m21
            clear M2 hor hown hlt hg gk
            go_wp2_with fail
            refine ⟨bex C.out, ?_⟩
            rw [ordW_two]
            simp only [pick, List.getElem?_cons_succ, List.getElem?_cons_zero]
            refine ⟨?_, ?_⟩
            · go_wp2_with fail
              refine ⟨bex C.out, ?_⟩
              rw [ordW_one]
              simp only [pick, List.getElem?_cons_succ, List.getElem?_cons_zero]
              go_wp2_with fail
              have h0 := below_alloc v4 (.cells #[.slice none 0 0, .slice none 0 0] 30)
              replace D1 := hid (D1.out.next h0)
              replace D2 := hid (D2.out.next h0)
              replace C := hid (below_next C.out h0)
              have n1O := hid (show k1 ≠ v4.heap.size by have := l1.out; omega)
              have n2O := hid (show k2 ≠ v4.heap.size by have := l2.out; omega)
              replace l1 := hid (Nat.lt_of_lt_of_le l1.out h0.size)
              replace l2 := hid (Nat.lt_of_lt_of_le l2.out h0.size)
              have lO := hid (show v4.heap.size < (v4.alloc (.cells #[.slice none 0 0, .slice none 0 0] 30)).heap.size by simp)
              have gO := hid (show W0.heap.size ≤ v4.heap.size from lW.out)
              replace lW := hid (Nat.le_trans lW.out h0.size)
              have X := hid (boxp_at (w := v4) (B := v4.heap.size) (a := .slice none 0 0) (b := .slice none 0 0) (t := 30) rfl)
              refine ⟨bex C.out, ?_⟩
              clear h0
              generalize v4.alloc (.cells #[.slice none 0 0, .slice none 0 0] 30) = v5 at *
              rw [ordW_fre]
              simp only [pick, List.getElem?_cons_succ, List.getElem?_cons_zero]
              obtain ⟨x0, x1, x2, x3, x4⟩ := id X.out
              have hC := Cl2.mk2 D1.out D2.out X.out g1.out g2.out gO.out (by first | exact n1O.out | exact Ne.symm nO1.out) (by first | exact n2O.out | exact Ne.symm nO2.out) (by first | exact n12.out | exact Ne.symm n21.out) C.out
              have HC := hid hC
              clear hC
              go_wp2_with fail
              rw [ordW_done]
              go_wp2_with fail
              go_meet
              exact ⟨_, _, _, rfl, hid (HC.out)⟩
            · go_wp2_with fail
              have h0 := below_alloc v4 (.cells #[.slice none 0 0, .slice none 0 0] 30)
              replace D1 := hid (D1.out.next h0)
              replace D2 := hid (D2.out.next h0)
              replace C := hid (below_next C.out h0)
              have n1O := hid (show k1 ≠ v4.heap.size by have := l1.out; omega)
              have n2O := hid (show k2 ≠ v4.heap.size by have := l2.out; omega)
              replace l1 := hid (Nat.lt_of_lt_of_le l1.out h0.size)
              replace l2 := hid (Nat.lt_of_lt_of_le l2.out h0.size)
              have lO := hid (show v4.heap.size < (v4.alloc (.cells #[.slice none 0 0, .slice none 0 0] 30)).heap.size by simp)
              have gO := hid (show W0.heap.size ≤ v4.heap.size from lW.out)
              replace lW := hid (Nat.le_trans lW.out h0.size)
              have X := hid (boxp_at (w := v4) (B := v4.heap.size) (a := .slice none 0 0) (b := .slice none 0 0) (t := 30) rfl)
              refine ⟨bex C.out, ?_⟩
              clear h0
              generalize v4.alloc (.cells #[.slice none 0 0, .slice none 0 0] 30) = v6 at *
              rw [ordW_one]
              simp only [pick, List.getElem?_cons_succ, List.getElem?_cons_zero]
              go_wp2_with fail
              refine ⟨bex C.out, ?_⟩
              rw [ordW_fre]
              simp only [pick, List.getElem?_cons_succ, List.getElem?_cons_zero]
              obtain ⟨x0, x1, x2, x3, x4⟩ := id X.out
              have hC := Cl2.mk2 D1.out D2.out X.out g1.out g2.out gO.out (by first | exact n1O.out | exact Ne.symm nO1.out) (by first | exact n2O.out | exact Ne.symm nO2.out) (by first | exact n12.out | exact Ne.symm n21.out) C.out
              have HC := hid hC
              clear hC
              go_wp2_with fail
              rw [ordW_done]
              go_wp2_with fail
              go_meet
              exact ⟨_, _, _, rfl, hid (HC.out)⟩
          · go_wp2_with fail
            have h0 := below_alloc v3 (.cells #[.slice none 0 0, .slice none 0 0] 30)
            replace D1 := hid (D1.out.next h0)
            replace M2 := hid (M2.out.next h0)
            replace C := hid (below_next C.out h0)
            have n1O := hid (show k1 ≠ v3.heap.size by have := l1.out; omega)
            have n2O := hid (show v2.heap.size ≠ v3.heap.size by have := l2.out; omega)
            replace l1 := hid (Nat.lt_of_lt_of_le l1.out h0.size)
            replace l2 := hid (Nat.lt_of_lt_of_le l2.out h0.size)
            have lO := hid (show v3.heap.size < (v3.alloc (.cells #[.slice none 0 0, .slice none 0 0] 30)).heap.size by simp)
            have gO := hid (show W0.heap.size ≤ v3.heap.size from lW.out)
            replace lW := hid (Nat.le_trans lW.out h0.size)
            have X := hid (boxp_at (w := v3) (B := v3.heap.size) (a := .slice none 0 0) (b := .slice none 0 0) (t := 30) rfl)
            refine ⟨bex C.out, ?_⟩
            clear h0
            generalize v3.alloc (.cells #[.slice none 0 0, .slice none 0 0] 30) = v7 at *
            rw [ordW_one]
            simp only [pick, List.getElem?_cons_succ, List.getElem?_cons_zero]
            go_wp2_with (at_builtin; refine wp_app_clone rfl _ _ rfl (v2.heap.size) l b d rfl rfl M2.out l2.out n2 (HI2.out _ C.out) (by omega) ?_; intro k2 cc2 v8 hor hown hg hlt)
            have D2 := hid hown
            replace C := hid (below_own C.out M2.out g2.out hg)
            replace D1 := hid (D1.out.grow hg (by first | exact n12.out | exact Ne.symm n21.out))
            replace X := hid (boxp_grown hg (by first | exact nO2.out | exact Ne.symm n2O.out) X.out)
            have m21 := hid (show k2 ≠ k1 by rcases hor with rfl | rfl; (first | exact Ne.symm n12.out | exact n21.out); (have := l1.out; omega))
            have m2O := hid (show k2 ≠ v3.heap.size by rcases hor with rfl | rfl; (first | exact Ne.symm nO2.out | exact n2O.out); (have := lO.out; omega))
            replace l1 := hid (Nat.lt_of_lt_of_le l1.out hg.size)
            replace lO := hid (Nat.lt_of_lt_of_le lO.out hg.size)
            have gk := hid (show W0.heap.size ≤ k2 by rcases hor with rfl | rfl; exact g2.out; exact lW.out)
            clear l2
            have l2 := hid hlt
            replace lW := hid (Nat.le_trans lW.out hg.size)
            (first | clear n12 | clear n21); have n21 := hid m21.out; clear m21
            (first | clear nO2 | clear n2O); have n2O := hid m2O.out; clear m2O
            clear M2 hor hown hlt hg gk
            go_wp2_with fail
            refine ⟨bex C.out, ?_⟩
            rw [ordW_one]
            simp only [pick, List.getElem?_cons_succ, List.getElem?_cons_zero]
            go_wp2_with fail
            refine ⟨bex C.out, ?_⟩
            rw [ordW_fre]
            simp only [pick, List.getElem?_cons_succ, List.getElem?_cons_zero]
            obtain ⟨x0, x1, x2, x3, x4⟩ := id X.out
            have hC := Cl2.mk2 D1.out D2.out X.out g1.out g2.out gO.out (by first | exact n1O.out | exact Ne.symm nO1.out) (by first | exact n2O.out | exact Ne.symm nO2.out) (by first | exact n12.out | exact Ne.symm n21.out) C.out
            have HC := hid hC
            clear hC
            go_wp2_with fail
            rw [ordW_done]
            go_wp2_with fail
            go_meet
            exact ⟨_, _, _, rfl, hid (HC.out)⟩
        · go_wp2_with fail
          have h0 := below_alloc v2 (.cells #[.slice none 0 0, .slice none 0 0] 30)
          replace D1 := hid (D1.out.next h0)
          replace C := hid (below_next C.out h0)
          have n1O := hid (show k1 ≠ v2.heap.size by have := l1.out; omega)
          replace l1 := hid (Nat.lt_of_lt_of_le l1.out h0.size)
          have lO := hid (show v2.heap.size < (v2.alloc (.cells #[.slice none 0 0, .slice none 0 0] 30)).heap.size by simp)
          have gO := hid (show W0.heap.size ≤ v2.heap.size from lW.out)
          replace lW := hid (Nat.le_trans lW.out h0.size)
          have X := hid (boxp_at (w := v2) (B := v2.heap.size) (a := .slice none 0 0) (b := .slice none 0 0) (t := 30) rfl)
          refine ⟨bex C.out, ?_⟩
          clear h0
          generalize v2.alloc (.cells #[.slice none 0 0, .slice none 0 0] 30) = v9 at *
          rw [ordW_one]
          simp only [pick, List.getElem?_cons_succ, List.getElem?_cons_zero]
          go_wp2_with fail
          have h0 := below_alloc v9 (.cells #[] 3)
          replace D1 := hid (D1.out.next h0)
          replace X := hid (boxp_next h0 X.out)
          replace C := hid (below_next C.out h0)
          have n12 := hid (show k1 ≠ v9.heap.size by have := l1.out; omega)
          have nO2 := hid (show v2.heap.size ≠ v9.heap.size by have := lO.out; omega)
          replace l1 := hid (Nat.lt_of_lt_of_le l1.out h0.size)
          replace lO := hid (Nat.lt_of_lt_of_le lO.out h0.size)
          have l2 := hid (show v9.heap.size < (v9.alloc (.cells #[] 3)).heap.size by simp)
          have g2 := hid (show W0.heap.size ≤ v9.heap.size from lW.out)
          replace lW := hid (Nat.le_trans lW.out h0.size)
          have M2 := hid (OwnI.made v9)
          refine ⟨bex C.out, ?_⟩
          clear h0
          generalize v9.alloc (.cells #[] 3) = v10 at *
          rw [ordW_one]
          simp only [pick, List.getElem?_cons_succ, List.getElem?_cons_zero]
          go_wp2_with (at_builtin; refine wp_app_clone rfl _ _ rfl (v9.heap.size) l b d rfl rfl M2.out l2.out n2 (HI2.out _ C.out) (by omega) ?_; intro k2 cc2 v11 hor hown hg hlt)
          have D2 := hid hown
          replace C := hid (below_own C.out M2.out g2.out hg)
          replace D1 := hid (D1.out.grow hg (by first | exact n12.out | exact Ne.symm n21.out))
          replace X := hid (boxp_grown hg (by first | exact nO2.out | exact Ne.symm n2O.out) X.out)
          have m21 := hid (show k2 ≠ k1 by rcases hor with rfl | rfl; (first | exact Ne.symm n12.out | exact n21.out); (have := l1.out; omega))
          have m2O := hid (show k2 ≠ v2.heap.size by rcases hor with rfl | rfl; (first | exact Ne.symm nO2.out | exact n2O.out); (have := lO.out; omega))
          replace l1 := hid (Nat.lt_of_lt_of_le l1.out hg.size)
          replace lO := hid (Nat.lt_of_lt_of_le lO.out hg.size)
          have gk := hid (show W0.heap.size ≤ k2 by rcases hor with rfl | rfl; exact g2.out; exact lW.out)
          clear l2
          have l2 := hid hlt
          replace lW := hid (Nat.le_trans lW.out hg.size)
          (first | clear n12 | clear n21); have n21 := hid m21.out; clear m21
          (first | clear nO2 | clear n2O); have n2O := hid m2O.out; clear m2O
          clear M2 hor hown hlt hg gk
          go_wp2_with fail
          refine ⟨bex C.out, ?_⟩
          rw [ordW_one]
          simp only [pick, List.getElem?_cons_succ, List.getElem?_cons_zero]
          go_wp2_with fail
          refine ⟨bex C.out, ?_⟩
          rw [ordW_fre]
          simp only [pick, List.getElem?_cons_succ, List.getElem?_cons_zero]
          obtain ⟨x0, x1, x2, x3, x4⟩ := id X.out
          have hC := Cl2.mk2 D1.out D2.out X.out g1.out g2.out gO.out (by first | exact n1O.out | exact Ne.symm nO1.out) (by first | exact n2O.out | exact Ne.symm nO2.out) (by first | exact n12.out | exact Ne.symm n21.out) C.out
          have HC := hid hC
          clear hC
          go_wp2_with fail
          rw [ordW_done]
          go_wp2_with fail
          go_meet
          exact ⟨_, _, _, rfl, hid (HC.out)⟩
      · go_wp2_with fail
        have h0 := below_alloc v1 (.cells #[] 3)
        replace M1 := hid (M1.out.next h0)
        replace C := hid (below_next C.out h0)
        have n12 := hid (show v0.heap.size ≠ v1.heap.size by have := l1.out; omega)
        replace l1 := hid (Nat.lt_of_lt_of_le l1.out h0.size)
        have l2 := hid (show v1.heap.size < (v1.alloc (.cells #[] 3)).heap.size by simp)
        have g2 := hid (show W0.heap.size ≤ v1.heap.size from lW.out)
        replace lW := hid (Nat.le_trans lW.out h0.size)
        have M2 := hid (OwnI.made v1)
        refine ⟨bex C.out, ?_⟩
        clear h0
        generalize v1.alloc (.cells #[] 3) = v12 at *
        rw [ordW_two]
        simp only [pick, List.getElem?_cons_succ, List.getElem?_cons_zero]
        refine ⟨?_, ?_⟩
        · go_wp2_with (at_builtin; refine wp_app_clone rfl _ _ rfl (v0.heap.size) s a c rfl rfl M1.out l1.out n1 (HI1.out _ C.out) (by omega) ?_; intro k1 cc1 v13 hor hown hg hlt)
          have D1 := hid hown
          replace C := hid (below_own C.out M1.out g1.out hg)
          replace M2 := hid (M2.out.grow hg (by first | exact n21.out | exact Ne.symm n12.out))
          have m12 := hid (show k1 ≠ v1.heap.size by rcases hor with rfl | rfl; (first | exact Ne.symm n21.out | exact n12.out); (have := l2.out; omega))
          replace l2 := hid (Nat.lt_of_lt_of_le l2.out hg.size)
          have gk := hid (show W0.heap.size ≤ k1 by rcases hor with rfl | rfl; exact g1.out; exact lW.out)
          clear l1
          have l1 := hid hlt
          replace lW := hid (Nat.le_trans lW.out hg.size)
          (first | clear n21 | clear n12); have n12 := hid m12.out; clear m12
          clear M1 hor hown hlt hg gk
          go_wp2_with fail
          refine ⟨bex C.out, ?_⟩
          rw [ordW_two]
          simp only [pick, List.getElem?_cons_succ, List.getElem?_cons_zero]
          refine ⟨?_, ?_⟩
          · go_wp2_with (at_builtin; refine wp_app_clone rfl _ _ rfl (v1.heap.size) l b d rfl rfl M2.out l2.out n2 (HI2.out _ C.out) (by omega) ?_; intro k2 cc2 v14 hor hown hg hlt)
            have D2 := hid hown
            replace C := hid (below_own C.out M2.out g2.out hg)
            replace D1 := hid (D1.out.grow hg (by first | exact n12.out | exact Ne.symm n21.out))
            have m21 := hid (show k2 ≠ k1 by rcases hor with rfl | rfl; (first | exact Ne.symm n12.out | exact n21.out); (have := l1.out; omega))
            replace l1 := hid (Nat.lt_of_lt_of_le l1.out hg.size)
            have gk := hid (show W0.heap.size ≤ k2 by rcases hor with rfl | rfl; exact g2.out; exact lW.out)
            clear l2
            have l2 := hid hlt
            replace lW := hid (Nat.le_trans lW.out hg.size)
            (first | clear n12 | clear n21); have n21 := hid m21.out; clear m21
            clear M2 hor hown hlt hg gk
            go_wp2_with fail
            refine ⟨bex C.out, ?_⟩
            rw [ordW_two]
            simp only [pick, List.getElem?_cons_succ, List.getElem?_cons_zero]
            refine ⟨?_, ?_⟩
            · go_wp2_with fail
              refine ⟨bex C.out, ?_⟩
              rw [ordW_one]
              simp only [pick, List.getElem?_cons_succ, List.getElem?_cons_zero]
              go_wp2_with fail
              have h0 := below_alloc v14 (.cells #[.slice none 0 0, .slice none 0 0] 30)
              replace D1 := hid (D1.out.next h0)
              replace D2 := hid (D2.out.next h0)
              replace C := hid (below_next C.out h0)
              have n1O := hid (show k1 ≠ v14.heap.size by have := l1.out; omega)
              have n2O := hid (show k2 ≠ v14.heap.size by have := l2.out; omega)
              replace l1 := hid (Nat.lt_of_lt_of_le l1.out h0.size)
              replace l2 := hid (Nat.lt_of_lt_of_le l2.out h0.size)
              have lO := hid (show v14.heap.size < (v14.alloc (.cells #[.slice none 0 0, .slice none 0 0] 30)).heap.size by simp)
              have gO := hid (show W0.heap.size ≤ v14.heap.size from lW.out)
              replace lW := hid (Nat.le_trans lW.out h0.size)
              have X := hid (boxp_at (w := v14) (B := v14.heap.size) (a := .slice none 0 0) (b := .slice none 0 0) (t := 30) rfl)
              refine ⟨bex C.out, ?_⟩
              clear h0
              generalize v14.alloc (.cells #[.slice none 0 0, .slice none 0 0] 30) = v15 at *
              rw [ordW_fre]
              simp only [pick, List.getElem?_cons_succ, List.getElem?_cons_zero]
              obtain ⟨x0, x1, x2, x3, x4⟩ := id X.out
              have hC := Cl2.mk2 D1.out D2.out X.out g1.out g2.out gO.out (by first | exact n1O.out | exact Ne.symm nO1.out) (by first | exact n2O.out | exact Ne.symm nO2.out) (by first | exact n12.out | exact Ne.symm n21.out) C.out
              have HC := hid hC
              clear hC
              go_wp2_with fail
              rw [ordW_done]
              go_wp2_with fail
              go_meet
              exact ⟨_, _, _, rfl, hid (HC.out)⟩
            · go_wp2_with fail
              have h0 := below_alloc v14 (.cells #[.slice none 0 0, .slice none 0 0] 30)
              replace D1 := hid (D1.out.next h0)
              replace D2 := hid (D2.out.next h0)
              replace C := hid (below_next C.out h0)
              have n1O := hid (show k1 ≠ v14.heap.size by have := l1.out; omega)
              have n2O := hid (show k2 ≠ v14.heap.size by have := l2.out; omega)
              replace l1 := hid (Nat.lt_of_lt_of_le l1.out h0.size)
              replace l2 := hid (Nat.lt_of_lt_of_le l2.out h0.size)
              have lO := hid (show v14.heap.size < (v14.alloc (.cells #[.slice none 0 0, .slice none 0 0] 30)).heap.size by simp)
              have gO := hid (show W0.heap.size ≤ v14.heap.size from lW.out)
              replace lW := hid (Nat.le_trans lW.out h0.size)
              have X := hid (boxp_at (w := v14) (B := v14.heap.size) (a := .slice none 0 0) (b := .slice none 0 0) (t := 30) rfl)
              refine ⟨bex C.out, ?_⟩
              clear h0
              generalize v14.alloc (.cells #[.slice none 0 0, .slice none 0 0] 30) = v16 at *
              rw [ordW_one]
              simp only [pick, List.getElem?_cons_succ, List.getElem?_cons_zero]
              go_wp2_with fail
              refine ⟨bex C.out, ?_⟩
              rw [ordW_fre]
              simp only [pick, List.getElem?_cons_succ, List.getElem?_cons_zero]
              obtain ⟨x0, x1, x2, x3, x4⟩ := id X.out
              have hC := Cl2.mk2 D1.out D2.out X.out g1.out g2.out gO.out (by first | exact n1O.out | exact Ne.symm nO1.out) (by first | exact n2O.out | exact Ne.symm nO2.out) (by first | exact n12.out | exact Ne.symm n21.out) C.out
              have HC := hid hC
              clear hC
              go_wp2_with fail
              rw [ordW_done]
              go_wp2_with fail
              go_meet
              exact ⟨_, _, _, rfl, hid (HC.out)⟩
          · go_wp2_with fail
            have h0 := below_alloc v13 (.cells #[.slice none 0 0, .slice none 0 0] 30)
            replace M2 := hid (M2.out.next h0)
            replace D1 := hid (D1.out.next h0)
            replace C := hid (below_next C.out h0)
            have n1O := hid (show k1 ≠ v13.heap.size by have := l1.out; omega)
            have n2O := hid (show v1.heap.size ≠ v13.heap.size by have := l2.out; omega)
            replace l1 := hid (Nat.lt_of_lt_of_le l1.out h0.size)
            replace l2 := hid (Nat.lt_of_lt_of_le l2.out h0.size)
            have lO := hid (show v13.heap.size < (v13.alloc (.cells #[.slice none 0 0, .slice none 0 0] 30)).heap.size by simp)
            have gO := hid (show W0.heap.size ≤ v13.heap.size from lW.out)
            replace lW := hid (Nat.le_trans lW.out h0.size)
            have X := hid (boxp_at (w := v13) (B := v13.heap.size) (a := .slice none 0 0) (b := .slice none 0 0) (t := 30) rfl)
            refine ⟨bex C.out, ?_⟩
            clear h0
            generalize v13.alloc (.cells #[.slice none 0 0, .slice none 0 0] 30) = v17 at *
            rw [ordW_one]
            simp only [pick, List.getElem?_cons_succ, List.getElem?_cons_zero]
            go_wp2_with (at_builtin; refine wp_app_clone rfl _ _ rfl (v1.heap.size) l b d rfl rfl M2.out l2.out n2 (HI2.out _ C.out) (by omega) ?_; intro k2 cc2 v18 hor hown hg hlt)
            have D2 := hid hown
            replace C := hid (below_own C.out M2.out g2.out hg)
            replace D1 := hid (D1.out.grow hg (by first | exact n12.out | exact Ne.symm n21.out))
            replace X := hid (boxp_grown hg (by first | exact nO2.out | exact Ne.symm n2O.out) X.out)
            have m21 := hid (show k2 ≠ k1 by rcases hor with rfl | rfl; (first | exact Ne.symm n12.out | exact n21.out); (have := l1.out; omega))
            have m2O := hid (show k2 ≠ v13.heap.size by rcases hor with rfl | rfl; (first | exact Ne.symm nO2.out | exact n2O.out); (have := lO.out; omega))
            replace l1 := hid (Nat.lt_of_lt_of_le l1.out hg.size)
            replace lO := hid (Nat.lt_of_lt_of_le lO.out hg.size)
            have gk := hid (show W0.heap.size ≤ k2 by rcases hor with rfl | rfl; exact g2.out; exact lW.out)
            clear l2
            have l2 := hid hlt
            replace lW := hid (Nat.le_trans lW.out hg.size)
            (first | clear n12 | clear n21); have n21 := hid m21.out; clear m21
            (first | clear nO2 | clear n2O); have n2O := hid m2O.out; clear m2O
            clear M2 hor hown hlt hg gk
            go_wp2_with fail
            refine ⟨bex C.out, ?_⟩
            rw [ordW_one]
            simp only [pick, List.getElem?_cons_succ, List.getElem?_cons_zero]
            go_wp2_with fail
            refine ⟨bex C.out, ?_⟩
            rw [ordW_fre]
            simp only [pick, List.getElem?_cons_succ, List.getElem?_cons_zero]
            obtain ⟨x0, x1, x2, x3, x4⟩ := id X.out
            have hC := Cl2.mk2 D1.out D2.out X.out g1.out g2.out gO.out (by first | exact n1O.out | exact Ne.symm nO1.out) (by first | exact n2O.out | exact Ne.symm nO2.out) (by first | exact n12.out | exact Ne.symm n21.out) C.out
            have HC := hid hC
            clear hC
            go_wp2_with fail
            rw [ordW_done]
            go_wp2_with fail
            go_meet
            exact ⟨_, _, _, rfl, hid (HC.out)⟩
        · go_wp2_with fail
          have h0 := below_alloc v12 (.cells #[.slice none 0 0, .slice none 0 0] 30)
          replace M1 := hid (M1.out.next h0)
          replace M2 := hid (M2.out.next h0)
          replace C := hid (below_next C.out h0)
          have n1O := hid (show v0.heap.size ≠ v12.heap.size by have := l1.out; omega)
          have n2O := hid (show v1.heap.size ≠ v12.heap.size by have := l2.out; omega)
          replace l1 := hid (Nat.lt_of_lt_of_le l1.out h0.size)
          replace l2 := hid (Nat.lt_of_lt_of_le l2.out h0.size)
          have lO := hid (show v12.heap.size < (v12.alloc (.cells #[.slice none 0 0, .slice none 0 0] 30)).heap.size by simp)
          have gO := hid (show W0.heap.size ≤ v12.heap.size from lW.out)
          replace lW := hid (Nat.le_trans lW.out h0.size)
          have X := hid (boxp_at (w := v12) (B := v12.heap.size) (a := .slice none 0 0) (b := .slice none 0 0) (t := 30) rfl)
          refine ⟨bex C.out, ?_⟩
          clear h0
          generalize v12.alloc (.cells #[.slice none 0 0, .slice none 0 0] 30) = v19 at *
          rw [ordW_one]
          simp only [pick, List.getElem?_cons_succ, List.getElem?_cons_zero]
          go_wp2_with (at_builtin; refine wp_app_clone rfl _ _ rfl (v0.heap.size) s a c rfl rfl M1.out l1.out n1 (HI1.out _ C.out) (by omega) ?_; intro k1 cc1 v20 hor hown hg hlt)
          have D1 := hid hown
          replace C := hid (below_own C.out M1.out g1.out hg)
          replace M2 := hid (M2.out.grow hg (by first | exact n21.out | exact Ne.symm n12.out))
          replace X := hid (boxp_grown hg (by first | exact nO1.out | exact Ne.symm n1O.out) X.out)
          have m12 := hid (show k1 ≠ v1.heap.size by rcases hor with rfl | rfl; (first | exact Ne.symm n21.out | exact n12.out); (have := l2.out; omega))
          have m1O := hid (show k1 ≠ v12.heap.size by rcases hor with rfl | rfl; (first | exact Ne.symm nO1.out | exact n1O.out); (have := lO.out; omega))
          replace l2 := hid (Nat.lt_of_lt_of_le l2.out hg.size)
          replace lO := hid (Nat.lt_of_lt_of_le lO.out hg.size)
          have gk := hid (show W0.heap.size ≤ k1 by rcases hor with rfl | rfl; exact g1.out; exact lW.out)
          clear l1
          have l1 := hid hlt
          replace lW := hid (Nat.le_trans lW.out hg.size)
          (first | clear n21 | clear n12); have n12 := hid m12.out; clear m12
          (first | clear nO1 | clear n1O); have n1O := hid m1O.out; clear m1O
          clear M1 hor hown hlt hg gk
          go_wp2_with fail
          refine ⟨bex C.out, ?_⟩
          rw [ordW_one]
          simp only [pick, List.getElem?_cons_succ, List.getElem?_cons_zero]
          go_wp2_with (at_builtin; refine wp_app_clone rfl _ _ rfl (v1.heap.size) l b d rfl rfl M2.out l2.out n2 (HI2.out _ C.out) (by omega) ?_; intro k2 cc2 v21 hor hown hg hlt)
          have D2 := hid hown
          replace C := hid (below_own C.out M2.out g2.out hg)
          replace D1 := hid (D1.out.grow hg (by first | exact n12.out | exact Ne.symm n21.out))
          replace X := hid (boxp_grown hg (by first | exact nO2.out | exact Ne.symm n2O.out) X.out)
          have m21 := hid (show k2 ≠ k1 by rcases hor with rfl | rfl; (first | exact Ne.symm n12.out | exact n21.out); (have := l1.out; omega))
          have m2O := hid (show k2 ≠ v12.heap.size by rcases hor with rfl | rfl; (first | exact Ne.symm nO2.out | exact n2O.out); (have := lO.out; omega))
          replace l1 := hid (Nat.lt_of_lt_of_le l1.out hg.size)
          replace lO := hid (Nat.lt_of_lt_of_le lO.out hg.size)
          have gk := hid (show W0.heap.size ≤ k2 by rcases hor with rfl | rfl; exact g2.out; exact lW.out)
          clear l2
          have l2 := hid hlt
          replace lW := hid (Nat.le_trans lW.out hg.size)
          (first | clear n12 | clear n21); have n21 := hid m21.out; clear m21
          (first | clear nO2 | clear n2O); have n2O := hid m2O.out; clear m2O
          clear M2 hor hown hlt hg gk
          go_wp2_with fail
          refine ⟨bex C.out, ?_⟩
          rw [ordW_one]
          simp only [pick, List.getElem?_cons_succ, List.getElem?_cons_zero]
          go_wp2_with fail
          refine ⟨bex C.out, ?_⟩
          rw [ordW_fre]
          simp only [pick, List.getElem?_cons_succ, List.getElem?_cons_zero]
          obtain ⟨x0, x1, x2, x3, x4⟩ := id X.out
          have hC := Cl2.mk2 D1.out D2.out X.out g1.out g2.out gO.out (by first | exact n1O.out | exact Ne.symm nO1.out) (by first | exact n2O.out | exact Ne.symm nO2.out) (by first | exact n12.out | exact Ne.symm n21.out) C.out
          have HC := hid hC
          clear hC
          go_wp2_with fail
          rw [ordW_done]
          go_wp2_with fail
          go_meet
          exact ⟨_, _, _, rfl, hid (HC.out)⟩
      · go_wp2_with fail
        have h0 := below_alloc v1 (.cells #[.slice none 0 0, .slice none 0 0] 30)
        replace M1 := hid (M1.out.next h0)
        replace C := hid (below_next C.out h0)
        have n1O := hid (show v0.heap.size ≠ v1.heap.size by have := l1.out; omega)
        replace l1 := hid (Nat.lt_of_lt_of_le l1.out h0.size)
        have lO := hid (show v1.heap.size < (v1.alloc (.cells #[.slice none 0 0, .slice none 0 0] 30)).heap.size by simp)
        have gO := hid (show W0.heap.size ≤ v1.heap.size from lW.out)
        replace lW := hid (Nat.le_trans lW.out h0.size)
        have X := hid (boxp_at (w := v1) (B := v1.heap.size) (a := .slice none 0 0) (b := .slice none 0 0) (t := 30) rfl)
        refine ⟨bex C.out, ?_⟩
        clear h0
        generalize v1.alloc (.cells #[.slice none 0 0, .slice none 0 0] 30) = v22 at *
        rw [ordW_two]
        simp only [pick, List.getElem?_cons_succ, List.getElem?_cons_zero]
        refine ⟨?_, ?_⟩
        · go_wp2_with (at_builtin; refine wp_app_clone rfl _ _ rfl (v0.heap.size) s a c rfl rfl M1.out l1.out n1 (HI1.out _ C.out) (by omega) ?_; intro k1 cc1 v23 hor hown hg hlt)
          have D1 := hid hown
          replace C := hid (below_own C.out M1.out g1.out hg)
          replace X := hid (boxp_grown hg (by first | exact nO1.out | exact Ne.symm n1O.out) X.out)
          have m1O := hid (show k1 ≠ v1.heap.size by rcases hor with rfl | rfl; (first | exact Ne.symm nO1.out | exact n1O.out); (have := lO.out; omega))
          replace lO := hid (Nat.lt_of_lt_of_le lO.out hg.size)
          have gk := hid (show W0.heap.size ≤ k1 by rcases hor with rfl | rfl; exact g1.out; exact lW.out)
          clear l1
          have l1 := hid hlt
          replace lW := hid (Nat.le_trans lW.out hg.size)
          (first | clear nO1 | clear n1O); have n1O := hid m1O.out; clear m1O
          clear M1 hor hown hlt hg gk
          go_wp2_with fail
          refine ⟨bex C.out, ?_⟩
          rw [ordW_one]
          simp only [pick, List.getElem?_cons_succ, List.getElem?_cons_zero]
          go_wp2_with fail
          have h0 := below_alloc v23 (.cells #[] 3)
          replace D1 := hid (D1.out.next h0)
          replace X := hid (boxp_next h0 X.out)
          replace C := hid (below_next C.out h0)
          have n12 := hid (show k1 ≠ v23.heap.size by have := l1.out; omega)
          have nO2 := hid (show v1.heap.size ≠ v23.heap.size by have := lO.out; omega)
          replace l1 := hid (Nat.lt_of_lt_of_le l1.out h0.size)
          replace lO := hid (Nat.lt_of_lt_of_le lO.out h0.size)
          have l2 := hid (show v23.heap.size < (v23.alloc (.cells #[] 3)).heap.size by simp)
          have g2 := hid (show W0.heap.size ≤ v23.heap.size from lW.out)
          replace lW := hid (Nat.le_trans lW.out h0.size)
          have M2 := hid (OwnI.made v23)
          refine ⟨bex C.out, ?_⟩
          clear h0
          generalize v23.alloc (.cells #[] 3) = v24 at *
          rw [ordW_one]
          simp only [pick, List.getElem?_cons_succ, List.getElem?_cons_zero]
          go_wp2_with (at_builtin; refine wp_app_clone rfl _ _ rfl (v23.heap.size) l b d rfl rfl M2.out l2.out n2 (HI2.out _ C.out) (by omega) ?_; intro k2 cc2 v25 hor hown hg hlt)
          have D2 := hid hown
          replace C := hid (below_own C.out M2.out g2.out hg)
          replace D1 := hid (D1.out.grow hg (by first | exact n12.out | exact Ne.symm n21.out))
          replace X := hid (boxp_grown hg (by first | exact nO2.out | exact Ne.symm n2O.out) X.out)
          have m21 := hid (show k2 ≠ k1 by rcases hor with rfl | rfl; (first | exact Ne.symm n12.out | exact n21.out); (have := l1.out; omega))
          have m2O := hid (show k2 ≠ v1.heap.size by rcases hor with rfl | rfl; (first | exact Ne.symm nO2.out | exact n2O.out); (have := lO.out; omega))
          replace l1 := hid (Nat.lt_of_lt_of_le l1.out hg.size)
          replace lO := hid (Nat.lt_of_lt_of_le lO.out hg.size)
          have gk := hid (show W0.heap.size ≤ k2 by rcases hor with rfl | rfl; exact g2.out; exact lW.out)
          clear l2
          have l2 := hid hlt
          replace lW := hid (Nat.le_trans lW.out hg.size)
          (first | clear n12 | clear n21); have n21 := hid m21.out; clear m21
          (first | clear nO2 | clear n2O); have n2O := hid m2O.out; clear m2O
          clear M2 hor hown hlt hg gk
          go_wp2_with fail
          refine ⟨bex C.out, ?_⟩
          rw [ordW_one]
          simp only [pick, List.getElem?_cons_succ, List.getElem?_cons_zero]
          go_wp2_with fail
          refine ⟨bex C.out, ?_⟩
          rw [ordW_fre]
          simp only [pick, List.getElem?_cons_succ, List.getElem?_cons_zero]
          obtain ⟨x0, x1, x2, x3, x4⟩ := id X.out
          have hC := Cl2.mk2 D1.out D2.out X.out g1.out g2.out gO.out (by first | exact n1O.out | exact Ne.symm nO1.out) (by first | exact n2O.out | exact Ne.symm nO2.out) (by first | exact n12.out | exact Ne.symm n21.out) C.out
          have HC := hid hC
          clear hC
          go_wp2_with fail
          rw [ordW_done]
          go_wp2_with fail
          go_meet
          exact ⟨_, _, _, rfl, hid (HC.out)⟩
        · go_wp2_with fail
          have h0 := below_alloc v22 (.cells #[] 3)
          replace M1 := hid (M1.out.next h0)
          replace X := hid (boxp_next h0 X.out)
          replace C := hid (below_next C.out h0)
          have n12 := hid (show v0.heap.size ≠ v22.heap.size by have := l1.out; omega)
          have nO2 := hid (show v1.heap.size ≠ v22.heap.size by have := lO.out; omega)
          replace l1 := hid (Nat.lt_of_lt_of_le l1.out h0.size)
          replace lO := hid (Nat.lt_of_lt_of_le lO.out h0.size)
          have l2 := hid (show v22.heap.size < (v22.alloc (.cells #[] 3)).heap.size by simp)
          have g2 := hid (show W0.heap.size ≤ v22.heap.size from lW.out)
          replace lW := hid (Nat.le_trans lW.out h0.size)
          have M2 := hid (OwnI.made v22)
          refine ⟨bex C.out, ?_⟩
          clear h0
          generalize v22.alloc (.cells #[] 3) = v26 at *
          rw [ordW_one]
          simp only [pick, List.getElem?_cons_succ, List.getElem?_cons_zero]
          go_wp2_with (at_builtin; refine wp_app_clone rfl _ _ rfl (v0.heap.size) s a c rfl rfl M1.out l1.out n1 (HI1.out _ C.out) (by omega) ?_; intro k1 cc1 v27 hor hown hg hlt)
          have D1 := hid hown
          replace C := hid (below_own C.out M1.out g1.out hg)
          replace M2 := hid (M2.out.grow hg (by first | exact n21.out | exact Ne.symm n12.out))
          replace X := hid (boxp_grown hg (by first | exact nO1.out | exact Ne.symm n1O.out) X.out)
          have m1O := hid (show k1 ≠ v1.heap.size by rcases hor with rfl | rfl; (first | exact Ne.symm nO1.out | exact n1O.out); (have := lO.out; omega))
          have m12 := hid (show k1 ≠ v22.heap.size by rcases hor with rfl | rfl; (first | exact Ne.symm n21.out | exact n12.out); (have := l2.out; omega))
          replace lO := hid (Nat.lt_of_lt_of_le lO.out hg.size)
          replace l2 := hid (Nat.lt_of_lt_of_le l2.out hg.size)
          have gk := hid (show W0.heap.size ≤ k1 by rcases hor with rfl | rfl; exact g1.out; exact lW.out)
          clear l1
          have l1 := hid hlt
          replace lW := hid (Nat.le_trans lW.out hg.size)
          (first | clear nO1 | clear n1O); have n1O := hid m1O.out; clear m1O
          (first | clear n21 | clear n12); have n12 := hid m12.out; clear m12
          clear M1 hor hown hlt hg gk
          go_wp2_with fail
          refine ⟨bex C.out, ?_⟩
          rw [ordW_one]
          simp only [pick, List.getElem?_cons_succ, List.getElem?_cons_zero]
          go_wp2_with (at_builtin; refine wp_app_clone rfl _ _ rfl (v22.heap.size) l b d rfl rfl M2.out l2.out n2 (HI2.out _ C.out) (by omega) ?_; intro k2 cc2 v28 hor hown hg hlt)
          have D2 := hid hown
          replace C := hid (below_own C.out M2.out g2.out hg)
          replace D1 := hid (D1.out.grow hg (by first | exact n12.out | exact Ne.symm n21.out))
          replace X := hid (boxp_grown hg (by first | exact nO2.out | exact Ne.symm n2O.out) X.out)
          have m21 := hid (show k2 ≠ k1 by rcases hor with rfl | rfl; (first | exact Ne.symm n12.out | exact n21.out); (have := l1.out; omega))
          have m2O := hid (show k2 ≠ v1.heap.size by rcases hor with rfl | rfl; (first | exact Ne.symm nO2.out | exact n2O.out); (have := lO.out; omega))
          replace l1 := hid (Nat.lt_of_lt_of_le l1.out hg.size)
          replace lO := hid (Nat.lt_of_lt_of_le lO.out hg.size)
          have gk := hid (show W0.heap.size ≤ k2 by rcases hor with rfl | rfl; exact g2.out; exact lW.out)
          clear l2
          have l2 := hid hlt
          replace lW := hid (Nat.le_trans lW.out hg.size)
          (first | clear n12 | clear n21); have n21 := hid m21.out; clear m21
          (first | clear nO2 | clear n2O); have n2O := hid m2O.out; clear m2O
          clear M2 hor hown hlt hg gk
          go_wp2_with fail
          refine ⟨bex C.out, ?_⟩
          rw [ordW_one]
          simp only [pick, List.getElem?_cons_succ, List.getElem?_cons_zero]
          go_wp2_with fail
          refine ⟨bex C.out, ?_⟩
          rw [ordW_fre]
          simp only [pick, List.getElem?_cons_succ, List.getElem?_cons_zero]
          obtain ⟨x0, x1, x2, x3, x4⟩ := id X.out
          have hC := Cl2.mk2 D1.out D2.out X.out g1.out g2.out gO.out (by first | exact n1O.out | exact Ne.symm nO1.out) (by first | exact n2O.out | exact Ne.symm nO2.out) (by first | exact n12.out | exact Ne.symm n21.out) C.out
          have HC := hid hC
          clear hC
          go_wp2_with fail
          rw [ordW_done]
          go_wp2_with fail
          go_meet
          exact ⟨_, _, _, rfl, hid (HC.out)⟩
    · go_wp2_with fail
      have h0 := below_alloc v0 (.cells #[] 3)
      replace C := hid (below_next C.out h0)
      have l2 := hid (show v0.heap.size < (v0.alloc (.cells #[] 3)).heap.size by simp)
      have g2 := hid (show W0.heap.size ≤ v0.heap.size from lW.out)
      replace lW := hid (Nat.le_trans lW.out h0.size)
      have M2 := hid (OwnI.made v0)
      refine ⟨bex C.out, ?_⟩
      clear h0
      generalize v0.alloc (.cells #[] 3) = v29 at *
      rw [ordW_two]
      simp only [pick, List.getElem?_cons_succ, List.getElem?_cons_zero]
      refine ⟨?_, ?_⟩
      · go_wp2_with fail
        have h0 := below_alloc v29 (.cells #[] 3)
        replace M2 := hid (M2.out.next h0)
        replace C := hid (below_next C.out h0)
        have n21 := hid (show v0.heap.size ≠ v29.heap.size by have := l2.out; omega)
        replace l2 := hid (Nat.lt_of_lt_of_le l2.out h0.size)
        have l1 := hid (show v29.heap.size < (v29.alloc (.cells #[] 3)).heap.size by simp)
        have g1 := hid (show W0.heap.size ≤ v29.heap.size from lW.out)
        replace lW := hid (Nat.le_trans lW.out h0.size)
        have M1 := hid (OwnI.made v29)
        refine ⟨bex C.out, ?_⟩
        clear h0
        generalize v29.alloc (.cells #[] 3) = v30 at *
        rw [ordW_two]
        simp only [pick, List.getElem?_cons_succ, List.getElem?_cons_zero]
        refine ⟨?_, ?_⟩
        · go_wp2_with (at_builtin; refine wp_app_clone rfl _ _ rfl (v29.heap.size) s a c rfl rfl M1.out l1.out n1 (HI1.out _ C.out) (by omega) ?_; intro k1 cc1 v31 hor hown hg hlt)
          have D1 := hid hown
          replace C := hid (below_own C.out M1.out g1.out hg)
          replace M2 := hid (M2.out.grow hg (by first | exact n21.out | exact Ne.symm n12.out))
          have m12 := hid (show k1 ≠ v0.heap.size by rcases hor with rfl | rfl; (first | exact Ne.symm n21.out | exact n12.out); (have := l2.out; omega))
          replace l2 := hid (Nat.lt_of_lt_of_le l2.out hg.size)
          have gk := hid (show W0.heap.size ≤ k1 by rcases hor with rfl | rfl; exact g1.out; exact lW.out)
          clear l1
          have l1 := hid hlt
          replace lW := hid (Nat.le_trans lW.out hg.size)
          (first | clear n21 | clear n12); have n12 := hid m12.out; clear m12
          clear M1 hor hown hlt hg gk
          go_wp2_with fail
          refine ⟨bex C.out, ?_⟩
          rw [ordW_two]
          simp only [pick, List.getElem?_cons_succ, List.getElem?_cons_zero]
          refine ⟨?_, ?_⟩
          · go_wp2_with (at_builtin; refine wp_app_clone rfl _ _ rfl (v0.heap.size) l b d rfl rfl M2.out l2.out n2 (HI2.out _ C.out) (by omega) ?_; intro k2 cc2 v32 hor hown hg hlt)
            have D2 := hid hown
            replace C := hid (below_own C.out M2.out g2.out hg)
            replace D1 := hid (D1.out.grow hg (by first | exact n12.out | exact Ne.symm n21.out))
            have m21 := hid (show k2 ≠ k1 by rcases hor with rfl | rfl; (first | exact Ne.symm n12.out | exact n21.out); (have := l1.out; omega))
            replace l1 := hid (Nat.lt_of_lt_of_le l1.out hg.size)
            have gk := hid (show W0.heap.size ≤ k2 by rcases hor with rfl | rfl; exact g2.out; exact lW.out)
            clear l2
            have l2 := hid hlt
            replace lW := hid (Nat.le_trans lW.out hg.size)
            (first | clear n12 | clear n21); have n21 := hid m21.out; clear m21
            clear M2 hor hown hlt hg gk
            go_wp2_with fail
            refine ⟨bex C.out, ?_⟩
            rw [ordW_two]
            simp only [pick, List.getElem?_cons_succ, List.getElem?_cons_zero]
            refine ⟨?_, ?_⟩
            · go_wp2_with fail
              refine ⟨bex C.out, ?_⟩
              rw [ordW_one]
              simp only [pick, List.getElem?_cons_succ, List.getElem?_cons_zero]
              go_wp2_with fail
              have h0 := below_alloc v32 (.cells #[.slice none 0 0, .slice none 0 0] 30)
              replace D1 := hid (D1.out.next h0)
              replace D2 := hid (D2.out.next h0)
              replace C := hid (below_next C.out h0)
              have n2O := hid (show k2 ≠ v32.heap.size by have := l2.out; omega)
              have n1O := hid (show k1 ≠ v32.heap.size by have := l1.out; omega)
              replace l2 := hid (Nat.lt_of_lt_of_le l2.out h0.size)
              replace l1 := hid (Nat.lt_of_lt_of_le l1.out h0.size)
              have lO := hid (show v32.heap.size < (v32.alloc (.cells #[.slice none 0 0, .slice none 0 0] 30)).heap.size by simp)
              have gO := hid (show W0.heap.size ≤ v32.heap.size from lW.out)
              replace lW := hid (Nat.le_trans lW.out h0.size)
              have X := hid (boxp_at (w := v32) (B := v32.heap.size) (a := .slice none 0 0) (b := .slice none 0 0) (t := 30) rfl)
              refine ⟨bex C.out, ?_⟩
              clear h0
              generalize v32.alloc (.cells #[.slice none 0 0, .slice none 0 0] 30) = v33 at *
              rw [ordW_fre]
              simp only [pick, List.getElem?_cons_succ, List.getElem?_cons_zero]
              obtain ⟨x0, x1, x2, x3, x4⟩ := id X.out
              have hC := Cl2.mk2 D1.out D2.out X.out g1.out g2.out gO.out (by first | exact n1O.out | exact Ne.symm nO1.out) (by first | exact n2O.out | exact Ne.symm nO2.out) (by first | exact n12.out | exact Ne.symm n21.out) C.out
              have HC := hid hC
              clear hC
              go_wp2_with fail
              rw [ordW_done]
              go_wp2_with fail
              go_meet
              exact ⟨_, _, _, rfl, hid (HC.out)⟩
            · go_wp2_with fail
              have h0 := below_alloc v32 (.cells #[.slice none 0 0, .slice none 0 0] 30)
              replace D1 := hid (D1.out.next h0)
              replace D2 := hid (D2.out.next h0)
              replace C := hid (below_next C.out h0)
              have n2O := hid (show k2 ≠ v32.heap.size by have := l2.out; omega)
              have n1O := hid (show k1 ≠ v32.heap.size by have := l1.out; omega)
              replace l2 := hid (Nat.lt_of_lt_of_le l2.out h0.size)
              replace l1 := hid (Nat.lt_of_lt_of_le l1.out h0.size)
              have lO := hid (show v32.heap.size < (v32.alloc (.cells #[.slice none 0 0, .slice none 0 0] 30)).heap.size by simp)
              have gO := hid (show W0.heap.size ≤ v32.heap.size from lW.out)
              replace lW := hid (Nat.le_trans lW.out h0.size)
              have X := hid (boxp_at (w := v32) (B := v32.heap.size) (a := .slice none 0 0) (b := .slice none 0 0) (t := 30) rfl)
              refine ⟨bex C.out, ?_⟩
              clear h0
              generalize v32.alloc (.cells #[.slice none 0 0, .slice none 0 0] 30) = v34 at *
              rw [ordW_one]
              simp only [pick, List.getElem?_cons_succ, List.getElem?_cons_zero]
              go_wp2_with fail
              refine ⟨bex C.out, ?_⟩
              rw [ordW_fre]
              simp only [pick, List.getElem?_cons_succ, List.getElem?_cons_zero]
              obtain ⟨x0, x1, x2, x3, x4⟩ := id X.out
              have hC := Cl2.mk2 D1.out D2.out X.out g1.out g2.out gO.out (by first | exact n1O.out | exact Ne.symm nO1.out) (by first | exact n2O.out | exact Ne.symm nO2.out) (by first | exact n12.out | exact Ne.symm n21.out) C.out
              have HC := hid hC
              clear hC
              go_wp2_with fail
              rw [ordW_done]
              go_wp2_with fail
              go_meet
              exact ⟨_, _, _, rfl, hid (HC.out)⟩
          · go_wp2_with fail
            have h0 := below_alloc v31 (.cells #[.slice none 0 0, .slice none 0 0] 30)
            replace M2 := hid (M2.out.next h0)
            replace D1 := hid (D1.out.next h0)
            replace C := hid (below_next C.out h0)
            have n2O := hid (show v0.heap.size ≠ v31.heap.size by have := l2.out; omega)
            have n1O := hid (show k1 ≠ v31.heap.size by have := l1.out; omega)
            replace l2 := hid (Nat.lt_of_lt_of_le l2.out h0.size)
            replace l1 := hid (Nat.lt_of_lt_of_le l1.out h0.size)
            have lO := hid (show v31.heap.size < (v31.alloc (.cells #[.slice none 0 0, .slice none 0 0] 30)).heap.size by simp)
            have gO := hid (show W0.heap.size ≤ v31.heap.size from lW.out)
            replace lW := hid (Nat.le_trans lW.out h0.size)
            have X := hid (boxp_at (w := v31) (B := v31.heap.size) (a := .slice none 0 0) (b := .slice none 0 0) (t := 30) rfl)
            refine ⟨bex C.out, ?_⟩
            clear h0
            generalize v31.alloc (.cells #[.slice none 0 0, .slice none 0 0] 30) = v35 at *
            rw [ordW_one]
            simp only [pick, List.getElem?_cons_succ, List.getElem?_cons_zero]
            go_wp2_with (at_builtin; refine wp_app_clone rfl _ _ rfl (v0.heap.size) l b d rfl rfl M2.out l2.out n2 (HI2.out _ C.out) (by omega) ?_; intro k2 cc2 v36 hor hown hg hlt)
            have D2 := hid hown
            replace C := hid (below_own C.out M2.out g2.out hg)
            replace D1 := hid (D1.out.grow hg (by first | exact n12.out | exact Ne.symm n21.out))
            replace X := hid (boxp_grown hg (by first | exact nO2.out | exact Ne.symm n2O.out) X.out)
            have m21 := hid (show k2 ≠ k1 by rcases hor with rfl | rfl; (first | exact Ne.symm n12.out | exact n21.out); (have := l1.out; omega))
            have m2O := hid (show k2 ≠ v31.heap.size by rcases hor with rfl | rfl; (first | exact Ne.symm nO2.out | exact n2O.out); (have := lO.out; omega))
            replace l1 := hid (Nat.lt_of_lt_of_le l1.out hg.size)
            replace lO := hid (Nat.lt_of_lt_of_le lO.out hg.size)
            have gk := hid (show W0.heap.size ≤ k2 by rcases hor with rfl | rfl; exact g2.out; exact lW.out)
            clear l2
            have l2 := hid hlt
            replace lW := hid (Nat.le_trans lW.out hg.size)
            (first | clear n12 | clear n21); have n21 := hid m21.out; clear m21
            (first | clear nO2 | clear n2O); have n2O := hid m2O.out; clear m2O
            clear M2 hor hown hlt hg gk
            go_wp2_with fail
            refine ⟨bex C.out, ?_⟩
            rw [ordW_one]
            simp only [pick, List.getElem?_cons_succ, List.getElem?_cons_zero]
            go_wp2_with fail
            refine ⟨bex C.out, ?_⟩
            rw [ordW_fre]
            simp only [pick, List.getElem?_cons_succ, List.getElem?_cons_zero]
            obtain ⟨x0, x1, x2, x3, x4⟩ := id X.out
            have hC := Cl2.mk2 D1.out D2.out X.out g1.out g2.out gO.out (by first | exact n1O.out | exact Ne.symm nO1.out) (by first | exact n2O.out | exact Ne.symm nO2.out) (by first | exact n12.out | exact Ne.symm n21.out) C.out
            have HC := hid hC
            clear hC
            go_wp2_with fail
            rw [ordW_done]
            go_wp2_with fail
            go_meet
            exact ⟨_, _, _, rfl, hid (HC.out)⟩
        · go_wp2_with fail
          have h0 := below_alloc v30 (.cells #[.slice none 0 0, .slice none 0 0] 30)
          replace M2 := hid (M2.out.next h0)
          replace M1 := hid (M1.out.next h0)
          replace C := hid (below_next C.out h0)
          have n2O := hid (show v0.heap.size ≠ v30.heap.size by have := l2.out; omega)
          have n1O := hid (show v29.heap.size ≠ v30.heap.size by have := l1.out; omega)
          replace l2 := hid (Nat.lt_of_lt_of_le l2.out h0.size)
          replace l1 := hid (Nat.lt_of_lt_of_le l1.out h0.size)
          have lO := hid (show v30.heap.size < (v30.alloc (.cells #[.slice none 0 0, .slice none 0 0] 30)).heap.size by simp)
          have gO := hid (show W0.heap.size ≤ v30.heap.size from lW.out)
          replace lW := hid (Nat.le_trans lW.out h0.size)
          have X := hid (boxp_at (w := v30) (B := v30.heap.size) (a := .slice none 0 0) (b := .slice none 0 0) (t := 30) rfl)
          refine ⟨bex C.out, ?_⟩
          clear h0
          generalize v30.alloc (.cells #[.slice none 0 0, .slice none 0 0] 30) = v37 at *
          rw [ordW_one]
          simp only [pick, List.getElem?_cons_succ, List.getElem?_cons_zero]
          go_wp2_with (at_builtin; refine wp_app_clone rfl _ _ rfl (v29.heap.size) s a c rfl rfl M1.out l1.out n1 (HI1.out _ C.out) (by omega) ?_; intro k1 cc1 v38 hor hown hg hlt)
          have D1 := hid hown
          replace C := hid (below_own C.out M1.out g1.out hg)
          replace M2 := hid (M2.out.grow hg (by first | exact n21.out | exact Ne.symm n12.out))
          replace X := hid (boxp_grown hg (by first | exact nO1.out | exact Ne.symm n1O.out) X.out)
          have m12 := hid (show k1 ≠ v0.heap.size by rcases hor with rfl | rfl; (first | exact Ne.symm n21.out | exact n12.out); (have := l2.out; omega))
          have m1O := hid (show k1 ≠ v30.heap.size by rcases hor with rfl | rfl; (first | exact Ne.symm nO1.out | exact n1O.out); (have := lO.out; omega))
          replace l2 := hid (Nat.lt_of_lt_of_le l2.out hg.size)
          replace lO := hid (Nat.lt_of_lt_of_le lO.out hg.size)
          have gk := hid (show W0.heap.size ≤ k1 by rcases hor with rfl | rfl; exact g1.out; exact lW.out)
          clear l1
          have l1 := hid hlt
          replace lW := hid (Nat.le_trans lW.out hg.size)
          (first | clear n21 | clear n12); have n12 := hid m12.out; clear m12
          (first | clear nO1 | clear n1O); have n1O := hid m1O.out; clear m1O
          clear M1 hor hown hlt hg gk
          go_wp2_with fail
          refine ⟨bex C.out, ?_⟩
          rw [ordW_one]
          simp only [pick, List.getElem?_cons_succ, List.getElem?_cons_zero]
          go_wp2_with (at_builtin; refine wp_app_clone rfl _ _ rfl (v0.heap.size) l b d rfl rfl M2.out l2.out n2 (HI2.out _ C.out) (by omega) ?_; intro k2 cc2 v39 hor hown hg hlt)
          have D2 := hid hown
          replace C := hid (below_own C.out M2.out g2.out hg)
          replace D1 := hid (D1.out.grow hg (by first | exact n12.out | exact Ne.symm n21.out))
          replace X := hid (boxp_grown hg (by first | exact nO2.out | exact Ne.symm n2O.out) X.out)
          have m21 := hid (show k2 ≠ k1 by rcases hor with rfl | rfl; (first | exact Ne.symm n12.out | exact n21.out); (have := l1.out; omega))
          have m2O := hid (show k2 ≠ v30.heap.size by rcases hor with rfl | rfl; (first | exact Ne.symm nO2.out | exact n2O.out); (have := lO.out; omega))
          replace l1 := hid (Nat.lt_of_lt_of_le l1.out hg.size)
          replace lO := hid (Nat.lt_of_lt_of_le lO.out hg.size)
          have gk := hid (show W0.heap.size ≤ k2 by rcases hor with rfl | rfl; exact g2.out; exact lW.out)
          clear l2
          have l2 := hid hlt
          replace lW := hid (Nat.le_trans lW.out hg.size)
          (first | clear n12 | clear n21); have n21 := hid m21.out; clear m21
          (first | clear nO2 | clear n2O); have n2O := hid m2O.out; clear m2O
          clear M2 hor hown hlt hg gk
          go_wp2_with fail
          refine ⟨bex C.out, ?_⟩
          rw [ordW_one]
          simp only [pick, List.getElem?_cons_succ, List.getElem?_cons_zero]
          go_wp2_with fail
          refine ⟨bex C.out, ?_⟩
          rw [ordW_fre]
          simp only [pick, List.getElem?_cons_succ, List.getElem?_cons_zero]
          obtain ⟨x0, x1, x2, x3, x4⟩ := id X.out
          have hC := Cl2.mk2 D1.out D2.out X.out g1.out g2.out gO.out (by first | exact n1O.out | exact Ne.symm nO1.out) (by first | exact n2O.out | exact Ne.symm nO2.out) (by first | exact n12.out | exact Ne.symm n21.out) C.out
          have HC := hid hC
          clear hC
          go_wp2_with fail
          rw [ordW_done]
          go_wp2_with fail
          go_meet
          exact ⟨_, _, _, rfl, hid (HC.out)⟩
      · go_wp2_with fail
        have h0 := below_alloc v29 (.cells #[.slice none 0 0, .slice none 0 0] 30)
        replace M2 := hid (M2.out.next h0)
        replace C := hid (below_next C.out h0)
        have n2O := hid (show v0.heap.size ≠ v29.heap.size by have := l2.out; omega)
        replace l2 := hid (Nat.lt_of_lt_of_le l2.out h0.size)
        have lO := hid (show v29.heap.size < (v29.alloc (.cells #[.slice none 0 0, .slice none 0 0] 30)).heap.size by simp)
        have gO := hid (show W0.heap.size ≤ v29.heap.size from lW.out)
        replace lW := hid (Nat.le_trans lW.out h0.size)
        have X := hid (boxp_at (w := v29) (B := v29.heap.size) (a := .slice none 0 0) (b := .slice none 0 0) (t := 30) rfl)
        refine ⟨bex C.out, ?_⟩
        clear h0
        generalize v29.alloc (.cells #[.slice none 0 0, .slice none 0 0] 30) = v40 at *
        rw [ordW_one]
        simp only [pick, List.getElem?_cons_succ, List.getElem?_cons_zero]
        go_wp2_with fail
        have h0 := below_alloc v40 (.cells #[] 3)
        replace M2 := hid (M2.out.next h0)
        replace X := hid (boxp_next h0 X.out)
        replace C := hid (below_next C.out h0)
        have n21 := hid (show v0.heap.size ≠ v40.heap.size by have := l2.out; omega)
        have nO1 := hid (show v29.heap.size ≠ v40.heap.size by have := lO.out; omega)
        replace l2 := hid (Nat.lt_of_lt_of_le l2.out h0.size)
        replace lO := hid (Nat.lt_of_lt_of_le lO.out h0.size)
        have l1 := hid (show v40.heap.size < (v40.alloc (.cells #[] 3)).heap.size by simp)
        have g1 := hid (show W0.heap.size ≤ v40.heap.size from lW.out)
        replace lW := hid (Nat.le_trans lW.out h0.size)
        have M1 := hid (OwnI.made v40)
        refine ⟨bex C.out, ?_⟩
        clear h0
        generalize v40.alloc (.cells #[] 3) = v41 at *
        rw [ordW_one]
        simp only [pick, List.getElem?_cons_succ, List.getElem?_cons_zero]
        go_wp2_with (at_builtin; refine wp_app_clone rfl _ _ rfl (v40.heap.size) s a c rfl rfl M1.out l1.out n1 (HI1.out _ C.out) (by omega) ?_; intro k1 cc1 v42 hor hown hg hlt)
        have D1 := hid hown
        replace C := hid (below_own C.out M1.out g1.out hg)
        replace M2 := hid (M2.out.grow hg (by first | exact n21.out | exact Ne.symm n12.out))
        replace X := hid (boxp_grown hg (by first | exact nO1.out | exact Ne.symm n1O.out) X.out)
        have m12 := hid (show k1 ≠ v0.heap.size by rcases hor with rfl | rfl; (first | exact Ne.symm n21.out | exact n12.out); (have := l2.out; omega))
        have m1O := hid (show k1 ≠ v29.heap.size by rcases hor with rfl | rfl; (first | exact Ne.symm nO1.out | exact n1O.out); (have := lO.out; omega))
        replace l2 := hid (Nat.lt_of_lt_of_le l2.out hg.size)
        replace lO := hid (Nat.lt_of_lt_of_le lO.out hg.size)
        have gk := hid (show W0.heap.size ≤ k1 by rcases hor with rfl | rfl; exact g1.out; exact lW.out)
        clear l1
        have l1 := hid hlt
        replace lW := hid (Nat.le_trans lW.out hg.size)
        (first | clear n21 | clear n12); have n12 := hid m12.out; clear m12
        (first | clear nO1 | clear n1O); have n1O := hid m1O.out; clear m1O
        clear M1 hor hown hlt hg gk
        go_wp2_with fail
        refine ⟨bex C.out, ?_⟩
        rw [ordW_one]
        simp only [pick, List.getElem?_cons_succ, List.getElem?_cons_zero]
        go_wp2_with (at_builtin; refine wp_app_clone rfl _ _ rfl (v0.heap.size) l b d rfl rfl M2.out l2.out n2 (HI2.out _ C.out) (by omega) ?_; intro k2 cc2 v43 hor hown hg hlt)
        have D2 := hid hown
        replace C := hid (below_own C.out M2.out g2.out hg)
        replace D1 := hid (D1.out.grow hg (by first | exact n12.out | exact Ne.symm n21.out))
        replace X := hid (boxp_grown hg (by first | exact nO2.out | exact Ne.symm n2O.out) X.out)
        have m2O := hid (show k2 ≠ v29.heap.size by rcases hor with rfl | rfl; (first | exact Ne.symm nO2.out | exact n2O.out); (have := lO.out; omega))
        have m21 := hid (show k2 ≠ k1 by rcases hor with rfl | rfl; (first | exact Ne.symm n12.out | exact n21.out); (have := l1.out; omega))
        replace lO := hid (Nat.lt_of_lt_of_le lO.out hg.size)
        replace l1 := hid (Nat.lt_of_lt_of_le l1.out hg.size)
        have gk := hid (show W0.heap.size ≤ k2 by rcases hor with rfl | rfl; exact g2.out; exact lW.out)
        clear l2
        have l2 := hid hlt
        replace lW := hid (Nat.le_trans lW.out hg.size)
        (first | clear nO2 | clear n2O); have n2O := hid m2O.out; clear m2O
        (first | clear n12 | clear n21); have n21 := hid m21.out; clear m21
        clear M2 hor hown hlt hg gk
        go_wp2_with fail
        refine ⟨bex C.out, ?_⟩
        rw [ordW_one]
        simp only [pick, List.getElem?_cons_succ, List.getElem?_cons_zero]
        go_wp2_with fail
        refine ⟨bex C.out, ?_⟩
        rw [ordW_fre]
        simp only [pick, List.getElem?_cons_succ, List.getElem?_cons_zero]
        obtain ⟨x0, x1, x2, x3, x4⟩ := id X.out
        have hC := Cl2.mk2 D1.out D2.out X.out g1.out g2.out gO.out (by first | exact n1O.out | exact Ne.symm nO1.out) (by first | exact n2O.out | exact Ne.symm nO2.out) (by first | exact n12.out | exact Ne.symm n21.out) C.out
        have HC := hid hC
        clear hC
        go_wp2_with fail
        rw [ordW_done]
        go_wp2_with fail
        go_meet
        exact ⟨_, _, _, rfl, hid (HC.out)⟩
    · go_wp2_with fail
      have h0 := below_alloc v0 (.cells #[.slice none 0 0, .slice none 0 0] 30)
      replace C := hid (below_next C.out h0)
      have lO := hid (show v0.heap.size < (v0.alloc (.cells #[.slice none 0 0, .slice none 0 0] 30)).heap.size by simp)
      have gO := hid (show W0.heap.size ≤ v0.heap.size from lW.out)
      replace lW := hid (Nat.le_trans lW.out h0.size)
      have X := hid (boxp_at (w := v0) (B := v0.heap.size) (a := .slice none 0 0) (b := .slice none 0 0) (t := 30) rfl)
      refine ⟨bex C.out, ?_⟩
      clear h0
      generalize v0.alloc (.cells #[.slice none 0 0, .slice none 0 0] 30) = v44 at *
      rw [ordW_two]
      simp only [pick, List.getElem?_cons_succ, List.getElem?_cons_zero]
      refine ⟨?_, ?_⟩
      · go_wp2_with fail
        have h0 := below_alloc v44 (.cells #[] 3)
        replace X := hid (boxp_next h0 X.out)
        replace C := hid (below_next C.out h0)
        have nO1 := hid (show v0.heap.size ≠ v44.heap.size by have := lO.out; omega)
        replace lO := hid (Nat.lt_of_lt_of_le lO.out h0.size)
        have l1 := hid (show v44.heap.size < (v44.alloc (.cells #[] 3)).heap.size by simp)
        have g1 := hid (show W0.heap.size ≤ v44.heap.size from lW.out)
        replace lW := hid (Nat.le_trans lW.out h0.size)
        have M1 := hid (OwnI.made v44)
        refine ⟨bex C.out, ?_⟩
        clear h0
        generalize v44.alloc (.cells #[] 3) = v45 at *
        rw [ordW_two]
        simp only [pick, List.getElem?_cons_succ, List.getElem?_cons_zero]
        refine ⟨?_, ?_⟩
        · go_wp2_with (at_builtin; refine wp_app_clone rfl _ _ rfl (v44.heap.size) s a c rfl rfl M1.out l1.out n1 (HI1.out _ C.out) (by omega) ?_; intro k1 cc1 v46 hor hown hg hlt)
          have D1 := hid hown
          replace C := hid (below_own C.out M1.out g1.out hg)
          replace X := hid (boxp_grown hg (by first | exact nO1.out | exact Ne.symm n1O.out) X.out)
          have m1O := hid (show k1 ≠ v0.heap.size by rcases hor with rfl | rfl; (first | exact Ne.symm nO1.out | exact n1O.out); (have := lO.out; omega))
          replace lO := hid (Nat.lt_of_lt_of_le lO.out hg.size)
          have gk := hid (show W0.heap.size ≤ k1 by rcases hor with rfl | rfl; exact g1.out; exact lW.out)
          clear l1
          have l1 := hid hlt
          replace lW := hid (Nat.le_trans lW.out hg.size)
          (first | clear nO1 | clear n1O); have n1O := hid m1O.out; clear m1O
          clear M1 hor hown hlt hg gk
          go_wp2_with fail
          refine ⟨bex C.out, ?_⟩
          rw [ordW_one]
          simp only [pick, List.getElem?_cons_succ, List.getElem?_cons_zero]
          go_wp2_with fail
          have h0 := below_alloc v46 (.cells #[] 3)
          replace D1 := hid (D1.out.next h0)
          replace X := hid (boxp_next h0 X.out)
          replace C := hid (below_next C.out h0)
          have nO2 := hid (show v0.heap.size ≠ v46.heap.size by have := lO.out; omega)
          have n12 := hid (show k1 ≠ v46.heap.size by have := l1.out; omega)
          replace lO := hid (Nat.lt_of_lt_of_le lO.out h0.size)
          replace l1 := hid (Nat.lt_of_lt_of_le l1.out h0.size)
          have l2 := hid (show v46.heap.size < (v46.alloc (.cells #[] 3)).heap.size by simp)
          have g2 := hid (show W0.heap.size ≤ v46.heap.size from lW.out)
          replace lW := hid (Nat.le_trans lW.out h0.size)
          have M2 := hid (OwnI.made v46)
          refine ⟨bex C.out, ?_⟩
          clear h0
          generalize v46.alloc (.cells #[] 3) = v47 at *
          rw [ordW_one]
          simp only [pick, List.getElem?_cons_succ, List.getElem?_cons_zero]
          go_wp2_with (at_builtin; refine wp_app_clone rfl _ _ rfl (v46.heap.size) l b d rfl rfl M2.out l2.out n2 (HI2.out _ C.out) (by omega) ?_; intro k2 cc2 v48 hor hown hg hlt)
          have D2 := hid hown
          replace C := hid (below_own C.out M2.out g2.out hg)
          replace D1 := hid (D1.out.grow hg (by first | exact n12.out | exact Ne.symm n21.out))
          replace X := hid (boxp_grown hg (by first | exact nO2.out | exact Ne.symm n2O.out) X.out)
          have m2O := hid (show k2 ≠ v0.heap.size by rcases hor with rfl | rfl; (first | exact Ne.symm nO2.out | exact n2O.out); (have := lO.out; omega))
          have m21 := hid (show k2 ≠ k1 by rcases hor with rfl | rfl; (first | exact Ne.symm n12.out | exact n21.out); (have := l1.out; omega))
          replace lO := hid (Nat.lt_of_lt_of_le lO.out hg.size)
          replace l1 := hid (Nat.lt_of_lt_of_le l1.out hg.size)
          have gk := hid (show W0.heap.size ≤ k2 by rcases hor with rfl | rfl; exact g2.out; exact lW.out)
          clear l2
          have l2 := hid hlt
          replace lW := hid (Nat.le_trans lW.out hg.size)
          (first | clear nO2 | clear n2O); have n2O := hid m2O.out; clear m2O
          (first | clear n12 | clear n21); have n21 := hid m21.out; clear m21
          clear M2 hor hown hlt hg gk
          go_wp2_with fail
          refine ⟨bex C.out, ?_⟩
          rw [ordW_one]
          simp only [pick, List.getElem?_cons_succ, List.getElem?_cons_zero]
          go_wp2_with fail
          refine ⟨bex C.out, ?_⟩
          rw [ordW_fre]
          simp only [pick, List.getElem?_cons_succ, List.getElem?_cons_zero]
          obtain ⟨x0, x1, x2, x3, x4⟩ := id X.out
          have hC := Cl2.mk2 D1.out D2.out X.out g1.out g2.out gO.out (by first | exact n1O.out | exact Ne.symm nO1.out) (by first | exact n2O.out | exact Ne.symm nO2.out) (by first | exact n12.out | exact Ne.symm n21.out) C.out
          have HC := hid hC
          clear hC
          go_wp2_with fail
          rw [ordW_done]
          go_wp2_with fail
          go_meet
          exact ⟨_, _, _, rfl, hid (HC.out)⟩
        · go_wp2_with fail
          have h0 := below_alloc v45 (.cells #[] 3)
          replace M1 := hid (M1.out.next h0)
          replace X := hid (boxp_next h0 X.out)
          replace C := hid (below_next C.out h0)
          have nO2 := hid (show v0.heap.size ≠ v45.heap.size by have := lO.out; omega)
          have n12 := hid (show v44.heap.size ≠ v45.heap.size by have := l1.out; omega)
          replace lO := hid (Nat.lt_of_lt_of_le lO.out h0.size)
          replace l1 := hid (Nat.lt_of_lt_of_le l1.out h0.size)
          have l2 := hid (show v45.heap.size < (v45.alloc (.cells #[] 3)).heap.size by simp)
          have g2 := hid (show W0.heap.size ≤ v45.heap.size from lW.out)
          replace lW := hid (Nat.le_trans lW.out h0.size)
          have M2 := hid (OwnI.made v45)
          refine ⟨bex C.out, ?_⟩
          clear h0
          generalize v45.alloc (.cells #[] 3) = v49 at *
          rw [ordW_one]
          simp only [pick, List.getElem?_cons_succ, List.getElem?_cons_zero]
          go_wp2_with (at_builtin; refine wp_app_clone rfl _ _ rfl (v44.heap.size) s a c rfl rfl M1.out l1.out n1 (HI1.out _ C.out) (by omega) ?_; intro k1 cc1 v50 hor hown hg hlt)
          have D1 := hid hown
          replace C := hid (below_own C.out M1.out g1.out hg)
          replace M2 := hid (M2.out.grow hg (by first | exact n21.out | exact Ne.symm n12.out))
          replace X := hid (boxp_grown hg (by first | exact nO1.out | exact Ne.symm n1O.out) X.out)
          have m1O := hid (show k1 ≠ v0.heap.size by rcases hor with rfl | rfl; (first | exact Ne.symm nO1.out | exact n1O.out); (have := lO.out; omega))
          have m12 := hid (show k1 ≠ v45.heap.size by rcases hor with rfl | rfl; (first | exact Ne.symm n21.out | exact n12.out); (have := l2.out; omega))
          replace lO := hid (Nat.lt_of_lt_of_le lO.out hg.size)
          replace l2 := hid (Nat.lt_of_lt_of_le l2.out hg.size)
          have gk := hid (show W0.heap.size ≤ k1 by rcases hor with rfl | rfl; exact g1.out; exact lW.out)
          clear l1
          have l1 := hid hlt
          replace lW := hid (Nat.le_trans lW.out hg.size)
          (first | clear nO1 | clear n1O); have n1O := hid m1O.out; clear m1O
          (first | clear n21 | clear n12); have n12 := hid m12.out; clear m12
          clear M1 hor hown hlt hg gk
          go_wp2_with fail
          refine ⟨bex C.out, ?_⟩
          rw [ordW_one]
          simp only [pick, List.getElem?_cons_succ, List.getElem?_cons_zero]
          go_wp2_with (at_builtin; refine wp_app_clone rfl _ _ rfl (v45.heap.size) l b d rfl rfl M2.out l2.out n2 (HI2.out _ C.out) (by omega) ?_; intro k2 cc2 v51 hor hown hg hlt)
          have D2 := hid hown
          replace C := hid (below_own C.out M2.out g2.out hg)
          replace D1 := hid (D1.out.grow hg (by first | exact n12.out | exact Ne.symm n21.out))
          replace X := hid (boxp_grown hg (by first | exact nO2.out | exact Ne.symm n2O.out) X.out)
          have m2O := hid (show k2 ≠ v0.heap.size by rcases hor with rfl | rfl; (first | exact Ne.symm nO2.out | exact n2O.out); (have := lO.out; omega))
          have m21 := hid (show k2 ≠ k1 by rcases hor with rfl | rfl; (first | exact Ne.symm n12.out | exact n21.out); (have := l1.out; omega))
          replace lO := hid (Nat.lt_of_lt_of_le lO.out hg.size)
          replace l1 := hid (Nat.lt_of_lt_of_le l1.out hg.size)
          have gk := hid (show W0.heap.size ≤ k2 by rcases hor with rfl | rfl; exact g2.out; exact lW.out)
          clear l2
          have l2 := hid hlt
          replace lW := hid (Nat.le_trans lW.out hg.size)
          (first | clear nO2 | clear n2O); have n2O := hid m2O.out; clear m2O
          (first | clear n12 | clear n21); have n21 := hid m21.out; clear m21
          clear M2 hor hown hlt hg gk
          go_wp2_with fail
          refine ⟨bex C.out, ?_⟩
          rw [ordW_one]
          simp only [pick, List.getElem?_cons_succ, List.getElem?_cons_zero]
          go_wp2_with fail
          refine ⟨bex C.out, ?_⟩
          rw [ordW_fre]
          simp only [pick, List.getElem?_cons_succ, List.getElem?_cons_zero]
          obtain ⟨x0, x1, x2, x3, x4⟩ := id X.out
          have hC := Cl2.mk2 D1.out D2.out X.out g1.out g2.out gO.out (by first | exact n1O.out | exact Ne.symm nO1.out) (by first | exact n2O.out | exact Ne.symm nO2.out) (by first | exact n12.out | exact Ne.symm n21.out) C.out
          have HC := hid hC
          clear hC
          go_wp2_with fail
          rw [ordW_done]
          go_wp2_with fail
          go_meet
          exact ⟨_, _, _, rfl, hid (HC.out)⟩
      · go_wp2_with fail
        have h0 := below_alloc v44 (.cells #[] 3)
        replace X := hid (boxp_next h0 X.out)
        replace C := hid (below_next C.out h0)
        have nO2 := hid (show v0.heap.size ≠ v44.heap.size by have := lO.out; omega)
        replace lO := hid (Nat.lt_of_lt_of_le lO.out h0.size)
        have l2 := hid (show v44.heap.size < (v44.alloc (.cells #[] 3)).heap.size by simp)
        have g2 := hid (show W0.heap.size ≤ v44.heap.size from lW.out)
        replace lW := hid (Nat.le_trans lW.out h0.size)
        have M2 := hid (OwnI.made v44)
        refine ⟨bex C.out, ?_⟩
        clear h0
        generalize v44.alloc (.cells #[] 3) = v52 at *
        rw [ordW_one]
        simp only [pick, List.getElem?_cons_succ, List.getElem?_cons_zero]
        go_wp2_with fail
        have h0 := below_alloc v52 (.cells #[] 3)
        replace M2 := hid (M2.out.next h0)
        replace X := hid (boxp_next h0 X.out)
        replace C := hid (below_next C.out h0)
        have nO1 := hid (show v0.heap.size ≠ v52.heap.size by have := lO.out; omega)
        have n21 := hid (show v44.heap.size ≠ v52.heap.size by have := l2.out; omega)
        replace lO := hid (Nat.lt_of_lt_of_le lO.out h0.size)
        replace l2 := hid (Nat.lt_of_lt_of_le l2.out h0.size)
        have l1 := hid (show v52.heap.size < (v52.alloc (.cells #[] 3)).heap.size by simp)
        have g1 := hid (show W0.heap.size ≤ v52.heap.size from lW.out)
        replace lW := hid (Nat.le_trans lW.out h0.size)
        have M1 := hid (OwnI.made v52)
        refine ⟨bex C.out, ?_⟩
        clear h0
        generalize v52.alloc (.cells #[] 3) = v53 at *
        rw [ordW_one]
        simp only [pick, List.getElem?_cons_succ, List.getElem?_cons_zero]
        go_wp2_with (at_builtin; refine wp_app_clone rfl _ _ rfl (v52.heap.size) s a c rfl rfl M1.out l1.out n1 (HI1.out _ C.out) (by omega) ?_; intro k1 cc1 v54 hor hown hg hlt)
        have D1 := hid hown
        replace C := hid (below_own C.out M1.out g1.out hg)
        replace M2 := hid (M2.out.grow hg (by first | exact n21.out | exact Ne.symm n12.out))
        replace X := hid (boxp_grown hg (by first | exact nO1.out | exact Ne.symm n1O.out) X.out)
        have m1O := hid (show k1 ≠ v0.heap.size by rcases hor with rfl | rfl; (first | exact Ne.symm nO1.out | exact n1O.out); (have := lO.out; omega))
        have m12 := hid (show k1 ≠ v44.heap.size by rcases hor with rfl | rfl; (first | exact Ne.symm n21.out | exact n12.out); (have := l2.out; omega))
        replace lO := hid (Nat.lt_of_lt_of_le lO.out hg.size)
        replace l2 := hid (Nat.lt_of_lt_of_le l2.out hg.size)
        have gk := hid (show W0.heap.size ≤ k1 by rcases hor with rfl | rfl; exact g1.out; exact lW.out)
        clear l1
        have l1 := hid hlt
        replace lW := hid (Nat.le_trans lW.out hg.size)
        (first | clear nO1 | clear n1O); have n1O := hid m1O.out; clear m1O
        (first | clear n21 | clear n12); have n12 := hid m12.out; clear m12
        clear M1 hor hown hlt hg gk
        go_wp2_with fail
        refine ⟨bex C.out, ?_⟩
        rw [ordW_one]
        simp only [pick, List.getElem?_cons_succ, List.getElem?_cons_zero]
        go_wp2_with (at_builtin; refine wp_app_clone rfl _ _ rfl (v44.heap.size) l b d rfl rfl M2.out l2.out n2 (HI2.out _ C.out) (by omega) ?_; intro k2 cc2 v55 hor hown hg hlt)
        have D2 := hid hown
        replace C := hid (below_own C.out M2.out g2.out hg)
        replace D1 := hid (D1.out.grow hg (by first | exact n12.out | exact Ne.symm n21.out))
        replace X := hid (boxp_grown hg (by first | exact nO2.out | exact Ne.symm n2O.out) X.out)
        have m2O := hid (show k2 ≠ v0.heap.size by rcases hor with rfl | rfl; (first | exact Ne.symm nO2.out | exact n2O.out); (have := lO.out; omega))
        have m21 := hid (show k2 ≠ k1 by rcases hor with rfl | rfl; (first | exact Ne.symm n12.out | exact n21.out); (have := l1.out; omega))
        replace lO := hid (Nat.lt_of_lt_of_le lO.out hg.size)
        replace l1 := hid (Nat.lt_of_lt_of_le l1.out hg.size)
        have gk := hid (show W0.heap.size ≤ k2 by rcases hor with rfl | rfl; exact g2.out; exact lW.out)
        clear l2
        have l2 := hid hlt
        replace lW := hid (Nat.le_trans lW.out hg.size)
        (first | clear nO2 | clear n2O); have n2O := hid m2O.out; clear m2O
        (first | clear n12 | clear n21); have n21 := hid m21.out; clear m21
        clear M2 hor hown hlt hg gk
        go_wp2_with fail
        refine ⟨bex C.out, ?_⟩
        rw [ordW_one]
        simp only [pick, List.getElem?_cons_succ, List.getElem?_cons_zero]
        go_wp2_with fail
        refine ⟨bex C.out, ?_⟩
        rw [ordW_fre]
        simp only [pick, List.getElem?_cons_succ, List.getElem?_cons_zero]
        obtain ⟨x0, x1, x2, x3, x4⟩ := id X.out
        have hC := Cl2.mk2 D1.out D2.out X.out g1.out g2.out gO.out (by first | exact n1O.out | exact Ne.symm nO1.out) (by first | exact n2O.out | exact Ne.symm nO2.out) (by first | exact n12.out | exact Ne.symm n21.out) C.out
        have HC := hid hC
        clear hC
        go_wp2_with fail
        rw [ordW_done]
        go_wp2_with fail
        go_meet
        exact ⟨_, _, _, rfl, hid (HC.out)⟩
  case rest =>
    obtain ⟨O, vs, vl, rfl, HC⟩ := hcut
    obtain ⟨w1, hw1⟩ : ∃ w1 : World, w1 = wc := ⟨_, rfl⟩
    subst hw1
    have hO := HC.out.new
    have B1 := But.of (D := R) (below_next HB0.out HC.out.below)
    have R1 := hr.next (below_next HB0.out HC.out.below)
    have Z1 := hid (boxp_next HC.out.below HZ0.out)
    have X1 := hid HC.out.box
    have OS := hid HC.out.own
    have OL := hid HC.out.own2
    have NE1 := hid HC.out.ne1
    have NE2 := hid HC.out.ne2
    have NE := hid HC.out.ne
    have HSI := hid I1.out.2
    have HLI := hid I2.out.2
    obtain ⟨a1, k1, rfl, e1, e2, e3⟩ := OS.out.shape
    obtain ⟨b1, k2, rfl, f1, f2, f3⟩ := OL.out.shape
    clear HC HI1 HI2 I1 I2 HB0 HP0 HZ0 n1 n2 c1 c2 d1 d2 P0 hr
    go_wp2_with fail
    refine (pick_any B _ _ R p R1 (by omega) (by omega) (by omega)).mono ?_
    rintro e w2 ⟨i, rfl, _, hb, R2⟩
    have B2 := B1.trans hb
    have Z := hid (boxp_but hb (by omega) Z1.out)
    have X := hid (boxp_but hb (by omega) X1.out)
    replace OS := hid (OS.out.but hb (by omega))
    replace OL := hid (OL.out.but hb (by omega))
    clear hb R1 B1 Z1 X1
    obtain ⟨x0, x1, x2, x3, x4⟩ := id X.out
    obtain ⟨z0, z1, z2, z3, z4⟩ := id Z.out
    by_cases i0 : i = 0
    · subst i0
      have hI := hid (row_one w2 0 (by unfold i64; omega))
      have s23 := B2.size
      have HX3 := hid (fun (v4 : Value) (w4 : World) (hg : (w2.alloc (.cells #[.int .i64 0] 3)).grownBy w4 (Value.slice a1 s.length k1).ownBlock) => boxp_keep hg.size (hg.block O (by have := X.out.1; simp; omega) (fun e => NE1.out _ e.symm rfl)) (boxp_next (below_alloc w2 (.cells #[.int .i64 0] 3)) X.out))
      have HZ3 := hid (fun (v4 : Value) (w4 : World) (hg : (w2.alloc (.cells #[.int .i64 0] 3)).grownBy w4 (Value.slice a1 s.length k1).ownBlock) => boxp_keep hg.size (hg.block (w.heap.size + 1) (by simp; omega) (fun e => by have := (OS.out.blk _ e.symm).1; omega)) (boxp_next (below_alloc w2 (.cells #[.int .i64 0] 3)) Z.out))
      go_wp2_with (at_builtin; refine wp_app_own2 rfl _ _ rfl W0.heap.size (.slice a1 s.length k1) s [0] (some ⟨w2.heap.size, 0, none⟩) 1 rfl rfl (fun h => by cases h) (OS.out.next (below_alloc _ _)) (by simp; omega) hI.out (by omega) (by simp) ?_; intro v4 w4 hv4 hg hbk; obtain ⟨a4, k4, rfl, q1, q2, q3⟩ := OwnI.shape hv4; have HV := hid hv4; have HG := hid hg; have HBK := hid hbk; obtain ⟨y0, y1, y2, y3, y4⟩ := HX3.out (.slice none 0 0) _ hg; clear z0 z1 z2 z3 z4; obtain ⟨z0, z1, z2, z3, z4⟩ := HZ3.out (.slice none 0 0) _ hg; clear hv4 hg hbk x0 x1 x2 x3 x4)
      have hg := HG.out
      have Z4 := hid (HZ3.out (.slice none 0 0) _ hg)
      have B4 := But.own (B2.next (below_alloc w2 (.cells #[.int .i64 0] 3))) (OS.out.next (below_alloc _ _)) (by omega) hg
      have R4 := (R2.next (below_alloc w2 (.cells #[.int .i64 0] 3))).grown hg (fun k hk => by have := (OS.out.blk k hk).1; omega)
      have L4 := (OL.out.next (below_alloc w2 (.cells #[.int .i64 0] 3))).keep fun q h1 h2 h3 => hg.block q h3 (fun e => NE.out q e.symm h1)
      have NEV : ∀ q, (Value.slice a4 (s ++ [0]).length k4).ownBlock = some q → q ≠ O := fun q hq e => by
        rcases HBK.out with h | h
        · exact NE1.out q (by rw [← h]; exact hq) e
        · rw [h] at hq; have := X.out.1; simp at hq; omega
      have hN : ∀ n, n ∈ s ++ [0] → i64 n := fun n hn => by
        rcases List.mem_append.1 hn with h | h
        · exact HSI.out n h
        · simp at h; subst h; unfold i64; omega
      have U4 := HV.out.set (a := ⟨O, 0, none⟩) (fun g h _ => NEV g h) (.slice a4 (s ++ [0]).length k4)
      have V4 := L4.set (a := ⟨O, 0, none⟩) (fun g h _ => NE2.out g h) (.slice a4 (s ++ [0]).length k4)
      have hub := U4.blk
      have hvb := V4.blk
      have hf := fun u1 u2 => stm_last (w := w) (R := R) (B := B) (K := 100) (M := 90) (p := p) (U4.ints3 hN (p := fun b => w.heap.size + 1 < b) (fun x hx => by have := (hub x hx).1; omega)) (V4.ints3 HLI.out (p := fun b => w.heap.size + 1 < b) (fun x hx => by have := (hvb x hx).1; omega)) q1 q2 f1 f2 q3 f3 (But.setNew B4 (show w.heap.size ≤ O by omega) _) (R4.set (show B ≤ O by omega) _) hB.2 (by simp; omega) (by omega) u1 u2 (by omega)
      rw [List.length_append, List.length_singleton] at hf
      have T := hid (boxp_set1 (boxp_set0 (boxp_set Z4.out (p := ⟨O, 0, none⟩) (show w.heap.size + 1 ≠ O by omega) (.slice a4 (s.length + 1) k4)) (.slice a4 (s.length + 1) k4)) (.slice b1 l.length k2))
      replace hf := hid hf
      clear hg HG HV HBK B4 R4 L4 U4 V4 Z4 HX3 HZ3
      go_wp2_with fail
      obtain ⟨_, t0, t1, _, _⟩ := T.out
      refine bodyPost_ret (v := .agg #[.slice a4 (s.length + 1) k4, .slice b1 l.length k2]) (by simp [results, Try.results29, go_sem, t0, t1]) rfl ?_
      exact hf.out _ _
    have e0' : (i == 0) = false := by simpa using i0
    by_cases i1 : i = 1
    · subst i1
      by_cases hl0 : 0 < s.length
      · obtain ⟨g, rfl⟩ : ∃ g, a1 = some ⟨g, 0, none⟩ := by
          rcases OS.out.row with ⟨h, _⟩ | ⟨g, c, e, _⟩
          · subst h; simp at hl0
          · simp at e; exact ⟨g, e.1⟩
        have gO := NE1.out g rfl
        have gB := OS.out.blk g rfl
        have hlt : (0 : Int) < (s.length : Int) := by omega
        go_wp2_with fail
        refine wp_region_ord (C := fun wZ => ∃ xZ, wZ = World.overP _ ([O]) xZ) [0,1,2] (.one 3 (.one 4 (.fre 5 (.fre 6 .done)))) [5,6] (by kernel_rfl) (by kernel_rfl) (fun d _ _ _ _ h => by cases d <;> exact h) (KeepP.refl _ _).drew.ex ?_; simp only [pick, List.getElem?_cons_succ, List.getElem?_cons_zero]; (repeat (go_big_quiet_step (fail))); refine wpQuiet_nil ?_; simp only [ordW, pick, List.getElem?_cons_succ, List.getElem?_cons_zero]
        have K := hid ((KeepP.refl [O] w2).drew)
        have Rdd := R2.next (below_d (Below.refl w2.heap.size w2))
        have h0 := below_next (below_d (Below.refl w2.heap.size w2)) (below_alloc w2.drew (.cells (([-1, 4, 3, 9223372036854775807, 10] : List Int).map (Value.int .i64)).toArray 3))
        clear x0 x1 x2 x3 x4 z0 z1 z2 z3 z4
        go_wp2_with fail
        refine ⟨(K.out.trans (KeepP.below (below_alloc _ _))).ex, ?_⟩
        go_wp2_with fail
        refine (num_new [-1, 4, 3, 9223372036854775807, 10] (-1) 9223372036854775807 (by simp) (by decide) (by decide) B w2.drew _ R (p + 1) Rdd (by omega)).mono ?_
        rintro e w3 ⟨n, rfl, ⟨hn1, hn2⟩, hb, R3⟩
        have hni : i64 n := by unfold i64; omega
        have K3 := hid ((KeepP.below (S := [O]) h0).trans (KeepP.but hb (by simp; omega)))
        have hbA : But w2 R w3 := (But.of h0).trans hb
        clear hb h0
        have X3 := hid (boxp_but hbA (by omega) X.out)
        have Z3 := hid (boxp_but hbA (by omega) Z.out)
        have B3 := B2.trans hbA
        have O3 := hid (OS.out.but hbA (by omega))
        have L3 := hid (OL.out.but hbA (by omega))
        have hOsz := X.out.1
        obtain ⟨v0, r1, r2⟩ : ∃ v0, w3.cell? ⟨g, 0, none⟩ = some v0 ∧ w3.frozen? ⟨g, 0, none⟩ = false := by
          rcases O3.out.row with ⟨h, _⟩ | ⟨g', c, e, q1, q2, q3, q4⟩
          · subst h; simp at hl0
          · simp at e
            obtain ⟨rfl, _⟩ := e
            exact ⟨_, q4.2.1 0 (by omega), q4.2.2 0⟩
        have gW := B2.size
        have T := hid (boxp_set1 (boxp_set0 (boxp_set Z3.out (p := ⟨g, 0, none⟩) (show w.heap.size + 1 ≠ g by omega) (.int .i64 n)) (.slice (some ⟨g, 0, none⟩) s.length k1)) (.slice b1 l.length k2))
        have hI1 := ints_set (O3.out.ints3 HSI.out (p := fun b => w.heap.size + 1 < b) (fun x hx => by have := (O3.out.blk x hx).1; omega)) (q := 0) (by omega) hni
        have hI2 := (L3.out.ints3 HLI.out (p := fun b => w.heap.size + 1 < b ∧ b ≠ g) (fun x hx => ⟨by have := (L3.out.blk x hx).1; omega, fun e => NE.out g rfl (e ▸ hx)⟩)).frame (q := fun b => w.heap.size + 1 < b) (w' := w3.setCell ⟨g, 0, none⟩ (.int .i64 n)) (by simp) (fun b hb hl => ⟨hb.1, Below.heap_setCell _ _ _ _ hb.2⟩)
        have hf := (fun u1 u2 => stm_last (w := w) (R := R) (B := B) (W := w3.setCell ⟨g, 0, none⟩ (.int .i64 n)) (K := 100) (M := 90) (p := p) hI1 hI2 (by first | exact e1 | simpa using e1) e2 (by first | exact f1 | simpa using f1) f2 (fun h => by cases h) f3 (But.setNew B3 (show w.heap.size ≤ g by omega) _) (R3.set (show B ≤ g by omega) _) hB.2 (by first | omega | (simp; omega)) (by first | omega | (simp; omega)) u1 u2 (by omega))
        simp only [List.length_set] at hf
        replace hf := hid hf
        clear hI1 hI2 Z3 O3 L3 B3 R3
        obtain ⟨x0, x1, x2, x3, x4⟩ := id X3.out
        obtain ⟨z0, z1, z2, z3, z4⟩ := id (boxp_but hbA (by omega) Z.out)
        clear hbA X Z OS OL B2 R2
        go_wp2_with fail
        refine ⟨K3.out.ex, ?_⟩
        go_wp2_with fail
        obtain ⟨_, t0, t1, _, _⟩ := T.out
        refine bodyPost_ret (v := .agg #[.slice (some ⟨g, 0, none⟩) s.length k1, .slice b1 l.length k2]) (by simp [results, Try.results29, go_sem, t0, t1]) rfl ?_
        exact hf.out _ _
      · have hlt : ¬ ((0 : Int) < (s.length : Int)) := by omega
        clear hl0
        have T := hid (boxp_set1 (boxp_set0 Z.out (.slice a1 s.length k1)) (.slice b1 l.length k2))
        have hf := hid (fun u1 u2 => stm_last (w := w) (R := R) (B := B) (K := 100) (M := 90) (p := p) (OS.out.ints3 HSI.out (p := fun b => w.heap.size + 1 < b) (fun x hx => by have := (OS.out.blk x hx).1; omega)) (OL.out.ints3 HLI.out (p := fun b => w.heap.size + 1 < b) (fun x hx => by have := (OL.out.blk x hx).1; omega)) e1 e2 f1 f2 e3 f3 B2 R2 hB.2 (by omega) (by omega) u1 u2 (by omega))
        clear X Z OS OL B2 R2
        go_wp2_with fail
        obtain ⟨_, t0, t1, _, _⟩ := T.out
        refine bodyPost_ret (v := .agg #[.slice a1 s.length k1, .slice b1 l.length k2]) (by simp [results, Try.results29, go_sem, t0, t1]) rfl ?_
        exact hf.out _ _
    have e1' : (i == 1) = false := by simpa using i1
    by_cases i2 : i = 2
    · subst i2
      by_cases hl0 : 0 < l.length
      · obtain ⟨g, rfl⟩ : ∃ g, b1 = some ⟨g, 0, none⟩ := by
          rcases OL.out.row with ⟨h, _⟩ | ⟨g, c, e, _⟩
          · subst h; simp at hl0
          · simp at e; exact ⟨g, e.1⟩
        have gO := NE2.out g rfl
        have gB := OL.out.blk g rfl
        have hlt : (0 : Int) < (l.length : Int) := by omega
        go_wp2_with fail
        refine wp_region_ord (C := fun wZ => ∃ xZ, wZ = World.overP _ ([O]) xZ) [0,1,2,3,4,5,7] (.two 6 8 (.one 8 (.one 9 (.fre 10 (.fre 11 .done)))) (.one 6 (.one 9 (.fre 10 (.fre 11 .done))))) [10,11] (by kernel_rfl) (by kernel_rfl) (fun d _ _ _ _ h => by cases d <;> exact h) (KeepP.refl _ _).drew.ex ?_; simp only [pick, List.getElem?_cons_succ, List.getElem?_cons_zero]; (repeat (go_big_quiet_step (fail))); refine wpQuiet_nil ?_; simp only [ordW, pick, List.getElem?_cons_succ, List.getElem?_cons_zero]
        clear x0 x1 x2 x3 x4 z0 z1 z2 z3 z4
        have K := hid ((KeepP.refl [O] w2).drew)
        have Rdd := R2.next (below_d (Below.refl w2.heap.size w2))
        have hbd : But w2 R w2.drew := But.of (below_d (Below.refl w2.heap.size w2))
        have hRw := R2.lt
        refine ⟨?_, ?_⟩
        · go_wp2_with fail
          refine (pick_any B _ _ R (p + 1) Rdd (by omega) (by omega) (by omega)).mono ?_
          rintro e w5 ⟨j, rfl, ⟨j0, j1, _⟩, hb, R5⟩
          obtain ⟨jn, rfl⟩ := Int.eq_ofNat_of_zero_le j0
          have hj := j1 (by omega)
          have hjn : jn < l.length := by omega
          have K5 := hid (K.out.trans (KeepP.but hb (by simp; omega)))
          have hb5 := hbd.trans hb
          clear hb j1
          go_wp2_with fail
          refine ⟨K5.out.ex, ?_⟩
          go_wp2_with fail
          refine ⟨(K5.out.trans (KeepP.below (below_alloc _ _))).ex, ?_⟩
          go_wp2_with fail
          refine (num_new [-1, 4, 3, 12] (-1) 12 (by simp) (by decide) (by decide) B w5 _ R (p + 1 + 1) R5 (by omega)).mono ?_
          rintro e w3 ⟨n, rfl, ⟨hn1, hn2⟩, hb, R3⟩
          have hni : i64 n := by unfold i64; omega
          have h0 := below_alloc w5 (.cells (([-1, 4, 3, 12] : List Int).map (Value.int .i64)).toArray 3)
          have K3 := hid ((K5.out.trans (KeepP.below h0)).trans (KeepP.but hb (by simp; omega)))
          have hbA : But w2 R w3 := (hb5.next h0).trans hb
          clear hb hb5 hbd h0
          have X3 := hid (boxp_but hbA (by omega) X.out)
          have Z3 := hid (boxp_but hbA (by omega) Z.out)
          have B3 := B2.trans hbA
          have O3 := hid (OL.out.but hbA (by omega))
          have L3 := hid (OS.out.but hbA (by omega))
          have hOsz := X.out.1
          obtain ⟨v0, r1, r2⟩ : ∃ v0, w3.cell? ⟨g, jn, none⟩ = some v0 ∧ w3.frozen? ⟨g, jn, none⟩ = false := by
            rcases O3.out.row with ⟨h, _⟩ | ⟨g', c, e, q1, q2, q3, q4⟩
            · subst h; simp at hl0
            · simp at e
              obtain ⟨rfl, _⟩ := e
              exact ⟨_, q4.2.1 jn (by omega), q4.2.2 jn⟩
          have gW := B2.size
          have T := hid (boxp_set1 (boxp_set0 (boxp_set Z3.out (p := ⟨g, jn, none⟩) (show w.heap.size + 1 ≠ g by omega) (.int .i64 n)) (.slice a1 s.length k1)) (.slice (some ⟨g, 0, none⟩) l.length k2))
          have hI1 := ints_set (O3.out.ints3 HLI.out (p := fun b => w.heap.size + 1 < b) (fun x hx => by have := (O3.out.blk x hx).1; omega)) (q := jn) (by omega) hni
          have hI2 := (L3.out.ints3 HSI.out (p := fun b => w.heap.size + 1 < b ∧ b ≠ g) (fun x hx => ⟨by have := (L3.out.blk x hx).1; omega, fun e => NE.out x hx (by rw [e]; rfl)⟩)).frame (q := fun b => w.heap.size + 1 < b) (w' := w3.setCell ⟨g, jn, none⟩ (.int .i64 n)) (by simp) (fun b hb hl => ⟨hb.1, Below.heap_setCell _ _ _ _ hb.2⟩)
          have hf := (fun u1 u2 => stm_last (w := w) (R := R) (B := B) (W := w3.setCell ⟨g, jn, none⟩ (.int .i64 n)) (K := 100) (M := 90) (p := p) hI2 hI1 (by first | exact e1 | simpa using e1) e2 (by first | exact f1 | simpa using f1) f2 e3 (fun h => by cases h) (But.setNew B3 (show w.heap.size ≤ g by omega) _) (R3.set (show B ≤ g by omega) _) hB.2 (by first | omega | (simp; omega)) (by first | omega | (simp; omega)) u1 u2 (by omega))
          simp only [List.length_set] at hf
          replace hf := hid hf
          clear hI1 hI2 Z3 O3 L3 B3 R3
          obtain ⟨x0, x1, x2, x3, x4⟩ := id X3.out
          obtain ⟨z0, z1, z2, z3, z4⟩ := id (boxp_but hbA (by omega) Z.out)
          clear hbA X Z OS OL B2 R2
          go_wp2_with fail
          refine ⟨K3.out.ex, ?_⟩
          go_wp2_with fail
          obtain ⟨_, t0, t1, _, _⟩ := T.out
          refine bodyPost_ret (v := .agg #[.slice a1 s.length k1, .slice (some ⟨g, 0, none⟩) l.length k2]) (by simp [results, Try.results29, go_sem, t0, t1]) rfl ?_
          exact hf.out _ _
        · go_wp2_with fail
          refine ⟨(K.out.trans (KeepP.below (below_alloc _ _))).ex, ?_⟩
          have h0 := below_alloc w2.drew (.cells (([-1, 4, 3, 12] : List Int).map (Value.int .i64)).toArray 3)
          go_wp2_with fail
          refine (pick_any B _ _ R (p + 1) (Rdd.next h0) (by omega) (by omega) (by omega)).mono ?_
          rintro e w5 ⟨j, rfl, ⟨j0, j1, _⟩, hb, R5⟩
          obtain ⟨jn, rfl⟩ := Int.eq_ofNat_of_zero_le j0
          have hj := j1 (by omega)
          have hjn : jn < l.length := by omega
          have K5 := hid ((K.out.trans (KeepP.below h0)).trans (KeepP.but hb (by simp; omega)))
          have hb5 := (hbd.next h0).trans hb
          clear j1
          go_wp2_with fail
          refine ⟨K5.out.ex, ?_⟩
          go_wp2_with fail
          refine (num_later [-1, 4, 3, 12] (-1) 12 (by simp) (by decide) (by decide) B w2.drew w5 3 R (p + 1 + 1) hb R5 (by omega) (by simp; omega)).mono ?_
          rintro e w3 ⟨n, rfl, ⟨hn1, hn2⟩, hb, R3⟩
          have hni : i64 n := by unfold i64; omega
          have K3 := hid (K5.out.trans (KeepP.but hb (by simp; omega)))
          have hbA : But w2 R w3 := hb5.trans hb
          clear hb hb5 hbd h0
          have X3 := hid (boxp_but hbA (by omega) X.out)
          have Z3 := hid (boxp_but hbA (by omega) Z.out)
          have B3 := B2.trans hbA
          have O3 := hid (OL.out.but hbA (by omega))
          have L3 := hid (OS.out.but hbA (by omega))
          have hOsz := X.out.1
          obtain ⟨v0, r1, r2⟩ : ∃ v0, w3.cell? ⟨g, jn, none⟩ = some v0 ∧ w3.frozen? ⟨g, jn, none⟩ = false := by
            rcases O3.out.row with ⟨h, _⟩ | ⟨g', c, e, q1, q2, q3, q4⟩
            · subst h; simp at hl0
            · simp at e
              obtain ⟨rfl, _⟩ := e
              exact ⟨_, q4.2.1 jn (by omega), q4.2.2 jn⟩
          have gW := B2.size
          have T := hid (boxp_set1 (boxp_set0 (boxp_set Z3.out (p := ⟨g, jn, none⟩) (show w.heap.size + 1 ≠ g by omega) (.int .i64 n)) (.slice a1 s.length k1)) (.slice (some ⟨g, 0, none⟩) l.length k2))
          have hI1 := ints_set (O3.out.ints3 HLI.out (p := fun b => w.heap.size + 1 < b) (fun x hx => by have := (O3.out.blk x hx).1; omega)) (q := jn) (by omega) hni
          have hI2 := (L3.out.ints3 HSI.out (p := fun b => w.heap.size + 1 < b ∧ b ≠ g) (fun x hx => ⟨by have := (L3.out.blk x hx).1; omega, fun e => NE.out x hx (by rw [e]; rfl)⟩)).frame (q := fun b => w.heap.size + 1 < b) (w' := w3.setCell ⟨g, jn, none⟩ (.int .i64 n)) (by simp) (fun b hb hl => ⟨hb.1, Below.heap_setCell _ _ _ _ hb.2⟩)
          have hf := (fun u1 u2 => stm_last (w := w) (R := R) (B := B) (W := w3.setCell ⟨g, jn, none⟩ (.int .i64 n)) (K := 100) (M := 90) (p := p) hI2 hI1 (by first | exact e1 | simpa using e1) e2 (by first | exact f1 | simpa using f1) f2 e3 (fun h => by cases h) (But.setNew B3 (show w.heap.size ≤ g by omega) _) (R3.set (show B ≤ g by omega) _) hB.2 (by first | omega | (simp; omega)) (by first | omega | (simp; omega)) u1 u2 (by omega))
          simp only [List.length_set] at hf
          replace hf := hid hf
          clear hI1 hI2 Z3 O3 L3 B3 R3
          obtain ⟨x0, x1, x2, x3, x4⟩ := id X3.out
          obtain ⟨z0, z1, z2, z3, z4⟩ := id (boxp_but hbA (by omega) Z.out)
          clear hbA X Z OS OL B2 R2
          go_wp2_with fail
          refine ⟨K3.out.ex, ?_⟩
          go_wp2_with fail
          obtain ⟨_, t0, t1, _, _⟩ := T.out
          refine bodyPost_ret (v := .agg #[.slice a1 s.length k1, .slice (some ⟨g, 0, none⟩) l.length k2]) (by simp [results, Try.results29, go_sem, t0, t1]) rfl ?_
          exact hf.out _ _
      · have hlt : ¬ ((0 : Int) < (l.length : Int)) := by omega
        clear hl0
        have T := hid (boxp_set1 (boxp_set0 Z.out (.slice a1 s.length k1)) (.slice b1 l.length k2))
        have hf := hid (fun u1 u2 => stm_last (w := w) (R := R) (B := B) (K := 100) (M := 90) (p := p) (OS.out.ints3 HSI.out (p := fun b => w.heap.size + 1 < b) (fun x hx => by have := (OS.out.blk x hx).1; omega)) (OL.out.ints3 HLI.out (p := fun b => w.heap.size + 1 < b) (fun x hx => by have := (OL.out.blk x hx).1; omega)) e1 e2 f1 f2 e3 f3 B2 R2 hB.2 (by omega) (by omega) u1 u2 (by omega))
        clear X Z OS OL B2 R2
        go_wp2_with fail
        obtain ⟨_, t0, t1, _, _⟩ := T.out
        refine bodyPost_ret (v := .agg #[.slice a1 s.length k1, .slice b1 l.length k2]) (by simp [results, Try.results29, go_sem, t0, t1]) rfl ?_
        exact hf.out _ _
    have e2' : (i == 2) = false := by simpa using i2
    by_cases i3 : i = 3
    · subst i3
      have T := hid (boxp_set1 (boxp_set0 Z.out (.slice none 0 0)) (.slice none 0 0))
      have hf := hid (fun u1 u2 => stm_last (w := w) (W := w2) (R := R) (B := B) (s := []) (l := []) (a := none) (b := none) (c := 0) (d := 0) (K := 100) (M := 90) (p := p) ⟨.inl rfl, by simp⟩ ⟨.inl rfl, by simp⟩ (by simp) (by simp) (by simp) (by simp) (fun _ => rfl) (fun _ => rfl) B2 R2 hB.2 (by simp) (by simp) u1 u2 (by omega))
      clear X Z OS OL B2 R2
      go_wp2_with fail
      obtain ⟨_, t0, t1, _, _⟩ := T.out
      refine bodyPost_ret (v := .agg #[.slice none 0 0, .slice none 0 0]) (by simp [results, Try.results29, go_sem, t0, t1]) rfl ?_
      exact hf.out _ _
    have e3' : (i == 3) = false := by simpa using i3
    have T := hid (boxp_set1 (boxp_set0 Z.out (.slice a1 s.length k1)) (.slice b1 l.length k2))
    have hf := hid (fun u1 u2 => stm_last (w := w) (R := R) (B := B) (K := 100) (M := 90) (p := p) (OS.out.ints3 HSI.out (p := fun b => w.heap.size + 1 < b) (fun x hx => by have := (OS.out.blk x hx).1; omega)) (OL.out.ints3 HLI.out (p := fun b => w.heap.size + 1 < b) (fun x hx => by have := (OL.out.blk x hx).1; omega)) e1 e2 f1 f2 e3 f3 B2 R2 hB.2 (by omega) (by omega) u1 u2 (by omega))
    clear X Z OS OL B2 R2
    go_wp2_with fail
    obtain ⟨_, t0, t1, _, _⟩ := T.out
    refine bodyPost_ret (v := .agg #[.slice a1 s.length k1, .slice b1 l.length k2]) (by simp [results, Try.results29, go_sem, t0, t1]) rfl ?_
    exact hf.out _ _
end Go.Proofs.Ytdmieedfddgmjaa
