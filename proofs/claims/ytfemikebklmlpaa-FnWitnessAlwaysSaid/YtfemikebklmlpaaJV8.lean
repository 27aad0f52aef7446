/- Joined texts (ApplyV): contracts and plain laws. Conditions: those of each theorem. -/
import Derived.Test.YtfemikebklmlpaaJV7
set_option linter.unusedVariables false
set_option linter.unusedSimpArgs false
namespace Go.Proofs.Ytfemikebklmlpaa
open Go.RowKit
open Go.Proofs.Ytfemikebklmlpaa.State (PairIn)
open Go.Proofs.Ytfemikebklmlpaa.Sys
set_option linter.unusedVariables false
set_option linter.unusedSimpArgs false

/-- what a step comes to -/
def ApPost (s : Sy) (w : World) (e : Ending) (w' : World) : Prop := ∃ v ls vs, e = .returned v ∧ State.okSt s ls vs = true ∧ PairIn (fun b => w.heap.size ≤ b) w' ls vs v ∧ NilO v ∧ Below w.heap.size w w'
theorem below_only2 {w W W' : World} {g1 g2 : Nat} (hb : Below w.heap.size w W) (ho : Only [g1, g2] W W') (h1 : w.heap.size ≤ g1) (h2 : w.heap.size ≤ g2) : Below w.heap.size w W' :=
  ⟨ho.os.trans hb.os, ho.tape.trans hb.tape, ho.output.trans hb.output, Nat.le_trans hb.size ho.size, fun k hk => (ho.block k (Nat.lt_of_lt_of_le hk hb.size) (by simp; omega)).trans (hb.block k hk)⟩
theorem KeepP.only2 {S : List Nat} {w w' : World} {g1 g2 : Nat} (ho : Only [g1, g2] w w') (h1 : g1 ∉ S) (h2 : g2 ∉ S) : KeepP S w w' :=
  ⟨ho.size, fun b hS hb => ho.block b hb (by simp; exact ⟨fun e => h1 (e ▸ hS), fun e => h2 (e ▸ hS)⟩)⟩
theorem locsOk_set : ∀ (ls : List Int) (qs : List Pr) (i : Nat) (n : Int), State.locsOk ls qs = true → (∀ h : i < qs.length, 0 ≤ n ∧ n < qs[i].locs) → State.locsOk (ls.set i n) qs = true
  | [], qs, i, n, _, _ => by simp [State.locsOk]
  | l :: ls, [], i, n, _, _ => by cases i <;> rfl
  | l :: ls, q :: qs, 0, n, h, hn => by
    simp only [State.locsOk, Bool.and_eq_true, List.set_cons_zero, decide_eq_true_eq] at h ⊢
    exact ⟨hn (by simp), h.2⟩
  | l :: ls, q :: qs, i + 1, n, h, hn => by
    simp only [State.locsOk, Bool.and_eq_true, List.set_cons_succ, decide_eq_true_eq] at h ⊢
    exact ⟨h.1, locsOk_set ls qs i n h.2 (fun hl => by have := hn (by simpa using hl); simpa using this)⟩
theorem locsOk_bd : ∀ (ls : List Int) (qs : List Pr), State.locsOk ls qs = true → ls.length = qs.length → (∀ q, q ∈ qs → q.locs ≤ 4) → ∀ n, n ∈ ls → 0 ≤ n ∧ n ≤ 4
  | [], _, _, _, _, n, hn => by cases hn
  | l :: ls, [], _, h, _, _, _ => by simp at h
  | l :: ls, q :: qs, h, hl, hq, n, hn => by
    simp only [State.locsOk, Bool.and_eq_true, decide_eq_true_eq] at h
    rcases List.mem_cons.1 hn with rfl | hn
    · have := hq q (by simp); omega
    · exact locsOk_bd ls qs h.2 (by simpa using hl) (fun r hr => hq r (by simp [hr])) n hn
theorem okSt_i64 {s : Sy} {ls vs : List Int} (h : State.okSt s ls vs = true) : (∀ n, n ∈ ls → i64 n) ∧ ∀ n, n ∈ vs → i64 n := by
  obtain ⟨o1, o2, o3⟩ := okSt_facts h
  rw [State.okSt, State.hasB] at h
  simp only [Bool.and_eq_true, decide_eq_true_eq] at h
  refine ⟨fun n hn => ?_, fun n hn => ?_⟩
  · have := locsOk_bd ls s.procs h.2.2.2 o2 (fun q hq => by
      have := (okSy_procs o1).2 q hq
      simp only [okP, Bool.and_eq_true, decide_eq_true_eq] at this
      exact this.2.2.1) n hn
    unfold i64; omega
  · rw [Expr.okVals, Bool.and_eq_true, List.all_eq_true, decide_eq_true_eq] at o3
    have := o3.1 n hn
    rw [Expr.inV, decide_eq_true_eq] at this
    unfold i64; omega
theorem take_step {s : Sy} {ls vs lx vx : List Int} {i k : Nat} (hok : State.okSt s lx vx = true) (hi : i < s.procs.length) (hk : k < s.procs[i].edges.length) (el : lx.length = ls.length) (ev : vx.length = vs.length) :
    (i < lx.length ∧ lx.length ≤ 1000 ∧ s.procs[i].edges[k].var ≤ 2 ∧ (0 ≤ s.procs[i].edges[k].var → exprL.shape s.procs[i].edges[k].val 6 = true) ∧ Expr.okVals vx = true ∧ ∀ n, n ∈ vx → i64 n) ∧
    State.okSt s (lx.set i s.procs[i].edges[k].dst) (takeV vx s.procs[i].edges[k]) = true ∧ (lx.set i s.procs[i].edges[k].dst).length = ls.length ∧ (takeV vx s.procs[i].edges[k]).length = vs.length := by
  obtain ⟨o1, o2, o3⟩ := okSt_facts hok
  have hq := okSy_procs o1
  have hokP := hq.2 _ (List.getElem_mem hi)
  have hed : ∀ e, e ∈ s.procs[i].edges → (0 ≤ e.dst ∧ e.dst < s.procs[i].locs) ∧ e.var ≤ 2 ∧ (0 ≤ e.var → exprL.shape e.val 6 = true) := fun e he => by
    have h := hokP
    simp only [okP, Bool.and_eq_true, List.all_eq_true] at h
    have h1 := h.1 e he
    simp only [Edge.okB, Edge.okV, Bool.and_eq_true, decide_eq_true_eq] at h1
    refine ⟨h1.1.2.1, h1.2.2.2.1.2, fun hv => ?_⟩
    have h2 := h1.2.2.2.2
    rw [if_neg (by omega), Lang.valid, Bool.and_eq_true] at h2
    exact h2.1
  obtain ⟨d1, d2, d3⟩ := hed _ (List.getElem_mem hk)
  generalize s.procs[i].edges[k] = e at *
  have o3' := o3
  rw [Expr.okVals, Bool.and_eq_true, List.all_eq_true, decide_eq_true_eq] at o3'
  have hin : ∀ n, n ∈ vx → 0 ≤ n ∧ n ≤ 3 := fun n hn => by have := o3'.1 n hn; rw [Expr.inV, decide_eq_true_eq] at this; exact this
  have hpl : s.procs.length ≤ 3 := hq.1
  refine ⟨⟨by omega, by omega, d2, d3, o3, fun n hn => by have := hin n hn; unfold i64; omega⟩, ?_, by rw [List.length_set, el], ?_⟩
  · rw [State.okSt, State.hasB] at hok ⊢
    simp only [Bool.and_eq_true, decide_eq_true_eq] at hok ⊢
    refine ⟨hok.1, by rw [List.length_set]; exact hok.2.1, ?_, locsOk_set _ _ _ _ hok.2.2.2 (fun _ => d1)⟩
    unfold takeV
    split
    · rename_i hv
      have hb := evalT_bd (Expr.gOf vx) (fun v h0 h2 => ?_) 6 e.val (d3 hv)
      · rw [Expr.okVals, Bool.and_eq_true, List.all_eq_true, decide_eq_true_eq]
        refine ⟨fun n hn => ?_, by rw [List.length_set]; exact o3'.2⟩
        rw [Expr.inV, decide_eq_true_eq]
        rcases List.mem_or_eq_of_mem_set hn with h | h
        · exact hin n h
        · rw [h]; exact hb
      · obtain ⟨vn, rfl⟩ := Int.eq_ofNat_of_zero_le h0
        have hlt : vn < vx.length := by omega
        have : Expr.gOf vx (vn : Int) = vx[vn] := by simp [Expr.gOf, hlt]
        rw [this]
        exact hin _ (List.getElem_mem hlt)
    · exact o3
  · unfold takeV
    split
    · rw [List.length_set, ev]
    · exact ev

/-- between the takings -/
def ApSt (s : Sy) (w W0 : World) (O g1 g2 c1 c2 : Nat) (ls vs : List Int) (x1 x2 i1 i2 i3 i4 : Value) (W : World) (lx vx : List Int) : Prop :=
  State.okSt s lx vx = true ∧ lx.length = ls.length ∧ vx.length = vs.length ∧ BoxP W O (.slice (some ⟨g1, 0, none⟩) ls.length c1) (.slice (some ⟨g2, 0, none⟩) vs.length c2) ∧ BoxP W w.heap.size x1 x2 ∧ Box4 W (w.heap.size + 1 + 1) i1 i2 i3 i4 ∧ BoxP W (w.heap.size + 1 + 1 + 1) (.slice none 0 0) (.slice none 0 0) ∧
  RowI W g1 lx ∧ RowI W g2 vx ∧ Below W0.heap.size W0 W

set_option maxRecDepth 100000 in
set_option maxHeartbeats 4000000 in
theorem apply_any (s : Sy) (ls vs : List Int) (i k : Nat) (q f : Int) (w : World) (x y : Value) (hok : State.okSt s ls vs = true) (hi : i < s.procs.length) (hk : k < s.procs[i].edges.length)
    (hqf : q = -1 ∨ ∃ (j m : Nat) (hj : j < s.procs.length), q = j ∧ f = m ∧ m < s.procs[j].edges.length) (hx : SyIn Any w s x) (hy : PairIn Any w ls vs y) (hn : NilO y) :
    Calls Try.prog 88 #[x, y, .agg #[.int .i64 i, .int .i64 k, .int .i64 q, .int .i64 f]] w (ApPost s w) := by
  obtain ⟨ax, cx, bx, dx, rfl, _, _, _, hdx, hdx2, hP⟩ := id hx
  obtain ⟨a1, b1, k1', k2', rfl, hi1, hi2, c1, c2, d1, d2⟩ := id hy
  obtain ⟨n1, n2⟩ := hn _ _ _ _ _ _ rfl
  have I1 := hid hi1
  have I2 := hid hi2
  have HPP := hid hP
  have hfa := okSt_facts hok
  have hll : ls.length = s.procs.length := hfa.2.1
  have hp3 := (okSy_procs hfa.1).1
  have hvl3 : vs.length = 3 := by have h := hfa.2.2; rw [Expr.okVals, Bool.and_eq_true, decide_eq_true_eq] at h; exact h.2
  have HOK := hid hok
  have HLL := hid hll
  have HVL := hid hvl3
  have hls20 : ls.length ≤ 1000 := by omega
  have hvs20 : vs.length ≤ 1000 := by omega
  clear hn hi1 hi2 hP hfa hok hll hvl3 hx hy
  unfold maxLen at hdx2
  go_enter Try.func88, Try.ntmps88
  go_upto_region 1 with fail
  refine wp_gen (fun W => Below w.heap.size w W ∧ BoxP W w.heap.size (.slice ax s.init.length cx) (.slice bx s.procs.length dx) ∧ BoxP W (w.heap.size + 1) (.slice a1 ls.length k1') (.slice b1 vs.length k2') ∧ Box4 W (w.heap.size + 1 + 1) (.int .i64 i) (.int .i64 k) (.int .i64 q) (.int .i64 f) ∧ BoxP W (w.heap.size + 1 + 1 + 1) (.slice none 0 0) (.slice none 0 0) ∧ w.heap.size + 4 = W.heap.size)
    ⟨(by repeat (first | exact Below.refl _ _ | assumption | refine below_a ?_ _ | refine below_o ?_ _ | refine below_d ?_ | refine below_n ?_ _ | refine below_s ?_ (by first | (simp; done) | (simp; omega) | omega) _)), boxp_next (below_alloc _ _) (boxp_next (below_alloc _ _) (boxp_next (below_alloc _ _) (boxp_at rfl))), boxp_next (below_alloc _ _) (boxp_next (below_alloc _ _) (boxp_at (by simp))), box4_next (below_alloc _ _) (box4_at (by simp)), boxp_at (by simp), by simp⟩ ?_
  rintro W0 ⟨B0, Y0, P0, S0, Z0, hs0⟩
  have HB0 := hid B0
  have HY0 := hid Y0
  have HS0 := hid S0
  have HZ0 := hid Z0
  have HP := hid (HPP.out.below B0)
  have HI1 := hid (fun (W : World) (M : Below W0.heap.size W0 W) => (I1.out.below B0).below M)
  have HI2 := hid (fun (W : World) (M : Below W0.heap.size W0 W) => (I2.out.below B0).below M)
  clear B0 Y0 S0 Z0 HPP
  go_cut [7] (fun s7 wx => ∃ O v1 v2, s7 = .pointer (some ⟨O, 0, none⟩) ∧ Hid (Cl2 W0 ls vs O v1 v2 wx))
  case first =>
    obtain ⟨p0, p1, p2, p3, p4⟩ := P0
    refine wp_region_ord (C := fun wZ => ∃ xZ, wZ = World.over _ xZ) [1,2,5,6] (.thr 0 4 9 (.thr 3 4 9 (.two 4 9 (.two 7 9 (.two 8 9 (.one 9 (.fre 10 .done)) (.one 8 (.fre 10 .done))) (.one 7 (.one 8 (.fre 10 .done)))) (.one 4 (.one 7 (.one 8 (.fre 10 .done))))) (.two 3 9 (.two 7 9 (.two 8 9 (.one 9 (.fre 10 .done)) (.one 8 (.fre 10 .done))) (.one 7 (.one 8 (.fre 10 .done)))) (.one 3 (.one 7 (.one 8 (.fre 10 .done))))) (.two 3 4 (.one 4 (.one 7 (.one 8 (.fre 10 .done)))) (.one 3 (.one 7 (.one 8 (.fre 10 .done)))))) (.two 0 9 (.two 3 9 (.two 7 9 (.two 8 9 (.one 9 (.fre 10 .done)) (.one 8 (.fre 10 .done))) (.one 7 (.one 8 (.fre 10 .done)))) (.one 3 (.one 7 (.one 8 (.fre 10 .done))))) (.one 0 (.one 3 (.one 7 (.one 8 (.fre 10 .done)))))) (.two 0 4 (.two 3 4 (.one 4 (.one 7 (.one 8 (.fre 10 .done)))) (.one 3 (.one 7 (.one 8 (.fre 10 .done))))) (.one 0 (.one 3 (.one 7 (.one 8 (.fre 10 .done))))))) [10] (by kernel_rfl) (by kernel_rfl) (fun d _ _ _ _ h => by cases d <;> exact h) (bex (Below.refl _ _).drew) ?_
    simp only [pick, List.getElem?_cons_succ, List.getElem?_cons_zero]
    (repeat (go_big_quiet_step (fail)))
    refine wpQuiet_nil ?_
    have C := hid (below_d (Below.refl W0.heap.size W0))
    have lW := hid (show W0.heap.size ≤ W0.drew.heap.size from Nat.le_refl _)
    generalize W0.drew = v0 at *
    rw [ordW_thr]
    simp only [pick, List.getElem?_cons_succ, List.getElem?_cons_zero]
    refine ⟨?_, ?_, ?_⟩
    · go_wp2_with fail
      have h0 := below_alloc v0 (.cells #[] 3)
      replace C := hid (below_next C.out h0)
      have l1 := hid (show v0.heap.size < (v0.alloc (.cells #[] 3)).heap.size by simp)
      have g1 := hid (show W0.heap.size ≤ v0.heap.size from lW.out)
      replace lW := hid (Nat.le_trans lW.out h0.size)
      have M1 := hid (OwnI.made v0)
      refine ⟨bex C.out, ?_⟩
      clear h0
      generalize v0.alloc (.cells #[] 3) = v1 at *
      rw [ordW_thr]
      simp only [pick, List.getElem?_cons_succ, List.getElem?_cons_zero]
      refine ⟨?_, ?_, ?_⟩
      · go_wp2_with (at_builtin; refine wp_app_clone rfl _ _ rfl (v0.heap.size) ls a1 k1' rfl rfl M1.out l1.out n1 (HI1.out _ C.out) (by omega) ?_; intro k1 cc1 v2 hor hown hg hlt)
        have D1 := hid hown
        replace C := hid (below_own C.out M1.out g1.out hg)
        have gk := hid (show W0.heap.size ≤ k1 by rcases hor with rfl | rfl; exact g1.out; exact lW.out)
        clear l1
        have l1 := hid hlt
        replace lW := hid (Nat.le_trans lW.out hg.size)
        clear M1 hor hown hlt hg gk
        go_wp2_with fail
        refine ⟨bex C.out, ?_⟩
        rw [ordW_two]
        simp only [pick, List.getElem?_cons_succ, List.getElem?_cons_zero]
        refine ⟨?_, ?_⟩
        · go_wp2_with fail
          have h0 := below_alloc v2 (.cells #[] 3)
          replace D1 := hid (D1.out.next h0)
          replace C := hid (below_next C.out h0)
          have n12 := hid (show k1 ≠ v2.heap.size by have := l1.out; omega)
          replace l1 := hid (Nat.lt_of_lt_of_le l1.out h0.size)
          have l2 := hid (show v2.heap.size < (v2.alloc (.cells #[] 3)).heap.size by simp)
          have g2 := hid (show W0.heap.size ≤ v2.heap.size from lW.out)
          replace lW := hid (Nat.le_trans lW.out h0.size)
          have M2 := hid (OwnI.made v2)
          refine ⟨bex C.out, ?_⟩
          clear h0
          generalize v2.alloc (.cells #[] 3) = v3 at *
          rw [ordW_two]
          simp only [pick, List.getElem?_cons_succ, List.getElem?_cons_zero]
          refine ⟨?_, ?_⟩
          · go_wp2_with (at_builtin; refine wp_app_clone rfl _ _ rfl (v2.heap.size) vs b1 k2' rfl rfl M2.out l2.out n2 (HI2.out _ C.out) (by omega) ?_; intro k2 cc2 v4 hor hown hg hlt)
            have D2 := hid hown
            replace C := hid (below_own C.out M2.out g2.out hg)
            replace D1 := hid (D1.out.grow hg (by first | exact n12.out | exact Ne.symm n21.out))
            have m21 := hid (show k2 ≠ k1 by rcases hor with rfl | rfl; (first | exact Ne.symm n12.out | exact n21.out); (have := l1.out; omega))
            replace l1 := hid (Nat.lt_of_lt_of_le l1.out hg.size)
            have gk := hid (show W0.heap.size ≤ k2 by rcases hor with rfl | rfl; exact g2.out; exact lW.out)
            clear l2
            have l2 := hid hlt
            replace lW := hid (Nat.le_trans lW.out hg.size)
            (first | clear n12 | clear n21); have n21 := hid m21.out; clear m21
            clear M2 hor hown hlt hg gk
            go_wp2_with fail
            refine ⟨bex C.out, ?_⟩
            rw [ordW_two]
            simp only [pick, List.getElem?_cons_succ, List.getElem?_cons_zero]
            refine ⟨?_, ?_⟩
            · go_wp2_with fail
              refine ⟨bex C.out, ?_⟩
              rw [ordW_one]
              simp only [pick, List.getElem?_cons_succ, List.getElem?_cons_zero]
              go_wp2_with fail
              have h0 := below_alloc v4 (.cells #[.slice none 0 0, .slice none 0 0] 91)
              replace D1 := hid (D1.out.next h0)
              replace D2 := hid (D2.out.next h0)
              replace C := hid (below_next C.out h0)
              have n1O := hid (show k1 ≠ v4.heap.size by have := l1.out; omega)
              have n2O := hid (show k2 ≠ v4.heap.size by have := l2.out; omega)
              replace l1 := hid (Nat.lt_of_lt_of_le l1.out h0.size)
              replace l2 := hid (Nat.lt_of_lt_of_le l2.out h0.size)
              have lO := hid (show v4.heap.size < (v4.alloc (.cells #[.slice none 0 0, .slice none 0 0] 91)).heap.size by simp)
              have gO := hid (show W0.heap.size ≤ v4.heap.size from lW.out)
              replace lW := hid (Nat.le_trans lW.out h0.size)
              have X := hid (boxp_at (w := v4) (B := v4.heap.size) (a := .slice none 0 0) (b := .slice none 0 0) (t := 91) rfl)
              refine ⟨bex C.out, ?_⟩
              clear h0
              generalize v4.alloc (.cells #[.slice none 0 0, .slice none 0 0] 91) = v5 at *
              rw [ordW_fre]
              simp only [pick, List.getElem?_cons_succ, List.getElem?_cons_zero]
              obtain ⟨x0, x1, x2, x3, x4⟩ := id X.out
              have hC := Cl2.mk2 D1.out D2.out X.out g1.out g2.out gO.out (by first | exact n1O.out | exact Ne.symm nO1.out) (by first | exact n2O.out | exact Ne.symm nO2.out) (by first | exact n12.out | exact Ne.symm n21.out) C.out
              have HC := hid hC
              clear hC
              go_wp2_with fail
              rw [ordW_done]
              go_wp2_with fail
              go_meet
              exact ⟨_, _, _, rfl, hid (HC.out)⟩
            · go_wp2_with fail
              have h0 := below_alloc v4 (.cells #[.slice none 0 0, .slice none 0 0] 91)
              replace D1 := hid (D1.out.next h0)
              replace D2 := hid (D2.out.next h0)
              replace C := hid (below_next C.out h0)
              have n1O := hid (show k1 ≠ v4.heap.size by have := l1.out; omega)
              have n2O := hid (show k2 ≠ v4.heap.size by have := l2.out; omega)
              replace l1 := hid (Nat.lt_of_lt_of_le l1.out h0.size)
              replace l2 := hid (Nat.lt_of_lt_of_le l2.out h0.size)
              have lO := hid (show v4.heap.size < (v4.alloc (.cells #[.slice none 0 0, .slice none 0 0] 91)).heap.size by simp)
              have gO := hid (show W0.heap.size ≤ v4.heap.size from lW.out)
              replace lW := hid (Nat.le_trans lW.out h0.size)
              have X := hid (boxp_at (w := v4) (B := v4.heap.size) (a := .slice none 0 0) (b := .slice none 0 0) (t := 91) rfl)
              refine ⟨bex C.out, ?_⟩
              clear h0
              generalize v4.alloc (.cells #[.slice none 0 0, .slice none 0 0] 91) = v6 at *
              rw [ordW_one]
              simp only [pick, List.getElem?_cons_succ, List.getElem?_cons_zero]
              go_wp2_with fail
              refine ⟨bex C.out, ?_⟩
              rw [ordW_fre]
              simp only [pick, List.getElem?_cons_succ, List.getElem?_cons_zero]
              obtain ⟨x0, x1, x2, x3, x4⟩ := id X.out
              have hC := Cl2.mk2 D1.out D2.out X.out g1.out g2.out gO.out (by first | exact n1O.out | exact Ne.symm nO1.out) (by first | exact n2O.out | exact Ne.symm nO2.out) (by first | exact n12.out | exact Ne.symm n21.out) C.out
              have HC := hid hC
              clear hC
              go_wp2_with fail
              rw [ordW_done]
              go_wp2_with fail
              go_meet
              exact ⟨_, _, _, rfl, hid (HC.out)⟩
          · go_wp2_with fail
            have h0 := below_alloc v3 (.cells #[.slice none 0 0, .slice none 0 0] 91)
            replace D1 := hid (D1.out.next h0)
            replace M2 := hid (M2.out.next h0)
            replace C := hid (below_next C.out h0)
            have n1O := hid (show k1 ≠ v3.heap.size by have := l1.out; omega)
            have n2O := hid (show v2.heap.size ≠ v3.heap.size by have := l2.out; omega)
            replace l1 := hid (Nat.lt_of_lt_of_le l1.out h0.size)
            replace l2 := hid (Nat.lt_of_lt_of_le l2.out h0.size)
            have lO := hid (show v3.heap.size < (v3.alloc (.cells #[.slice none 0 0, .slice none 0 0] 91)).heap.size by simp)
            have gO := hid (show W0.heap.size ≤ v3.heap.size from lW.out)
            replace lW := hid (Nat.le_trans lW.out h0.size)
            have X := hid (boxp_at (w := v3) (B := v3.heap.size) (a := .slice none 0 0) (b := .slice none 0 0) (t := 91) rfl)
            refine ⟨bex C.out, ?_⟩
            clear h0
            generalize v3.alloc (.cells #[.slice none 0 0, .slice none 0 0] 91) = v7 at *
            rw [ordW_one]
            simp only [pick, List.getElem?_cons_succ, List.getElem?_cons_zero]
            go_wp2_with (at_builtin; refine wp_app_clone rfl _ _ rfl (v2.heap.size) vs b1 k2' rfl rfl M2.out l2.out n2 (HI2.out _ C.out) (by omega) ?_; intro k2 cc2 v8 hor hown hg hlt)
            have D2 := hid hown
            replace C := hid (below_own C.out M2.out g2.out hg)
            replace D1 := hid (D1.out.grow hg (by first | exact n12.out | exact Ne.symm n21.out))
            replace X := hid (boxp_grown hg (by first | exact nO2.out | exact Ne.symm n2O.out) X.out)
            have m21 := hid (show k2 ≠ k1 by rcases hor with rfl | rfl; (first | exact Ne.symm n12.out | exact n21.out); (have := l1.out; omega))
            have m2O := hid (show k2 ≠ v3.heap.size by rcases hor with rfl | rfl; (first | exact Ne.symm nO2.out | exact n2O.out); (have := lO.out; omega))
            replace l1 := hid (Nat.lt_of_lt_of_le l1.out hg.size)
            replace lO := hid (Nat.lt_of_lt_of_le lO.out hg.size)
            have gk := hid (show W0.heap.size ≤ k2 by rcases hor with rfl | rfl; exact g2.out; exact lW.out)
            clear l2
            have l2 := hid hlt
            replace lW := hid (Nat.le_trans lW.out hg.size)
            (first | clear n12 | clear n21); have n21 := hid m21.out; clear m21
            (first | clear nO2 | clear n2O); have n2O := hid m2O.out; clear m2O
            clear M2 hor hown hlt hg gk
            go_wp2_with fail
            refine ⟨bex C.out, ?_⟩
            rw [ordW_one]
            simp only [pick, List.getElem?_cons_succ, List.getElem?_cons_zero]
            go_wp2_with fail
            refine ⟨bex C.out, ?_⟩
            rw [ordW_fre]
            simp only [pick, List.getElem?_cons_succ, List.getElem?_cons_zero]
            obtain ⟨x0, x1, x2, x3, x4⟩ := id X.out
            have hC := Cl2.mk2 D1.out D2.out X.out g1.out g2.out gO.out (by first | exact n1O.out | exact Ne.symm nO1.out) (by first | exact n2O.out | exact Ne.symm nO2.out) (by first | exact n12.out | exact Ne.symm n21.out) C.out
            have HC := hid hC
            clear hC
            go_wp2_with fail
            rw [ordW_done]
            go_wp2_with fail
            go_meet
            exact ⟨_, _, _, rfl, hid (HC.out)⟩
        · go_wp2_with fail
          have h0 := below_alloc v2 (.cells #[.slice none 0 0, .slice none 0 0] 91)
          replace D1 := hid (D1.out.next h0)
          replace C := hid (below_next C.out h0)
          have n1O := hid (show k1 ≠ v2.heap.size by have := l1.out; omega)
          replace l1 := hid (Nat.lt_of_lt_of_le l1.out h0.size)
          have lO := hid (show v2.heap.size < (v2.alloc (.cells #[.slice none 0 0, .slice none 0 0] 91)).heap.size by simp)
          have gO := hid (show W0.heap.size ≤ v2.heap.size from lW.out)
          replace lW := hid (Nat.le_trans lW.out h0.size)
          have X := hid (boxp_at (w := v2) (B := v2.heap.size) (a := .slice none 0 0) (b := .slice none 0 0) (t := 91) rfl)
          refine ⟨bex C.out, ?_⟩
          clear h0
          generalize v2.alloc (.cells #[.slice none 0 0, .slice none 0 0] 91) = v9 at *
          rw [ordW_one]
          simp only [pick, List.getElem?_cons_succ, List.getElem?_cons_zero]
          go_wp2_with fail
          have h0 := below_alloc v9 (.cells #[] 3)
          replace D1 := hid (D1.out.next h0)
          replace X := hid (boxp_next h0 X.out)
          replace C := hid (below_next C.out h0)
          have n12 := hid (show k1 ≠ v9.heap.size by have := l1.out; omega)
          have nO2 := hid (show v2.heap.size ≠ v9.heap.size by have := lO.out; omega)
          replace l1 := hid (Nat.lt_of_lt_of_le l1.out h0.size)
          replace lO := hid (Nat.lt_of_lt_of_le lO.out h0.size)
          have l2 := hid (show v9.heap.size < (v9.alloc (.cells #[] 3)).heap.size by simp)
          have g2 := hid (show W0.heap.size ≤ v9.heap.size from lW.out)
          replace lW := hid (Nat.le_trans lW.out h0.size)
          have M2 := hid (OwnI.made v9)
          refine ⟨bex C.out, ?_⟩
          clear h0
          generalize v9.alloc (.cells #[] 3) = v10 at *
          rw [ordW_one]
          simp only [pick, List.getElem?_cons_succ, List.getElem?_cons_zero]
          go_wp2_with (at_builtin; refine wp_app_clone rfl _ _ rfl (v9.heap.size) vs b1 k2' rfl rfl M2.out l2.out n2 (HI2.out _ C.out) (by omega) ?_; intro k2 cc2 v11 hor hown hg hlt)
          have D2 := hid hown
          replace C := hid (below_own C.out M2.out g2.out hg)
          replace D1 := hid (D1.out.grow hg (by first | exact n12.out | exact Ne.symm n21.out))
          replace X := hid (boxp_grown hg (by first | exact nO2.out | exact Ne.symm n2O.out) X.out)
          have m21 := hid (show k2 ≠ k1 by rcases hor with rfl | rfl; (first | exact Ne.symm n12.out | exact n21.out); (have := l1.out; omega))
          have m2O := hid (show k2 ≠ v2.heap.size by rcases hor with rfl | rfl; (first | exact Ne.symm nO2.out | exact n2O.out); (have := lO.out; omega))
          replace l1 := hid (Nat.lt_of_lt_of_le l1.out hg.size)
          replace lO := hid (Nat.lt_of_lt_of_le lO.out hg.size)
          have gk := hid (show W0.heap.size ≤ k2 by rcases hor with rfl | rfl; exact g2.out; exact lW.out)
          clear l2
          have l2 := hid hlt
          replace lW := hid (Nat.le_trans lW.out hg.size)
          (first | clear n12 | clear n21); have n21 := hid m21.out; clear m21
          (first | clear nO2 | clear n2O); have n2O := hid m2O.out; clear m2O
          clear M2 hor hown hlt hg gk
          go_wp2_with fail
          refine ⟨bex C.out, ?_⟩
          rw [ordW_one]
          simp only [pick, List.getElem?_cons_succ, List.getElem?_cons_zero]
          go_wp2_with fail
          refine ⟨bex C.out, ?_⟩
          rw [ordW_fre]
          simp only [pick, List.getElem?_cons_succ, List.getElem?_cons_zero]
          obtain ⟨x0, x1, x2, x3, x4⟩ := id X.out
          have hC := Cl2.mk2 D1.out D2.out X.out g1.out g2.out gO.out (by first | exact n1O.out | exact Ne.symm nO1.out) (by first | exact n2O.out | exact Ne.symm nO2.out) (by first | exact n12.out | exact Ne.symm n21.out) C.out
          have HC := hid hC
          clear hC
          go_wp2_with fail
          rw [ordW_done]
          go_wp2_with fail
          go_meet
          exact ⟨_, _, _, rfl, hid (HC.out)⟩
      · go_wp2_with fail
        have h0 := below_alloc v1 (.cells #[] 3)
        replace M1 := hid (M1.out.next h0)
        replace C := hid (below_next C.out h0)
        have n12 := hid (show v0.heap.size ≠ v1.heap.size by have := l1.out; omega)
        replace l1 := hid (Nat.lt_of_lt_of_le l1.out h0.size)
        have l2 := hid (show v1.heap.size < (v1.alloc (.cells #[] 3)).heap.size by simp)
        have g2 := hid (show W0.heap.size ≤ v1.heap.size from lW.out)
        replace lW := hid (Nat.le_trans lW.out h0.size)
        have M2 := hid (OwnI.made v1)
        refine ⟨bex C.out, ?_⟩
        clear h0
        generalize v1.alloc (.cells #[] 3) = v12 at *
        rw [ordW_two]
        simp only [pick, List.getElem?_cons_succ, List.getElem?_cons_zero]
        refine ⟨?_, ?_⟩
        · go_wp2_with (at_builtin; refine wp_app_clone rfl _ _ rfl (v0.heap.size) ls a1 k1' rfl rfl M1.out l1.out n1 (HI1.out _ C.out) (by omega) ?_; intro k1 cc1 v13 hor hown hg hlt)
          have D1 := hid hown
          replace C := hid (below_own C.out M1.out g1.out hg)
          replace M2 := hid (M2.out.grow hg (by first | exact n21.out | exact Ne.symm n12.out))
          have m12 := hid (show k1 ≠ v1.heap.size by rcases hor with rfl | rfl; (first | exact Ne.symm n21.out | exact n12.out); (have := l2.out; omega))
          replace l2 := hid (Nat.lt_of_lt_of_le l2.out hg.size)
          have gk := hid (show W0.heap.size ≤ k1 by rcases hor with rfl | rfl; exact g1.out; exact lW.out)
          clear l1
          have l1 := hid hlt
          replace lW := hid (Nat.le_trans lW.out hg.size)
          (first | clear n21 | clear n12); have n12 := hid m12.out; clear m12
          clear M1 hor hown hlt hg gk
          go_wp2_with fail
          refine ⟨bex C.out, ?_⟩
          rw [ordW_two]
          simp only [pick, List.getElem?_cons_succ, List.getElem?_cons_zero]
          refine ⟨?_, ?_⟩
          · go_wp2_with (at_builtin; refine wp_app_clone rfl _ _ rfl (v1.heap.size) vs b1 k2' rfl rfl M2.out l2.out n2 (HI2.out _ C.out) (by omega) ?_; intro k2 cc2 v14 hor hown hg hlt)
            have D2 := hid hown
            replace C := hid (below_own C.out M2.out g2.out hg)
            replace D1 := hid (D1.out.grow hg (by first | exact n12.out | exact Ne.symm n21.out))
            have m21 := hid (show k2 ≠ k1 by rcases hor with rfl | rfl; (first | exact Ne.symm n12.out | exact n21.out); (have := l1.out; omega))
            replace l1 := hid (Nat.lt_of_lt_of_le l1.out hg.size)
            have gk := hid (show W0.heap.size ≤ k2 by rcases hor with rfl | rfl; exact g2.out; exact lW.out)
            clear l2
            have l2 := hid hlt
            replace lW := hid (Nat.le_trans lW.out hg.size)
            (first | clear n12 | clear n21); have n21 := hid m21.out; clear m21
            clear M2 hor hown hlt hg gk
            go_wp2_with fail
            refine ⟨bex C.out, ?_⟩
            rw [ordW_two]
            simp only [pick, List.getElem?_cons_succ, List.getElem?_cons_zero]
            refine ⟨?_, ?_⟩
            · go_wp2_with fail
              refine ⟨bex C.out, ?_⟩
              rw [ordW_one]
              simp only [pick, List.getElem?_cons_succ, List.getElem?_cons_zero]
              go_wp2_with fail
              have h0 := below_alloc v14 (.cells #[.slice none 0 0, .slice none 0 0] 91)
              replace D1 := hid (D1.out.next h0)
              replace D2 := hid (D2.out.next h0)
              replace C := hid (below_next C.out h0)
              have n1O := hid (show k1 ≠ v14.heap.size by have := l1.out; omega)
              have n2O := hid (show k2 ≠ v14.heap.size by have := l2.out; omega)
              replace l1 := hid (Nat.lt_of_lt_of_le l1.out h0.size)
              replace l2 := hid (Nat.lt_of_lt_of_le l2.out h0.size)
              have lO := hid (show v14.heap.size < (v14.alloc (.cells #[.slice none 0 0, .slice none 0 0] 91)).heap.size by simp)
              have gO := hid (show W0.heap.size ≤ v14.heap.size from lW.out)
              replace lW := hid (Nat.le_trans lW.out h0.size)
              have X := hid (boxp_at (w := v14) (B := v14.heap.size) (a := .slice none 0 0) (b := .slice none 0 0) (t := 91) rfl)
              refine ⟨bex C.out, ?_⟩
              clear h0
              generalize v14.alloc (.cells #[.slice none 0 0, .slice none 0 0] 91) = v15 at *
              rw [ordW_fre]
              simp only [pick, List.getElem?_cons_succ, List.getElem?_cons_zero]
              obtain ⟨x0, x1, x2, x3, x4⟩ := id X.out
              have hC := Cl2.mk2 D1.out D2.out X.out g1.out g2.out gO.out (by first | exact n1O.out | exact Ne.symm nO1.out) (by first | exact n2O.out | exact Ne.symm nO2.out) (by first | exact n12.out | exact Ne.symm n21.out) C.out
              have HC := hid hC
              clear hC
              go_wp2_with fail
              rw [ordW_done]
              go_wp2_with fail
              go_meet
              exact ⟨_, _, _, rfl, hid (HC.out)⟩
            · go_wp2_with fail
              have h0 := below_alloc v14 (.cells #[.slice none 0 0, .slice none 0 0] 91)
              replace D1 := hid (D1.out.next h0)
              replace D2 := hid (D2.out.next h0)
              replace C := hid (below_next C.out h0)
              have n1O := hid (show k1 ≠ v14.heap.size by have := l1.out; omega)
              have n2O := hid (show k2 ≠ v14.heap.size by have := l2.out; omega)
              replace l1 := hid (Nat.lt_of_lt_of_le l1.out h0.size)
              replace l2 := hid (Nat.lt_of_lt_of_le l2.out h0.size)
              have lO := hid (show v14.heap.size < (v14.alloc (.cells #[.slice none 0 0, .slice none 0 0] 91)).heap.size by simp)
              have gO := hid (show W0.heap.size ≤ v14.heap.size from lW.out)
              replace lW := hid (Nat.le_trans lW.out h0.size)
              have X := hid (boxp_at (w := v14) (B := v14.heap.size) (a := .slice none 0 0) (b := .slice none 0 0) (t := 91) rfl)
              refine ⟨bex C.out, ?_⟩
              clear h0
              generalize v14.alloc (.cells #[.slice none 0 0, .slice none 0 0] 91) = v16 at *
              rw [ordW_one]
              simp only [pick, List.getElem?_cons_succ, List.getElem?_cons_zero]
              go_wp2_with fail
              refine ⟨bex C.out, ?_⟩
              rw [ordW_fre]
              simp only [pick, List.getElem?_cons_succ, List.getElem?_cons_zero]
              obtain ⟨x0, x1, x2, x3, x4⟩ := id X.out
              have hC := Cl2.mk2 D1.out D2.out X.out g1.out g2.out gO.out (by first | exact n1O.out | exact Ne.symm nO1.out) (by first | exact n2O.out | exact Ne.symm nO2.out) (by first | exact n12.out | exact Ne.symm n21.out) C.out
              have HC := hid hC
              clear hC
              go_wp2_with fail
              rw [ordW_done]
              go_wp2_with fail
              go_meet
              exact ⟨_, _, _, rfl, hid (HC.out)⟩
          · go_wp2_with fail
            have h0 := below_alloc v13 (.cells #[.slice none 0 0, .slice none 0 0] 91)
            replace M2 := hid (M2.out.next h0)
            replace D1 := hid (D1.out.next h0)
            replace C := hid (below_next C.out h0)
            have n1O := hid (show k1 ≠ v13.heap.size by have := l1.out; omega)
            have n2O := hid (show v1.heap.size ≠ v13.heap.size by have := l2.out; omega)
            replace l1 := hid (Nat.lt_of_lt_of_le l1.out h0.size)
            replace l2 := hid (Nat.lt_of_lt_of_le l2.out h0.size)
            have lO := hid (show v13.heap.size < (v13.alloc (.cells #[.slice none 0 0, .slice none 0 0] 91)).heap.size by simp)
            have gO := hid (show W0.heap.size ≤ v13.heap.size from lW.out)
            replace lW := hid (Nat.le_trans lW.out h0.size)
            have X := hid (boxp_at (w := v13) (B := v13.heap.size) (a := .slice none 0 0) (b := .slice none 0 0) (t := 91) rfl)
            refine ⟨bex C.out, ?_⟩
            clear h0
            generalize v13.alloc (.cells #[.slice none 0 0, .slice none 0 0] 91) = v17 at *
            rw [ordW_one]
            simp only [pick, List.getElem?_cons_succ, List.getElem?_cons_zero]
            go_wp2_with (at_builtin; refine wp_app_clone rfl _ _ rfl (v1.heap.size) vs b1 k2' rfl rfl M2.out l2.out n2 (HI2.out _ C.out) (by omega) ?_; intro k2 cc2 v18 hor hown hg hlt)
            have D2 := hid hown
            replace C := hid (below_own C.out M2.out g2.out hg)
            replace D1 := hid (D1.out.grow hg (by first | exact n12.out | exact Ne.symm n21.out))
            replace X := hid (boxp_grown hg (by first | exact nO2.out | exact Ne.symm n2O.out) X.out)
            have m21 := hid (show k2 ≠ k1 by rcases hor with rfl | rfl; (first | exact Ne.symm n12.out | exact n21.out); (have := l1.out; omega))
            have m2O := hid (show k2 ≠ v13.heap.size by rcases hor with rfl | rfl; (first | exact Ne.symm nO2.out | exact n2O.out); (have := lO.out; omega))
            replace l1 := hid (Nat.lt_of_lt_of_le l1.out hg.size)
            replace lO := hid (Nat.lt_of_lt_of_le lO.out hg.size)
            have gk := hid (show W0.heap.size ≤ k2 by rcases hor with rfl | rfl; exact g2.out; exact lW.out)
            clear l2
            have l2 := hid hlt
            replace lW := hid (Nat.le_trans lW.out hg.size)
            (first | clear n12 | clear n21); have n21 := hid m21.out; clear m21
            (first | clear nO2 | clear n2O); have n2O := hid m2O.out; clear m2O
            clear M2 hor hown hlt hg gk
            go_wp2_with fail
            refine ⟨bex C.out, ?_⟩
            rw [ordW_one]
            simp only [pick, List.getElem?_cons_succ, List.getElem?_cons_zero]
            go_wp2_with fail
            refine ⟨bex C.out, ?_⟩
            rw [ordW_fre]
            simp only [pick, List.getElem?_cons_succ, List.getElem?_cons_zero]
            obtain ⟨x0, x1, x2, x3, x4⟩ := id X.out
            have hC := Cl2.mk2 D1.out D2.out X.out g1.out g2.out gO.out (by first | exact n1O.out | exact Ne.symm nO1.out) (by first | exact n2O.out | exact Ne.symm nO2.out) (by first | exact n12.out | exact Ne.symm n21.out) C.out
            have HC := hid hC
            clear hC
            go_wp2_with fail
            rw [ordW_done]
            go_wp2_with fail
            go_meet
            exact ⟨_, _, _, rfl, hid (HC.out)⟩
        · go_wp2_with fail
          have h0 := below_alloc v12 (.cells #[.slice none 0 0, .slice none 0 0] 91)
          replace M1 := hid (M1.out.next h0)
          replace M2 := hid (M2.out.next h0)
          replace C := hid (below_next C.out h0)
          have n1O := hid (show v0.heap.size ≠ v12.heap.size by have := l1.out; omega)
          have n2O := hid (show v1.heap.size ≠ v12.heap.size by have := l2.out; omega)
          replace l1 := hid (Nat.lt_of_lt_of_le l1.out h0.size)
          replace l2 := hid (Nat.lt_of_lt_of_le l2.out h0.size)
          have lO := hid (show v12.heap.size < (v12.alloc (.cells #[.slice none 0 0, .slice none 0 0] 91)).heap.size by simp)
          have gO := hid (show W0.heap.size ≤ v12.heap.size from lW.out)
          replace lW := hid (Nat.le_trans lW.out h0.size)
          have X := hid (boxp_at (w := v12) (B := v12.heap.size) (a := .slice none 0 0) (b := .slice none 0 0) (t := 91) rfl)
          refine ⟨bex C.out, ?_⟩
          clear h0
          generalize v12.alloc (.cells #[.slice none 0 0, .slice none 0 0] 91) = v19 at *
          rw [ordW_one]
          simp only [pick, List.getElem?_cons_succ, List.getElem?_cons_zero]
          go_wp2_with (at_builtin; refine wp_app_clone rfl _ _ rfl (v0.heap.size) ls a1 k1' rfl rfl M1.out l1.out n1 (HI1.out _ C.out) (by omega) ?_; intro k1 cc1 v20 hor hown hg hlt)
          have D1 := hid hown
          replace C := hid (below_own C.out M1.out g1.out hg)
          replace M2 := hid (M2.out.grow hg (by first | exact n21.out | exact Ne.symm n12.out))
          replace X := hid (boxp_grown hg (by first | exact nO1.out | exact Ne.symm n1O.out) X.out)
          have m12 := hid (show k1 ≠ v1.heap.size by rcases hor with rfl | rfl; (first | exact Ne.symm n21.out | exact n12.out); (have := l2.out; omega))
          have m1O := hid (show k1 ≠ v12.heap.size by rcases hor with rfl | rfl; (first | exact Ne.symm nO1.out | exact n1O.out); (have := lO.out; omega))
          replace l2 := hid (Nat.lt_of_lt_of_le l2.out hg.size)
          replace lO := hid (Nat.lt_of_lt_of_le lO.out hg.size)
          have gk := hid (show W0.heap.size ≤ k1 by rcases hor with rfl | rfl; exact g1.out; exact lW.out)
          clear l1
          have l1 := hid hlt
          replace lW := hid (Nat.le_trans lW.out hg.size)
          (first | clear n21 | clear n12); have n12 := hid m12.out; clear m12
          (first | clear nO1 | clear n1O); have n1O := hid m1O.out; clear m1O
          clear M1 hor hown hlt hg gk
          go_wp2_with fail
          refine ⟨bex C.out, ?_⟩
          rw [ordW_one]
          simp only [pick, List.getElem?_cons_succ, List.getElem?_cons_zero]
          go_wp2_with (at_builtin; refine wp_app_clone rfl _ _ rfl (v1.heap.size) vs b1 k2' rfl rfl M2.out l2.out n2 (HI2.out _ C.out) (by omega) ?_; intro k2 cc2 v21 hor hown hg hlt)
          have D2 := hid hown
          replace C := hid (below_own C.out M2.out g2.out hg)
          replace D1 := hid (D1.out.grow hg (by first | exact n12.out | exact Ne.symm n21.out))
          replace X := hid (boxp_grown hg (by first | exact nO2.out | exact Ne.symm n2O.out) X.out)
          have m21 := hid (show k2 ≠ k1 by rcases hor with rfl | rfl; (first | exact Ne.symm n12.out | exact n21.out); (have := l1.out; omega))
          have m2O := hid (show k2 ≠ v12.heap.size by rcases hor with rfl | rfl; (first | exact Ne.symm nO2.out | exact n2O.out); (have := lO.out; omega))
          replace l1 := hid (Nat.lt_of_lt_of_le l1.out hg.size)
          replace lO := hid (Nat.lt_of_lt_of_le lO.out hg.size)
          have gk := hid (show W0.heap.size ≤ k2 by rcases hor with rfl | rfl; exact g2.out; exact lW.out)
          clear l2
          have l2 := hid hlt
          replace lW := hid (Nat.le_trans lW.out hg.size)
          (first | clear n12 | clear n21); have n21 := hid m21.out; clear m21
          (first | clear nO2 | clear n2O); have n2O := hid m2O.out; clear m2O
          clear M2 hor hown hlt hg gk
          go_wp2_with fail
          refine ⟨bex C.out, ?_⟩
          rw [ordW_one]
          simp only [pick, List.getElem?_cons_succ, List.getElem?_cons_zero]
          go_wp2_with fail
          refine ⟨bex C.out, ?_⟩
          rw [ordW_fre]
          simp only [pick, List.getElem?_cons_succ, List.getElem?_cons_zero]
          obtain ⟨x0, x1, x2, x3, x4⟩ := id X.out
          have hC := Cl2.mk2 D1.out D2.out X.out g1.out g2.out gO.out (by first | exact n1O.out | exact Ne.symm nO1.out) (by first | exact n2O.out | exact Ne.symm nO2.out) (by first | exact n12.out | exact Ne.symm n21.out) C.out
          have HC := hid hC
          clear hC
          go_wp2_with fail
          rw [ordW_done]
          go_wp2_with fail
          go_meet
          exact ⟨_, _, _, rfl, hid (HC.out)⟩
      · go_wp2_with fail
        have h0 := below_alloc v1 (.cells #[.slice none 0 0, .slice none 0 0] 91)
        replace M1 := hid (M1.out.next h0)
        replace C := hid (below_next C.out h0)
        have n1O := hid (show v0.heap.size ≠ v1.heap.size by have := l1.out; omega)
        replace l1 := hid (Nat.lt_of_lt_of_le l1.out h0.size)
        have lO := hid (show v1.heap.size < (v1.alloc (.cells #[.slice none 0 0, .slice none 0 0] 91)).heap.size by simp)
        have gO := hid (show W0.heap.size ≤ v1.heap.size from lW.out)
        replace lW := hid (Nat.le_trans lW.out h0.size)
        have X := hid (boxp_at (w := v1) (B := v1.heap.size) (a := .slice none 0 0) (b := .slice none 0 0) (t := 91) rfl)
        refine ⟨bex C.out, ?_⟩
        clear h0
        generalize v1.alloc (.cells #[.slice none 0 0, .slice none 0 0] 91) = v22 at *
        rw [ordW_two]
        simp only [pick, List.getElem?_cons_succ, List.getElem?_cons_zero]
        refine ⟨?_, ?_⟩
        · go_wp2_with (at_builtin; refine wp_app_clone rfl _ _ rfl (v0.heap.size) ls a1 k1' rfl rfl M1.out l1.out n1 (HI1.out _ C.out) (by omega) ?_; intro k1 cc1 v23 hor hown hg hlt)
          have D1 := hid hown
          replace C := hid (below_own C.out M1.out g1.out hg)
          replace X := hid (boxp_grown hg (by first | exact nO1.out | exact Ne.symm n1O.out) X.out)
          have m1O := hid (show k1 ≠ v1.heap.size by rcases hor with rfl | rfl; (first | exact Ne.symm nO1.out | exact n1O.out); (have := lO.out; omega))
          replace lO := hid (Nat.lt_of_lt_of_le lO.out hg.size)
          have gk := hid (show W0.heap.size ≤ k1 by rcases hor with rfl | rfl; exact g1.out; exact lW.out)
          clear l1
          have l1 := hid hlt
          replace lW := hid (Nat.le_trans lW.out hg.size)
          (first | clear nO1 | clear n1O); have n1O := hid m1O.out; clear m1O
          clear M1 hor hown hlt hg gk
          go_wp2_with fail
          refine ⟨bex C.out, ?_⟩
          rw [ordW_one]
          simp only [pick, List.getElem?_cons_succ, List.getElem?_cons_zero]
          go_wp2_with fail
          have h0 := below_alloc v23 (.cells #[] 3)
          replace D1 := hid (D1.out.next h0)
          replace X := hid (boxp_next h0 X.out)
          replace C := hid (below_next C.out h0)
          have n12 := hid (show k1 ≠ v23.heap.size by have := l1.out; omega)
          have nO2 := hid (show v1.heap.size ≠ v23.heap.size by have := lO.out; omega)
          replace l1 := hid (Nat.lt_of_lt_of_le l1.out h0.size)
          replace lO := hid (Nat.lt_of_lt_of_le lO.out h0.size)
          have l2 := hid (show v23.heap.size < (v23.alloc (.cells #[] 3)).heap.size by simp)
          have g2 := hid (show W0.heap.size ≤ v23.heap.size from lW.out)
          replace lW := hid (Nat.le_trans lW.out h0.size)
          have M2 := hid (OwnI.made v23)
          refine ⟨bex C.out, ?_⟩
          clear h0
          generalize v23.alloc (.cells #[] 3) = v24 at *
          rw [ordW_one]
          simp only [pick, List.getElem?_cons_succ, List.getElem?_cons_zero]
          go_wp2_with (at_builtin; refine wp_app_clone rfl _ _ rfl (v23.heap.size) vs b1 k2' rfl rfl M2.out l2.out n2 (HI2.out _ C.out) (by omega) ?_; intro k2 cc2 v25 hor hown hg hlt)
          have D2 := hid hown
          replace C := hid (below_own C.out M2.out g2.out hg)
          replace D1 := hid (D1.out.grow hg (by first | exact n12.out | exact Ne.symm n21.out))
          replace X := hid (boxp_grown hg (by first | exact nO2.out | exact Ne.symm n2O.out) X.out)
          have m21 := hid (show k2 ≠ k1 by rcases hor with rfl | rfl; (first | exact Ne.symm n12.out | exact n21.out); (have := l1.out; omega))
          have m2O := hid (show k2 ≠ v1.heap.size by rcases hor with rfl | rfl; (first | exact Ne.symm nO2.out | exact n2O.out); (have := lO.out; omega))
          replace l1 := hid (Nat.lt_of_lt_of_le l1.out hg.size)
          replace lO := hid (Nat.lt_of_lt_of_le lO.out hg.size)
          have gk := hid (show W0.heap.size ≤ k2 by rcases hor with rfl | rfl; exact g2.out; exact lW.out)
          clear l2
          have l2 := hid hlt
          replace lW := hid (Nat.le_trans lW.out hg.size)
          (first | clear n12 | clear n21); have n21 := hid m21.out; clear m21
          (first | clear nO2 | clear n2O); have n2O := hid m2O.out; clear m2O
          clear M2 hor hown hlt hg gk
          go_wp2_with fail
          refine ⟨bex C.out, ?_⟩
          rw [ordW_one]
          simp only [pick, List.getElem?_cons_succ, List.getElem?_cons_zero]
          go_wp2_with fail
          refine ⟨bex C.out, ?_⟩
          rw [ordW_fre]
          simp only [pick, List.getElem?_cons_succ, List.getElem?_cons_zero]
          obtain ⟨x0, x1, x2, x3, x4⟩ := id X.out
          have hC := Cl2.mk2 D1.out D2.out X.out g1.out g2.out gO.out (by first | exact n1O.out | exact Ne.symm nO1.out) (by first | exact n2O.out | exact Ne.symm nO2.out) (by first | exact n12.out | exact Ne.symm n21.out) C.out
          have HC := hid hC
          clear hC
          go_wp2_with fail
          rw [ordW_done]
          go_wp2_with fail
          go_meet
          exact ⟨_, _, _, rfl, hid (HC.out)⟩
        · go_wp2_with fail
          have h0 := below_alloc v22 (.cells #[] 3)
          replace M1 := hid (M1.out.next h0)
          replace X := hid (boxp_next h0 X.out)
          replace C := hid (below_next C.out h0)
          have n12 := hid (show v0.heap.size ≠ v22.heap.size by have := l1.out; omega)
          have nO2 := hid (show v1.heap.size ≠ v22.heap.size by have := lO.out; omega)
          replace l1 := hid (Nat.lt_of_lt_of_le l1.out h0.size)
          replace lO := hid (Nat.lt_of_lt_of_le lO.out h0.size)
          have l2 := hid (show v22.heap.size < (v22.alloc (.cells #[] 3)).heap.size by simp)
          have g2 := hid (show W0.heap.size ≤ v22.heap.size from lW.out)
          replace lW := hid (Nat.le_trans lW.out h0.size)
          have M2 := hid (OwnI.made v22)
          refine ⟨bex C.out, ?_⟩
          clear h0
          generalize v22.alloc (.cells #[] 3) = v26 at *
          rw [ordW_one]
          simp only [pick, List.getElem?_cons_succ, List.getElem?_cons_zero]
          go_wp2_with (at_builtin; refine wp_app_clone rfl _ _ rfl (v0.heap.size) ls a1 k1' rfl rfl M1.out l1.out n1 (HI1.out _ C.out) (by omega) ?_; intro k1 cc1 v27 hor hown hg hlt)
          have D1 := hid hown
          replace C := hid (below_own C.out M1.out g1.out hg)
          replace M2 := hid (M2.out.grow hg (by first | exact n21.out | exact Ne.symm n12.out))
          replace X := hid (boxp_grown hg (by first | exact nO1.out | exact Ne.symm n1O.out) X.out)
          have m1O := hid (show k1 ≠ v1.heap.size by rcases hor with rfl | rfl; (first | exact Ne.symm nO1.out | exact n1O.out); (have := lO.out; omega))
          have m12 := hid (show k1 ≠ v22.heap.size by rcases hor with rfl | rfl; (first | exact Ne.symm n21.out | exact n12.out); (have := l2.out; omega))
          replace lO := hid (Nat.lt_of_lt_of_le lO.out hg.size)
          replace l2 := hid (Nat.lt_of_lt_of_le l2.out hg.size)
          have gk := hid (show W0.heap.size ≤ k1 by rcases hor with rfl | rfl; exact g1.out; exact lW.out)
          clear l1
          have l1 := hid hlt
          replace lW := hid (Nat.le_trans lW.out hg.size)
          (first | clear nO1 | clear n1O); have n1O := hid m1O.out; clear m1O
          (first | clear n21 | clear n12); have n12 := hid m12.out; clear m12
          clear M1 hor hown hlt hg gk
          go_wp2_with fail
          refine ⟨bex C.out, ?_⟩
          rw [ordW_one]
          simp only [pick, List.getElem?_cons_succ, List.getElem?_cons_zero]
          go_wp2_with (at_builtin; refine wp_app_clone rfl _ _ rfl (v22.heap.size) vs b1 k2' rfl rfl M2.out l2.out n2 (HI2.out _ C.out) (by omega) ?_; intro k2 cc2 v28 hor hown hg hlt)
          have D2 := hid hown
          replace C := hid (below_own C.out M2.out g2.out hg)
          replace D1 := hid (D1.out.grow hg (by first | exact n12.out | exact Ne.symm n21.out))
          replace X := hid (boxp_grown hg (by first | exact nO2.out | exact Ne.symm n2O.out) X.out)
          have m21 := hid (show k2 ≠ k1 by rcases hor with rfl | rfl; (first | exact Ne.symm n12.out | exact n21.out); (have := l1.out; omega))
          have m2O := hid (show k2 ≠ v1.heap.size by rcases hor with rfl | rfl; (first | exact Ne.symm nO2.out | exact n2O.out); (have := lO.out; omega))
          replace l1 := hid (Nat.lt_of_lt_of_le l1.out hg.size)
          replace lO := hid (Nat.lt_of_lt_of_le lO.out hg.size)
          have gk := hid (show W0.heap.size ≤ k2 by rcases hor with rfl | rfl; exact g2.out; exact lW.out)
          clear l2
          have l2 := hid hlt
          replace lW := hid (Nat.le_trans lW.out hg.size)
          (first | clear n12 | clear n21); have n21 := hid m21.out; clear m21
          (first | clear nO2 | clear n2O); have n2O := hid m2O.out; clear m2O
          clear M2 hor hown hlt hg gk
          go_wp2_with fail
          refine ⟨bex C.out, ?_⟩
          rw [ordW_one]
          simp only [pick, List.getElem?_cons_succ, List.getElem?_cons_zero]
          go_wp2_with fail
          refine ⟨bex C.out, ?_⟩
          rw [ordW_fre]
          simp only [pick, List.getElem?_cons_succ, List.getElem?_cons_zero]
          obtain ⟨x0, x1, x2, x3, x4⟩ := id X.out
          have hC := Cl2.mk2 D1.out D2.out X.out g1.out g2.out gO.out (by first | exact n1O.out | exact Ne.symm nO1.out) (by first | exact n2O.out | exact Ne.symm nO2.out) (by first | exact n12.out | exact Ne.symm n21.out) C.out
          have HC := hid hC
          clear hC
          go_wp2_with fail
          rw [ordW_done]
          go_wp2_with fail
          go_meet
          exact ⟨_, _, _, rfl, hid (HC.out)⟩
    · go_wp2_with fail
      have h0 := below_alloc v0 (.cells #[] 3)
      replace C := hid (below_next C.out h0)
      have l2 := hid (show v0.heap.size < (v0.alloc (.cells #[] 3)).heap.size by simp)
      have g2 := hid (show W0.heap.size ≤ v0.heap.size from lW.out)
      replace lW := hid (Nat.le_trans lW.out h0.size)
      have M2 := hid (OwnI.made v0)
      refine ⟨bex C.out, ?_⟩
      clear h0
      generalize v0.alloc (.cells #[] 3) = v29 at *
      rw [ordW_two]
      simp only [pick, List.getElem?_cons_succ, List.getElem?_cons_zero]
      refine ⟨?_, ?_⟩
      · go_wp2_with fail
        have h0 := below_alloc v29 (.cells #[] 3)
        replace M2 := hid (M2.out.next h0)
        replace C := hid (below_next C.out h0)
        have n21 := hid (show v0.heap.size ≠ v29.heap.size by have := l2.out; omega)
        replace l2 := hid (Nat.lt_of_lt_of_le l2.out h0.size)
        have l1 := hid (show v29.heap.size < (v29.alloc (.cells #[] 3)).heap.size by simp)
        have g1 := hid (show W0.heap.size ≤ v29.heap.size from lW.out)
        replace lW := hid (Nat.le_trans lW.out h0.size)
        have M1 := hid (OwnI.made v29)
        refine ⟨bex C.out, ?_⟩
        clear h0
        generalize v29.alloc (.cells #[] 3) = v30 at *
        rw [ordW_two]
        simp only [pick, List.getElem?_cons_succ, List.getElem?_cons_zero]
        refine ⟨?_, ?_⟩
        · go_wp2_with (at_builtin; refine wp_app_clone rfl _ _ rfl (v29.heap.size) ls a1 k1' rfl rfl M1.out l1.out n1 (HI1.out _ C.out) (by omega) ?_; intro k1 cc1 v31 hor hown hg hlt)
          have D1 := hid hown
          replace C := hid (below_own C.out M1.out g1.out hg)
          replace M2 := hid (M2.out.grow hg (by first | exact n21.out | exact Ne.symm n12.out))
          have m12 := hid (show k1 ≠ v0.heap.size by rcases hor with rfl | rfl; (first | exact Ne.symm n21.out | exact n12.out); (have := l2.out; omega))
          replace l2 := hid (Nat.lt_of_lt_of_le l2.out hg.size)
          have gk := hid (show W0.heap.size ≤ k1 by rcases hor with rfl | rfl; exact g1.out; exact lW.out)
          clear l1
          have l1 := hid hlt
          replace lW := hid (Nat.le_trans lW.out hg.size)
          (first | clear n21 | clear n12); have n12 := hid m12.out; clear m12
          clear M1 hor hown hlt hg gk
          go_wp2_with fail
          refine ⟨bex C.out, ?_⟩
          rw [ordW_two]
          simp only [pick, List.getElem?_cons_succ, List.getElem?_cons_zero]
          refine ⟨?_, ?_⟩
          · go_wp2_with (at_builtin; refine wp_app_clone rfl _ _ rfl (v0.heap.size) vs b1 k2' rfl rfl M2.out l2.out n2 (HI2.out _ C.out) (by omega) ?_; intro k2 cc2 v32 hor hown hg hlt)
            have D2 := hid hown
            replace C := hid (below_own C.out M2.out g2.out hg)
            replace D1 := hid (D1.out.grow hg (by first | exact n12.out | exact Ne.symm n21.out))
            have m21 := hid (show k2 ≠ k1 by rcases hor with rfl | rfl; (first | exact Ne.symm n12.out | exact n21.out); (have := l1.out; omega))
            replace l1 := hid (Nat.lt_of_lt_of_le l1.out hg.size)
            have gk := hid (show W0.heap.size ≤ k2 by rcases hor with rfl | rfl; exact g2.out; exact lW.out)
            clear l2
            have l2 := hid hlt
            replace lW := hid (Nat.le_trans lW.out hg.size)
            (first | clear n12 | clear n21); have n21 := hid m21.out; clear m21
            clear M2 hor hown hlt hg gk
            go_wp2_with fail
            refine ⟨bex C.out, ?_⟩
            rw [ordW_two]
            simp only [pick, List.getElem?_cons_succ, List.getElem?_cons_zero]
            refine ⟨?_, ?_⟩
            · go_wp2_with fail
              refine ⟨bex C.out, ?_⟩
              rw [ordW_one]
              simp only [pick, List.getElem?_cons_succ, List.getElem?_cons_zero]
              go_wp2_with fail
              have h0 := below_alloc v32 (.cells #[.slice none 0 0, .slice none 0 0] 91)
              replace D1 := hid (D1.out.next h0)
              replace D2 := hid (D2.out.next h0)
              replace C := hid (below_next C.out h0)
              have n2O := hid (show k2 ≠ v32.heap.size by have := l2.out; omega)
              have n1O := hid (show k1 ≠ v32.heap.size by have := l1.out; omega)
              replace l2 := hid (Nat.lt_of_lt_of_le l2.out h0.size)
              replace l1 := hid (Nat.lt_of_lt_of_le l1.out h0.size)
              have lO := hid (show v32.heap.size < (v32.alloc (.cells #[.slice none 0 0, .slice none 0 0] 91)).heap.size by simp)
              have gO := hid (show W0.heap.size ≤ v32.heap.size from lW.out)
              replace lW := hid (Nat.le_trans lW.out h0.size)
              have X := hid (boxp_at (w := v32) (B := v32.heap.size) (a := .slice none 0 0) (b := .slice none 0 0) (t := 91) rfl)
              refine ⟨bex C.out, ?_⟩
              clear h0
              generalize v32.alloc (.cells #[.slice none 0 0, .slice none 0 0] 91) = v33 at *
              rw [ordW_fre]
              simp only [pick, List.getElem?_cons_succ, List.getElem?_cons_zero]
              obtain ⟨x0, x1, x2, x3, x4⟩ := id X.out
              have hC := Cl2.mk2 D1.out D2.out X.out g1.out g2.out gO.out (by first | exact n1O.out | exact Ne.symm nO1.out) (by first | exact n2O.out | exact Ne.symm nO2.out) (by first | exact n12.out | exact Ne.symm n21.out) C.out
              have HC := hid hC
              clear hC
              go_wp2_with fail
              rw [ordW_done]
              go_wp2_with fail
              go_meet
              exact ⟨_, _, _, rfl, hid (HC.out)⟩
            · go_wp2_with fail
              have h0 := below_alloc v32 (.cells #[.slice none 0 0, .slice none 0 0] 91)
              replace D1 := hid (D1.out.next h0)
              replace D2 := hid (D2.out.next h0)
              replace C := hid (below_next C.out h0)
              have n2O := hid (show k2 ≠ v32.heap.size by have := l2.out; omega)
              have n1O := hid (show k1 ≠ v32.heap.size by have := l1.out; omega)
              replace l2 := hid (Nat.lt_of_lt_of_le l2.out h0.size)
              replace l1 := hid (Nat.lt_of_lt_of_le l1.out h0.size)
              have lO := hid (show v32.heap.size < (v32.alloc (.cells #[.slice none 0 0, .slice none 0 0] 91)).heap.size by simp)
              have gO := hid (show W0.heap.size ≤ v32.heap.size from lW.out)
              replace lW := hid (Nat.le_trans lW.out h0.size)
              have X := hid (boxp_at (w := v32) (B := v32.heap.size) (a := .slice none 0 0) (b := .slice none 0 0) (t := 91) rfl)
              refine ⟨bex C.out, ?_⟩
              clear h0
              generalize v32.alloc (.cells #[.slice none 0 0, .slice none 0 0] 91) = v34 at *
              rw [ordW_one]
              simp only [pick, List.getElem?_cons_succ, List.getElem?_cons_zero]
              go_wp2_with fail
              refine ⟨bex C.out, ?_⟩
              rw [ordW_fre]
              simp only [pick, List.getElem?_cons_succ, List.getElem?_cons_zero]
              obtain ⟨x0, x1, x2, x3, x4⟩ := id X.out
              have hC := Cl2.mk2 D1.out D2.out X.out g1.out g2.out gO.out (by first | exact n1O.out | exact Ne.symm nO1.out) (by first | exact n2O.out | exact Ne.symm nO2.out) (by first | exact n12.out | exact Ne.symm n21.out) C.out
              have HC := hid hC
              clear hC
              go_wp2_with fail
              rw [ordW_done]
              go_wp2_with fail
              go_meet
              exact ⟨_, _, _, rfl, hid (HC.out)⟩
          · go_wp2_with fail
            have h0 := below_alloc v31 (.cells #[.slice none 0 0, .slice none 0 0] 91)
            replace M2 := hid (M2.out.next h0)
            replace D1 := hid (D1.out.next h0)
            replace C := hid (below_next C.out h0)
            have n2O := hid (show v0.heap.size ≠ v31.heap.size by have := l2.out; omega)
            have n1O := hid (show k1 ≠ v31.heap.size by have := l1.out; omega)
            replace l2 := hid (Nat.lt_of_lt_of_le l2.out h0.size)
            replace l1 := hid (Nat.lt_of_lt_of_le l1.out h0.size)
            have lO := hid (show v31.heap.size < (v31.alloc (.cells #[.slice none 0 0, .slice none 0 0] 91)).heap.size by simp)
            have gO := hid (show W0.heap.size ≤ v31.heap.size from lW.out)
            replace lW := hid (Nat.le_trans lW.out h0.size)
            have X := hid (boxp_at (w := v31) (B := v31.heap.size) (a := .slice none 0 0) (b := .slice none 0 0) (t := 91) rfl)
            refine ⟨bex C.out, ?_⟩
            clear h0
            generalize v31.alloc (.cells #[.slice none 0 0, .slice none 0 0] 91) = v35 at *
            rw [ordW_one]
            simp only [pick, List.getElem?_cons_succ, List.getElem?_cons_zero]
            go_wp2_with (at_builtin; refine wp_app_clone rfl _ _ rfl (v0.heap.size) vs b1 k2' rfl rfl M2.out l2.out n2 (HI2.out _ C.out) (by omega) ?_; intro k2 cc2 v36 hor hown hg hlt)
            have D2 := hid hown
            replace C := hid (below_own C.out M2.out g2.out hg)
            replace D1 := hid (D1.out.grow hg (by first | exact n12.out | exact Ne.symm n21.out))
            replace X := hid (boxp_grown hg (by first | exact nO2.out | exact Ne.symm n2O.out) X.out)
            have m21 := hid (show k2 ≠ k1 by rcases hor with rfl | rfl; (first | exact Ne.symm n12.out | exact n21.out); (have := l1.out; omega))
            have m2O := hid (show k2 ≠ v31.heap.size by rcases hor with rfl | rfl; (first | exact Ne.symm nO2.out | exact n2O.out); (have := lO.out; omega))
            replace l1 := hid (Nat.lt_of_lt_of_le l1.out hg.size)
            replace lO := hid (Nat.lt_of_lt_of_le lO.out hg.size)
            have gk := hid (show W0.heap.size ≤ k2 by rcases hor with rfl | rfl; exact g2.out; exact lW.out)
            clear l2
            have l2 := hid hlt
            replace lW := hid (Nat.le_trans lW.out hg.size)
            (first | clear n12 | clear n21); have n21 := hid m21.out; clear m21
            (first | clear nO2 | clear n2O); have n2O := hid m2O.out; clear m2O
            clear M2 hor hown hlt hg gk
            go_wp2_with fail
            refine ⟨bex C.out, ?_⟩
            rw [ordW_one]
            simp only [pick, List.getElem?_cons_succ, List.getElem?_cons_zero]
            go_wp2_with fail
            refine ⟨bex C.out, ?_⟩
            rw [ordW_fre]
            simp only [pick, List.getElem?_cons_succ, List.getElem?_cons_zero]
            obtain ⟨x0, x1, x2, x3, x4⟩ := id X.out
            have hC := Cl2.mk2 D1.out D2.out X.out g1.out g2.out gO.out (by first | exact n1O.out | exact Ne.symm nO1.out) (by first | exact n2O.out | exact Ne.symm nO2.out) (by first | exact n12.out | exact Ne.symm n21.out) C.out
            have HC := hid hC
            clear hC
            go_wp2_with fail
            rw [ordW_done]
            go_wp2_with fail
            go_meet
            exact ⟨_, _, _, rfl, hid (HC.out)⟩
        · go_wp2_with fail
          have h0 := below_alloc v30 (.cells #[.slice none 0 0, .slice none 0 0] 91)
          replace M2 := hid (M2.out.next h0)
          replace M1 := hid (M1.out.next h0)
          replace C := hid (below_next C.out h0)
          have n2O := hid (show v0.heap.size ≠ v30.heap.size by have := l2.out; omega)
          have n1O := hid (show v29.heap.size ≠ v30.heap.size by have := l1.out; omega)
          replace l2 := hid (Nat.lt_of_lt_of_le l2.out h0.size)
          replace l1 := hid (Nat.lt_of_lt_of_le l1.out h0.size)
          have lO := hid (show v30.heap.size < (v30.alloc (.cells #[.slice none 0 0, .slice none 0 0] 91)).heap.size by simp)
          have gO := hid (show W0.heap.size ≤ v30.heap.size from lW.out)
          replace lW := hid (Nat.le_trans lW.out h0.size)
          have X := hid (boxp_at (w := v30) (B := v30.heap.size) (a := .slice none 0 0) (b := .slice none 0 0) (t := 91) rfl)
          refine ⟨bex C.out, ?_⟩
          clear h0
          generalize v30.alloc (.cells #[.slice none 0 0, .slice none 0 0] 91) = v37 at *
          rw [ordW_one]
          simp only [pick, List.getElem?_cons_succ, List.getElem?_cons_zero]
          go_wp2_with (at_builtin; refine wp_app_clone rfl _ _ rfl (v29.heap.size) ls a1 k1' rfl rfl M1.out l1.out n1 (HI1.out _ C.out) (by omega) ?_; intro k1 cc1 v38 hor hown hg hlt)
          have D1 := hid hown
          replace C := hid (below_own C.out M1.out g1.out hg)
          replace M2 := hid (M2.out.grow hg (by first | exact n21.out | exact Ne.symm n12.out))
          replace X := hid (boxp_grown hg (by first | exact nO1.out | exact Ne.symm n1O.out) X.out)
          have m12 := hid (show k1 ≠ v0.heap.size by rcases hor with rfl | rfl; (first | exact Ne.symm n21.out | exact n12.out); (have := l2.out; omega))
          have m1O := hid (show k1 ≠ v30.heap.size by rcases hor with rfl | rfl; (first | exact Ne.symm nO1.out | exact n1O.out); (have := lO.out; omega))
          replace l2 := hid (Nat.lt_of_lt_of_le l2.out hg.size)
          replace lO := hid (Nat.lt_of_lt_of_le lO.out hg.size)
          have gk := hid (show W0.heap.size ≤ k1 by rcases hor with rfl | rfl; exact g1.out; exact lW.out)
          clear l1
          have l1 := hid hlt
          replace lW := hid (Nat.le_trans lW.out hg.size)
          (first | clear n21 | clear n12); have n12 := hid m12.out; clear m12
          (first | clear nO1 | clear n1O); have n1O := hid m1O.out; clear m1O
          clear M1 hor hown hlt hg gk
          go_wp2_with fail
          refine ⟨bex C.out, ?_⟩
          rw [ordW_one]
          simp only [pick, List.getElem?_cons_succ, List.getElem?_cons_zero]
          go_wp2_with (at_builtin; refine wp_app_clone rfl _ _ rfl (v0.heap.size) vs b1 k2' rfl rfl M2.out l2.out n2 (HI2.out _ C.out) (by omega) ?_; intro k2 cc2 v39 hor hown hg hlt)
          have D2 := hid hown
          replace C := hid (below_own C.out M2.out g2.out hg)
          replace D1 := hid (D1.out.grow hg (by first | exact n12.out | exact Ne.symm n21.out))
          replace X := hid (boxp_grown hg (by first | exact nO2.out | exact Ne.symm n2O.out) X.out)
          have m21 := hid (show k2 ≠ k1 by rcases hor with rfl | rfl; (first | exact Ne.symm n12.out | exact n21.out); (have := l1.out; omega))
          have m2O := hid (show k2 ≠ v30.heap.size by rcases hor with rfl | rfl; (first | exact Ne.symm nO2.out | exact n2O.out); (have := lO.out; omega))
          replace l1 := hid (Nat.lt_of_lt_of_le l1.out hg.size)
          replace lO := hid (Nat.lt_of_lt_of_le lO.out hg.size)
          have gk := hid (show W0.heap.size ≤ k2 by rcases hor with rfl | rfl; exact g2.out; exact lW.out)
          clear l2
          have l2 := hid hlt
          replace lW := hid (Nat.le_trans lW.out hg.size)
          (first | clear n12 | clear n21); have n21 := hid m21.out; clear m21
          (first | clear nO2 | clear n2O); have n2O := hid m2O.out; clear m2O
          clear M2 hor hown hlt hg gk
          go_wp2_with fail
          refine ⟨bex C.out, ?_⟩
          rw [ordW_one]
          simp only [pick, List.getElem?_cons_succ, List.getElem?_cons_zero]
          go_wp2_with fail
          refine ⟨bex C.out, ?_⟩
          rw [ordW_fre]
          simp only [pick, List.getElem?_cons_succ, List.getElem?_cons_zero]
          obtain ⟨x0, x1, x2, x3, x4⟩ := id X.out
          have hC := Cl2.mk2 D1.out D2.out X.out g1.out g2.out gO.out (by first | exact n1O.out | exact Ne.symm nO1.out) (by first | exact n2O.out | exact Ne.symm nO2.out) (by first | exact n12.out | exact Ne.symm n21.out) C.out
          have HC := hid hC
          clear hC
          go_wp2_with fail
          rw [ordW_done]
          go_wp2_with fail
          go_meet
          exact ⟨_, _, _, rfl, hid (HC.out)⟩
      · go_wp2_with fail
        have h0 := below_alloc v29 (.cells #[.slice none 0 0, .slice none 0 0] 91)
        replace M2 := hid (M2.out.next h0)
        replace C := hid (below_next C.out h0)
        have n2O := hid (show v0.heap.size ≠ v29.heap.size by have := l2.out; omega)
        replace l2 := hid (Nat.lt_of_lt_of_le l2.out h0.size)
        have lO := hid (show v29.heap.size < (v29.alloc (.cells #[.slice none 0 0, .slice none 0 0] 91)).heap.size by simp)
        have gO := hid (show W0.heap.size ≤ v29.heap.size from lW.out)
        replace lW := hid (Nat.le_trans lW.out h0.size)
        have X := hid (boxp_at (w := v29) (B := v29.heap.size) (a := .slice none 0 0) (b := .slice none 0 0) (t := 91) rfl)
        refine ⟨bex C.out, ?_⟩
        clear h0
        generalize v29.alloc (.cells #[.slice none 0 0, .slice none 0 0] 91) = v40 at *
        rw [ordW_one]
        simp only [pick, List.getElem?_cons_succ, List.getElem?_cons_zero]
        go_wp2_with fail
        have h0 := below_alloc v40 (.cells #[] 3)
        replace M2 := hid (M2.out.next h0)
        replace X := hid (boxp_next h0 X.out)
        replace C := hid (below_next C.out h0)
        have n21 := hid (show v0.heap.size ≠ v40.heap.size by have := l2.out; omega)
        have nO1 := hid (show v29.heap.size ≠ v40.heap.size by have := lO.out; omega)
        replace l2 := hid (Nat.lt_of_lt_of_le l2.out h0.size)
        replace lO := hid (Nat.lt_of_lt_of_le lO.out h0.size)
        have l1 := hid (show v40.heap.size < (v40.alloc (.cells #[] 3)).heap.size by simp)
        have g1 := hid (show W0.heap.size ≤ v40.heap.size from lW.out)
        replace lW := hid (Nat.le_trans lW.out h0.size)
        have M1 := hid (OwnI.made v40)
        refine ⟨bex C.out, ?_⟩
        clear h0
        generalize v40.alloc (.cells #[] 3) = v41 at *
        rw [ordW_one]
        simp only [pick, List.getElem?_cons_succ, List.getElem?_cons_zero]
        go_wp2_with (at_builtin; refine wp_app_clone rfl _ _ rfl (v40.heap.size) ls a1 k1' rfl rfl M1.out l1.out n1 (HI1.out _ C.out) (by omega) ?_; intro k1 cc1 v42 hor hown hg hlt)
        have D1 := hid hown
        replace C := hid (below_own C.out M1.out g1.out hg)
        replace M2 := hid (M2.out.grow hg (by first | exact n21.out | exact Ne.symm n12.out))
        replace X := hid (boxp_grown hg (by first | exact nO1.out | exact Ne.symm n1O.out) X.out)
        have m12 := hid (show k1 ≠ v0.heap.size by rcases hor with rfl | rfl; (first | exact Ne.symm n21.out | exact n12.out); (have := l2.out; omega))
        have m1O := hid (show k1 ≠ v29.heap.size by rcases hor with rfl | rfl; (first | exact Ne.symm nO1.out | exact n1O.out); (have := lO.out; omega))
        replace l2 := hid (Nat.lt_of_lt_of_le l2.out hg.size)
        replace lO := hid (Nat.lt_of_lt_of_le lO.out hg.size)
        have gk := hid (show W0.heap.size ≤ k1 by rcases hor with rfl | rfl; exact g1.out; exact lW.out)
        clear l1
        have l1 := hid hlt
        replace lW := hid (Nat.le_trans lW.out hg.size)
        (first | clear n21 | clear n12); have n12 := hid m12.out; clear m12
        (first | clear nO1 | clear n1O); have n1O := hid m1O.out; clear m1O
        clear M1 hor hown hlt hg gk
        go_wp2_with fail
        refine ⟨bex C.out, ?_⟩
        rw [ordW_one]
        simp only [pick, List.getElem?_cons_succ, List.getElem?_cons_zero]
        go_wp2_with (at_builtin; refine wp_app_clone rfl _ _ rfl (v0.heap.size) vs b1 k2' rfl rfl M2.out l2.out n2 (HI2.out _ C.out) (by omega) ?_; intro k2 cc2 v43 hor hown hg hlt)
        have D2 := hid hown
        replace C := hid (below_own C.out M2.out g2.out hg)
        replace D1 := hid (D1.out.grow hg (by first | exact n12.out | exact Ne.symm n21.out))
        replace X := hid (boxp_grown hg (by first | exact nO2.out | exact Ne.symm n2O.out) X.out)
        have m2O := hid (show k2 ≠ v29.heap.size by rcases hor with rfl | rfl; (first | exact Ne.symm nO2.out | exact n2O.out); (have := lO.out; omega))
        have m21 := hid (show k2 ≠ k1 by rcases hor with rfl | rfl; (first | exact Ne.symm n12.out | exact n21.out); (have := l1.out; omega))
        replace lO := hid (Nat.lt_of_lt_of_le lO.out hg.size)
        replace l1 := hid (Nat.lt_of_lt_of_le l1.out hg.size)
        have gk := hid (show W0.heap.size ≤ k2 by rcases hor with rfl | rfl; exact g2.out; exact lW.out)
        clear l2
        have l2 := hid hlt
        replace lW := hid (Nat.le_trans lW.out hg.size)
        (first | clear nO2 | clear n2O); have n2O := hid m2O.out; clear m2O
        (first | clear n12 | clear n21); have n21 := hid m21.out; clear m21
        clear M2 hor hown hlt hg gk
        go_wp2_with fail
        refine ⟨bex C.out, ?_⟩
        rw [ordW_one]
        simp only [pick, List.getElem?_cons_succ, List.getElem?_cons_zero]
        go_wp2_with fail
        refine ⟨bex C.out, ?_⟩
        rw [ordW_fre]
        simp only [pick, List.getElem?_cons_succ, List.getElem?_cons_zero]
        obtain ⟨x0, x1, x2, x3, x4⟩ := id X.out
        have hC := Cl2.mk2 D1.out D2.out X.out g1.out g2.out gO.out (by first | exact n1O.out | exact Ne.symm nO1.out) (by first | exact n2O.out | exact Ne.symm nO2.out) (by first | exact n12.out | exact Ne.symm n21.out) C.out
        have HC := hid hC
        clear hC
        go_wp2_with fail
        rw [ordW_done]
        go_wp2_with fail
        go_meet
        exact ⟨_, _, _, rfl, hid (HC.out)⟩
    · go_wp2_with fail
      have h0 := below_alloc v0 (.cells #[.slice none 0 0, .slice none 0 0] 91)
      replace C := hid (below_next C.out h0)
      have lO := hid (show v0.heap.size < (v0.alloc (.cells #[.slice none 0 0, .slice none 0 0] 91)).heap.size by simp)
      have gO := hid (show W0.heap.size ≤ v0.heap.size from lW.out)
      replace lW := hid (Nat.le_trans lW.out h0.size)
      have X := hid (boxp_at (w := v0) (B := v0.heap.size) (a := .slice none 0 0) (b := .slice none 0 0) (t := 91) rfl)
      refine ⟨bex C.out, ?_⟩
      clear h0
      generalize v0.alloc (.cells #[.slice none 0 0, .slice none 0 0] 91) = v44 at *
      rw [ordW_two]
      simp only [pick, List.getElem?_cons_succ, List.getElem?_cons_zero]
      refine ⟨?_, ?_⟩
      · go_wp2_with fail
        have h0 := below_alloc v44 (.cells #[] 3)
        replace X := hid (boxp_next h0 X.out)
        replace C := hid (below_next C.out h0)
        have nO1 := hid (show v0.heap.size ≠ v44.heap.size by have := lO.out; omega)
        replace lO := hid (Nat.lt_of_lt_of_le lO.out h0.size)
        have l1 := hid (show v44.heap.size < (v44.alloc (.cells #[] 3)).heap.size by simp)
        have g1 := hid (show W0.heap.size ≤ v44.heap.size from lW.out)
        replace lW := hid (Nat.le_trans lW.out h0.size)
        have M1 := hid (OwnI.made v44)
        refine ⟨bex C.out, ?_⟩
        clear h0
        generalize v44.alloc (.cells #[] 3) = v45 at *
        rw [ordW_two]
        simp only [pick, List.getElem?_cons_succ, List.getElem?_cons_zero]
        refine ⟨?_, ?_⟩
        · go_wp2_with (at_builtin; refine wp_app_clone rfl _ _ rfl (v44.heap.size) ls a1 k1' rfl rfl M1.out l1.out n1 (HI1.out _ C.out) (by omega) ?_; intro k1 cc1 v46 hor hown hg hlt)
          have D1 := hid hown
          replace C := hid (below_own C.out M1.out g1.out hg)
          replace X := hid (boxp_grown hg (by first | exact nO1.out | exact Ne.symm n1O.out) X.out)
          have m1O := hid (show k1 ≠ v0.heap.size by rcases hor with rfl | rfl; (first | exact Ne.symm nO1.out | exact n1O.out); (have := lO.out; omega))
          replace lO := hid (Nat.lt_of_lt_of_le lO.out hg.size)
          have gk := hid (show W0.heap.size ≤ k1 by rcases hor with rfl | rfl; exact g1.out; exact lW.out)
          clear l1
          have l1 := hid hlt
          replace lW := hid (Nat.le_trans lW.out hg.size)
          (first | clear nO1 | clear n1O); have n1O := hid m1O.out; clear m1O
          clear M1 hor hown hlt hg gk
          go_wp2_with fail
          refine ⟨bex C.out, ?_⟩
          rw [ordW_one]
          simp only [pick, List.getElem?_cons_succ, List.getElem?_cons_zero]
          go_wp2_with fail
          have h0 := below_alloc v46 (.cells #[] 3)
          replace D1 := hid (D1.out.next h0)
          replace X := hid (boxp_next h0 X.out)
          replace C := hid (below_next C.out h0)
          have nO2 := hid (show v0.heap.size ≠ v46.heap.size by have := lO.out; omega)
          have n12 := hid (show k1 ≠ v46.heap.size by have := l1.out; omega)
          replace lO := hid (Nat.lt_of_lt_of_le lO.out h0.size)
          replace l1 := hid (Nat.lt_of_lt_of_le l1.out h0.size)
          have l2 := hid (show v46.heap.size < (v46.alloc (.cells #[] 3)).heap.size by simp)
          have g2 := hid (show W0.heap.size ≤ v46.heap.size from lW.out)
          replace lW := hid (Nat.le_trans lW.out h0.size)
          have M2 := hid (OwnI.made v46)
          refine ⟨bex C.out, ?_⟩
          clear h0
          generalize v46.alloc (.cells #[] 3) = v47 at *
          rw [ordW_one]
          simp only [pick, List.getElem?_cons_succ, List.getElem?_cons_zero]
          go_wp2_with (at_builtin; refine wp_app_clone rfl _ _ rfl (v46.heap.size) vs b1 k2' rfl rfl M2.out l2.out n2 (HI2.out _ C.out) (by omega) ?_; intro k2 cc2 v48 hor hown hg hlt)
          have D2 := hid hown
          replace C := hid (below_own C.out M2.out g2.out hg)
          replace D1 := hid (D1.out.grow hg (by first | exact n12.out | exact Ne.symm n21.out))
          replace X := hid (boxp_grown hg (by first | exact nO2.out | exact Ne.symm n2O.out) X.out)
          have m2O := hid (show k2 ≠ v0.heap.size by rcases hor with rfl | rfl; (first | exact Ne.symm nO2.out | exact n2O.out); (have := lO.out; omega))
          have m21 := hid (show k2 ≠ k1 by rcases hor with rfl | rfl; (first | exact Ne.symm n12.out | exact n21.out); (have := l1.out; omega))
          replace lO := hid (Nat.lt_of_lt_of_le lO.out hg.size)
          replace l1 := hid (Nat.lt_of_lt_of_le l1.out hg.size)
          have gk := hid (show W0.heap.size ≤ k2 by rcases hor with rfl | rfl; exact g2.out; exact lW.out)
          clear l2
          have l2 := hid hlt
          replace lW := hid (Nat.le_trans lW.out hg.size)
          (first | clear nO2 | clear n2O); have n2O := hid m2O.out; clear m2O
          (first | clear n12 | clear n21); have n21 := hid m21.out; clear m21
          clear M2 hor hown hlt hg gk
          go_wp2_with fail
          refine ⟨bex C.out, ?_⟩
          rw [ordW_one]
          simp only [pick, List.getElem?_cons_succ, List.getElem?_cons_zero]
          go_wp2_with fail
          refine ⟨bex C.out, ?_⟩
          rw [ordW_fre]
          simp only [pick, List.getElem?_cons_succ, List.getElem?_cons_zero]
          obtain ⟨x0, x1, x2, x3, x4⟩ := id X.out
          have hC := Cl2.mk2 D1.out D2.out X.out g1.out g2.out gO.out (by first | exact n1O.out | exact Ne.symm nO1.out) (by first | exact n2O.out | exact Ne.symm nO2.out) (by first | exact n12.out | exact Ne.symm n21.out) C.out
          have HC := hid hC
          clear hC
          go_wp2_with fail
          rw [ordW_done]
          go_wp2_with fail
          go_meet
          exact ⟨_, _, _, rfl, hid (HC.out)⟩
        · go_wp2_with fail
          have h0 := below_alloc v45 (.cells #[] 3)
          replace M1 := hid (M1.out.next h0)
          replace X := hid (boxp_next h0 X.out)
          replace C := hid (below_next C.out h0)
          have nO2 := hid (show v0.heap.size ≠ v45.heap.size by have := lO.out; omega)
          have n12 := hid (show v44.heap.size ≠ v45.heap.size by have := l1.out; omega)
          replace lO := hid (Nat.lt_of_lt_of_le lO.out h0.size)
          replace l1 := hid (Nat.lt_of_lt_of_le l1.out h0.size)
          have l2 := hid (show v45.heap.size < (v45.alloc (.cells #[] 3)).heap.size by simp)
          have g2 := hid (show W0.heap.size ≤ v45.heap.size from lW.out)
          replace lW := hid (Nat.le_trans lW.out h0.size)
          have M2 := hid (OwnI.made v45)
          refine ⟨bex C.out, ?_⟩
          clear h0
          generalize v45.alloc (.cells #[] 3) = v49 at *
          rw [ordW_one]
          simp only [pick, List.getElem?_cons_succ, List.getElem?_cons_zero]
          go_wp2_with (at_builtin; refine wp_app_clone rfl _ _ rfl (v44.heap.size) ls a1 k1' rfl rfl M1.out l1.out n1 (HI1.out _ C.out) (by omega) ?_; intro k1 cc1 v50 hor hown hg hlt)
          have D1 := hid hown
          replace C := hid (below_own C.out M1.out g1.out hg)
          replace M2 := hid (M2.out.grow hg (by first | exact n21.out | exact Ne.symm n12.out))
          replace X := hid (boxp_grown hg (by first | exact nO1.out | exact Ne.symm n1O.out) X.out)
          have m1O := hid (show k1 ≠ v0.heap.size by rcases hor with rfl | rfl; (first | exact Ne.symm nO1.out | exact n1O.out); (have := lO.out; omega))
          have m12 := hid (show k1 ≠ v45.heap.size by rcases hor with rfl | rfl; (first | exact Ne.symm n21.out | exact n12.out); (have := l2.out; omega))
          replace lO := hid (Nat.lt_of_lt_of_le lO.out hg.size)
          replace l2 := hid (Nat.lt_of_lt_of_le l2.out hg.size)
          have gk := hid (show W0.heap.size ≤ k1 by rcases hor with rfl | rfl; exact g1.out; exact lW.out)
          clear l1
          have l1 := hid hlt
          replace lW := hid (Nat.le_trans lW.out hg.size)
          (first | clear nO1 | clear n1O); have n1O := hid m1O.out; clear m1O
          (first | clear n21 | clear n12); have n12 := hid m12.out; clear m12
          clear M1 hor hown hlt hg gk
          go_wp2_with fail
          refine ⟨bex C.out, ?_⟩
          rw [ordW_one]
          simp only [pick, List.getElem?_cons_succ, List.getElem?_cons_zero]
          go_wp2_with (at_builtin; refine wp_app_clone rfl _ _ rfl (v45.heap.size) vs b1 k2' rfl rfl M2.out l2.out n2 (HI2.out _ C.out) (by omega) ?_; intro k2 cc2 v51 hor hown hg hlt)
          have D2 := hid hown
          replace C := hid (below_own C.out M2.out g2.out hg)
          replace D1 := hid (D1.out.grow hg (by first | exact n12.out | exact Ne.symm n21.out))
          replace X := hid (boxp_grown hg (by first | exact nO2.out | exact Ne.symm n2O.out) X.out)
          have m2O := hid (show k2 ≠ v0.heap.size by rcases hor with rfl | rfl; (first | exact Ne.symm nO2.out | exact n2O.out); (have := lO.out; omega))
          have m21 := hid (show k2 ≠ k1 by rcases hor with rfl | rfl; (first | exact Ne.symm n12.out | exact n21.out); (have := l1.out; omega))
          replace lO := hid (Nat.lt_of_lt_of_le lO.out hg.size)
          replace l1 := hid (Nat.lt_of_lt_of_le l1.out hg.size)
          have gk := hid (show W0.heap.size ≤ k2 by rcases hor with rfl | rfl; exact g2.out; exact lW.out)
          clear l2
          have l2 := hid hlt
          replace lW := hid (Nat.le_trans lW.out hg.size)
          (first | clear nO2 | clear n2O); have n2O := hid m2O.out; clear m2O
          (first | clear n12 | clear n21); have n21 := hid m21.out; clear m21
          clear M2 hor hown hlt hg gk
          go_wp2_with fail
          refine ⟨bex C.out, ?_⟩
          rw [ordW_one]
          simp only [pick, List.getElem?_cons_succ, List.getElem?_cons_zero]
          go_wp2_with fail
          refine ⟨bex C.out, ?_⟩
          rw [ordW_fre]
          simp only [pick, List.getElem?_cons_succ, List.getElem?_cons_zero]
          obtain ⟨x0, x1, x2, x3, x4⟩ := id X.out
          have hC := Cl2.mk2 D1.out D2.out X.out g1.out g2.out gO.out (by first | exact n1O.out | exact Ne.symm nO1.out) (by first | exact n2O.out | exact Ne.symm nO2.out) (by first | exact n12.out | exact Ne.symm n21.out) C.out
          have HC := hid hC
          clear hC
          go_wp2_with fail
          rw [ordW_done]
          go_wp2_with fail
          go_meet
          exact ⟨_, _, _, rfl, hid (HC.out)⟩
      · go_wp2_with fail
        have h0 := below_alloc v44 (.cells #[] 3)
        replace X := hid (boxp_next h0 X.out)
        replace C := hid (below_next C.out h0)
        have nO2 := hid (show v0.heap.size ≠ v44.heap.size by have := lO.out; omega)
        replace lO := hid (Nat.lt_of_lt_of_le lO.out h0.size)
        have l2 := hid (show v44.heap.size < (v44.alloc (.cells #[] 3)).heap.size by simp)
        have g2 := hid (show W0.heap.size ≤ v44.heap.size from lW.out)
        replace lW := hid (Nat.le_trans lW.out h0.size)
        have M2 := hid (OwnI.made v44)
        refine ⟨bex C.out, ?_⟩
        clear h0
        generalize v44.alloc (.cells #[] 3) = v52 at *
        rw [ordW_one]
        simp only [pick, List.getElem?_cons_succ, List.getElem?_cons_zero]
        go_wp2_with fail
        have h0 := below_alloc v52 (.cells #[] 3)
        replace M2 := hid (M2.out.next h0)
        replace X := hid (boxp_next h0 X.out)
        replace C := hid (below_next C.out h0)
        have nO1 := hid (show v0.heap.size ≠ v52.heap.size by have := lO.out; omega)
        have n21 := hid (show v44.heap.size ≠ v52.heap.size by have := l2.out; omega)
        replace lO := hid (Nat.lt_of_lt_of_le lO.out h0.size)
        replace l2 := hid (Nat.lt_of_lt_of_le l2.out h0.size)
        have l1 := hid (show v52.heap.size < (v52.alloc (.cells #[] 3)).heap.size by simp)
        have g1 := hid (show W0.heap.size ≤ v52.heap.size from lW.out)
        replace lW := hid (Nat.le_trans lW.out h0.size)
        have M1 := hid (OwnI.made v52)
        refine ⟨bex C.out, ?_⟩
        clear h0
        generalize v52.alloc (.cells #[] 3) = v53 at *
        rw [ordW_one]
        simp only [pick, List.getElem?_cons_succ, List.getElem?_cons_zero]
        go_wp2_with (at_builtin; refine wp_app_clone rfl _ _ rfl (v52.heap.size) ls a1 k1' rfl rfl M1.out l1.out n1 (HI1.out _ C.out) (by omega) ?_; intro k1 cc1 v54 hor hown hg hlt)
        have D1 := hid hown
        replace C := hid (below_own C.out M1.out g1.out hg)
        replace M2 := hid (M2.out.grow hg (by first | exact n21.out | exact Ne.symm n12.out))
        replace X := hid (boxp_grown hg (by first | exact nO1.out | exact Ne.symm n1O.out) X.out)
        have m1O := hid (show k1 ≠ v0.heap.size by rcases hor with rfl | rfl; (first | exact Ne.symm nO1.out | exact n1O.out); (have := lO.out; omega))
        have m12 := hid (show k1 ≠ v44.heap.size by rcases hor with rfl | rfl; (first | exact Ne.symm n21.out | exact n12.out); (have := l2.out; omega))
        replace lO := hid (Nat.lt_of_lt_of_le lO.out hg.size)
        replace l2 := hid (Nat.lt_of_lt_of_le l2.out hg.size)
        have gk := hid (show W0.heap.size ≤ k1 by rcases hor with rfl | rfl; exact g1.out; exact lW.out)
        clear l1
        have l1 := hid hlt
        replace lW := hid (Nat.le_trans lW.out hg.size)
        (first | clear nO1 | clear n1O); have n1O := hid m1O.out; clear m1O
        (first | clear n21 | clear n12); have n12 := hid m12.out; clear m12
        clear M1 hor hown hlt hg gk
        go_wp2_with fail
        refine ⟨bex C.out, ?_⟩
        rw [ordW_one]
        simp only [pick, List.getElem?_cons_succ, List.getElem?_cons_zero]
        go_wp2_with (at_builtin; refine wp_app_clone rfl _ _ rfl (v44.heap.size) vs b1 k2' rfl rfl M2.out l2.out n2 (HI2.out _ C.out) (by omega) ?_; intro k2 cc2 v55 hor hown hg hlt)
        have D2 := hid hown
        replace C := hid (below_own C.out M2.out g2.out hg)
        replace D1 := hid (D1.out.grow hg (by first | exact n12.out | exact Ne.symm n21.out))
        replace X := hid (boxp_grown hg (by first | exact nO2.out | exact Ne.symm n2O.out) X.out)
        have m2O := hid (show k2 ≠ v0.heap.size by rcases hor with rfl | rfl; (first | exact Ne.symm nO2.out | exact n2O.out); (have := lO.out; omega))
        have m21 := hid (show k2 ≠ k1 by rcases hor with rfl | rfl; (first | exact Ne.symm n12.out | exact n21.out); (have := l1.out; omega))
        replace lO := hid (Nat.lt_of_lt_of_le lO.out hg.size)
        replace l1 := hid (Nat.lt_of_lt_of_le l1.out hg.size)
        have gk := hid (show W0.heap.size ≤ k2 by rcases hor with rfl | rfl; exact g2.out; exact lW.out)
        clear l2
        have l2 := hid hlt
        replace lW := hid (Nat.le_trans lW.out hg.size)
        (first | clear nO2 | clear n2O); have n2O := hid m2O.out; clear m2O
        (first | clear n12 | clear n21); have n21 := hid m21.out; clear m21
        clear M2 hor hown hlt hg gk
        go_wp2_with fail
        refine ⟨bex C.out, ?_⟩
        rw [ordW_one]
        simp only [pick, List.getElem?_cons_succ, List.getElem?_cons_zero]
        go_wp2_with fail
        refine ⟨bex C.out, ?_⟩
        rw [ordW_fre]
        simp only [pick, List.getElem?_cons_succ, List.getElem?_cons_zero]
        obtain ⟨x0, x1, x2, x3, x4⟩ := id X.out
        have hC := Cl2.mk2 D1.out D2.out X.out g1.out g2.out gO.out (by first | exact n1O.out | exact Ne.symm nO1.out) (by first | exact n2O.out | exact Ne.symm nO2.out) (by first | exact n12.out | exact Ne.symm n21.out) C.out
        have HC := hid hC
        clear hC
        go_wp2_with fail
        rw [ordW_done]
        go_wp2_with fail
        go_meet
        exact ⟨_, _, _, rfl, hid (HC.out)⟩
  case rest =>
    obtain ⟨O, v1, v2, rfl, HC⟩ := hcut
    obtain ⟨w1, hw1⟩ : ∃ w1 : World, w1 = wc := ⟨_, rfl⟩
    subst hw1
    obtain ⟨g1, k1, rfl, hk11, hk12, hg1, hr1⟩ : ∃ g1 k1, v1 = .slice (some ⟨g1, 0, none⟩) ls.length k1 ∧ ls.length ≤ k1 ∧ k1 ≤ maxLen ∧ W0.heap.size ≤ g1 ∧ RowI w1 g1 ls := by
      rcases HC.out.own.row with ⟨h, _⟩ | ⟨g, c, h, h1, h2, h3, h4⟩
      · rw [h] at hls20; have := HLL.out; rw [h] at this; simp at this; omega
      · exact ⟨g, c, h, h2, h3, h1, h4⟩
    obtain ⟨g2, k2, rfl, hk21, hk22, hg2, hr2⟩ : ∃ g2 k2, v2 = .slice (some ⟨g2, 0, none⟩) vs.length k2 ∧ vs.length ≤ k2 ∧ k2 ≤ maxLen ∧ W0.heap.size ≤ g2 ∧ RowI w1 g2 vs := by
      rcases HC.out.own2.row with ⟨h, _⟩ | ⟨g, c, h, h1, h2, h3, h4⟩
      · have := HVL.out; rw [h] at this; simp at this
      · exact ⟨g, c, h, h2, h3, h1, h4⟩
    have hne : g1 ≠ g2 := fun e => HC.out.ne g1 rfl (by rw [e]; rfl)
    have hO1 : g1 ≠ O := HC.out.ne1 g1 rfl
    have hO2 : g2 ≠ O := HC.out.ne2 g2 rfl
    have hO := HC.out.new
    have HS := hid (show ApSt s w W0 O g1 g2 k1 k2 ls vs (.slice ax s.init.length cx) (.slice bx s.procs.length dx) (.int .i64 i) (.int .i64 k) (.int .i64 q) (.int .i64 f) w1 ls vs from
      ⟨HOK.out, rfl, rfl, HC.out.box, boxp_next HC.out.below HY0.out, box4_next HC.out.below HS0.out, boxp_next HC.out.below HZ0.out, hr1, hr2, HC.out.below⟩)
    clear HC HI1 HI2 I1 I2 HY0 HS0 HZ0 n1 n2 c1 c2 d1 d2 P0 hr1 hr2
    obtain ⟨bp, op, rfl, hbp, hAt⟩ : ∃ bp op, bx = some ⟨bp, op, none⟩ ∧ bp < W0.heap.size ∧ ∀ i t, s.procs[i]? = some t → PrAt Any W0 t bp (op + i * 2) := by
      rcases HP.out with h | ⟨bp, op, h1, _, h2, h3⟩
      · rw [h] at hi; simp at hi
      · exact ⟨bp, op, h1, h2, h3⟩
    have HAt := hid hAt
    clear hAt HP
    obtain ⟨hok, el, ev, bO, b3, b5, b6, R1, R2, BW⟩ := HS.out
    have H5 := hid (take_step hok hi hk el ev)
    obtain ⟨hil, hvl, hvar, hval, hokv, hvi⟩ := H5.out.1
    obtain ⟨_, _, ⟨_, e1⟩, _, _, he, j1, j2, j3, j4⟩ := HAt.out i _ (List.getElem?_eq_getElem hi)
    simp at he
    obtain ⟨rfl, rfl⟩ := he
    obtain ⟨be, oe, rfl, _, hbe, _, _, _, _, ⟨f0, f1, f2, f3, f4, f5, f6, f7, f8, f9⟩, hEd⟩ := SeqIn.at j4 hk
    have HEd := hid hEd
    unfold maxLen at j3
    have hki : (k : Int) < (s.procs[i].edges.length : Int) := by omega
    have hii : (i : Int) < (s.procs.length : Int) := by omega
    have e1' := cell_bel BW hbp e1
    have f0' := cell_bel BW hbe f0
    have f1' := cell_bel BW hbe f1
    have f2' := cell_bel BW hbe f2
    have f3' := cell_bel BW hbe f3
    have f4' := cell_bel BW hbe f4
    have f5' := cell_bel BW hbe f5
    have f6' := cell_bel BW hbe f6
    have f7' := cell_bel BW hbe f7
    have f8' := cell_bel BW hbe f8
    have f9' := cell_bel BW hbe f9
    have hbp' := Nat.lt_of_lt_of_le hbp BW.size
    have hbe' := Nat.lt_of_lt_of_le hbe BW.size
    obtain ⟨x0, x1, x2, x3, x4⟩ := id bO
    obtain ⟨y0, y1, y2, y3, y4⟩ := id b3
    obtain ⟨z0, ⟨z1, z2, z3, z4⟩, _⟩ := id b5
    have hxe : EdIn (fun b => b ≠ g1) w1.drew s.procs[i].edges[k] _ := HEd.out.frame (w' := w1.drew) fun b _ hl => ⟨by omega, (below_next BW (below_d (Below.refl w1.heap.size w1))).block b hl⟩
    have HXE := hid hxe
    have hd := below_d (Below.refl w1.heap.size w1)
    have HF := hid (take_any ls vs s.procs[i].edges[k] i w1.drew _ g1 g2 k1 k2 hne (R1.next hd) (R2.next hd) ⟨by omega, hk12⟩ ⟨by omega, hk22⟩ hil hvl hokv hvi hvar hval hxe)
    rw [el, ev] at HF
    have HB := hid (And.intro b3 (And.intro b5 b6))
    have HBW := hid BW
    have HbO := hid bO
    have H6 := hid H5.out.2
    have hOs := bO.1
    have h35 := b5.1
    clear hxe hd R1 R2 bO b3 b5 b6 BW hEd hok hil hvl hvar hval hokv hvi HS H5 e1 f0 f1 f2 f3 f4 f5 f6 f7 f8 f9
    generalize s.procs[i].edges[k] = e at *
    obtain ⟨ne, hne2⟩ : ∃ n, n = s.procs[i].edges.length := ⟨_, rfl⟩
    rw [← hne2] at e1' hki
    clear hne2 j2 j4
    go_wp2_with fail
    refine wp_region_ord (C := fun wZ => ∃ xZ, wZ = World.overP _ ([O, w.heap.size, w.heap.size + 1 + 1, bp, be]) xZ) [0,1,2,3,4,5,6,7,8,9,10,11,12,13] (.one 14 (.fre 15 .done)) [15] (by kernel_rfl) (by kernel_rfl) (fun d _ _ _ _ h => by cases d <;> exact h) (KeepP.refl _ _).drew.ex ?_; simp only [pick, List.getElem?_cons_succ, List.getElem?_cons_zero]; (repeat (go_big_quiet_step (fail))); refine wpQuiet_nil ?_; simp only [ordW, pick, List.getElem?_cons_succ, List.getElem?_cons_zero]
    go_wp2_with fail
    refine HF.out.mono ?_
    rintro ye W2 ⟨rfl, r1, r2, ho⟩
    rw [H6.out.2.1, H6.out.2.2]
    have hd := below_d (Below.refl w1.heap.size w1)
    have HK := hid ((KeepP.below (S := [O, w.heap.size, w.heap.size + 1 + 1, bp, be]) hd).trans (KeepP.only2 ho (by simp; omega) (by simp; omega)))
    have BN := below_only2 (below_next HBW.out hd) ho (by omega) (by omega)
    have bO2 := boxp_keep ho.size (ho.block O (by simpa using hOs) (by simp; omega)) (boxp_next hd HbO.out)
    have b32 := boxp_keep ho.size (ho.block w.heap.size (by simp; omega) (by simp; omega)) (boxp_next hd HB.out.1)
    have b52 := box4_block ho.size (ho.block (w.heap.size + 1 + 1) (by simpa using h35) (by simp; omega)) (box4_next hd HB.out.2.1)
    have b62 := boxp_keep ho.size (ho.block (w.heap.size + 1 + 1 + 1) (by have := HB.out.2.2.1; simpa using this) (by simp; omega)) (boxp_next hd HB.out.2.2)
    have HN := hid (show ApSt s w W0 O g1 g2 k1 k2 ls vs (.slice ax s.init.length cx) (.slice (some ⟨bp, op, none⟩) s.procs.length dx) (.int .i64 i) (.int .i64 k) (.int .i64 q) (.int .i64 f) ((W2.setCell ⟨O, 0, none⟩ (.slice (some ⟨g1, 0, none⟩) ls.length k1)).setCell ⟨O, 1, none⟩ (.slice (some ⟨g2, 0, none⟩) vs.length k2)) _ _ from
      ⟨H6.out.1, H6.out.2.1, H6.out.2.2, boxp_set1 (boxp_set0 bO2 _) _, boxp_set (boxp_set b32 (show w.heap.size ≠ O by omega) _) (show w.heap.size ≠ O by omega) _,
        box4_block (by simp) ((Below.heap_setCell _ _ _ _ (show w.heap.size + 1 + 1 ≠ O by omega)).trans (Below.heap_setCell _ _ _ _ (show w.heap.size + 1 + 1 ≠ O by omega))) b52, boxp_set (boxp_set b62 (show w.heap.size + 1 + 1 + 1 ≠ O by omega) _) (show w.heap.size + 1 + 1 + 1 ≠ O by omega) _,
        (r1.other (a := ⟨O, 0, none⟩) (show g1 ≠ O by omega) _).other (a := ⟨O, 1, none⟩) (show g1 ≠ O by omega) _, (r2.other (a := ⟨O, 0, none⟩) (show g2 ≠ O by omega) _).other (a := ⟨O, 1, none⟩) (show g2 ≠ O by omega) _,
        Below.setCell (Below.setCell BN (show W0.heap.size ≤ O by omega) _) (show W0.heap.size ≤ O by omega) _⟩)
    obtain ⟨x0', x1', x2', x3', x4'⟩ := bO2
    clear HF HB HBW HbO H6 HXE HEd hd BN b32 b52 b62 r1 r2 ho x0 x1 x2 x3 x4 y0 y1 y2 y3 y4 z0 z1 z2 z3 z4 e1' f0' f1' f2' f3' f4' f5' f6' f7' f8' f9' hki hii
    go_wp2_with fail
    refine ⟨HK.out.ex, ?_⟩
    go_upto_region 3 with fail
    refine wp_gen (fun W => ∃ lx vx, ApSt s w W0 O g1 g2 k1 k2 ls vs (.slice ax s.init.length cx) (.slice (some ⟨bp, op, none⟩) s.procs.length dx) (.int .i64 i) (.int .i64 k) (.int .i64 q) (.int .i64 f) W lx vx) ⟨_, _, HN.out⟩ ?_
    clear HN HK x0' x1' x2' x3' x4'
    rintro W4 ⟨lx, vx, hst⟩
    have HS := hid hst
    clear hst
    have h5 := HS.out.2.2.2.2.2.1
    obtain ⟨z0, ⟨z1, z2, z3, z4⟩, _⟩ := id h5
    rcases hqf with rfl | ⟨j, m, hj, rfl, rfl, hm⟩
    · clear h5
      obtain ⟨hok, el, ev, bO, b3, b5, b6, R1, R2, BW⟩ := HS.out
      have hbd := okSt_i64 hok
      have HF := hid (show ApPost s w (.returned (.agg #[.slice (some ⟨g1, 0, none⟩) ls.length k1, .slice (some ⟨g2, 0, none⟩) vs.length k2])) ((W4.setCell ⟨w.heap.size + 1 + 1 + 1, 0, none⟩ (.slice (some ⟨g1, 0, none⟩) ls.length k1)).setCell ⟨w.heap.size + 1 + 1 + 1, 1, none⟩ (.slice (some ⟨g2, 0, none⟩) vs.length k2)) from
        ⟨_, lx, vx, rfl, hok, ⟨some ⟨g1, 0, none⟩, some ⟨g2, 0, none⟩, k1, k2, by rw [el, ev], ((R1.other (a := ⟨w.heap.size + 1 + 1 + 1, 0, none⟩) (show g1 ≠ w.heap.size + 1 + 1 + 1 by omega) _).other (a := ⟨w.heap.size + 1 + 1 + 1, 1, none⟩) (show g1 ≠ w.heap.size + 1 + 1 + 1 by omega) _).ints hbd.1 (show w.heap.size ≤ g1 by omega),
          ((R2.other (a := ⟨w.heap.size + 1 + 1 + 1, 0, none⟩) (show g2 ≠ w.heap.size + 1 + 1 + 1 by omega) _).other (a := ⟨w.heap.size + 1 + 1 + 1, 1, none⟩) (show g2 ≠ w.heap.size + 1 + 1 + 1 by omega) _).ints hbd.2 (show w.heap.size ≤ g2 by omega), by omega, hk12, by omega, hk22⟩,
          fun a' b' c' d' n m he => by simp at he; obtain ⟨⟨rfl, _, rfl⟩, rfl, _, rfl⟩ := he; exact ⟨fun h => (by cases h), fun h => (by cases h)⟩,
          below_set2 (below_next HB0.out BW) (show w.heap.size ≤ w.heap.size + 1 + 1 + 1 by omega) _ _⟩)
      have TT := hid (boxp_set1 (boxp_set0 b6 (.slice (some ⟨g1, 0, none⟩) ls.length k1)) (.slice (some ⟨g2, 0, none⟩) vs.length k2))
      obtain ⟨x0, x1, x2, x3, x4⟩ := bO
      obtain ⟨y0, y1, y2, y3, y4⟩ := b6
      clear R1 R2 BW b3 b5 HS hok hbd el ev
      go_wp2_with fail
      obtain ⟨_, t0, t1, _, _⟩ := TT.out
      refine bodyPost_ret (v := .agg #[.slice (some ⟨g1, 0, none⟩) ls.length k1, .slice (some ⟨g2, 0, none⟩) vs.length k2]) (by simp [results, Try.results88, go_sem, t0, t1]) rfl ?_
      exact HF.out
    · have hq0 : (0 : Int) ≤ (j : Int) := by omega
      clear h5
      go_upto_region 4 with fail
      clear z0 z1 z2 z3 z4
      obtain ⟨hok, el, ev, bO, b3, b5, b6, R1, R2, BW⟩ := HS.out
      have H5 := hid (take_step hok hj hm el ev)
      obtain ⟨hil, hvl, hvar, hval, hokv, hvi⟩ := H5.out.1
      obtain ⟨_, _, ⟨_, e1⟩, _, _, he, j1, j2, j3, j4⟩ := HAt.out j _ (List.getElem?_eq_getElem hj)
      simp at he
      obtain ⟨rfl, rfl⟩ := he
      obtain ⟨be, oe, rfl, _, hbe, _, _, _, _, ⟨f0, f1, f2, f3, f4, f5, f6, f7, f8, f9⟩, hEd⟩ := SeqIn.at j4 hm
      have HEd := hid hEd
      unfold maxLen at j3
      have hki : (m : Int) < (s.procs[j].edges.length : Int) := by omega
      have hii : (j : Int) < (s.procs.length : Int) := by omega
      have e1' := cell_bel BW hbp e1
      have f0' := cell_bel BW hbe f0
      have f1' := cell_bel BW hbe f1
      have f2' := cell_bel BW hbe f2
      have f3' := cell_bel BW hbe f3
      have f4' := cell_bel BW hbe f4
      have f5' := cell_bel BW hbe f5
      have f6' := cell_bel BW hbe f6
      have f7' := cell_bel BW hbe f7
      have f8' := cell_bel BW hbe f8
      have f9' := cell_bel BW hbe f9
      have hbp' := Nat.lt_of_lt_of_le hbp BW.size
      have hbe' := Nat.lt_of_lt_of_le hbe BW.size
      obtain ⟨x0, x1, x2, x3, x4⟩ := id bO
      obtain ⟨y0, y1, y2, y3, y4⟩ := id b3
      obtain ⟨z0, ⟨z1, z2, z3, z4⟩, _⟩ := id b5
      have hxe : EdIn (fun b => b ≠ g1) W4.drew s.procs[j].edges[m] _ := HEd.out.frame (w' := W4.drew) fun b _ hl => ⟨by omega, (below_next BW (below_d (Below.refl W4.heap.size W4))).block b hl⟩
      have HXE := hid hxe
      have hd := below_d (Below.refl W4.heap.size W4)
      have HF := hid (take_any lx vx s.procs[j].edges[m] j W4.drew _ g1 g2 k1 k2 hne (R1.next hd) (R2.next hd) ⟨by omega, hk12⟩ ⟨by omega, hk22⟩ hil hvl hokv hvi hvar hval hxe)
      rw [el, ev] at HF
      have HB := hid (And.intro b3 (And.intro b5 b6))
      have HBW := hid BW
      have HbO := hid bO
      have H6 := hid H5.out.2
      have hOs := bO.1
      have h35 := b5.1
      clear hxe hd R1 R2 bO b3 b5 b6 BW hEd hok hil hvl hvar hval hokv hvi HS H5 e1 f0 f1 f2 f3 f4 f5 f6 f7 f8 f9
      generalize s.procs[j].edges[m] = e at *
      obtain ⟨ne, hne2⟩ : ∃ n, n = s.procs[j].edges.length := ⟨_, rfl⟩
      rw [← hne2] at e1' hki
      clear hne2 j2 j4
      go_wp2_with fail
      refine wp_region_ord (C := fun wZ => ∃ xZ, wZ = World.overP _ ([O, w.heap.size, w.heap.size + 1 + 1, bp, be]) xZ) [0,1,2,3,4,5,6,7,8,9,10,11,12,13] (.one 14 (.fre 15 .done)) [15] (by kernel_rfl) (by kernel_rfl) (fun d _ _ _ _ h => by cases d <;> exact h) (KeepP.refl _ _).drew.ex ?_; simp only [pick, List.getElem?_cons_succ, List.getElem?_cons_zero]; (repeat (go_big_quiet_step (fail))); refine wpQuiet_nil ?_; simp only [ordW, pick, List.getElem?_cons_succ, List.getElem?_cons_zero]
      go_wp2_with fail
      refine HF.out.mono ?_
      rintro ye W2 ⟨rfl, r1, r2, ho⟩
      rw [H6.out.2.1, H6.out.2.2]
      have hd := below_d (Below.refl W4.heap.size W4)
      have HK := hid ((KeepP.below (S := [O, w.heap.size, w.heap.size + 1 + 1, bp, be]) hd).trans (KeepP.only2 ho (by simp; omega) (by simp; omega)))
      have BN := below_only2 (below_next HBW.out hd) ho (by omega) (by omega)
      have bO2 := boxp_keep ho.size (ho.block O (by simpa using hOs) (by simp; omega)) (boxp_next hd HbO.out)
      have b32 := boxp_keep ho.size (ho.block w.heap.size (by simp; omega) (by simp; omega)) (boxp_next hd HB.out.1)
      have b52 := box4_block ho.size (ho.block (w.heap.size + 1 + 1) (by simpa using h35) (by simp; omega)) (box4_next hd HB.out.2.1)
      have b62 := boxp_keep ho.size (ho.block (w.heap.size + 1 + 1 + 1) (by have := HB.out.2.2.1; simpa using this) (by simp; omega)) (boxp_next hd HB.out.2.2)
      have HN := hid (show ApSt s w W0 O g1 g2 k1 k2 ls vs (.slice ax s.init.length cx) (.slice (some ⟨bp, op, none⟩) s.procs.length dx) (.int .i64 i) (.int .i64 k) (.int .i64 (j : Int)) (.int .i64 (m : Int)) ((W2.setCell ⟨O, 0, none⟩ (.slice (some ⟨g1, 0, none⟩) ls.length k1)).setCell ⟨O, 1, none⟩ (.slice (some ⟨g2, 0, none⟩) vs.length k2)) _ _ from
        ⟨H6.out.1, H6.out.2.1, H6.out.2.2, boxp_set1 (boxp_set0 bO2 _) _, boxp_set (boxp_set b32 (show w.heap.size ≠ O by omega) _) (show w.heap.size ≠ O by omega) _,
          box4_block (by simp) ((Below.heap_setCell _ _ _ _ (show w.heap.size + 1 + 1 ≠ O by omega)).trans (Below.heap_setCell _ _ _ _ (show w.heap.size + 1 + 1 ≠ O by omega))) b52, boxp_set (boxp_set b62 (show w.heap.size + 1 + 1 + 1 ≠ O by omega) _) (show w.heap.size + 1 + 1 + 1 ≠ O by omega) _,
          (r1.other (a := ⟨O, 0, none⟩) (show g1 ≠ O by omega) _).other (a := ⟨O, 1, none⟩) (show g1 ≠ O by omega) _, (r2.other (a := ⟨O, 0, none⟩) (show g2 ≠ O by omega) _).other (a := ⟨O, 1, none⟩) (show g2 ≠ O by omega) _,
          Below.setCell (Below.setCell BN (show W0.heap.size ≤ O by omega) _) (show W0.heap.size ≤ O by omega) _⟩)
      obtain ⟨x0', x1', x2', x3', x4'⟩ := bO2
      clear HF HB HBW HbO H6 HXE HEd hd BN b32 b52 b62 r1 r2 ho x0 x1 x2 x3 x4 y0 y1 y2 y3 y4 z0 z1 z2 z3 z4 e1' f0' f1' f2' f3' f4' f5' f6' f7' f8' f9' hki hii
      go_wp2_with fail
      refine ⟨HK.out.ex, ?_⟩
      go_upto_region 5 with fail
      refine wp_gen (fun W => ∃ lx vx, ApSt s w W0 O g1 g2 k1 k2 ls vs (.slice ax s.init.length cx) (.slice (some ⟨bp, op, none⟩) s.procs.length dx) (.int .i64 i) (.int .i64 k) (.int .i64 (j : Int)) (.int .i64 (m : Int)) W lx vx) ⟨_, _, HN.out⟩ ?_
      clear HN HK x0' x1' x2' x3' x4'
      rintro W5 ⟨lx, vx, hst⟩
      have HS := hid hst
      clear hst
      obtain ⟨hok, el, ev, bO, b3, b5, b6, R1, R2, BW⟩ := HS.out
      have hbd := okSt_i64 hok
      have HF := hid (show ApPost s w (.returned (.agg #[.slice (some ⟨g1, 0, none⟩) ls.length k1, .slice (some ⟨g2, 0, none⟩) vs.length k2])) ((W5.setCell ⟨w.heap.size + 1 + 1 + 1, 0, none⟩ (.slice (some ⟨g1, 0, none⟩) ls.length k1)).setCell ⟨w.heap.size + 1 + 1 + 1, 1, none⟩ (.slice (some ⟨g2, 0, none⟩) vs.length k2)) from
        ⟨_, lx, vx, rfl, hok, ⟨some ⟨g1, 0, none⟩, some ⟨g2, 0, none⟩, k1, k2, by rw [el, ev], ((R1.other (a := ⟨w.heap.size + 1 + 1 + 1, 0, none⟩) (show g1 ≠ w.heap.size + 1 + 1 + 1 by omega) _).other (a := ⟨w.heap.size + 1 + 1 + 1, 1, none⟩) (show g1 ≠ w.heap.size + 1 + 1 + 1 by omega) _).ints hbd.1 (show w.heap.size ≤ g1 by omega),
          ((R2.other (a := ⟨w.heap.size + 1 + 1 + 1, 0, none⟩) (show g2 ≠ w.heap.size + 1 + 1 + 1 by omega) _).other (a := ⟨w.heap.size + 1 + 1 + 1, 1, none⟩) (show g2 ≠ w.heap.size + 1 + 1 + 1 by omega) _).ints hbd.2 (show w.heap.size ≤ g2 by omega), by omega, hk12, by omega, hk22⟩,
          fun a' b' c' d' n m he => by simp at he; obtain ⟨⟨rfl, _, rfl⟩, rfl, _, rfl⟩ := he; exact ⟨fun h => (by cases h), fun h => (by cases h)⟩,
          below_set2 (below_next HB0.out BW) (show w.heap.size ≤ w.heap.size + 1 + 1 + 1 by omega) _ _⟩)
      have TT := hid (boxp_set1 (boxp_set0 b6 (.slice (some ⟨g1, 0, none⟩) ls.length k1)) (.slice (some ⟨g2, 0, none⟩) vs.length k2))
      obtain ⟨x0, x1, x2, x3, x4⟩ := bO
      obtain ⟨y0, y1, y2, y3, y4⟩ := b6
      clear R1 R2 BW b3 b5 HS hok hbd el ev
      go_wp2_with fail
      obtain ⟨_, t0, t1, _, _⟩ := TT.out
      refine bodyPost_ret (v := .agg #[.slice (some ⟨g1, 0, none⟩) ls.length k1, .slice (some ⟨g2, 0, none⟩) vs.length k2]) (by simp [results, Try.results88, go_sem, t0, t1]) rfl ?_
      exact HF.out
end Go.Proofs.Ytfemikebklmlpaa
