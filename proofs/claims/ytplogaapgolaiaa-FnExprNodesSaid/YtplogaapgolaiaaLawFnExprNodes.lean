/- FnExprNodes returns true for every argument. Conditions: none. -/
import Derived.Test.YtplogaapgolaiaaExprDraws
import Derived.Test.YtplogaapgolaiaaExprSpecN
import Derived.Test.YtplogaapgolaiaaExprImplN
import Derived.Test.YtplogaapgolaiaaKidsPlain
import Derived.Test.YtplogaapgolaiaaVarsX
import Derived.Test.YtplogaapgolaiaaMore
import Derived.Deep.RegionHeld3
namespace Go.Proofs.Ytplogaapgolaiaa
open Go.RowKit
open Go.Proofs.Ytplogaapgolaiaa.Expr

theorem three_mark {k : Int} {mm i : Nat} (hk : (k == 2) = true) (hm : mm < 3) (hi : i < 3) : ((zerosB 3).setIfInBounds mm (.bool true)).getD i undef = .bool ((k == 2) && (mm : Int) == (i : Int)) := by
  rw [hk, Bool.true_and]
  rcases (by omega : mm = 0 ∨ mm = 1 ∨ mm = 2) with rfl | rfl | rfl <;> rcases (by omega : i = 0 ∨ i = 1 ∨ i = 2) with rfl | rfl | rfl <;> simp [zerosB, madeCells, Array.getD]
theorem held_next {W0 W W' : World} {B : Nat} {x y z : Value} (M : Below W0.heap.size W0 W) (hb : Below W.heap.size W W') (hl0 : B < W0.heap.size) (h : W.cell? ⟨B, 0, none⟩ = some x ∧ W.cell? ⟨B, 1, none⟩ = some y ∧ W.cell? ⟨B, 2, none⟩ = some z) :
    W'.cell? ⟨B, 0, none⟩ = some x ∧ W'.cell? ⟨B, 1, none⟩ = some y ∧ W'.cell? ⟨B, 2, none⟩ = some z :=
  have hl : B < W.heap.size := Nat.lt_of_lt_of_le hl0 M.size
  ⟨(hb.cell (p := ⟨B, 0, none⟩) hl).trans h.1, (hb.cell (p := ⟨B, 1, none⟩) hl).trans h.2.1, (hb.cell (p := ⟨B, 2, none⟩) hl).trans h.2.2⟩

set_option maxRecDepth 100000 in
set_option maxHeartbeats 4000000 in
theorem walk_FnExprNodes (w : World) (a : Option Addr) (len cap : Nat) (hb : ByteArg w a len cap) : Calls Try.prog 3 #[.slice a len cap] w (Ret (.bool true) w) := by
  have hcap := hb.2.1
  have hcap1 := hb.1
  unfold maxLen at hcap
  by_cases hlen : len > 1048576
  · have hlen2 : (len : Int) > 1048576 := by omega
    go_enter Try.func3, Try.ntmps3
    go_wp2_with fail
    go_ret
    exact Ret.mk rfl (by repeat (first | exact Below.refl _ _ | assumption | refine below_a ?_ _ | refine below_o ?_ _ | refine below_d ?_ | refine below_n ?_ _ | refine below_s ?_ (by first | (simp; done) | (simp; omega) | omega) _))
  have hlen2 : ¬ ((len : Int) > 1048576) := by omega
  have hmk : ∀ w : World, (Instr.makeSlice 29 (.int .i64 3) (.int .i64 3)).run Try.prog w = .ok (.slice (some ⟨w.heap.size, 0, none⟩) 3 3) (w.alloc (.cells (zerosB 3) 4)) := make_bools 3 (by omega)
  go_enter Try.func3, Try.ntmps3
  go_wp2_with fail
  refine (Expr.drawNodes_any _ a len cap hb).mono ?_
  rintro e w1 ⟨v, rfl, ⟨t, hn, hnt⟩, B1⟩
  have hx := hn.any
  cases t with
  | mk k v kids =>
  have hx0 := hx
  rw [TrIn_mk] at hx0
  obtain ⟨a1, n1, c1, rfl, hk, hv, rfl, hc, hc2, hks⟩ := hx0
  have hx2 := hx
  clear hn hb
  go_wp2_with fail
  refine (Expr.nodes_any (.mk k v kids) _ _ (TrIn_alloc hx2 _)).mono ?_
  rintro e w2 ⟨rfl, hb2⟩
  have c4 := box3_next hb2 (box3_new w1 (.int .i64 k) (.int .i64 v) (.slice a1 kids.length c1) 25)
  replace B1 := below_next (below_next B1 (below_alloc _ _)) hb2
  have K2 := below_next (below_alloc w1 _) hb2
  clear hb2
  go_wp2_with fail
  refine (Expr.specNodes_any (.mk k v kids) _ _ (TrIn_below K2 hx2)).mono ?_
  rintro e w3 ⟨rfl, hb3⟩
  replace c4 := box3_next hb3 c4
  replace B1 := below_next B1 hb3
  replace K2 := below_next K2 hb3
  clear hb3
  have hb := exprL.size_bd (.mk k v kids) (by rw [exprL_N]; omega)
  have ne : (exprL.size (.mk k v kids) != exprL.size (.mk k v kids)) = false := by simp
  have eq : (exprL.size (.mk k v kids) == exprL.size (.mk k v kids)) = true := by simp
  have HS := hid (rfl : exprL.size (.mk k v kids) = exprL.size (.mk k v kids))
  go_wp2_with fail
  refine (Expr.specValid_any (.mk k v kids) _ _ (TrIn_below K2 hx2)).mono ?_
  rintro e w4 ⟨rfl, hb4⟩
  replace c4 := box3_next hb4 c4
  replace B1 := below_next B1 hb4
  replace K2 := below_next K2 hb4
  clear hb4
  cases hv2 : exprL.valid (.mk k v kids) with
  | false =>
    have E := hid (show varsB (.mk k v kids) = [] by simp [varsB, hv2])
    clear hv2
    go_wp2_with fail
    obtain ⟨q0, q1, q2, q3, q4⟩ := c4
    have hx4 := TrIn_below K2 hx2
    have Md := below_d (Below.refl w4.heap.size w4)
    go_region_held3 (fun w' => w'.cell? ⟨w1.heap.size, 0, none⟩ = some (.int .i64 k) ∧ w'.cell? ⟨w1.heap.size, 1, none⟩ = some (.int .i64 v) ∧ w'.cell? ⟨w1.heap.size, 2, none⟩ = some (.slice a1 kids.length c1))
      (first | exact ⟨q1, q2, q3⟩ | assumption | go_keep)
      (first
        | (go_at_call 11; refine (Expr.specNodes_any (.mk k v kids) _ _ (TrIn_below (by repeat (first | exact Below.refl _ _ | assumption | refine below_a ?_ _ | refine below_o ?_ _ | refine below_d ?_ | refine below_n ?_ _ | refine below_s ?_ (by first | (simp; done) | (simp; omega) | omega) _)) hx4)).mono ?_; rintro e wN ⟨rfl, hbN⟩; have MN := below_next (show Below w4.heap.size w4 _ from (by repeat (first | exact Below.refl _ _ | assumption | refine below_a ?_ _ | refine below_o ?_ _ | refine below_d ?_ | refine below_n ?_ _ | refine below_s ?_ (by first | (simp; done) | (simp; omega) | omega) _))) hbN; have hh := held_next (W0 := w4) (by repeat (first | exact Below.refl _ _ | assumption | refine below_a ?_ _ | refine below_o ?_ _ | refine below_d ?_ | refine below_n ?_ _ | refine below_s ?_ (by first | (simp; done) | (simp; omega) | omega) _)) hbN q0 (by assumption); clear hbN)
        | (go_at_call 13; refine (Expr.vars_any (.mk k v kids) _ _ (TrIn_below (by repeat (first | exact Below.refl _ _ | assumption | refine below_a ?_ _ | refine below_o ?_ _ | refine below_d ?_ | refine below_n ?_ _ | refine below_s ?_ (by first | (simp; done) | (simp; omega) | omega) _)) hx4)).mono ?_; rintro e wI ⟨vI, rfl, hI, hbI⟩; rw [E.out] at hI; obtain ⟨aI, cI, bI, rfl, _⟩ := hI; have MI := below_next (show Below w4.heap.size w4 _ from (by repeat (first | exact Below.refl _ _ | assumption | refine below_a ?_ _ | refine below_o ?_ _ | refine below_d ?_ | refine below_n ?_ _ | refine below_s ?_ (by first | (simp; done) | (simp; omega) | omega) _))) hbI; have hh := held_next (W0 := w4) (by repeat (first | exact Below.refl _ _ | assumption | refine below_a ?_ _ | refine below_o ?_ _ | refine below_d ?_ | refine below_n ?_ _ | refine below_s ?_ (by first | (simp; done) | (simp; omega) | omega) _)) hbI q0 (by assumption); clear hbI)
        | (go_at_call 14; refine (Expr.specVars_any (.mk k v kids) _ _ (TrIn_below (by repeat (first | exact Below.refl _ _ | assumption | refine below_a ?_ _ | refine below_o ?_ _ | refine below_d ?_ | refine below_n ?_ _ | refine below_s ?_ (by first | (simp; done) | (simp; omega) | omega) _)) hx4)).mono ?_; rintro e wJ ⟨vJ, rfl, hJ, hbJ⟩; rw [E.out] at hJ; obtain ⟨aJ, cJ, bJ, rfl, _⟩ := hJ; have MJ := below_next (show Below w4.heap.size w4 _ from (by repeat (first | exact Below.refl _ _ | assumption | refine below_a ?_ _ | refine below_o ?_ _ | refine below_d ?_ | refine below_n ?_ _ | refine below_s ?_ (by first | (simp; done) | (simp; omega) | omega) _))) hbJ; have hh := held_next (W0 := w4) (by repeat (first | exact Below.refl _ _ | assumption | refine below_a ?_ _ | refine below_o ?_ _ | refine below_d ?_ | refine below_n ?_ _ | refine below_s ?_ (by first | (simp; done) | (simp; omega) | omega) _)) hbJ q0 (by assumption); clear hbJ))
    all_goals
      go_wp2_with fail
      go_ret
      exact Ret.mk (by simp) (below_next B1 (by repeat (first | exact Below.refl _ _ | assumption | refine below_a ?_ _ | refine below_o ?_ _ | refine below_d ?_ | refine below_n ?_ _ | refine below_s ?_ (by first | (simp; done) | (simp; omega) | omega) _)))
  | true =>
    have hsz := exprL.size_valid hv2
    have hN : nodes (.mk k v kids) ≤ 15 := by rw [← hsz]; have := hb.2; rw [exprL_N] at this; exact this
    have hsh : exprL.shape (.mk k v kids) (6 : Nat) = true := by rw [Lang.valid, Bool.and_eq_true] at hv2; exact hv2.1
    obtain ⟨m0, hm0, hk1, hk9, h4, h5, h6, h7⟩ := exprL.shape_mk hsh
    clear hm0
    rw [exprL_most] at h5
    rw [exprL_ar] at h6
    have HV := hid hv2
    have HZ := hid hsz
    have HK := hid (fun t (ht : t ∈ kids) => exprL.valid_kid hv2 ht)
    clear hv2 hsz hsh h7 hk1 hk9 m0
    simp only [nodes] at hN
    have hkids := len_nodes kids
    generalize exprL.size (.mk k v kids) = m at *
    obtain ⟨q0, q1, q2, q3, q4⟩ := c4
    have hT0 := hid (three_new w4 4)
    have hcase : ((k == 2) = true ∧ ∃ mm : Nat, mm < 3 ∧ v = mm) ∨ (k == 2) = false := by
      by_cases h2 : k = 2
      · subst h2
        left
        simp at h5
        exact ⟨rfl, v.toNat, by omega, by omega⟩
      · right; simpa using h2
    clear h4 h5 h6
    have HST := hid (show ∀ W : World, Below w4.heap.size w4 W → Three W w4.heap.size (fun i => (k == 2) && v == (i : Int)) → Below w4.heap.size w4 W ∧ Three W w4.heap.size (fun i => (k == 2) && v == (i : Int)) ∧ Box3 W w1.heap.size (.int .i64 k) (.int .i64 v) (.slice a1 kids.length c1) from fun W h1 h2 => ⟨h1, h2, box3_next h1 ⟨q0, q1, q2, q3, q4⟩⟩)
    have HTF := hid (show ∀ S i : Int, True from fun _ _ => trivial)
    have HK1 := hid K2
    have HB1 := hid B1
    clear K2 B1
    rcases hcase with ⟨hk2, mm, hmm, rfl⟩ | hk2
    all_goals
      have hz0 := hT0.out.2.1
      have hzf := hT0.out.2.2
      go_wp2_with fail
      refine wp_gen (fun W => Below w4.heap.size w4 W ∧ Three W w4.heap.size (fun i => (k == 2) && _ == (i : Int)) ∧ Box3 W w1.heap.size (.int .i64 k) (.int .i64 _) (.slice a1 kids.length c1)) (HST.out _ ?_ ?_) ?_
      rotate_left 2
      · rintro W ⟨MW, h3, cW⟩
        clear hz0 hzf
        try (generalize ((mm : Nat) : Int) = v at *)
        have HX4 := hid (TrIn_below HK1.out hx2)
        have hks4 := TrsIn_below HK1.out hks
        clear hT0 HST hnt q1 q2 q3 q4 HTF hx hx2
        go_loopw [5, 7] (fun s i wr => ∃ (j : Nat) (n : Int), j ≤ kids.length ∧ s = .int .i64 n ∧ i = .int .i64 j ∧ (1 ≤ n ∧ n ≤ 16) ∧ Below w4.heap.size w4 wr ∧ Box3 wr w1.heap.size (.int .i64 k) (.int .i64 v) (.slice a1 kids.length c1) ∧ Three wr w4.heap.size (occNL (fun i => (k == 2) && v == (i : Int)) (kids.take j)) ∧ Hid (n + nodesL (kids.drop j) = 1 + nodesL kids)) (fun _ i _ => kids.length - (intOf i).toNat)
        case atStart => exact ⟨0, 1, Nat.zero_le _, rfl, rfl, by omega, MW, cW, h3.congr (fun i _ => by simp [occNL, occL]), hid rfl⟩
        case round =>
          clear MW h3 cW
          obtain ⟨j, n, hj, rfl, rfl, hn, Bw, c4, h3, hsum⟩ := hrel
          have H3 := hid h3
          have hSl := h3.1
          clear h3
          generalize hg : occNL (fun i => (k == 2) && v == (i : Int)) (kids.take j) = g at *
          replace hg := hid hg
          by_cases hlt : j < kids.length
          · obtain ⟨b, o, d0, d1, d2, t, rfl, gb, g0, g1, g2, hT⟩ := TrsIn_round hks4 Bw hlt
            have hlt2 : (j : Int) < (kids.length : Int) := by omega
            have hsum2 : n + (nodes t + nodesL (kids.drop (j + 1))) = 1 + nodesL kids := by have := hsum.out; rw [hT.out.2.2.1] at this; simpa only [nodesL] using this
            have hp1 := nodes_pos t
            have hp2 := nodesL_pos (kids.drop (j + 1))
            have hkval := HK.out t hT.out.2.1
            have hkv := exprL.size_valid hkval
            have HS3 := hid (show n + nodes t + nodesL (kids.drop (j + 1)) = 1 + nodesL kids by omega)
            have hb13 : n + nodes t ≤ 16 := by omega
            have HVt := hid (show (varsB t).map Value.bool = [.bool (occT 0 t), .bool (occT 1 t), .bool (occT 2 t)] by simp [varsB, hkval])
            clear hsum2 hkval
            go_wp2_with fail
            refine (Expr.nodes_any t _ _ hT.out.1).mono ?_
            rintro e w5 ⟨rfl, hb5⟩
            rw [hkv]
            replace c4 := box3_next hb5 c4
            replace Bw := below_next Bw hb5
            replace H3 := hid (H3.out.below hb5)
            have hT5 := hid (TrIn_below hb5 hT.out.1)
            obtain ⟨g0, g1, g2⟩ := cells_next hb5 gb g0 g1 g2
            have gb5 : b < w5.heap.size := Nat.lt_of_lt_of_le gb hb5.size
            have hSl5 : w4.heap.size < w5.heap.size := H3.out.1
            clear hb5 hkv gb
            generalize nodes t = q at *
            go_wp2_with fail
            refine (Expr.vars_any t _ _ hT5.out).mono ?_
            rintro e w6 ⟨vv, rfl, hV, hb6⟩
            rw [HVt.out] at hV
            obtain ⟨aV, cV, bV, rfl, hcV, hcV2, oV, gV⟩ := hV
            obtain ⟨V, rfl, rfl, hrow⟩ : ∃ V, aV = some ⟨V, 0, none⟩ ∧ bV = [V] ∧ Row w6 V 3 (fun i => ([.bool (occT 0 t), .bool (occT 1 t), .bool (occT 2 t)] : List Value).getD i undef) := by
              rcases oV with ⟨h, _⟩ | h
              · simp at h
              · exact h
            have hVb := gV V (by simp)
            replace hrow : Three w6 V (fun i => occT (i : Int) t) := hrow.congr fun i hi => by
              match i, hi with
              | 0, _ => rfl
              | 1, _ => rfl
              | 2, _ => rfl
            have HR := hid hrow
            have hVl := hrow.1
            clear oV gV hrow
            simp only [List.length_cons, List.length_nil, Nat.zero_add, Nat.reduceAdd] at hcV ⊢
            unfold maxLen at hcV2
            replace c4 := box3_next hb6 c4
            replace Bw := below_next Bw hb6
            replace H3 := hid (H3.out.below hb6)
            have hSl6 : w4.heap.size < w6.heap.size := H3.out.1
            clear hb6 g0 g1 g2
            have hSV : w4.heap.size ≠ V := by omega
            go_wp2_with fail
            go_loopw [9] (fun z wr => ∃ mq : Nat, mq ≤ 3 ∧ z = .int .i64 mq ∧ Below w4.heap.size w4 wr ∧ Box3 wr w1.heap.size (.int .i64 k) (.int .i64 v) (.slice (some ⟨b, o, none⟩) kids.length c1) ∧ Three wr w4.heap.size (fun i => if i < mq then occN g t i else g i) ∧ Three wr V (fun i => occT (i : Int) t)) (fun z _ => 3 - (intOf z).toNat)
            case atStart => exact ⟨0, Nat.zero_le _, rfl, Bw, c4, H3.out.congr (fun i _ => by simp), HR.out⟩
            case round =>
              clear Bw c4 H3 HR
              obtain ⟨mq, hmq, rfl, Bw, c4, h3, hV3⟩ := hrel
              by_cases hlt3 : mq < 3
              · have s0 : wr.cell? ⟨w4.heap.size, mq, none⟩ = some (.bool (g mq)) := by simpa using h3.2.1 mq hlt3
                have v0 : wr.cell? ⟨V, mq, none⟩ = some (.bool (occT (mq : Int) t)) := hV3.2.1 mq hlt3
                have sz := h3.2.2
                have sl := h3.1
                have vl := hV3.1
                have hlt4 : (mq : Int) < 3 := by omega
                have HST := hid (show ∀ x, x = (g mq || occT (mq : Int) t) → Below w4.heap.size w4 (wr.setCell ⟨w4.heap.size, mq, none⟩ (.bool x)) ∧ Box3 (wr.setCell ⟨w4.heap.size, mq, none⟩ (.bool x)) w1.heap.size (.int .i64 k) (.int .i64 v) (.slice (some ⟨b, o, none⟩) kids.length c1) ∧ Three (wr.setCell ⟨w4.heap.size, mq, none⟩ (.bool x)) w4.heap.size (fun i => if i < mq + 1 then occN g t i else g i) ∧ Three (wr.setCell ⟨w4.heap.size, mq, none⟩ (.bool x)) V (fun i => occT (i : Int) t) from
                  fun x hx => ⟨Bw.setCell (Nat.le_refl _) _, box3_but (But.set _ w4.heap.size _ _) (by omega) c4, (h3.set hlt3 x).congr (fun i hi => by
                    by_cases e : i = mq
                    · subst e; simp [hx, occN]
                    · by_cases e2 : i < mq
                      · simp [e, e2, show i < mq + 1 by omega]
                      · simp [e, e2, show ¬ i < mq + 1 by omega]), Row.setOther hV3 (a := ⟨w4.heap.size, mq, none⟩) (Ne.symm hSV) _⟩)
                clear h3 hV3 Bw c4
                cases hgm : g mq with
                | true =>
                  have HST2 := hid (HST.out true (by rw [hgm]; simp))
                  rw [hgm] at s0
                  clear hgm HST
                  go_wp2_with fail
                  go_roundw
                  case rel => exact ⟨mq + 1, by omega, by go_num, HST2.out⟩
                  case measure => simp [intOf]; omega
                | false =>
                  have HST2 := hid (HST.out (occT (mq : Int) t) (by rw [hgm]; simp))
                  rw [hgm] at s0
                  clear hgm HST
                  go_wp2_with fail
                  go_roundw
                  case rel => exact ⟨mq + 1, by omega, by go_num, HST2.out⟩
                  case measure => simp [intOf]; omega
              · have hlt4 : ¬ ((mq : Int) < 3) := by omega
                have hm3 : mq = 3 := by omega
                subst hm3
                have H3' := hid (show Three wr w4.heap.size (occNL (fun i => (k == 2) && v == (i : Int)) (kids.take (j + 1))) from h3.congr fun i hi => by rw [if_pos hi, ← hg.out]; exact occNL_step _ hT.out.2.2.2 i)
                clear h3 hV3
                go_wp2_with fail
                go_roundw
                case rel => exact ⟨j + 1, n + q, by omega, by go_num, by go_num, by omega, Bw, c4, H3'.out, HS3⟩
                case measure => simp [intOf]; omega
          · have hlt2 : ¬ ((j : Int) < (kids.length : Int)) := by omega
            have hnm : n = m := by
              have h1 := hsum.out
              rw [List.drop_of_length_le (by omega)] at h1
              have h2 := HZ.out
              simp only [nodes] at h2
              simp only [nodesL] at h1
              omega
            subst hnm
            have HVt := hid (show (varsB (.mk k v kids)).map Value.bool = [.bool (occT 0 (.mk k v kids)), .bool (occT 1 (.mk k v kids)), .bool (occT 2 (.mk k v kids))] by simp [varsB, HV.out])
            replace H3 := hid (show Three wr w4.heap.size (fun i => occT (i : Int) (.mk k v kids)) from H3.out.congr fun i _ => by rw [← hg.out, List.take_of_length_le (by omega)]; simp [occNL, occT])
            go_wp2_with fail
            refine (Expr.vars_any (.mk k v kids) _ _ (TrIn_below Bw HX4.out)).mono ?_
            rintro e w6 ⟨vv, rfl, hV, hb6⟩
            rw [HVt.out] at hV
            obtain ⟨aV, cV, bV, rfl, hcV, hcV2, oV, gV⟩ := hV
            obtain ⟨V, rfl, rfl, hrow⟩ : ∃ V, aV = some ⟨V, 0, none⟩ ∧ bV = [V] ∧ Row w6 V 3 (fun i => ([.bool (occT 0 (.mk k v kids)), .bool (occT 1 (.mk k v kids)), .bool (occT 2 (.mk k v kids))] : List Value).getD i undef) := by
              rcases oV with ⟨h, _⟩ | h
              · simp at h
              · exact h
            replace hrow : Three w6 V (fun i => occT (i : Int) (.mk k v kids)) := hrow.congr fun i hi => by
              match i, hi with
              | 0, _ => rfl
              | 1, _ => rfl
              | 2, _ => rfl
            have HR := hid hrow
            clear oV gV hrow
            simp only [List.length_cons, List.length_nil, Nat.zero_add, Nat.reduceAdd] at hcV ⊢
            unfold maxLen at hcV2
            replace Bw := below_next Bw hb6
            replace H3 := hid (H3.out.below hb6)
            clear hb6 c4
            generalize (fun (i : Nat) => occT (i : Int) (.mk k v kids)) = gg at *
            go_wp2_with fail
            go_loopw [11] (fun z wr => ∃ mq : Nat, mq ≤ 3 ∧ z = .int .i64 mq ∧ Below w4.heap.size w4 wr ∧ Three wr w4.heap.size gg ∧ Three wr V gg) (fun z _ => 3 - (intOf z).toNat)
            case atStart => exact ⟨0, Nat.zero_le _, rfl, Bw, H3.out, HR.out⟩
            case round =>
              clear Bw H3 HR
              obtain ⟨mq, hmq, rfl, Bw, h3, hV3⟩ := hrel
              by_cases hlt3 : mq < 3
              · have s0 : wr.cell? ⟨w4.heap.size, mq, none⟩ = some (.bool (gg mq)) := h3.2.1 mq hlt3
                have v0 : wr.cell? ⟨V, mq, none⟩ = some (.bool (gg mq)) := hV3.2.1 mq hlt3
                have sl := h3.1
                have vl := hV3.1
                have hlt4 : (mq : Int) < 3 := by omega
                have hlt5 : decide ((mq : Int) ≥ 3) = false := by simp; omega
                have hlt6 : decide (3 ≤ (mq : Int)) = false := by simp; omega
                have hlt7 : ¬ (3 ≤ (mq : Int)) := by omega
                have HB := hid (show ∀ W : World, Below wr.heap.size wr W → Below w4.heap.size w4 W ∧ Three W w4.heap.size gg ∧ Three W V gg from fun W h => ⟨below_next Bw h, h3.below h, hV3.below h⟩)
                clear h3 hV3 Bw
                generalize gg mq = bb at *
                cases bb
                all_goals
                  go_wp2_with fail
                  refine wp_region_over (by kernel_rfl) (by kernel_rfl) ?_; (repeat (go_big_quiet_step ((fail)))); refine wpQuiet_nil ?_; rintro _ ⟨xq, rfl⟩
                  have HB2 := hid (HB.out _ (over_below wr xq))
                  go_wp2_with fail
                  go_roundw
                  case rel => exact ⟨mq + 1, by omega, by go_num, HB2.out⟩
                  case measure => simp [intOf]; omega
              · have hlt4 : ¬ ((mq : Int) < 3) := by omega
                clear h3 hV3
                go_wp2_with fail
                go_ret
                exact Ret.mk (by simp) (below_next HB1.out Bw)
      · exact (by repeat (first | exact Below.refl _ _ | assumption | refine below_a ?_ _ | refine below_o ?_ _ | refine below_d ?_ | refine below_n ?_ _ | refine below_s ?_ (by first | (simp; done) | (simp; omega) | omega) _))
      · first
          | exact hT0.out.congr (fun i _ => by simp [hk2])
          | exact Row.congr (row_new (cs := (zerosB 3).setIfInBounds mm (.bool true)) (n := 3) (by rw [Array.size_setIfInBounds, zerosB, size_madeCells]) _) (fun i hi => three_mark hk2 hmm hi)
end Go.Proofs.Ytplogaapgolaiaa
