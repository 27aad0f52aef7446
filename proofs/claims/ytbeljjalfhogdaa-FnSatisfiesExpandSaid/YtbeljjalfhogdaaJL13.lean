/- Joined texts (NormJ, NormX, ArgRow): contracts and plain laws. Conditions: those of each theorem. -/
import Derived.Test.YtbeljjalfhogdaaJL12
import Derived.Test.YtbeljjalfhogdaaJL1
import Derived.ProofKit
import Derived.ChangeOld
import Derived.Lib.SmallJoins
namespace Go.Proofs.Ytbeljjalfhogdaa
open Go.RowKit
namespace Formula

set_option maxRecDepth 100000 in
set_option maxHeartbeats 4000000 in
theorem no_not (v : Int) (t : Tr) (h : NoT t) : NoT (.mk 3 v [t]) := by
  intro n neg w x hs hx
  obtain ⟨m, rfl, _, _, _, _, _, h7⟩ := formL.shape_mk hs
  obtain ⟨b, o, c, d0, d1, d2, rfl, hb0, hc, hc2, g0, g1, g2, hT⟩ := kid_one hx
  have hst := hid (h7 t (by simp))
  have E := hid (show nfT (.mk 3 v [t]) neg = nfT t (!neg) by simp [nfT, nfL, nfNode])
  generalize nfT (.mk 3 v [t]) neg = res at E ⊢
  clear hs h7 hx
  unfold maxLen at hc2
  go_enter Try.func84, Try.ntmps84
  go_wp2_with fail
  refine (mk_any 1 (by unfold i64; omega) [] _ none 0 (w.heap.size + 3) (.inl rfl) (by simp) (by simp) (by simp) (by simp)).mono ?_
  rintro e w1 ⟨u1, rfl, hn1, hb1⟩
  obtain ⟨a1, c1, rfl⟩ := tru_parts hn1
  have bA := box3_next hb1 (box3_next (below_alloc _ _) (box3_next (below_alloc _ _) (box3_new w (.int .i64 3) (.int .i64 v) (.slice (some ⟨b, o, none⟩) 1 c) 29)))
  have bN := box1_next hb1 (box1_next (below_alloc _ _) (box1_at (B := w.heap.size + 1) (a := .bool neg) (by simp)))
  have bz := box3_next hb1 (box3_at (B := w.heap.size + 1 + 1) (by simp))
  have B1 := below_next (show Below w.heap.size w _ from (by repeat (first | exact Below.refl _ _ | assumption | refine below_a ?_ _ | refine below_o ?_ _ | refine below_d ?_ | refine below_n ?_ _ | refine below_s ?_ (by first | (simp; done) | (simp; omega) | omega) _))) hb1
  have hs1 := bz.1
  clear hb1
  go_wp2_with fail
  refine (mk_any 3 (by unfold i64; omega) [truT] _ _ 1 (w.heap.size + 3) (own_one hn1) (by simp; omega) (by simp) (by simp [maxLen]) (by simp)).mono ?_
  rintro e w2 ⟨u2, rfl, hn2, hb2⟩
  obtain ⟨a2, c2, rfl⟩ := fls_parts hn2
  replace hb2 := below_next (below_alloc _ _) hb2
  replace bA := box3_next hb2 bA
  replace bN := box1_next hb2 bN
  replace bz := box3_next hb2 bz
  replace B1 := below_next B1 hb2
  clear hb2 hn1 hs1
  go_upto_region 2 with fail
  refine wp_gen (fun W => Below w.heap.size w W ∧ Box3 W w.heap.size (.int .i64 3) (.int .i64 v) (.slice (some ⟨b, o, none⟩) 1 c) ∧ Box1 W (w.heap.size + 1) (.bool neg) ∧ Box3 W (w.heap.size + 1 + 1) (.int .i64 0) (.int .i64 0) (.slice none 0 0) ∧ (w.heap.size + 1 + 1 < w2.heap.size ∧ Box3 W w2.heap.size (.int .i64 3) (.int .i64 0) (.slice a2 1 c2)) ∧ NewTr (w.heap.size + 3) flsT (.agg #[.int .i64 3, .int .i64 0, .slice a2 1 c2]) W) ⟨below_a B1 _, box3_next (below_alloc _ _) bA, box1_next (below_alloc _ _) bN, box3_next (below_alloc _ _) bz, ⟨bz.1, box3_new ..⟩, hn2.below (below_alloc _ _)⟩ ?_
  rintro W ⟨BW, bA, bN, bz, ⟨hlF, bF⟩, hnF⟩
  clear B1 hn2
  have hzl := bz.1
  have bA0 := bA
  obtain ⟨p0, p1, p2, p3, p4⟩ := bA
  clear bF hnF
  have HF := hid (fun w' (M : But W (w.heap.size + 1 + 1) w') => (⟨(M.cell bA0.1 (by omega)).trans bA0.2.2.2.1, (M.cell bN.1 (by omega)).trans bN.2.1, (M.cell (by omega) (by omega)).trans ((BW.cell (p := ⟨b, o, none⟩) hb0).trans g0), (M.cell (by omega) (by omega)).trans ((BW.cell (p := ⟨b, o + 1, none⟩) hb0).trans g1), (M.cell (by omega) (by omega)).trans ((BW.cell (p := ⟨b, o + 2, none⟩) hb0).trans g2)⟩ :
    w'.cell? ⟨w.heap.size, 2, none⟩ = some (.slice (some ⟨b, o, none⟩) 1 c) ∧ w'.cell? ⟨w.heap.size + 1, 0, none⟩ = some (.bool neg) ∧ w'.cell? ⟨b, o, none⟩ = some d0 ∧ w'.cell? ⟨b, o + 1, none⟩ = some d1 ∧ w'.cell? ⟨b, o + 2, none⟩ = some d2))
  go_wp2_with fail
  go_region_held3 (fun w' => w'.cell? ⟨w.heap.size, 2, none⟩ = some (.slice (some ⟨b, o, none⟩) 1 c) ∧ w'.cell? ⟨w.heap.size + 1, 0, none⟩ = some (.bool neg) ∧ w'.cell? ⟨b, o, none⟩ = some d0 ∧ w'.cell? ⟨b, o + 1, none⟩ = some d1 ∧ w'.cell? ⟨b, o + 2, none⟩ = some d2)
    (first | (refine HF.out _ ?_; (repeat (first | exact But.refl _ _ | (refine But.of ?_; assumption) | refine but_a ?_ _ | refine but_d ?_ | refine but_s ?_ _)); done) | go_keep)
    ((go_at_call 84; refine (h m (!neg) _ _ hst.out (TrIn_below (below_next BW (by repeat (first | exact Below.refl _ _ | assumption | refine below_a ?_ _ | refine below_o ?_ _ | refine below_d ?_ | refine below_n ?_ _ | refine below_s ?_ (by first | (simp; done) | (simp; omega) | omega) _))) hT)).mono ?_; rintro e w3 ⟨u3, rfl, hn3, hb3⟩; rw [← E.out] at hn3; obtain ⟨a3, n3, rfl⟩ := TrIn_shape hn3.any; have M1 := below_next (show Below W.heap.size W _ from (by repeat (first | exact Below.refl _ _ | assumption | refine below_a ?_ _ | refine below_o ?_ _ | refine below_d ?_ | refine below_n ?_ _ | refine below_s ?_ (by first | (simp; done) | (simp; omega) | omega) _))) hb3; have bz1 := box3_next M1 bz; obtain ⟨z0, z1, z2, z3, z4, z5, z6⟩ := bz1; clear hb3))
  all_goals
    have bz' := box3_next M1 bz
    have BB := hid (below_next BW M1)
    have HN := hid (hn3.mono (B' := W.heap.size) (by simp))
    clear bz M1 BW hn3
    go_wp2_with fail
    obtain ⟨y0, y1, y2, y3, _⟩ := box3_set2 (box3_set1 (box3_set0 bz' (.int .i64 res.kind)) (.int .i64 res.val)) (.slice a3 res.kids.length n3); refine bodyPost_ret (v := .agg #[.int .i64 res.kind, .int .i64 res.val, .slice a3 res.kids.length n3]) (by simp [results, Try.results84, go_sem, y1, y2, y3]) rfl ?_
    exact RetP.mk ((newTr_set3 HN.out (by omega) _ _ _).mono (by omega)) (below_set3 BB.out (by omega) _ _ _)

set_option maxRecDepth 100000 in
set_option maxHeartbeats 4000000 in
theorem no_next (v : Int) (t : Tr) (h : NoT t) : NoT (.mk 6 v [t]) := by
  intro n neg w x hs hx
  obtain ⟨m, rfl, _, _, _, _, _, h7⟩ := formL.shape_mk hs
  have hst := hid (h7 t (by simp))
  rw [TrIn_mk] at hx
  obtain ⟨a, n', c, rfl, hk1, hv, rfl, hc, hc2, hks⟩ := hx
  simp only [List.length_cons, List.length_nil, Nat.zero_add] at hc ⊢
  have E := hid (show nfT (.mk 6 v [t]) neg = .mk 6 0 [nfT t neg] by simp [nfT, nfL, nfNode])
  generalize nfT (.mk 6 v [t]) neg = res at E ⊢
  clear hs h7
  go_enter Try.func84, Try.ntmps84
  go_wp2_with fail
  refine (mk_any 1 (by unfold i64; omega) [] _ none 0 (w.heap.size + 3) (.inl rfl) (by simp) (by simp) (by simp) (by simp)).mono ?_
  rintro e w1 ⟨u1, rfl, hn1, hb1⟩
  obtain ⟨a1, c1, rfl⟩ := tru_parts hn1
  have bA := box3_next hb1 (box3_next (below_alloc _ _) (box3_next (below_alloc _ _) (box3_new w (.int .i64 6) (.int .i64 v) (.slice a 1 c) 29)))
  have bN := box1_next hb1 (box1_next (below_alloc _ _) (box1_at (B := w.heap.size + 1) (a := .bool neg) (by simp)))
  have bz := box3_next hb1 (box3_at (B := w.heap.size + 1 + 1) (by simp))
  have B1 := below_next (show Below w.heap.size w _ from (by repeat (first | exact Below.refl _ _ | assumption | refine below_a ?_ _ | refine below_o ?_ _ | refine below_d ?_ | refine below_n ?_ _ | refine below_s ?_ (by first | (simp; done) | (simp; omega) | omega) _))) hb1
  have hs1 := bz.1
  clear hb1
  go_wp2_with fail
  refine (mk_any 3 (by unfold i64; omega) [truT] _ _ 1 (w.heap.size + 3) (own_one hn1) (by simp; omega) (by simp) (by simp [maxLen]) (by simp)).mono ?_
  rintro e w2 ⟨u2, rfl, hn2, hb2⟩
  obtain ⟨a2, c2, rfl⟩ := fls_parts hn2
  replace hb2 := below_next (below_alloc _ _) hb2
  replace bA := box3_next hb2 bA
  replace bN := box1_next hb2 bN
  replace bz := box3_next hb2 bz
  replace B1 := below_next B1 hb2
  clear hb2 hn1 hs1
  go_upto_region 2 with fail
  refine wp_gen (fun W => Below w.heap.size w W ∧ Box3 W w.heap.size (.int .i64 6) (.int .i64 v) (.slice a 1 c) ∧ Box1 W (w.heap.size + 1) (.bool neg) ∧ Box3 W (w.heap.size + 1 + 1) (.int .i64 0) (.int .i64 0) (.slice none 0 0) ∧ (w.heap.size + 1 + 1 < w2.heap.size ∧ Box3 W w2.heap.size (.int .i64 3) (.int .i64 0) (.slice a2 1 c2)) ∧ NewTr (w.heap.size + 3) flsT (.agg #[.int .i64 3, .int .i64 0, .slice a2 1 c2]) W) ⟨below_a B1 _, box3_next (below_alloc _ _) bA, box1_next (below_alloc _ _) bN, box3_next (below_alloc _ _) bz, ⟨bz.1, box3_new ..⟩, hn2.below (below_alloc _ _)⟩ ?_
  rintro W ⟨BW, bA, bN, bz, ⟨hlF, bF⟩, hnF⟩
  clear B1 hn2
  have hzl := bz.1
  have bA0 := bA
  obtain ⟨p0, p1, p2, p3, p4⟩ := bA
  clear bF hnF
  go_wp2_with fail
  refine (kd_of neg 6 v [t] _ a c w.heap.size (w.heap.size + 1) bA0 bN (TrsIn_below BW hks) hc hc2 0 (by simp) t rfl m hst.out h).mono ?_
  rintro e w3 ⟨u3, rfl, hn3, hb3⟩
  obtain ⟨a3, c3, rfl⟩ := TrIn_shape hn3.any
  replace bz := box3_next hb3 bz
  replace BW := below_next BW hb3
  have s3 := hb3.size
  clear hb3 bA0 bN
  have HO := own_one_at (ty := 29) (hn3.mono (B' := W.heap.size) (Nat.le_refl _)) rfl
  go_wp2_with fail
  refine (mk_any 6 (by unfold i64; omega) [nfT t neg] _ _ 1 _ HO (by simp; omega) (by simp) (by simp [maxLen]) (by simp)).mono ?_
  rintro e w5 ⟨u5, rfl, hn5, hb5⟩
  obtain ⟨a5, c5, rfl⟩ := TrIn_shapeMk hn5.any
  simp only [List.length_cons, List.length_nil, Nat.zero_add] at hn5 ⊢
  replace hb5 := below_next (below_alloc _ _) hb5
  have bz' := box3_next hb5 bz
  have bz2 := bz'
  obtain ⟨z0, z1, z2, z3, z4, z5, z6⟩ := bz2
  have hBW := hid (below_next BW hb5)
  have HN := hid hn5
  clear BW hb5 hn5 bz HO
  go_wp2_with fail
  obtain ⟨y0, y1, y2, y3, _⟩ := box3_set2 (box3_set1 (box3_set0 bz' (.int .i64 6)) (.int .i64 0)) (.slice a5 1 c5); refine bodyPost_ret (v := .agg #[.int .i64 6, .int .i64 0, .slice a5 1 c5]) (by simp [results, Try.results84, go_sem, y1, y2, y3]) rfl ?_
  rw [E.out]
  exact RetP.mk ((newTr_set3 HN.out (by omega) _ _ _).mono (by omega)) (below_set3 hBW.out (by omega) _ _ _)

set_option maxRecDepth 100000 in
set_option maxHeartbeats 4000000 in
theorem no_ev (k v : Int) (hk : k = 9 ∨ k = 10) (t : Tr) (h : NoT t) : NoT (.mk k v [t]) := by
  intro n neg w x hs hx
  obtain ⟨m, rfl, _, _, _, _, _, h7⟩ := formL.shape_mk hs
  have hst := hid (h7 t (by simp))
  rw [TrIn_mk] at hx
  obtain ⟨a, n', c, rfl, hk1, hv, rfl, hc, hc2, hks⟩ := hx
  simp only [List.length_cons, List.length_nil, Nat.zero_add] at hc ⊢
  have E := hid (show nfT (.mk k v [t]) neg = if ((k == 9) != neg) = true then .mk 7 0 [truT, nfT t neg] else .mk 8 0 [flsT, nfT t neg] by rcases hk with rfl | rfl <;> simp [nfT, nfL, nfNode])
  generalize nfT (.mk k v [t]) neg = res at E ⊢
  have hkd := fun w P Q bA bN hks => kd_of neg k v [t] w a c P Q bA bN hks hc hc2 0 (by simp) t rfl m hst.out h
  generalize nfT t neg = Q at E hkd
  have HKD := hid hkd
  clear hs h7 hkd h hst
  rcases hk with rfl | rfl
  all_goals
    go_enter Try.func84, Try.ntmps84
    go_wp2_with fail
    refine (mk_any 1 (by unfold i64; omega) [] _ none 0 (w.heap.size + 3) (.inl rfl) (by simp) (by simp) (by simp) (by simp)).mono ?_
    rintro e w1 ⟨u1, rfl, hn1, hb1⟩
    obtain ⟨a1, c1, rfl⟩ := tru_parts hn1
    have bA := box3_next hb1 (box3_next (below_alloc _ _) (box3_next (below_alloc _ _) (box3_new w (.int .i64 _) (.int .i64 v) (.slice a 1 c) 29)))
    have bN := box1_next hb1 (box1_next (below_alloc _ _) (box1_at (B := w.heap.size + 1) (a := .bool neg) (by simp)))
    have bz := box3_next hb1 (box3_at (B := w.heap.size + 1 + 1) (by simp))
    have B1 := below_next (show Below w.heap.size w _ from (by repeat (first | exact Below.refl _ _ | assumption | refine below_a ?_ _ | refine below_o ?_ _ | refine below_d ?_ | refine below_n ?_ _ | refine below_s ?_ (by first | (simp; done) | (simp; omega) | omega) _))) hb1
    have hs1 := bz.1
    clear hb1
    go_wp2_with fail
    refine (mk_any 3 (by unfold i64; omega) [truT] _ _ 1 (w.heap.size + 3) (own_one hn1) (by simp; omega) (by simp) (by simp [maxLen]) (by simp)).mono ?_
    rintro e w2 ⟨u2, rfl, hn2, hb2⟩
    obtain ⟨a2, c2, rfl⟩ := fls_parts hn2
    replace hb2 := below_next (below_alloc _ _) hb2
    replace bA := box3_next hb2 bA
    replace bN := box1_next hb2 bN
    replace bz := box3_next hb2 bz
    replace B1 := below_next B1 hb2
    clear hb2 hn1 hs1
    go_upto_region 2 with fail
    refine wp_gen (fun W => Below w.heap.size w W ∧ Box3 W w.heap.size (.int .i64 _) (.int .i64 v) (.slice a 1 c) ∧ Box1 W (w.heap.size + 1) (.bool neg) ∧ Box3 W (w.heap.size + 1 + 1) (.int .i64 0) (.int .i64 0) (.slice none 0 0) ∧ (w.heap.size + 1 + 1 < w2.heap.size ∧ Box3 W w2.heap.size (.int .i64 3) (.int .i64 0) (.slice a2 1 c2)) ∧ NewTr (w.heap.size + 3) flsT (.agg #[.int .i64 3, .int .i64 0, .slice a2 1 c2]) W) ⟨below_a B1 _, box3_next (below_alloc _ _) bA, box1_next (below_alloc _ _) bN, box3_next (below_alloc _ _) bz, ⟨bz.1, box3_new ..⟩, hn2.below (below_alloc _ _)⟩ ?_
    rintro W ⟨BW, bA, bN, bz, ⟨hlF, bF⟩, hnF⟩
    clear B1 hn2
    have hzl := bz.1
    have bA0 := bA
    obtain ⟨p0, p1, p2, p3, p4⟩ := bA
    obtain ⟨l0, l1, l2, l3, l4⟩ := bF
    have bF : Box3 W w2.heap.size (.int .i64 3) (.int .i64 0) (.slice a2 1 c2) := ⟨l0, l1, l2, l3, l4⟩
    obtain ⟨q0, q1, q2⟩ := bN
    have bN : Box1 W (w.heap.size + 1) (.bool neg) := ⟨q0, q1, q2⟩
    cases neg
    all_goals
      simp at E
      have E' := hid E
      clear E
      go_wp2_with fail
  rotate_left 3
  iterate 2
    focus
        refine (mk_any 1 (by unfold i64; omega) [] _ none 0 W.heap.size (.inl rfl) (Nat.le_refl _) (by simp) (by simp) (by simp)).mono ?_
        rintro e w3 ⟨u3, rfl, hn3, hb3⟩
        obtain ⟨a3, c3, rfl⟩ := tru_parts hn3
        replace bA0 := box3_next hb3 bA0
        replace bN := box1_next hb3 bN
        replace bz := box3_next hb3 bz
        replace BW := below_next BW hb3
        have s3 := hb3.size
        clear hb3
        go_wp2_with fail
        refine (HKD.out _ _ _ bA0 bN (TrsIn_below BW hks)).mono ?_
        rintro e w4 ⟨u4, rfl, hn4, hb4⟩
        obtain ⟨a4, c4, rfl⟩ := TrIn_shape hn4.any
        have hT := Two.mk hn3 hn4 (Nat.le_refl _) hb4 s3
        have s4 := hb4.size
        replace bz := box3_next hb4 bz
        replace BW := below_next BW hb4
        clear hb4 hn3 hn4 bA0 bN
        have HO := own_two (ty := 29) hT rfl
        go_wp2_with fail
        refine (mk_any 7 (by unfold i64; omega) [truT, Q] _ _ 2 _ HO (by simp; omega) (by simp) (by simp [maxLen]) (by simp)).mono ?_
        rintro e w5 ⟨u5, rfl, hn5, hb5⟩
        obtain ⟨a5, c5, rfl⟩ := TrIn_shapeMk hn5.any
        replace hb5 := below_next (below_alloc _ _) hb5
        have bz' := box3_next hb5 bz
        have hBW := hid (below_next BW hb5)
        clear BW hb5 bz HO hT
        simp only [List.length_cons, List.length_nil, Nat.zero_add, Nat.reduceAdd] at hn5 ⊢
        have bz2 := bz'
        obtain ⟨z0, z1, z2, z3, z4, z5, z6⟩ := bz2
        have HN := hid hn5
        clear hn5
        go_wp2_with fail
        obtain ⟨y0, y1, y2, y3, _⟩ := box3_set2 (box3_set1 (box3_set0 bz' (.int .i64 7)) (.int .i64 0)) (.slice a5 2 c5); refine bodyPost_ret (v := .agg #[.int .i64 7, .int .i64 0, .slice a5 2 c5]) (by simp [results, Try.results84, go_sem, y1, y2, y3]) rfl ?_
        rw [E'.out]
        exact RetP.mk ((newTr_set3 HN.out (by omega) _ _ _).mono (by omega)) (below_set3 hBW.out (by omega) _ _ _)
  all_goals
    focus
        have HF := hid (fun w' (M : But W (w.heap.size + 1 + 1) w') => (⟨(M.cell bF.1 (by omega)).trans bF.2.1, (M.cell bF.1 (by omega)).trans bF.2.2.1, (M.cell bF.1 (by omega)).trans bF.2.2.2.1⟩ : w'.cell? ⟨w2.heap.size, 0, none⟩ = some (.int .i64 3) ∧ w'.cell? ⟨w2.heap.size, 1, none⟩ = some (.int .i64 0) ∧ w'.cell? ⟨w2.heap.size, 2, none⟩ = some (.slice a2 1 c2)))
        go_region_held3 (fun w' => w'.cell? ⟨w2.heap.size, 0, none⟩ = some (.int .i64 3) ∧ w'.cell? ⟨w2.heap.size, 1, none⟩ = some (.int .i64 0) ∧ w'.cell? ⟨w2.heap.size, 2, none⟩ = some (.slice a2 1 c2))
          (first | (refine HF.out _ ?_; (repeat (first | exact But.refl _ _ | (refine But.of ?_; assumption) | refine but_a ?_ _ | refine but_d ?_ | refine but_s ?_ _)); done) | go_keep)
          (first
            | (go_at_call 93; refine (HKD.out _ _ _ (box3_next (by repeat (first | exact Below.refl _ _ | assumption | refine below_a ?_ _ | refine below_o ?_ _ | refine below_d ?_ | refine below_n ?_ _ | refine below_s ?_ (by first | (simp; done) | (simp; omega) | omega) _)) bA0) (box1_next (by repeat (first | exact Below.refl _ _ | assumption | refine below_a ?_ _ | refine below_o ?_ _ | refine below_d ?_ | refine below_n ?_ _ | refine below_s ?_ (by first | (simp; done) | (simp; omega) | omega) _)) bN) (TrsIn_below (below_next BW (by repeat (first | exact Below.refl _ _ | assumption | refine below_a ?_ _ | refine below_o ?_ _ | refine below_d ?_ | refine below_n ?_ _ | refine below_s ?_ (by first | (simp; done) | (simp; omega) | omega) _))) hks)).mono ?_; rintro e w4 ⟨u4, rfl, hn4, hb4⟩; obtain ⟨a4, c4, rfl⟩ := TrIn_shape hn4.any; have M4 := below_next (show Below W.heap.size W _ from (by repeat (first | exact Below.refl _ _ | assumption | refine below_a ?_ _ | refine below_o ?_ _ | refine below_d ?_ | refine below_n ?_ _ | refine below_s ?_ (by first | (simp; done) | (simp; omega) | omega) _))) hb4; replace hn4 := hn4.mono (B' := W.heap.size) (by simp); clear hb4)
            | (go_at_call 86; refine (mk_any 8 (by unfold i64; omega) [flsT, Q] _ _ 2 (w.heap.size + 3) (own_two (Two.mk hnF hn4 (Nat.le_refl _) M4 (by omega)) rfl) (by have := M4.size; simp; omega) (by simp) (by simp [maxLen]) (by simp)).mono ?_; rintro e w5 ⟨u5, rfl, hn5, hb5⟩; obtain ⟨a5, c5, rfl⟩ := TrIn_shapeMk hn5.any; have M5 := below_next (show Below W.heap.size W _ from (by repeat (first | exact Below.refl _ _ | assumption | refine below_a ?_ _ | refine below_o ?_ _ | refine below_d ?_ | refine below_n ?_ _ | refine below_s ?_ (by first | (simp; done) | (simp; omega) | omega) _))) hb5; have bz5 := box3_next M5 bz; obtain ⟨z0, z1, z2, z3, z4, z5, z6⟩ := bz5; clear hb5))
        all_goals
          have bz' := box3_next M5 bz
          have hBW := hid (below_next BW M5)
          clear BW bz M4 M5 bA0 bN bF hnF hn4
          simp only [List.length_cons, List.length_nil, Nat.zero_add, Nat.reduceAdd] at hn5 ⊢
          have bz2 := bz'
          obtain ⟨z0, z1, z2, z3, z4, z5, z6⟩ := bz2
          have HN := hid hn5
          clear hn5
          go_wp2_with fail
          obtain ⟨y0, y1, y2, y3, _⟩ := box3_set2 (box3_set1 (box3_set0 bz' (.int .i64 8)) (.int .i64 0)) (.slice a5 2 c5); refine bodyPost_ret (v := .agg #[.int .i64 8, .int .i64 0, .slice a5 2 c5]) (by simp [results, Try.results84, go_sem, y1, y2, y3]) rfl ?_
          rw [E'.out]
          exact RetP.mk ((newTr_set3 HN.out (by omega) _ _ _).mono (by omega)) (below_set3 hBW.out (by omega) _ _ _)

theorem no_any : ∀ t, NoT t := Tr.ind fun k v kids ih => by
  intro n neg w x hs
  obtain ⟨m, h1, h2, h3, h4, h5, h6, h7⟩ := formL.shape_mk hs
  rw [formL_K] at h3
  rw [formL_ar] at h6
  by_cases k0 : k = 1 ∨ k = 2
  · obtain rfl := len0 (by rw [h6, if_pos k0])
    exact no_leaf k v k0 n neg w x hs
  by_cases k2 : k = 4 ∨ k = 5 ∨ k = 7 ∨ k = 8
  · obtain ⟨a, b, rfl⟩ := len2 (by rw [h6, if_neg k0, if_pos k2])
    exact no_two k v k2 a b (ih a (by simp)) (ih b (by simp)) n neg w x hs
  obtain ⟨a, rfl⟩ := len1 (by rw [h6, if_neg k0, if_neg k2])
  have hk : k = 3 ∨ k = 6 ∨ k = 9 ∨ k = 10 := by omega
  rcases hk with rfl | rfl | hk
  · exact no_not v a (ih a (by simp)) n neg w x hs
  · exact no_next v a (ih a (by simp)) n neg w x hs
  · exact no_ev k v hk a (ih a (by simp)) n neg w x hs

end Formula
end Go.Proofs.Ytbeljjalfhogdaa
namespace Go.Proofs.Ytbeljjalfhogdaa
open Go.RowKit
namespace Formula

set_option maxHeartbeats 2000000 in
theorem nform_any (t : Tr) (w : World) (x : Value) (hx : TrIn Any w t x) (hv : formL.valid t = true) : Calls Try.prog 54 #[x] w (RetT w.heap.size (normV t) (normOk t) w) := by
  have hx0 := hx
  obtain ⟨a, c, rfl⟩ := TrIn_shape hx
  have HV := hid (fun w x hx => valid_any (nfT t false) w x hx)
  have HP := hid (fun w hx => no_any t 6 false w (.agg #[.int .i64 t.kind, .int .i64 t.val, .slice a t.kids.length c]) (by rw [Lang.valid, Bool.and_eq_true] at hv; exact hv.1) hx)
  have hsm := hid (fun (h : formL.valid (nfT t false) = false) => (⟨by simp [normV, normOk, h], by simp [normOk, h]⟩ : normV t = zeroT ∧ normOk t = false))
  have hst := hid (fun (h : formL.valid (nfT t false) = true) => (⟨by simp [normV, normOk, h, hv], by simp [normOk, h, hv]⟩ : normV t = nfT t false ∧ normOk t = true))
  clear hv
  generalize nfT t false = Q at *
  go_enter Try.func54, Try.ntmps54
  go_wp2_with fail
  refine (HP.out _ (TrIn_below (by repeat (first | exact Below.refl _ _ | assumption | refine below_a ?_ _ | refine below_o ?_ _ | refine below_d ?_ | refine below_n ?_ _ | refine below_s ?_ (by first | (simp; done) | (simp; omega) | omega) _)) hx)).mono ?_
  rintro e w2 ⟨u, rfl, hn, hb⟩
  obtain ⟨a5, c5, rfl⟩ := TrIn_shape hn.any
  have bP := box3_next hb (box3_at (B := w.heap.size + 1) (by simp))
  have B1 := below_next (show Below w.heap.size w _ from (by repeat (first | exact Below.refl _ _ | assumption | refine below_a ?_ _ | refine below_o ?_ _ | refine below_d ?_ | refine below_n ?_ _ | refine below_s ?_ (by first | (simp; done) | (simp; omega) | omega) _))) hb
  simp only [World.size_alloc] at hn
  clear hb
  go_wp2_with fail
  refine (HV.out _ _ (TrIn_below (below_alloc _ _) hn.any)).mono ?_
  rintro e w3 ⟨rfl, hb⟩
  have bF := box3_next hb (box3_new w2 (.int .i64 Q.kind) (.int .i64 Q.val) (.slice a5 Q.kids.length c5) 29)
  replace hb := below_next (below_alloc _ _) hb
  replace bP := box3_next hb bP
  have HB1 := hid (below_next B1 hb)
  have HN := hid (hn.below hb)
  clear hb hn B1
  cases hv2 : formL.valid Q with
  | false =>
    have E := hid (hsm.out hv2)
    clear hv2 bF
    have bP' := bP
    obtain ⟨z0, z1, z2, z3, z4, z5, z6⟩ := bP
    go_wp2_with fail
    obtain ⟨y0, y1, y2, y3, _⟩ := box3_set2 (box3_set1 (box3_set0 bP' (.int .i64 0)) (.int .i64 0)) (.slice none 0 0); refine bodyPost_ret (v := .tuple #[.agg #[.int .i64 0, .int .i64 0, .slice none 0 0], .bool false]) (by simp [results, Try.results54, go_sem, y1, y2, y3]) rfl ?_
    exact RetT.mk (zero_new _ _) E.out.1 E.out.2 (below_set3 HB1.out (by omega) _ _ _)
  | true =>
    have E := hid (hst.out hv2)
    clear hv2
    have bP' := bP
    obtain ⟨z0, z1, z2, z3, z4, z5, z6⟩ := bP
    go_wp2_with fail
    obtain ⟨y0, y1, y2, y3, _⟩ := box3_set2 (box3_set1 (box3_set0 bP' (.int .i64 Q.kind)) (.int .i64 Q.val)) (.slice a5 Q.kids.length c5); refine bodyPost_ret (v := .tuple #[.agg #[.int .i64 Q.kind, .int .i64 Q.val, .slice a5 Q.kids.length c5], .bool true]) (by simp [results, Try.results54, go_sem, y1, y2, y3]) rfl ?_
    exact RetT.mk ((newTr_set3 HN.out (by omega) _ _ _).mono (by omega)) E.out.1 E.out.2 (below_set3 HB1.out (by omega) _ _ _)

set_option maxHeartbeats 2000000 in
theorem norm_any (t : Tr) (w : World) (x : Value) (hx : TrIn Any w t x) (_ : Small t) : Calls Try.prog 26 #[x] w (RetT w.heap.size (normV t) (normOk t) w) := by
  have hx0 := hx
  obtain ⟨a, c, rfl⟩ := TrIn_shape hx
  have HT := hid (fun w hx => valid_any t w (.agg #[.int .i64 t.kind, .int .i64 t.val, .slice a t.kids.length c]) hx)
  cases hv : formL.valid t with
  | false =>
    have E := hid (show normV t = zeroT ∧ normOk t = false by simp [normV, normOk, hv])
    rw [hv] at HT
    clear hv
    go_enter Try.func26, Try.ntmps26
    go_wp2_with fail
    refine (HT.out _ (TrIn_below (by repeat (first | exact Below.refl _ _ | assumption | refine below_a ?_ _ | refine below_o ?_ _ | refine below_d ?_ | refine below_n ?_ _ | refine below_s ?_ (by first | (simp; done) | (simp; omega) | omega) _)) hx)).mono ?_
    rintro e w1 ⟨rfl, hb⟩
    have bP := box3_next hb (box3_at (B := w.heap.size + 1) (by simp))
    have bP' := bP
    obtain ⟨z0, z1, z2, z3, z4, z5, z6⟩ := bP
    have B1 := hid (below_next (show Below w.heap.size w _ from (by repeat (first | exact Below.refl _ _ | assumption | refine below_a ?_ _ | refine below_o ?_ _ | refine below_d ?_ | refine below_n ?_ _ | refine below_s ?_ (by first | (simp; done) | (simp; omega) | omega) _))) hb)
    clear hb
    go_wp2_with fail
    obtain ⟨y0, y1, y2, y3, _⟩ := box3_set2 (box3_set1 (box3_set0 bP' (.int .i64 0)) (.int .i64 0)) (.slice none 0 0); refine bodyPost_ret (v := .tuple #[.agg #[.int .i64 0, .int .i64 0, .slice none 0 0], .bool false]) (by simp [results, Try.results26, go_sem, y1, y2, y3]) rfl ?_
    exact RetT.mk (zero_new _ _) E.out.1 E.out.2 (below_set3 B1.out (by omega) _ _ _)
  | true =>
    have HN := hid (fun w hx => nform_any t w (.agg #[.int .i64 t.kind, .int .i64 t.val, .slice a t.kids.length c]) hx hv)
    rw [hv] at HT
    clear hv
    generalize normV t = Q at *
    generalize normOk t = qb at *
    go_enter Try.func26, Try.ntmps26
    go_wp2_with fail
    refine (HT.out _ (TrIn_below (by repeat (first | exact Below.refl _ _ | assumption | refine below_a ?_ _ | refine below_o ?_ _ | refine below_d ?_ | refine below_n ?_ _ | refine below_s ?_ (by first | (simp; done) | (simp; omega) | omega) _)) hx)).mono ?_
    rintro e w1 ⟨rfl, hb⟩
    have bA := box3_next hb (box3_next (below_alloc _ _) (box3_new w (.int .i64 t.kind) (.int .i64 t.val) (.slice a t.kids.length c) 29))
    have bP := box3_next hb (box3_at (B := w.heap.size + 1) (by simp))
    have B1 := below_next (show Below w.heap.size w _ from (by repeat (first | exact Below.refl _ _ | assumption | refine below_a ?_ _ | refine below_o ?_ _ | refine below_d ?_ | refine below_n ?_ _ | refine below_s ?_ (by first | (simp; done) | (simp; omega) | omega) _))) hb
    clear hb
    go_wp2_with fail
    refine (HN.out _ (TrIn_below B1 hx)).mono ?_
    rintro e w2 ⟨u, rfl, hn, hb⟩
    obtain ⟨a5, c5, rfl⟩ := TrIn_shape hn.any
    have hP1 : w.heap.size + 1 < w1.heap.size := bP.1
    replace bP := box3_next hb bP
    have HB1 := hid (below_next B1 hb)
    have HQ := hid hn
    clear hb hn B1 bA
    have bP' := bP
    obtain ⟨z0, z1, z2, z3, z4, z5, z6⟩ := bP
    go_wp2_with fail
    obtain ⟨y0, y1, y2, y3, _⟩ := box3_set2 (box3_set1 (box3_set0 bP' (.int .i64 Q.kind)) (.int .i64 Q.val)) (.slice a5 Q.kids.length c5); refine bodyPost_ret (v := .tuple #[.agg #[.int .i64 Q.kind, .int .i64 Q.val, .slice a5 Q.kids.length c5], .bool qb]) (by simp [results, Try.results26, go_sem, y1, y2, y3]) rfl ?_
    exact RetT.mk ((newTr_set3 HQ.out hP1 _ _ _).mono (by omega)) rfl rfl (below_set3 HB1.out (by omega) _ _ _)

end Formula
end Go.Proofs.Ytbeljjalfhogdaa
namespace Go.Proofs.Ytbeljjalfhogdaa
open Go.RowKit

section
variable {H : Type} {enc : TypeId × Value → H} {P : Program} {w : World} {base : Nat} {spare : Nat → Bool} {held : Bool}

theorem cells1 {a : Addr} {cs : List Value} (h : w.cells? base a 1 = some cs) : ∃ c0, cs = [c0] ∧ w.cell? (a.add 0) = some c0 := by
  obtain ⟨_, hl, hc⟩ := World.cells?_some h
  match cs, hl with
  | [c0], _ => exact ⟨c0, rfl, by simpa using hc 0 (by omega)⟩

theorem bytes_read {S I : TypeId} (hS : P.underlying S = some (.slice I)) (hI : P.underlying I = some (.int .u8)) (cI : P.cellsOf I = 1)
    {fuel : Nat} {a : Option Addr} {len cap : Nat} {x : DataW H × List MemPlace} (h : DataW.trod enc P w base spare held fuel S [.slice a len cap] = some x) : ByteArg w a len cap := by
  rcases DataW.trod_slice hS h with ⟨hc, _⟩ | ⟨a', len', cap', elems, rest, m, hm, hc, _, _, hlc, hcm, hel, hcell, _⟩
  · simp at hc
    obtain ⟨rfl, rfl, rfl⟩ := hc
    exact ⟨Nat.le_refl _, Nat.zero_le _, .inl rfl⟩
  · simp at hc
    obtain ⟨rfl, rfl, rfl⟩ := hc
    refine ⟨hlc, hcm, ?_⟩
    by_cases h0 : len = 0
    · exact .inl h0
    have key : ∀ i, i < len → ∃ n : Int, w.cell? (a'.add i) = some (.int .u8 n) ∧ 0 ≤ n ∧ n ≤ 255 := fun i hi => by
      have hh := hcell i hi
      rw [cI, List.getElem?_eq_getElem (by omega)] at hh
      obtain ⟨cs', h3, h4⟩ := Option.bind_eq_some_iff.1 hh
      obtain ⟨c0, rfl, q0⟩ := cells1 h3
      obtain ⟨n, hn, _, wn⟩ := DataW.trod_int hI h4
      simp only [List.cons.injEq, and_true] at hn
      subst hn
      have hwf : 0 ≤ n ∧ n ≤ 255 := by
        simp [Lit.wf, IntKind.min, IntKind.max, IntKind.signed, IntKind.bits] at wn
        omega
      exact ⟨n, by simpa [Addr.add] using q0, hwf⟩
    obtain ⟨b, o, s⟩ := a'
    obtain ⟨n0, e0, _⟩ := key 0 (by omega)
    have hs : s = none := by simpa [Addr.add] using World.cell?_spot e0
    subst hs
    have ea : ∀ i, Addr.add ⟨b, o, none⟩ i = ⟨b, o + i, none⟩ := fun i => by unfold Addr.add; split <;> simp_all
    have hall : ∀ i, ∃ n : Int, i < len → w.cell? ⟨b, o + i, none⟩ = some (.int .u8 n) ∧ 0 ≤ n ∧ n ≤ 255 := fun i => by
      by_cases hi : i < len
      · obtain ⟨n, hn⟩ := key i hi
        rw [ea] at hn
        exact ⟨n, fun _ => hn⟩
      · exact ⟨0, fun h => absurd h hi⟩
    obtain ⟨f, hf⟩ := Classical.axiomOfChoice hall
    refine .inr ⟨b, o, f, rfl, ?_, hf⟩
    have := (hf 0 (by omega)).1
    exact blt this
end
end Go.Proofs.Ytbeljjalfhogdaa
