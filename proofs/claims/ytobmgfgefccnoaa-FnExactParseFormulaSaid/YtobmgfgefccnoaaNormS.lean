/- The reference's l5Push: the normal form of a formula, or of its negation, in new memory. Conditions: those of each contract. -/
import Derived.Test.YtobmgfgefccnoaaNormPlain
import Derived.Test.YtobmgfgefccnoaaNegS
import Derived.Test.YtobmgfgefccnoaaMore
import Derived.Deep.RegionHeld3
namespace Go.Proofs.Ytobmgfgefccnoaa
open Go.RowKit
namespace Formula

def PuT (t : Tr) : Prop := ∀ (n : Nat) (neg : Bool) (w : World) (x : Value), formL.shape t n = true → TrIn Any w t x → Calls Try.prog 54 #[x, .bool neg] w (RetP (NewTr w.heap.size (nfT t neg)) w)

set_option maxHeartbeats 1000000 in
theorem pu_leaf (k v : Int) (hk : k = 1 ∨ k = 2) : PuT (.mk k v []) := by
  intro n neg w x hs hx
  clear hs
  rw [TrIn_mk] at hx
  obtain ⟨a, n', c, rfl, hk1, hv, rfl, hc, hc2, hks⟩ := hx
  simp only [List.length_nil] at hc ⊢
  clear hks
  have hL := hid (fun w => leaf_new (w.heap.size) w hk1 hv)
  cases neg
  · have E := hid (show nfT (.mk k v []) false = .mk k v [] by simp [nfT, nfNode, hk])
    rcases hk with rfl | rfl
    all_goals
      go_enter Try.func54, Try.ntmps54
      go_wp2_with fail
      refine bodyPost_ret (v := .agg #[.int .i64 _, .int .i64 v, .slice none 0 0]) (by simp [results, Try.results54, go_sem]; rfl) rfl ?_
      exact RetP.mk (by rw [E.out]; exact leaf_new _ _ hk1 hv) (by repeat (first | exact Below.refl _ _ | assumption | refine below_a ?_ _ | refine below_o ?_ _ | refine below_d ?_ | refine below_n ?_ _ | refine below_s ?_ (by first | (simp; done) | (simp; omega) | omega) _))
  · have E := hid (show nfT (.mk k v []) true = .mk 3 0 [.mk k v []] by simp [nfT, nfNode, hk])
    rcases hk with rfl | rfl
    all_goals
      go_enter Try.func54, Try.ntmps54
      go_wp2_with fail
      refine (not_any (.mk _ v []) _ _ (w.heap.size + 2) (leaf_new _ _ hk1 hv) (by simp)).mono ?_
      rintro e w1 ⟨u, rfl, hn, hb⟩
      have bz := box3_next hb (box3_at (B := w.heap.size + 1) (by simp))
      have bz' := bz
      obtain ⟨z0, z1, z2, z3, z4, z5, z6⟩ := bz
      obtain ⟨a1, c1, rfl⟩ := TrIn_shapeMk hn.any
      have HN := hid hn
      have B1 := hid (below_next (show Below w.heap.size w _ from (by repeat (first | exact Below.refl _ _ | assumption | refine below_a ?_ _ | refine below_o ?_ _ | refine below_d ?_ | refine below_n ?_ _ | refine below_s ?_ (by first | (simp; done) | (simp; omega) | omega) _))) hb)
      clear hn hb
      go_wp2_with fail
      obtain ⟨y0, y1, y2, y3, _⟩ := box3_set2 (box3_set1 (box3_set0 bz' (.int .i64 3)) (.int .i64 0)) (.slice a1 1 c1); refine bodyPost_ret (v := .agg #[.int .i64 3, .int .i64 0, .slice a1 1 c1]) (by simp [results, Try.results54, go_sem, y1, y2, y3]) rfl ?_
      exact RetP.mk (by rw [E.out]; exact (newTr_set3 HN.out (by omega) _ _ _).mono (by omega)) (below_set3 B1.out (by omega) _ _ _)

/-- what is behind the only operand -/
theorem kid_one {w : World} {k v : Int} {t : Tr} {x : Value} (h : TrIn Any w (.mk k v [t]) x) : ∃ b o c c0 c1 c2, x = .agg #[.int .i64 k, .int .i64 v, .slice (some ⟨b, o, none⟩) 1 c] ∧ b < w.heap.size ∧ 1 ≤ c ∧ c ≤ maxLen ∧ w.cell? ⟨b, o, none⟩ = some c0 ∧ w.cell? ⟨b, o + 1, none⟩ = some c1 ∧ w.cell? ⟨b, o + 2, none⟩ = some c2 ∧ TrIn Any w t (.agg #[c0, c1, c2]) := by
  rw [TrIn_mk] at h
  obtain ⟨a, n', c, rfl, hk1, hv, rfl, hc, hc2, hks⟩ := h
  rw [TrsIn_cons] at hks
  obtain ⟨b, o, c0, c1, c2, rfl, _, g0, g1, g2, hT, _⟩ := hks
  exact ⟨b, o, c, c0, c1, c2, rfl, blt g0, hc, hc2, g0, g1, g2, hT⟩
theorem kid_two {w : World} {k v : Int} {t u : Tr} {x : Value} (h : TrIn Any w (.mk k v [t, u]) x) : ∃ b o c c0 c1 c2 d0 d1 d2, x = .agg #[.int .i64 k, .int .i64 v, .slice (some ⟨b, o, none⟩) 2 c] ∧ b < w.heap.size ∧ 2 ≤ c ∧ c ≤ maxLen ∧
    (w.cell? ⟨b, o, none⟩ = some c0 ∧ w.cell? ⟨b, o + 1, none⟩ = some c1 ∧ w.cell? ⟨b, o + 2, none⟩ = some c2) ∧ (w.cell? ⟨b, o + 3, none⟩ = some d0 ∧ w.cell? ⟨b, o + 4, none⟩ = some d1 ∧ w.cell? ⟨b, o + 5, none⟩ = some d2) ∧ TrIn Any w t (.agg #[c0, c1, c2]) ∧ TrIn Any w u (.agg #[d0, d1, d2]) := by
  rw [TrIn_mk] at h
  obtain ⟨a, n', c, rfl, hk1, hv, rfl, hc, hc2, hks⟩ := h
  rw [TrsIn_cons] at hks
  obtain ⟨b, o, c0, c1, c2, rfl, _, g0, g1, g2, hT, hks⟩ := hks
  rw [TrsIn_cons] at hks
  obtain ⟨b', o', d0, d1, d2, hbo, _, f0, f1, f2, hU, _⟩ := hks
  simp only [Option.some.injEq, Addr.mk.injEq, and_true] at hbo
  obtain ⟨rfl, rfl⟩ := hbo
  exact ⟨b, o, c, c0, c1, c2, d0, d1, d2, rfl, blt g0, hc, hc2, ⟨g0, g1, g2⟩, ⟨f0, f1, f2⟩, hT, hU⟩

set_option maxHeartbeats 1000000 in
theorem pu_not (v : Int) (t : Tr) (h : PuT t) : PuT (.mk 3 v [t]) := by
  intro n neg w x hs hx
  obtain ⟨m, rfl, _, _, _, _, _, h7⟩ := formL.shape_mk hs
  obtain ⟨b, o, c, c0, c1, c2, rfl, hb0, hc, hc2, g0, g1, g2, hT⟩ := kid_one hx
  have hst := hid (h7 t (by simp))
  have E := hid (show nfT (.mk 3 v [t]) neg = nfT t (!neg) by simp [nfT, nfL, nfNode])
  clear hs h7 hx
  go_enter Try.func54, Try.ntmps54
  go_wp2_with fail
  refine (h m (!neg) _ _ hst.out (TrIn_below (by repeat (first | exact Below.refl _ _ | assumption | refine below_a ?_ _ | refine below_o ?_ _ | refine below_d ?_ | refine below_n ?_ _ | refine below_s ?_ (by first | (simp; done) | (simp; omega) | omega) _)) hT)).mono ?_
  rintro e w1 ⟨u, rfl, hn, hb⟩
  rw [← E.out] at hn
  have bz := box3_next hb (box3_at (B := w.heap.size + 1) (by simp))
  have bz' := bz
  obtain ⟨z0, z1, z2, z3, z4, z5, z6⟩ := bz
  obtain ⟨a1, n1, rfl⟩ := TrIn_shape hn.any
  have HN := hid hn
  have B1 := hid (below_next (show Below w.heap.size w _ from (by repeat (first | exact Below.refl _ _ | assumption | refine below_a ?_ _ | refine below_o ?_ _ | refine below_d ?_ | refine below_n ?_ _ | refine below_s ?_ (by first | (simp; done) | (simp; omega) | omega) _))) hb)
  clear hn hb
  go_wp2_with fail
  obtain ⟨y0, y1, y2, y3, _⟩ := box3_set2 (box3_set1 (box3_set0 bz' (.int .i64 (nfT (.mk 3 v [t]) neg).kind)) (.int .i64 (nfT (.mk 3 v [t]) neg).val)) (.slice a1 (nfT (.mk 3 v [t]) neg).kids.length n1); refine bodyPost_ret (v := .agg #[.int .i64 (nfT (.mk 3 v [t]) neg).kind, .int .i64 (nfT (.mk 3 v [t]) neg).val, .slice a1 (nfT (.mk 3 v [t]) neg).kids.length n1]) (by simp [results, Try.results54, go_sem, y1, y2, y3]) rfl ?_
  exact RetP.mk ((newTr_set3 HN.out (by simp) _ _ _).mono (by simp; omega)) (below_set3 B1.out (by omega) _ _ _)

set_option maxHeartbeats 1000000 in
theorem pu_next (v : Int) (t : Tr) (h : PuT t) : PuT (.mk 6 v [t]) := by
  intro n neg w x hs hx
  obtain ⟨m, rfl, _, _, _, _, _, h7⟩ := formL.shape_mk hs
  obtain ⟨b, o, c, c0, c1, c2, rfl, hb0, hc, hc2, g0, g1, g2, hT⟩ := kid_one hx
  have hst := hid (h7 t (by simp))
  have E := hid (show nfT (.mk 6 v [t]) neg = .mk 6 0 [nfT t neg] by simp [nfT, nfL, nfNode])
  clear hs h7 hx
  go_enter Try.func54, Try.ntmps54
  go_wp2_with fail
  refine (h m neg _ _ hst.out (TrIn_below (by repeat (first | exact Below.refl _ _ | assumption | refine below_a ?_ _ | refine below_o ?_ _ | refine below_d ?_ | refine below_n ?_ _ | refine below_s ?_ (by first | (simp; done) | (simp; omega) | omega) _)) hT)).mono ?_
  rintro e w1 ⟨u, rfl, hn, hb⟩
  obtain ⟨a1, n1, rfl⟩ := TrIn_shape hn.any
  have hs1 := hb.size
  simp only [World.size_alloc] at hs1
  have bz := box3_next hb (box3_at (B := w.heap.size + 1) (by simp))
  have HN := hid (own_node (k := 6) (ty := 29) (by unfold i64; omega) (hn.mono (B' := w.heap.size + 2) (by simp)) (by omega) rfl)
  have bz2 := box3_next (below_alloc w1 (.cells #[.int .i64 (nfT t neg).kind, .int .i64 (nfT t neg).val, .slice a1 (nfT t neg).kids.length n1] 29)) bz
  have bz' := bz2
  obtain ⟨z0, z1, z2, z3, z4, z5, z6⟩ := bz2
  have B1 := hid (below_a (below_next (show Below w.heap.size w _ from (by repeat (first | exact Below.refl _ _ | assumption | refine below_a ?_ _ | refine below_o ?_ _ | refine below_d ?_ | refine below_n ?_ _ | refine below_s ?_ (by first | (simp; done) | (simp; omega) | omega) _))) hb) (.cells #[.int .i64 (nfT t neg).kind, .int .i64 (nfT t neg).val, .slice a1 (nfT t neg).kids.length n1] 29))
  clear hn hb bz
  go_wp2_with fail
  obtain ⟨y0, y1, y2, y3, _⟩ := box3_set2 (box3_set1 (box3_set0 bz' (.int .i64 6)) (.int .i64 0)) (.slice (some ⟨w1.heap.size, 0, none⟩) 1 1); refine bodyPost_ret (v := .agg #[.int .i64 6, .int .i64 0, .slice (some ⟨w1.heap.size, 0, none⟩) 1 1]) (by simp [results, Try.results54, go_sem, y1, y2, y3]) rfl ?_
  rw [E.out]
  exact RetP.mk ((newTr_set3 HN.out (by omega) _ _ _).mono (by omega)) (below_set3 B1.out (by omega) _ _ _)

set_option maxHeartbeats 400000 in
theorem dual_any (k : Int) (hk : k = 4 ∨ k = 5 ∨ k = 7 ∨ k = 8) (w : World) : Calls Try.prog 85 #[.int .i64 k] w (RetW (.int .i64 (dualK k)) w) := by
  rcases hk with rfl | rfl | rfl | rfl
  all_goals
    go_enter Try.func85, Try.ntmps85
    go_wp2_with fail
    go_ret
    exact ⟨rfl, rfl⟩
theorem dual_bd {k : Int} (hk : k = 4 ∨ k = 5 ∨ k = 7 ∨ k = 8) : i64 (dualK k) := by rcases hk with rfl | rfl | rfl | rfl <;> (unfold i64 dualK; simp)

set_option maxRecDepth 100000 in
set_option maxHeartbeats 4000000 in
theorem pu_two (k v : Int) (hk : k = 4 ∨ k = 5 ∨ k = 7 ∨ k = 8) (t u : Tr) (h : PuT t) (h' : PuT u) : PuT (.mk k v [t, u]) := by
  intro n neg w x hs hx
  obtain ⟨m, rfl, _, _, _, _, _, h7⟩ := formL.shape_mk hs
  obtain ⟨b, o, c, c0, c1, c2, d0, d1, d2, rfl, hb0, hc, hc2, ⟨g0, g1, g2⟩, ⟨f0, f1, f2⟩, hT, hU⟩ := kid_two hx
  have hst := hid (h7 t (by simp))
  have hsu := hid (h7 u (by simp))
  have E := hid (show nfT (.mk k v [t, u]) neg = .mk (if neg = true then dualK k else k) 0 [nfT t neg, nfT u neg] by rcases hk with rfl | rfl | rfl | rfl <;> simp [nfT, nfL, nfNode])
  have HD := hid (fun w => dual_any k hk w)
  have HB := hid (dual_bd hk)
  have hki : i64 k := by rcases hk with rfl | rfl | rfl | rfl <;> (unfold i64; omega)
  have e1 : (k == 1) = false := by rcases hk with rfl | rfl | rfl | rfl <;> rfl
  have e2 : (k == 2) = false := by rcases hk with rfl | rfl | rfl | rfl <;> rfl
  have e3 : (k == 3) = false := by rcases hk with rfl | rfl | rfl | rfl <;> rfl
  have e6 : (k == 6) = false := by rcases hk with rfl | rfl | rfl | rfl <;> rfl
  have e9 : (k == 9) = false := by rcases hk with rfl | rfl | rfl | rfl <;> rfl
  have e10 : (k == 10) = false := by rcases hk with rfl | rfl | rfl | rfl <;> rfl
  clear hs h7 hx hk
  generalize nfT (.mk k v [t, u]) neg = res at E ⊢
  cases neg
  case' false =>
    go_enter Try.func54, Try.ntmps54
    go_wp2_with fail
    have K := E.out
    simp only [Bool.false_eq_true, if_false] at K
    have hkk := hki
    generalize k = kk at K hkk ⊢
  case' true =>
    go_enter Try.func54, Try.ntmps54
    go_wp2_with fail
    refine (HD.out _).mono ?_
    rintro e _ ⟨rfl, rfl⟩
    go_wp2_with fail
    have K := E.out
    simp only [if_true] at K
    have hkk := HB.out
    generalize dualK k = kk at K hkk ⊢
  all_goals
    refine wp_gen (fun W => Below w.heap.size w W ∧ Box3 W w.heap.size (.int .i64 _) (.int .i64 v) (.slice (some ⟨b, o, none⟩) 2 c) ∧ Box3 W (w.heap.size + 1) (.int .i64 0) (.int .i64 0) (.slice none 0 0)) ⟨(by repeat (first | exact Below.refl _ _ | assumption | refine below_a ?_ _ | refine below_o ?_ _ | refine below_d ?_ | refine below_n ?_ _ | refine below_s ?_ (by first | (simp; done) | (simp; omega) | omega) _)), box3_next (below_alloc _ _) (box3_new ..), box3_at (by simp)⟩ ?_
    rintro W ⟨BW, bA, bz⟩
    have hWz := bz.1
    have HF := hid (show ∀ w', But W (w.heap.size + 1) w' → w'.cell? ⟨w.heap.size, 2, none⟩ = some (.slice (some ⟨b, o, none⟩) 2 c) ∧ (w'.cell? ⟨b, o, none⟩ = some c0 ∧ w'.cell? ⟨b, o + 1, none⟩ = some c1 ∧ w'.cell? ⟨b, o + 2, none⟩ = some c2) ∧ w'.cell? ⟨b, o + 3, none⟩ = some d0 ∧ w'.cell? ⟨b, o + 4, none⟩ = some d1 ∧ w'.cell? ⟨b, o + 5, none⟩ = some d2 from
      fun w' M => ⟨(M.cell bA.1 (by omega)).trans bA.2.2.2.1, ⟨(M.cell (by omega) (by omega)).trans ((BW.cell (p := ⟨b, o, none⟩) hb0).trans g0), (M.cell (by omega) (by omega)).trans ((BW.cell (p := ⟨b, o + 1, none⟩) hb0).trans g1), (M.cell (by omega) (by omega)).trans ((BW.cell (p := ⟨b, o + 2, none⟩) hb0).trans g2)⟩,
        (M.cell (by omega) (by omega)).trans ((BW.cell (p := ⟨b, o + 3, none⟩) hb0).trans f0), (M.cell (by omega) (by omega)).trans ((BW.cell (p := ⟨b, o + 4, none⟩) hb0).trans f1), (M.cell (by omega) (by omega)).trans ((BW.cell (p := ⟨b, o + 5, none⟩) hb0).trans f2)⟩)
    go_region_held3 (fun w' => w'.cell? ⟨w.heap.size, 2, none⟩ = some (.slice (some ⟨b, o, none⟩) 2 c) ∧ (w'.cell? ⟨b, o, none⟩ = some c0 ∧ w'.cell? ⟨b, o + 1, none⟩ = some c1 ∧ w'.cell? ⟨b, o + 2, none⟩ = some c2) ∧ w'.cell? ⟨b, o + 3, none⟩ = some d0 ∧ w'.cell? ⟨b, o + 4, none⟩ = some d1 ∧ w'.cell? ⟨b, o + 5, none⟩ = some d2)
      (first | (refine HF.out _ ?_; (repeat (first | exact But.refl _ _ | (refine But.of ?_; assumption) | refine but_a ?_ _ | refine but_d ?_ | refine but_s ?_ _)); done) | go_keep)
      (first
        | (go_at_call_of 54 (Value.agg #[c0, c1, c2]); refine (h m _ _ _ hst.out (TrIn_below (below_next BW (by repeat (first | exact Below.refl _ _ | assumption | refine below_a ?_ _ | refine below_o ?_ _ | refine below_d ?_ | refine below_n ?_ _ | refine below_s ?_ (by first | (simp; done) | (simp; omega) | omega) _))) hT)).mono ?_; rintro e w1 ⟨u1, rfl, hn1, hb1⟩; obtain ⟨a1, n1, rfl⟩ := TrIn_shape hn1.any; have M1 := below_next (show Below W.heap.size W _ from (by repeat (first | exact Below.refl _ _ | assumption | refine below_a ?_ _ | refine below_o ?_ _ | refine below_d ?_ | refine below_n ?_ _ | refine below_s ?_ (by first | (simp; done) | (simp; omega) | omega) _))) hb1; clear hb1)
        | (go_at_call_of 54 (Value.agg #[d0, d1, d2]); refine (h' m _ _ _ hsu.out (TrIn_below (below_next BW (by repeat (first | exact Below.refl _ _ | assumption | refine below_a ?_ _ | refine below_o ?_ _ | refine below_d ?_ | refine below_n ?_ _ | refine below_s ?_ (by first | (simp; done) | (simp; omega) | omega) _))) hU)).mono ?_; rintro e w2 ⟨u2, rfl, hn2, hb2⟩; obtain ⟨a2, n2, rfl⟩ := TrIn_shape hn2.any; have M2 := below_next (show Below W.heap.size W _ from (by repeat (first | exact Below.refl _ _ | assumption | refine below_a ?_ _ | refine below_o ?_ _ | refine below_d ?_ | refine below_n ?_ _ | refine below_s ?_ (by first | (simp; done) | (simp; omega) | omega) _))) hb2; have HTw := hid (Two.mk (hn1.mono (B' := W.heap.size) (by simp)) hn2 (Nat.le_refl _) hb2 M1.size); have bz2 := box3_next M2 bz; obtain ⟨z0, z1, z2, z3, z4, z5, z6⟩ := bz2; clear hb2 hn1 hn2))
    all_goals
      have bz' := hid (box3_next M2 bz)
      have BB := hid (below_next BW M2)
      have hsz := M2.size
      clear bz M1 BW
      go_wp2_with fail
      have HY := fun o => box3_next (below_alloc _ o) (box3_set2 (box3_set1 (box3_set0 bz'.out (.int .i64 kk)) (.int .i64 0)) (.slice (some ⟨w2.heap.size, 0, none⟩) 2 2))
      have y1 := fun o => (HY o).2.1
      have y2 := fun o => (HY o).2.2.1
      have y3 := fun o => (HY o).2.2.2.1
      refine bodyPost_ret (v := .agg #[.int .i64 kk, .int .i64 0, .slice (some ⟨w2.heap.size, 0, none⟩) 2 2]) (by simp [results, Try.results54, go_sem, y1, y2, y3]) rfl ?_
      rw [K]
      exact RetP.mk (((HTw.out.set3 hWz _ _ _).node hkk (by simpa using hsz) (by simp)).mono (by omega)) (below_a (below_set3 BB.out (by omega) _ _ _) _)

/-- the word 'false', just made -/
theorem fls_parts {w : World} {B : Nat} {x : Value} (h : NewTr B flsT x w) : ∃ a c, x = .agg #[.int .i64 3, .int .i64 0, .slice a 1 c] := TrIn_shapeMk h.any
theorem tru_parts {w : World} {B : Nat} {x : Value} (h : NewTr B truT x w) : ∃ a c, x = .agg #[.int .i64 1, .int .i64 0, .slice a 0 c] := TrIn_shapeMk h.any

set_option maxRecDepth 100000 in
set_option maxHeartbeats 4000000 in
theorem pu_ev (k v : Int) (hk : k = 9 ∨ k = 10) (t : Tr) (h : PuT t) : PuT (.mk k v [t]) := by
  intro n neg w x hs hx
  obtain ⟨m, rfl, _, _, _, _, _, h7⟩ := formL.shape_mk hs
  obtain ⟨b, o, c, c0, c1, c2, rfl, hb0, hc, hc2, g0, g1, g2, hT⟩ := kid_one hx
  have hst := hid (h7 t (by simp))
  have E := hid (show nfT (.mk k v [t]) neg = if ((k == 9) != neg) = true then .mk 7 0 [truT, nfT t neg] else .mk 8 0 [flsT, nfT t neg] by rcases hk with rfl | rfl <;> simp [nfT, nfL, nfNode])
  have hP := fun w x hx => h m neg w x hst.out hx
  clear hs h7 hx h hst
  generalize nfT (.mk k v [t]) neg = res at E ⊢
  generalize nfT t neg = Q at E hP
  have HP := hid hP
  clear hP
  rcases hk with rfl | rfl <;> cases neg
  all_goals
    simp at E
    have E' := hid E
    clear E
    go_enter Try.func54, Try.ntmps54
    go_wp2_with fail
    refine (HP.out _ _ (TrIn_below (by repeat (first | exact Below.refl _ _ | assumption | refine below_a ?_ _ | refine below_o ?_ _ | refine below_d ?_ | refine below_n ?_ _ | refine below_s ?_ (by first | (simp; done) | (simp; omega) | omega) _)) hT)).mono ?_
    rintro e w1 ⟨u, rfl, hn, hb⟩
    obtain ⟨a1, n1, rfl⟩ := TrIn_shape hn.any
    have bA := box3_next hb (box3_next (below_alloc _ _) (box3_new ..))
    have bz := box3_next hb (box3_at (B := w.heap.size + 1) (by simp))
    have hz1 : w.heap.size + 1 < w1.heap.size := bz.1
    have B1 := below_next (show Below w.heap.size w _ from (by repeat (first | exact Below.refl _ _ | assumption | refine below_a ?_ _ | refine below_o ?_ _ | refine below_d ?_ | refine below_n ?_ _ | refine below_s ?_ (by first | (simp; done) | (simp; omega) | omega) _))) hb
    simp only [World.size_alloc] at hn
    clear hb
    go_wp2_with fail
    refine wp_gen (fun W => Below w.heap.size w W ∧ Box3 W (w.heap.size + 1) (.int .i64 0) (.int .i64 0) (.slice none 0 0) ∧ Box3 W w1.heap.size (.int .i64 Q.kind) (.int .i64 Q.val) (.slice a1 Q.kids.length n1) ∧ NewTr (w.heap.size + 2) Q (.agg #[.int .i64 Q.kind, .int .i64 Q.val, .slice a1 Q.kids.length n1]) W) ⟨below_a B1 _, box3_next (below_alloc _ _) bz, box3_new .., hn.below (below_alloc _ _)⟩ ?_
    rintro W ⟨BW, bz, bF, hnW⟩
    have hzl := bz.1
    have hF1 := bF.1
    have hw1 := B1.size
    have hne : w1.heap.size ≠ w.heap.size + 1 := by omega
    have HF := hid (fun w' (M : But W (w.heap.size + 1) w') => (⟨(M.cell hF1 hne).trans bF.2.1, (M.cell hF1 hne).trans bF.2.2.1, (M.cell hF1 hne).trans bF.2.2.2.1⟩ : w'.cell? ⟨w1.heap.size, 0, none⟩ = some (.int .i64 Q.kind) ∧ w'.cell? ⟨w1.heap.size, 1, none⟩ = some (.int .i64 Q.val) ∧ w'.cell? ⟨w1.heap.size, 2, none⟩ = some (.slice a1 Q.kids.length n1)))
    clear hn B1 bA
  rotate_left 3
  iterate 2
    focus
        go_region_held3 (fun w' => w'.cell? ⟨w1.heap.size, 0, none⟩ = some (.int .i64 Q.kind) ∧ w'.cell? ⟨w1.heap.size, 1, none⟩ = some (.int .i64 Q.val) ∧ w'.cell? ⟨w1.heap.size, 2, none⟩ = some (.slice a1 Q.kids.length n1))
          (first | (refine HF.out _ ?_; (repeat (first | exact But.refl _ _ | (refine But.of ?_; assumption) | refine but_a ?_ _ | refine but_d ?_ | refine but_s ?_ _)); done) | go_keep)
          ((go_at_call 84; refine (true_any _).mono ?_; rintro e wT ⟨uT, rfl, hnT, hbT⟩; obtain ⟨aT, cT, rfl⟩ := tru_parts hnT; have MT := below_next (show Below W.heap.size W _ from (by repeat (first | exact Below.refl _ _ | assumption | refine below_a ?_ _ | refine below_o ?_ _ | refine below_d ?_ | refine below_n ?_ _ | refine below_s ?_ (by first | (simp; done) | (simp; omega) | omega) _))) hbT; replace hnT := hnT.mono (B' := W.heap.size) (by have := (show Below W.heap.size W _ from (by repeat (first | exact Below.refl _ _ | assumption | refine below_a ?_ _ | refine below_o ?_ _ | refine below_d ?_ | refine below_n ?_ _ | refine below_s ?_ (by first | (simp; done) | (simp; omega) | omega) _))).size; simp; done); (try (have bzT := box3_next MT bz; obtain ⟨z0, z1, z2, z3, z4, z5, z6⟩ := bzT)); clear hbT))
        all_goals
          have HTw := hid (Two.mk2 hnW hnT (Nat.le_refl _) MT (by omega)); have ML := MT; clear hnT hnW MT
          have bz' := hid (box3_next ML bz)
          have BB := hid (below_next BW ML)
          have hsz := ML.size
          clear bz BW
          go_wp2_with fail
          have HY := fun o => box3_next (below_alloc _ o) (box3_set2 (box3_set1 (box3_set0 bz'.out (.int .i64 7)) (.int .i64 0)) (.slice (some ⟨wT.heap.size, 0, none⟩) 2 2))
          have y1 := fun o => (HY o).2.1
          have y2 := fun o => (HY o).2.2.1
          have y3 := fun o => (HY o).2.2.2.1
          refine bodyPost_ret (v := .agg #[.int .i64 7, .int .i64 0, .slice (some ⟨wT.heap.size, 0, none⟩) 2 2]) (by simp [results, Try.results54, go_sem, y1, y2, y3]) rfl ?_
          rw [E'.out]
          exact RetP.mk (((HTw.out.set3 (by omega) _ _ _).node (by unfold i64; omega) (by simp; omega) (by simp)).mono (by omega)) (below_a (below_set3 BB.out (by omega) _ _ _) _)
  all_goals
    go_region_held3 (fun w' => w'.cell? ⟨w1.heap.size, 0, none⟩ = some (.int .i64 Q.kind) ∧ w'.cell? ⟨w1.heap.size, 1, none⟩ = some (.int .i64 Q.val) ∧ w'.cell? ⟨w1.heap.size, 2, none⟩ = some (.slice a1 Q.kids.length n1))
      (first | (refine HF.out _ ?_; (repeat (first | exact But.refl _ _ | (refine But.of ?_; assumption) | refine but_a ?_ _ | refine but_d ?_ | refine but_s ?_ _)); done) | go_keep)
      (first | (go_at_call 84; refine (true_any _).mono ?_; rintro e wT ⟨uT, rfl, hnT, hbT⟩; obtain ⟨aT, cT, rfl⟩ := tru_parts hnT; have MT := below_next (show Below W.heap.size W _ from (by repeat (first | exact Below.refl _ _ | assumption | refine below_a ?_ _ | refine below_o ?_ _ | refine below_d ?_ | refine below_n ?_ _ | refine below_s ?_ (by first | (simp; done) | (simp; omega) | omega) _))) hbT; replace hnT := hnT.mono (B' := W.heap.size) (by have := (show Below W.heap.size W _ from (by repeat (first | exact Below.refl _ _ | assumption | refine below_a ?_ _ | refine below_o ?_ _ | refine below_d ?_ | refine below_n ?_ _ | refine below_s ?_ (by first | (simp; done) | (simp; omega) | omega) _))).size; simp; done); (try (have bzT := box3_next MT bz; obtain ⟨z0, z1, z2, z3, z4, z5, z6⟩ := bzT)); clear hbT) | (go_at_call 46; refine (not_any truT _ _ W.heap.size (hnT.below (by repeat (first | exact Below.refl _ _ | assumption | refine below_a ?_ _ | refine below_o ?_ _ | refine below_d ?_ | refine below_n ?_ _ | refine below_s ?_ (by first | (simp; done) | (simp; omega) | omega) _))) (by have := MT.size; simp; omega)).mono ?_; rintro e wN ⟨uN, rfl, hnN, hbN⟩; obtain ⟨aN, cN, rfl⟩ := fls_parts hnN; have MN := below_next (show Below W.heap.size W _ from (by repeat (first | exact Below.refl _ _ | assumption | refine below_a ?_ _ | refine below_o ?_ _ | refine below_d ?_ | refine below_n ?_ _ | refine below_s ?_ (by first | (simp; done) | (simp; omega) | omega) _))) hbN; have bzN := box3_next MN bz; obtain ⟨z0, z1, z2, z3, z4, z5, z6⟩ := bzN; clear hbN))
    all_goals
      have HTw := hid (Two.mk2 hnW hnN (Nat.le_refl _) MN (by omega)); have ML := MN; clear hnN hnT hnW MT MN
      have bz' := hid (box3_next ML bz)
      have BB := hid (below_next BW ML)
      have hsz := ML.size
      clear bz BW
      go_wp2_with fail
      have HY := fun o => box3_next (below_alloc _ o) (box3_set2 (box3_set1 (box3_set0 bz'.out (.int .i64 8)) (.int .i64 0)) (.slice (some ⟨wN.heap.size, 0, none⟩) 2 2))
      have y1 := fun o => (HY o).2.1
      have y2 := fun o => (HY o).2.2.1
      have y3 := fun o => (HY o).2.2.2.1
      refine bodyPost_ret (v := .agg #[.int .i64 8, .int .i64 0, .slice (some ⟨wN.heap.size, 0, none⟩) 2 2]) (by simp [results, Try.results54, go_sem, y1, y2, y3]) rfl ?_
      rw [E'.out]
      exact RetP.mk (((HTw.out.set3 (by omega) _ _ _).node (by unfold i64; omega) (by simp; omega) (by simp)).mono (by omega)) (below_a (below_set3 BB.out (by omega) _ _ _) _)

theorem pu_any : ∀ t, PuT t := Tr.ind fun k v kids ih => by
  intro n neg w x hs
  obtain ⟨m, h1, h2, h3, h4, h5, h6, h7⟩ := formL.shape_mk hs
  rw [formL_K] at h3
  rw [formL_ar] at h6
  by_cases k0 : k = 1 ∨ k = 2
  · obtain rfl := len0 (by rw [h6, if_pos k0])
    exact pu_leaf k v k0 n neg w x hs
  by_cases k2 : k = 4 ∨ k = 5 ∨ k = 7 ∨ k = 8
  · obtain ⟨a, b, rfl⟩ := len2 (by rw [h6, if_neg k0, if_pos k2])
    exact pu_two k v k2 a b (ih a (by simp)) (ih b (by simp)) n neg w x hs
  obtain ⟨a, rfl⟩ := len1 (by rw [h6, if_neg k0, if_neg k2])
  have hk : k = 3 ∨ k = 6 ∨ k = 9 ∨ k = 10 := by omega
  rcases hk with rfl | rfl | hk
  · exact pu_not v a (ih a (by simp)) n neg w x hs
  · exact pu_next v a (ih a (by simp)) n neg w x hs
  · exact pu_ev k v hk a (ih a (by simp)) n neg w x hs

def normOk (t : Tr) : Bool := formL.valid t && formL.valid (nfT t false)
def normV (t : Tr) : Tr := if normOk t = true then nfT t false else zeroT
theorem normV_small (t : Tr) : nodes (normV t) ≤ 1000 := by
  unfold normV
  split
  · rename_i h
    rw [normOk, Bool.and_eq_true] at h
    have := small_valid h.2
    omega
  · simp [zeroT, nodes, nodesL]

set_option maxHeartbeats 2000000 in
theorem specNorm_any (t : Tr) (w : World) (x : Value) (hx : TrIn Any w t x) (_ : Small t) : Calls Try.prog 27 #[x] w (RetT w.heap.size (normV t) (normOk t) w) := by
  have hx0 := hx
  obtain ⟨a, c, rfl⟩ := TrIn_shape hx
  have HT := hid (fun w hx => specValid_any t w (.agg #[.int .i64 t.kind, .int .i64 t.val, .slice a t.kids.length c]) hx)
  cases hv : formL.valid t with
  | false =>
    have E := hid (show normV t = zeroT ∧ normOk t = false by simp [normV, normOk, hv])
    rw [hv] at HT
    clear hv
    go_enter Try.func27, Try.ntmps27
    go_wp2_with fail
    refine (HT.out _ (TrIn_below (by repeat (first | exact Below.refl _ _ | assumption | refine below_a ?_ _ | refine below_o ?_ _ | refine below_d ?_ | refine below_n ?_ _ | refine below_s ?_ (by first | (simp; done) | (simp; omega) | omega) _)) hx)).mono ?_
    rintro e w1 ⟨rfl, hb⟩
    have bP := box3_next hb (box3_at (B := w.heap.size + 1) (by simp))
    have bP' := bP
    obtain ⟨z0, z1, z2, z3, z4, z5, z6⟩ := bP
    have B1 := hid (below_next (show Below w.heap.size w _ from (by repeat (first | exact Below.refl _ _ | assumption | refine below_a ?_ _ | refine below_o ?_ _ | refine below_d ?_ | refine below_n ?_ _ | refine below_s ?_ (by first | (simp; done) | (simp; omega) | omega) _))) hb)
    clear hb
    go_wp2_with fail
    obtain ⟨y0, y1, y2, y3, _⟩ := box3_set2 (box3_set1 (box3_set0 bP' (.int .i64 0)) (.int .i64 0)) (.slice none 0 0); refine bodyPost_ret (v := .tuple #[.agg #[.int .i64 0, .int .i64 0, .slice none 0 0], .bool false]) (by simp [results, Try.results27, go_sem, y1, y2, y3]) rfl ?_
    exact RetT.mk (zero_new _ _) E.out.1 E.out.2 (below_set3 B1.out (by omega) _ _ _)
  | true =>
    have HV := hid (fun w x hx => specValid_any (nfT t false) w x hx)
    have HP := hid (fun w hx => pu_any t 6 false w (.agg #[.int .i64 t.kind, .int .i64 t.val, .slice a t.kids.length c]) (by rw [Lang.valid, Bool.and_eq_true] at hv; exact hv.1) hx)
    have hsm := hid (fun (h : formL.valid (nfT t false) = false) => (⟨by simp [normV, normOk, h], by simp [normOk, h]⟩ : normV t = zeroT ∧ normOk t = false))
    have hst := hid (fun (h : formL.valid (nfT t false) = true) => (⟨by simp [normV, normOk, h, hv], by simp [normOk, h, hv]⟩ : normV t = nfT t false ∧ normOk t = true))
    rw [hv] at HT
    clear hv
    generalize nfT t false = Q at *
    go_enter Try.func27, Try.ntmps27
    go_wp2_with fail
    refine (HT.out _ (TrIn_below (by repeat (first | exact Below.refl _ _ | assumption | refine below_a ?_ _ | refine below_o ?_ _ | refine below_d ?_ | refine below_n ?_ _ | refine below_s ?_ (by first | (simp; done) | (simp; omega) | omega) _)) hx)).mono ?_
    rintro e w1 ⟨rfl, hb⟩
    have bA := box3_next hb (box3_next (below_alloc _ _) (box3_new w (.int .i64 t.kind) (.int .i64 t.val) (.slice a t.kids.length c) 29))
    have bP := box3_next hb (box3_at (B := w.heap.size + 1) (by simp))
    have B1 := below_next (show Below w.heap.size w _ from (by repeat (first | exact Below.refl _ _ | assumption | refine below_a ?_ _ | refine below_o ?_ _ | refine below_d ?_ | refine below_n ?_ _ | refine below_s ?_ (by first | (simp; done) | (simp; omega) | omega) _))) hb
    clear hb
    go_wp2_with fail
    refine (HP.out _ (TrIn_below B1 hx)).mono ?_
    rintro e w2 ⟨u, rfl, hn, hb⟩
    obtain ⟨a5, c5, rfl⟩ := TrIn_shape hn.any
    have hP1 : w.heap.size + 1 < w1.heap.size := bP.1
    replace bP := box3_next hb bP
    replace B1 := below_next B1 hb
    clear hb bA
    go_wp2_with fail
    refine (HV.out _ _ (TrIn_below (below_alloc _ _) hn.any)).mono ?_
    rintro e w3 ⟨rfl, hb⟩
    have bF := box3_next hb (box3_new w2 (.int .i64 Q.kind) (.int .i64 Q.val) (.slice a5 Q.kids.length c5) 29)
    replace hb := below_next (below_alloc _ _) hb
    replace bP := box3_next hb bP
    have HB1 := hid (below_next B1 hb)
    have HN := hid (hn.below hb)
    clear hb hn B1
    cases hv2 : formL.valid Q with
    | false =>
      have E := hid (hsm.out hv2)
      clear hv2 bF
      have bP' := bP
      obtain ⟨z0, z1, z2, z3, z4, z5, z6⟩ := bP
      go_wp2_with fail
      obtain ⟨y0, y1, y2, y3, _⟩ := box3_set2 (box3_set1 (box3_set0 bP' (.int .i64 0)) (.int .i64 0)) (.slice none 0 0); refine bodyPost_ret (v := .tuple #[.agg #[.int .i64 0, .int .i64 0, .slice none 0 0], .bool false]) (by simp [results, Try.results27, go_sem, y1, y2, y3]) rfl ?_
      exact RetT.mk (zero_new _ _) E.out.1 E.out.2 (below_set3 HB1.out (by omega) _ _ _)
    | true =>
      have E := hid (hst.out hv2)
      clear hv2
      have bP' := bP
      obtain ⟨z0, z1, z2, z3, z4, z5, z6⟩ := bP
      go_wp2_with fail
      obtain ⟨y0, y1, y2, y3, _⟩ := box3_set2 (box3_set1 (box3_set0 bP' (.int .i64 Q.kind)) (.int .i64 Q.val)) (.slice a5 Q.kids.length c5); refine bodyPost_ret (v := .tuple #[.agg #[.int .i64 Q.kind, .int .i64 Q.val, .slice a5 Q.kids.length c5], .bool true]) (by simp [results, Try.results27, go_sem, y1, y2, y3]) rfl ?_
      exact RetT.mk ((newTr_set3 HN.out hP1 _ _ _).mono (by omega)) E.out.1 E.out.2 (below_set3 HB1.out (by omega) _ _ _)

end Formula
end Go.Proofs.Ytobmgfgefccnoaa
