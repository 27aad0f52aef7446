/- The program's normal: the normal form of a formula, or of its negation, in new memory. Conditions: those of each contract. -/
import Derived.Test.YtobmgfgefccnoaaNormS
namespace Go.Proofs.Ytobmgfgefccnoaa
open Go.RowKit
namespace Formula

def NoT (t : Tr) : Prop := ∀ (n : Nat) (neg : Bool) (w : World) (x : Value), formL.shape t n = true → TrIn Any w t x → Calls Try.prog 86 #[x, .bool neg] w (RetP (NewTr w.heap.size (nfT t neg)) w)

set_option maxHeartbeats 400000 in
theorem pk_any (neg : Bool) (w : World) (Q : Nat) (p q : Int) (hQ : w.cell? ⟨Q, 0, none⟩ = some (.bool neg)) : Calls Try.prog 103 #[.int .i64 p, .int .i64 q, .pointer (some ⟨Q, 0, none⟩)] w (RetW (.int .i64 (if neg = true then q else p)) w) := by
  have hl := blt hQ
  cases neg
  all_goals
    go_enter Try.func103, Try.ntmps103
    go_wp2_with fail
    go_ret
    exact ⟨rfl, rfl⟩

theorem pk_ex (neg : Bool) (w : World) (Q : Nat) (p q : Int) (hQ : w.cell? ⟨Q, 0, none⟩ = some (.bool neg)) : Calls Try.prog 103 #[.int .i64 p, .int .i64 q, .pointer (some ⟨Q, 0, none⟩)] w (fun e w' => ∃ r : Int, e = .returned (.int .i64 r) ∧ r = (if neg = true then q else p) ∧ w' = w) :=
  (pk_any neg w Q p q hQ).mono fun _ _ h => ⟨_, h.1, rfl, h.2⟩
theorem own_one_at {B b' : Nat} {w : World} {t : Tr} {x y z : Value} {ty : TypeId} (h : NewTr B t (.agg #[x, y, z]) w) (hb : b' = w.heap.size) : OwnArg B (w.alloc (.cells #[x, y, z] ty)) [t] (some ⟨b', 0, none⟩) := by
  subst hb; exact own_one h

set_option maxRecDepth 100000 in
set_option maxHeartbeats 1000000 in
theorem kd_of (neg : Bool) (k v : Int) (kids : List Tr) (w : World) (a : Option Addr) (c P Q : Nat) (bA : Box3 w P (.int .i64 k) (.int .i64 v) (.slice a kids.length c)) (bN : Box1 w Q (.bool neg)) (hks : TrsIn Any w kids a) (_ : kids.length ≤ c) (hc2 : c ≤ maxLen) (i : Nat) (hi : i < kids.length) (t : Tr) (ht : kids[i]? = some t) (m : Nat) (hs : formL.shape t m = true) (h : NoT t) :
    Calls Try.prog 102 #[.int .i64 i, .pointer (some ⟨P, 0, none⟩), .pointer (some ⟨Q, 0, none⟩)] w (RetP (NewTr w.heap.size (nfT t neg)) w) := by
  obtain ⟨b, o, d0, d1, d2, t', rfl, gb, g0, g1, g2, hT⟩ := TrsIn_round hks (Below.refl _ w) hi
  obtain rfl : t = t' := by have := hT.out.2.2.2; rw [ht] at this; exact Option.some.inj this
  have hT1 := hid hT.out.1
  have hi2 : (i : Int) < (kids.length : Int) := by omega
  have HS := hid hs
  have HC := hid hc2
  unfold maxLen at hc2
  clear hT hks ht hs
  go_enter Try.func102, Try.ntmps102
  go_wp2_with fail
  refine wp_gen (fun W => Below w.heap.size w W ∧ Box3 W w.heap.size (.int .i64 0) (.int .i64 0) (.slice none 0 0)) ⟨(by repeat (first | exact Below.refl _ _ | assumption | refine below_a ?_ _ | refine below_o ?_ _ | refine below_d ?_ | refine below_n ?_ _ | refine below_s ?_ (by first | (simp; done) | (simp; omega) | omega) _)), box3_new ..⟩ ?_
  rintro W ⟨BW, bz⟩
  have hzl := bz.1
  have hPl := bA.1
  have hQl := bN.1
  have HF := hid (fun w' (M : But W w.heap.size w') => (⟨(M.cell (by omega) (by omega)).trans ((BW.cell (p := ⟨P, 2, none⟩) hPl).trans bA.2.2.2.1), (M.cell (by omega) (by omega)).trans ((BW.cell (p := ⟨Q, 0, none⟩) hQl).trans bN.2.1),
    (M.cell (by omega) (by omega)).trans ((BW.cell (p := ⟨b, o + i * 3, none⟩) gb).trans g0), (M.cell (by omega) (by omega)).trans ((BW.cell (p := ⟨b, o + i * 3 + 1, none⟩) gb).trans g1), (M.cell (by omega) (by omega)).trans ((BW.cell (p := ⟨b, o + i * 3 + 2, none⟩) gb).trans g2)⟩ :
    w'.cell? ⟨P, 2, none⟩ = some (.slice (some ⟨b, o, none⟩) kids.length c) ∧ w'.cell? ⟨Q, 0, none⟩ = some (.bool neg) ∧ w'.cell? ⟨b, o + i * 3, none⟩ = some d0 ∧ w'.cell? ⟨b, o + i * 3 + 1, none⟩ = some d1 ∧ w'.cell? ⟨b, o + i * 3 + 2, none⟩ = some d2))
  go_region_held3 (fun w' => w'.cell? ⟨P, 2, none⟩ = some (.slice (some ⟨b, o, none⟩) kids.length c) ∧ w'.cell? ⟨Q, 0, none⟩ = some (.bool neg) ∧ w'.cell? ⟨b, o + i * 3, none⟩ = some d0 ∧ w'.cell? ⟨b, o + i * 3 + 1, none⟩ = some d1 ∧ w'.cell? ⟨b, o + i * 3 + 2, none⟩ = some d2)
    (first | (refine HF.out _ ?_; (repeat (first | exact But.refl _ _ | (refine But.of ?_; assumption) | refine but_a ?_ _ | refine but_d ?_ | refine but_s ?_ _)); done) | go_keep)
    ((go_at_call 86; refine (h m neg _ _ HS.out (TrIn_below (below_next BW (by repeat (first | exact Below.refl _ _ | assumption | refine below_a ?_ _ | refine below_o ?_ _ | refine below_d ?_ | refine below_n ?_ _ | refine below_s ?_ (by first | (simp; done) | (simp; omega) | omega) _))) hT1.out)).mono ?_; rintro e w1 ⟨u1, rfl, hn1, hb1⟩; obtain ⟨a1, n1, rfl⟩ := TrIn_shape hn1.any; have M1 := below_next (show Below W.heap.size W _ from (by repeat (first | exact Below.refl _ _ | assumption | refine below_a ?_ _ | refine below_o ?_ _ | refine below_d ?_ | refine below_n ?_ _ | refine below_s ?_ (by first | (simp; done) | (simp; omega) | omega) _))) hb1; have bz1 := box3_next M1 bz; obtain ⟨z0, z1, z2, z3, z4, z5, z6⟩ := bz1; clear hb1))
  all_goals
    have bz' := box3_next M1 bz
    have BB := hid (below_next BW M1)
    have HN := hid (hn1.mono (B' := w.heap.size + 1) (by simp; omega))
    clear bz M1 BW hn1
    go_wp2_with fail
    obtain ⟨y0, y1, y2, y3, _⟩ := box3_set2 (box3_set1 (box3_set0 bz' (.int .i64 (nfT t neg).kind)) (.int .i64 (nfT t neg).val)) (.slice a1 (nfT t neg).kids.length n1); refine bodyPost_ret (v := .agg #[.int .i64 (nfT t neg).kind, .int .i64 (nfT t neg).val, .slice a1 (nfT t neg).kids.length n1]) (by simp [results, Try.results102, go_sem, y1, y2, y3]) rfl ?_
    exact RetP.mk ((newTr_set3 HN.out (by omega) _ _ _).mono (by omega)) (below_set3 BB.out (by omega) _ _ _)

set_option maxRecDepth 100000 in
set_option maxHeartbeats 2000000 in
theorem no_leaf (k v : Int) (hk : k = 1 ∨ k = 2) : NoT (.mk k v []) := by
  intro n neg w x hs hx
  clear hs
  rw [TrIn_mk] at hx
  obtain ⟨a, n', c, rfl, hk1, hv, rfl, hc, hc2, hks⟩ := hx
  simp only [List.length_nil] at hc ⊢
  clear hks
  have E := hid (show nfT (.mk k v []) neg = if neg = true then .mk 3 0 [.mk k v []] else .mk k v [] by simp [nfT, nfNode, hk])
  generalize nfT (.mk k v []) neg = res at E ⊢
  have e3 : (k == 3) = false := by rcases hk with rfl | rfl <;> rfl
  have e4 : (k == 4) = false := by rcases hk with rfl | rfl <;> rfl
  have e5 : (k == 5) = false := by rcases hk with rfl | rfl <;> rfl
  have e6 : (k == 6) = false := by rcases hk with rfl | rfl <;> rfl
  have e7 : (k == 7) = false := by rcases hk with rfl | rfl <;> rfl
  have e8 : (k == 8) = false := by rcases hk with rfl | rfl <;> rfl
  have e9 : (k == 9) = false := by rcases hk with rfl | rfl <;> rfl
  have e10 : (k == 10) = false := by rcases hk with rfl | rfl <;> rfl
  clear hk
  go_enter Try.func86, Try.ntmps86
  go_wp2_with fail
  refine (mk_any 1 (by unfold i64; omega) [] _ none 0 (w.heap.size + 3) (.inl rfl) (by simp) (by simp) (by simp) (by simp)).mono ?_
  rintro e w1 ⟨u1, rfl, hn1, hb1⟩
  obtain ⟨a1, c1, rfl⟩ := tru_parts hn1
  have bA := box3_next hb1 (box3_next (below_alloc _ _) (box3_next (below_alloc _ _) (box3_new w (.int .i64 k) (.int .i64 v) (.slice a 0 c) 29)))
  have bN := box1_next hb1 (box1_next (below_alloc _ _) (box1_at (B := w.heap.size + 1) (a := .bool neg) (by simp)))
  have bz := box3_next hb1 (box3_at (B := w.heap.size + 1 + 1) (by simp))
  have B1 := below_next (show Below w.heap.size w _ from (by repeat (first | exact Below.refl _ _ | assumption | refine below_a ?_ _ | refine below_o ?_ _ | refine below_d ?_ | refine below_n ?_ _ | refine below_s ?_ (by first | (simp; done) | (simp; omega) | omega) _))) hb1
  have hs1 := bz.1
  clear hb1
  go_wp2_with fail
  refine (mk_any 3 (by unfold i64; omega) [truT] _ _ 1 (w.heap.size + 3) (own_one hn1) (by simp; omega) (by simp) (by simp [maxLen]) (by simp)).mono ?_
  rintro e w2 ⟨u2, rfl, hn2, hb2⟩
  obtain ⟨a2, c2, rfl⟩ := fls_parts hn2
  replace hb2 := below_next (below_alloc _ _) hb2
  replace bA := box3_next hb2 bA
  replace bN := box1_next hb2 bN
  replace bz := box3_next hb2 bz
  replace B1 := below_next B1 hb2
  clear hb2 hn1 hs1
  go_upto_region 2 with fail
  refine wp_gen (fun W => Below w.heap.size w W ∧ Box3 W w.heap.size (.int .i64 k) (.int .i64 v) (.slice a 0 c) ∧ Box1 W (w.heap.size + 1) (.bool neg) ∧ Box3 W (w.heap.size + 1 + 1) (.int .i64 0) (.int .i64 0) (.slice none 0 0) ∧ (w.heap.size + 1 + 1 < w2.heap.size ∧ Box3 W w2.heap.size (.int .i64 3) (.int .i64 0) (.slice a2 1 c2)) ∧ NewTr (w.heap.size + 3) flsT (.agg #[.int .i64 3, .int .i64 0, .slice a2 1 c2]) W) ⟨below_a B1 _, box3_next (below_alloc _ _) bA, box1_next (below_alloc _ _) bN, box3_next (below_alloc _ _) bz, ⟨bz.1, box3_new ..⟩, hn2.below (below_alloc _ _)⟩ ?_
  rintro W ⟨BW, bA, bN, bz, ⟨hlF, bF⟩, hnF⟩
  clear B1 hn2
  have hzl := bz.1
  have bA0 := bA
  obtain ⟨p0, p1, p2, p3, p4⟩ := bA
  obtain ⟨q0, q1, q2⟩ := bN
  cases neg
  · have E' := E.out
    simp at E'
    have E'' := hid E'
    clear E E' bF hnF
    have bz' := bz
    obtain ⟨z0, z1, z2, z3, z4, z5, z6⟩ := bz
    have hBW := hid BW
    clear BW
    go_wp2_with fail
    have HY := fun o => box3_next (below_alloc _ o) (box3_set2 (box3_set1 (box3_set0 bz' (.int .i64 k)) (.int .i64 v)) (.slice none 0 0))
    have y1 := fun o => (HY o).2.1
    have y2 := fun o => (HY o).2.2.1
    have y3 := fun o => (HY o).2.2.2.1
    refine bodyPost_ret (v := .agg #[.int .i64 k, .int .i64 v, .slice none 0 0]) (by simp [results, Try.results86, go_sem, y1, y2, y3]) rfl ?_
    rw [E''.out]
    exact RetP.mk (leaf_new _ _ hk1 hv) (below_a (below_set3 hBW.out (by omega) _ _ _) _)
  · have E' := E.out
    simp at E'
    have E'' := hid E'
    clear E E' bF hnF
    go_wp2_with fail
    refine (mk_any 3 (by unfold i64; omega) [.mk k v []] _ _ 1 (w.heap.size + 3) (own_one_at (leaf_new _ _ hk1 hv) (by simp)) (by simp; omega) (by simp) (by simp [maxLen]) (by simp)).mono ?_
    rintro e w5 ⟨u5, rfl, hn5, hb5⟩
    obtain ⟨a5, c5, rfl⟩ := TrIn_shapeMk hn5.any
    simp only [List.length_cons, List.length_nil, Nat.zero_add] at hn5 ⊢
    replace hb5 := below_next (below_alloc _ _) (below_next (below_alloc _ _) hb5)
    have bz' := box3_next hb5 bz
    have bz2 := bz'
    obtain ⟨z0, z1, z2, z3, z4, z5, z6⟩ := bz2
    have hBW := hid (below_next BW hb5)
    have HN := hid hn5
    clear BW hb5 hn5 bz
    go_wp2_with fail
    obtain ⟨y0, y1, y2, y3, _⟩ := box3_set2 (box3_set1 (box3_set0 bz' (.int .i64 3)) (.int .i64 0)) (.slice a5 1 c5); refine bodyPost_ret (v := .agg #[.int .i64 3, .int .i64 0, .slice a5 1 c5]) (by simp [results, Try.results86, go_sem, y1, y2, y3]) rfl ?_
    rw [E''.out]
    exact RetP.mk ((newTr_set3 HN.out (by omega) _ _ _).mono (by omega)) (below_set3 hBW.out (by omega) _ _ _)

theorem own_two {B b' : Nat} {w : World} {t u : Tr} {x y z x' y' z' : Value} {ty : TypeId} (h : Two B t u (.agg #[x, y, z]) (.agg #[x', y', z']) w) (hb : b' = w.heap.size) : OwnArg B (w.alloc (.cells #[x, y, z, x', y', z'] ty)) [t, u] (some ⟨b', 0, none⟩) := by
  obtain ⟨f, bs, h1, h2, h3, _⟩ := h.rows (ty := ty) hb
  exact .inr ⟨b', f, bs, rfl, h1, h2, h3⟩

set_option maxRecDepth 100000 in
set_option maxHeartbeats 4000000 in
theorem no_two (k v : Int) (hk : k = 4 ∨ k = 5 ∨ k = 7 ∨ k = 8) (t u : Tr) (h : NoT t) (h' : NoT u) : NoT (.mk k v [t, u]) := by
  intro n neg w x hs hx
  obtain ⟨m, rfl, _, _, _, _, _, h7⟩ := formL.shape_mk hs
  have hst := hid (h7 t (by simp))
  have hsu := hid (h7 u (by simp))
  rw [TrIn_mk] at hx
  obtain ⟨a, n', c, rfl, hk1, hv, rfl, hc, hc2, hks⟩ := hx
  simp only [List.length_cons, List.length_nil, Nat.zero_add, Nat.reduceAdd] at hc ⊢
  have E := hid (show nfT (.mk k v [t, u]) neg = .mk (if neg = true then dualK k else k) 0 [nfT t neg, nfT u neg] by rcases hk with rfl | rfl | rfl | rfl <;> simp [nfT, nfL, nfNode])
  clear hs h7
  generalize nfT (.mk k v [t, u]) neg = res at E ⊢
  rcases hk with rfl | rfl | rfl | rfl
  all_goals
    simp only [dualK] at E
    simp at E
    go_enter Try.func86, Try.ntmps86
    go_wp2_with fail
    refine (mk_any 1 (by unfold i64; omega) [] _ none 0 (w.heap.size + 3) (.inl rfl) (by simp) (by simp) (by simp) (by simp)).mono ?_
    rintro e w1 ⟨u1, rfl, hn1, hb1⟩
    obtain ⟨a1, c1, rfl⟩ := tru_parts hn1
    have bA := box3_next hb1 (box3_next (below_alloc _ _) (box3_next (below_alloc _ _) (box3_new w (.int .i64 _) (.int .i64 v) (.slice a 2 c) 29)))
    have bN := box1_next hb1 (box1_next (below_alloc _ _) (box1_at (B := w.heap.size + 1) (a := .bool neg) (by simp)))
    have bz := box3_next hb1 (box3_at (B := w.heap.size + 1 + 1) (by simp))
    have B1 := below_next (show Below w.heap.size w _ from (by repeat (first | exact Below.refl _ _ | assumption | refine below_a ?_ _ | refine below_o ?_ _ | refine below_d ?_ | refine below_n ?_ _ | refine below_s ?_ (by first | (simp; done) | (simp; omega) | omega) _))) hb1
    have hs1 := bz.1
    clear hb1
    go_wp2_with fail
    refine (mk_any 3 (by unfold i64; omega) [truT] _ _ 1 (w.heap.size + 3) (own_one hn1) (by simp; omega) (by simp) (by simp [maxLen]) (by simp)).mono ?_
    rintro e w2 ⟨u2, rfl, hn2, hb2⟩
    obtain ⟨a2, c2, rfl⟩ := fls_parts hn2
    replace hb2 := below_next (below_alloc _ _) hb2
    replace bA := box3_next hb2 bA
    replace bN := box1_next hb2 bN
    replace bz := box3_next hb2 bz
    replace B1 := below_next B1 hb2
    clear hb2 hn1 hs1
    go_upto_region 2 with fail
    refine wp_gen (fun W => Below w.heap.size w W ∧ Box3 W w.heap.size (.int .i64 _) (.int .i64 v) (.slice a 2 c) ∧ Box1 W (w.heap.size + 1) (.bool neg) ∧ Box3 W (w.heap.size + 1 + 1) (.int .i64 0) (.int .i64 0) (.slice none 0 0) ∧ (w.heap.size + 1 + 1 < w2.heap.size ∧ Box3 W w2.heap.size (.int .i64 3) (.int .i64 0) (.slice a2 1 c2)) ∧ NewTr (w.heap.size + 3) flsT (.agg #[.int .i64 3, .int .i64 0, .slice a2 1 c2]) W) ⟨below_a B1 _, box3_next (below_alloc _ _) bA, box1_next (below_alloc _ _) bN, box3_next (below_alloc _ _) bz, ⟨bz.1, box3_new ..⟩, hn2.below (below_alloc _ _)⟩ ?_
    rintro W ⟨BW, bA, bN, bz, ⟨hlF, bF⟩, hnF⟩
    clear B1 hn2
    have hzl := bz.1
    have bA0 := bA
    obtain ⟨p0, p1, p2, p3, p4⟩ := bA
    clear bF hnF
    go_wp2_with fail
    refine (pk_ex neg _ (w.heap.size + 1) _ _ bN.2.1).mono ?_
    rintro e _ ⟨kk, rfl, hr, rfl⟩
    rw [← hr] at E
    have hkk : i64 kk := by rw [hr]; split <;> (unfold i64; omega)
    have E' := hid E
    clear hr E
    go_wp2_with fail
    refine (kd_of neg _ v [t, u] _ a c w.heap.size (w.heap.size + 1) bA0 bN (TrsIn_below BW hks) hc hc2 0 (by simp) t rfl m hst.out h).mono ?_
    rintro e w3 ⟨u3, rfl, hn3, hb3⟩
    obtain ⟨a3, c3, rfl⟩ := TrIn_shape hn3.any
    replace bA0 := box3_next hb3 bA0
    replace bN := box1_next hb3 bN
    replace bz := box3_next hb3 bz
    replace BW := below_next BW hb3
    have s3 := hb3.size
    clear hb3
    go_wp2_with fail
    refine (kd_of neg _ v [t, u] _ a c w.heap.size (w.heap.size + 1) bA0 bN (TrsIn_below BW hks) hc hc2 1 (by simp) u rfl m hsu.out h').mono ?_
    rintro e w4 ⟨u4, rfl, hn4, hb4⟩
    obtain ⟨a4, c4, rfl⟩ := TrIn_shape hn4.any
    have hT := Two.mk hn3 hn4 (Nat.le_refl _) hb4 s3
    have s4 := hb4.size
    replace bz := box3_next hb4 bz
    replace BW := below_next BW hb4
    clear hb4 hn3 hn4 bA0 bN
    have HO := own_two (ty := 29) hT rfl
    go_wp2_with fail
    refine (mk_any kk hkk [nfT t neg, nfT u neg] _ _ 2 _ HO (by simp; omega) (by simp) (by simp [maxLen]) (by simp)).mono ?_
    rintro e w5 ⟨u5, rfl, hn5, hb5⟩
    obtain ⟨a5, c5, rfl⟩ := TrIn_shapeMk hn5.any
    simp only [List.length_cons, List.length_nil, Nat.zero_add, Nat.reduceAdd] at hn5 ⊢
    replace hb5 := below_next (below_alloc _ _) hb5
    have bz' := box3_next hb5 bz
    have bz2 := bz'
    obtain ⟨z0, z1, z2, z3, z4, z5, z6⟩ := bz2
    have hBW := hid (below_next BW hb5)
    have HN := hid hn5
    clear BW hb5 hn5 bz HO hT
    go_wp2_with fail
    obtain ⟨y0, y1, y2, y3, _⟩ := box3_set2 (box3_set1 (box3_set0 bz' (.int .i64 kk)) (.int .i64 0)) (.slice a5 2 c5); refine bodyPost_ret (v := .agg #[.int .i64 kk, .int .i64 0, .slice a5 2 c5]) (by simp [results, Try.results86, go_sem, y1, y2, y3]) rfl ?_
    rw [E'.out]
    exact RetP.mk ((newTr_set3 HN.out (by omega) _ _ _).mono (by omega)) (below_set3 hBW.out (by omega) _ _ _)

end Formula
end Go.Proofs.Ytobmgfgefccnoaa
