/- The reference's NegateFormula: what it returns, for every formula. Conditions: those of each contract. -/
import Derived.Test.YtobmgfgefccnoaaNegF
namespace Go.Proofs.Ytobmgfgefccnoaa
open Go.RowKit
namespace Formula

theorem own_node {B k' : Nat} {k : Int} {w : World} {t : Tr} {x y z : Value} {ty : TypeId} (hk : i64 k) (h : NewTr B t (.agg #[x, y, z]) w) (hB : B ≤ w.heap.size) (hb : k' = w.heap.size) : NewTr B (.mk k 0 [t]) (.agg #[.int .i64 k, .int .i64 0, .slice (some ⟨k', 0, none⟩) 1 1]) (w.alloc (.cells #[x, y, z] ty)) := by
  subst hb
  obtain ⟨bs, h1, h2⟩ := h
  obtain ⟨bs', g1, g2⟩ := TrOwn_new (w := w.alloc (.cells #[x, y, z] ty)) (R := w.heap.size) (c := 1) (kids := [t]) (bs := bs) hk (show i64 0 by unfold i64; omega) (by simp) (by simp [maxLen]) (row_three w x y z ty)
    (by rw [TrsOwn_cons]; exact ⟨bs, [], by simp, by simp, by simpa using TrOwn_below (below_alloc _ _) h1, (TrsOwn_nil ..).2 rfl⟩) (fun e => by have := TrOwn_lt.1 _ _ _ h1 _ e; omega)
  exact ⟨bs', g1, fun b hb => by rcases g2 b hb with rfl | h; exact hB; exact h2 b h⟩

set_option maxHeartbeats 400000 in
theorem not_any (t : Tr) (w : World) (x : Value) (B : Nat) (h : NewTr B t x w) (hB : B ≤ w.heap.size) : Calls Try.prog 46 #[x] w (RetP (NewTr B (.mk 3 0 [t])) w) := by
  obtain ⟨a, c, rfl⟩ := TrIn_shape h.any
  have H := hid h
  clear h
  go_enter Try.func46, Try.ntmps46
  go_wp2_with fail
  refine bodyPost_ret (v := .agg #[.int .i64 3, .int .i64 0, .slice (some ⟨w.heap.size + 1 + 1, 0, none⟩) 1 1]) (by simp [results, Try.results46, go_sem]) rfl ?_
  exact RetP.mk (own_node (by unfold i64; omega) ((H.out.below (below_alloc _ _)).below (below_alloc _ _)) (by simp; omega) (by simp)) (by repeat (first | exact Below.refl _ _ | assumption | refine below_a ?_ _ | refine below_o ?_ _ | refine below_d ?_ | refine below_n ?_ _ | refine below_s ?_ (by first | (simp; done) | (simp; omega) | omega) _))

set_option maxHeartbeats 4000000 in
theorem specNegate_any (t : Tr) (w : World) (x : Value) (hx : TrIn Any w t x) (hs : Small t) : Calls Try.prog 16 #[x] w (RetT w.heap.size (negV t) (negOk t) w) := by
  have hx0 := hx
  cases t with
  | mk k v kids =>
  rw [TrIn_mk] at hx0
  obtain ⟨a, n, c, rfl, hk, hv3, rfl, hc, hc2, hks⟩ := hx0
  have HT := hid (fun w hx => specValid_any (.mk k v kids) w (.agg #[.int .i64 k, .int .i64 v, .slice a kids.length c]) hx)
  cases hv : formL.valid (.mk k v kids) with
  | false =>
    have E := hid (show negV (.mk k v kids) = zeroT ∧ negOk (.mk k v kids) = false by simp [negV, negOk, hv])
    rw [hv] at HT
    clear hv
    go_enter Try.func16, Try.ntmps16
    go_wp2_with fail
    refine (HT.out _ (TrIn_below (by repeat (first | exact Below.refl _ _ | assumption | refine below_a ?_ _ | refine below_o ?_ _ | refine below_d ?_ | refine below_n ?_ _ | refine below_s ?_ (by first | (simp; done) | (simp; omega) | omega) _)) hx)).mono ?_
    rintro e w1 ⟨rfl, hb⟩
    have bP := box3_next hb (box3_at (B := w.heap.size + 1) (by simp))
    have bP' := bP
    obtain ⟨z0, z1, z2, z3, z4, z5, z6⟩ := bP
    have B1 := hid (below_next (show Below w.heap.size w _ from (by repeat (first | exact Below.refl _ _ | assumption | refine below_a ?_ _ | refine below_o ?_ _ | refine below_d ?_ | refine below_n ?_ _ | refine below_s ?_ (by first | (simp; done) | (simp; omega) | omega) _))) hb)
    clear hb
    go_wp2_with fail
    obtain ⟨y0, y1, y2, y3, _⟩ := box3_set2 (box3_set1 (box3_set0 bP' (.int .i64 0)) (.int .i64 0)) (.slice none 0 0); refine bodyPost_ret (v := .tuple #[.agg #[.int .i64 0, .int .i64 0, .slice none 0 0], .bool false]) (by simp [results, Try.results16, go_sem, y1, y2, y3]) rfl ?_
    exact RetT.mk (zero_new _ _) E.out.1 E.out.2 (below_set3 B1.out (by omega) _ _ _)
  | true =>
    by_cases h3 : k = 3
    · obtain ⟨t, rfl, hvt⟩ := neg_kid hv h3
      subst h3
      have E := hid (show negV (.mk 3 v [t]) = t ∧ negOk (.mk 3 v [t]) = true by
        have : negOk (.mk 3 v [t]) = true := by simp [negOk, hv, negT, hvt]
        exact ⟨by simp [negV, this, negT], this⟩)
      rw [TrsIn_cons] at hks
      obtain ⟨b, o, c0, c1, c2, rfl, _, g0, g1, g2, hT, _⟩ := hks
      have hb0 := blt g0
      have hst : Small t := hs.2.1
      rw [hv] at HT
      clear hv hs hvt
      simp only [List.length_cons, List.length_nil, Nat.zero_add] at hc HT hx ⊢
      go_enter Try.func16, Try.ntmps16
      go_wp2_with fail
      refine (HT.out _ (TrIn_below (by repeat (first | exact Below.refl _ _ | assumption | refine below_a ?_ _ | refine below_o ?_ _ | refine below_d ?_ | refine below_n ?_ _ | refine below_s ?_ (by first | (simp; done) | (simp; omega) | omega) _)) hx)).mono ?_
      rintro e w1 ⟨rfl, hb⟩
      have bA := box3_next hb (box3_next (below_alloc _ _) (box3_new w (.int .i64 3) (.int .i64 v) (.slice (some ⟨b, o, none⟩) 1 c) 29))
      have bP := box3_next hb (box3_at (B := w.heap.size + 1) (by simp))
      have B1 := below_next (show Below w.heap.size w _ from (by repeat (first | exact Below.refl _ _ | assumption | refine below_a ?_ _ | refine below_o ?_ _ | refine below_d ?_ | refine below_n ?_ _ | refine below_s ?_ (by first | (simp; done) | (simp; omega) | omega) _))) hb
      clear hb
      obtain ⟨k0, k1, k2⟩ := cells_next B1 hb0 g0 g1 g2
      have hbb : b < w1.heap.size := Nat.lt_of_lt_of_le hb0 B1.size
      go_wp2_with fail
      refine (copy_any t _ _ (TrIn_below B1 hT) hst).mono ?_
      rintro e w2 ⟨u, rfl, hn0, hb⟩
      have hn := hn0.new
      obtain ⟨a5, c5, rfl⟩ := TrIn_shape hn.any
      have hP3 : w.heap.size + 1 < w1.heap.size := bP.1
      replace bP := box3_next hb bP
      replace B1 := hid (below_next B1 hb)
      have bP' := bP
      obtain ⟨z0, z1, z2, z3, z4, z5, z6⟩ := bP
      have HNN := hid hn
      clear hb hn hn0
      go_wp2_with fail
      obtain ⟨y0, y1, y2, y3, _⟩ := box3_set2 (box3_set1 (box3_set0 bP' (.int .i64 t.kind)) (.int .i64 t.val)) (.slice a5 t.kids.length c5); refine bodyPost_ret (v := .tuple #[.agg #[.int .i64 t.kind, .int .i64 t.val, .slice a5 t.kids.length c5], .bool true]) (by simp [results, Try.results16, go_sem, y1, y2, y3]) rfl ?_
      exact RetT.mk ((newTr_set3 HNN.out hP3 _ _ _).mono (by omega)) E.out.1 E.out.2 (below_set3 B1.out (by omega) _ _ _)
    · have e3 : (k == 3) = false := by simpa using h3
      have en : negT (.mk k v kids) = .mk 3 0 [.mk k v kids] := by simp [negT, h3]
      have HV := hid (fun w x hx => specValid_any (.mk 3 0 [.mk k v kids]) w x hx)
      have HC := hid (fun w hx => copy_any (.mk k v kids) w (.agg #[.int .i64 k, .int .i64 v, .slice a kids.length c]) hx hs)
      have EE := hid (show negV (.mk k v kids) = (if formL.valid (.mk 3 0 [.mk k v kids]) = true then .mk 3 0 [.mk k v kids] else zeroT) ∧ negOk (.mk k v kids) = formL.valid (.mk 3 0 [.mk k v kids]) by
        simp [negV, negOk, hv, en])
      rw [hv] at HT
      clear hv en
      go_enter Try.func16, Try.ntmps16
      go_wp2_with fail
      refine (HT.out _ (TrIn_below (by repeat (first | exact Below.refl _ _ | assumption | refine below_a ?_ _ | refine below_o ?_ _ | refine below_d ?_ | refine below_n ?_ _ | refine below_s ?_ (by first | (simp; done) | (simp; omega) | omega) _)) hx)).mono ?_
      rintro e w1 ⟨rfl, hb⟩
      have bA := box3_next hb (box3_next (below_alloc _ _) (box3_new w (.int .i64 k) (.int .i64 v) (.slice a kids.length c) 29))
      have bP := box3_next hb (box3_at (B := w.heap.size + 1) (by simp))
      have B1 := below_next (show Below w.heap.size w _ from (by repeat (first | exact Below.refl _ _ | assumption | refine below_a ?_ _ | refine below_o ?_ _ | refine below_d ?_ | refine below_n ?_ _ | refine below_s ?_ (by first | (simp; done) | (simp; omega) | omega) _))) hb
      clear hb
      go_wp2_with fail
      refine (HC.out _ (TrIn_below B1 hx)).mono ?_
      rintro e w2 ⟨u, rfl, hn0, hb⟩
      have hn := hn0.new
      have hP3 : w.heap.size + 1 < w1.heap.size := bP.1
      replace bP := box3_next hb bP
      replace B1 := below_next B1 hb
      have hw12 := hb.size
      clear hb hn0
      go_wp2_with fail
      refine (not_any _ _ _ w1.heap.size hn hw12).mono ?_
      rintro e w3 ⟨u, rfl, hn3, hb⟩
      obtain ⟨a5, c5, rfl⟩ := TrIn_shapeMk hn3.any
      simp only [List.length_cons, List.length_nil, Nat.zero_add] at hn3 ⊢
      replace bP := box3_next hb bP
      replace B1 := below_next B1 hb
      clear hb hn
      go_wp2_with fail
      refine (HV.out _ _ (TrIn_below (by repeat (first | exact Below.refl _ _ | assumption | refine below_a ?_ _ | refine below_o ?_ _ | refine below_d ?_ | refine below_n ?_ _ | refine below_s ?_ (by first | (simp; done) | (simp; omega) | omega) _)) hn3.any)).mono ?_
      rintro e w4 ⟨rfl, hb⟩
      have bO := box3_next hb (box3_new ..)
      replace hb := below_next (below_alloc ..) hb
      replace bP := box3_next hb bP
      replace B1 := hid (below_next B1 hb)
      have HNN := hid (hn3.below hb)
      clear hb hn3
      have bP' := bP
      obtain ⟨z0, z1, z2, z3, z4, z5, z6⟩ := bP
      cases hq : formL.valid (.mk 3 0 [.mk k v kids]) with
      | false =>
        have E := hid (show negV (.mk k v kids) = zeroT ∧ negOk (.mk k v kids) = false by rw [EE.out.1, EE.out.2, hq]; simp)
        clear hq EE
        go_wp2_with fail
        obtain ⟨y0, y1, y2, y3, _⟩ := box3_set2 (box3_set1 (box3_set0 bP' (.int .i64 0)) (.int .i64 0)) (.slice none 0 0); refine bodyPost_ret (v := .tuple #[.agg #[.int .i64 0, .int .i64 0, .slice none 0 0], .bool false]) (by simp [results, Try.results16, go_sem, y1, y2, y3]) rfl ?_
        exact RetT.mk (zero_new _ _) E.out.1 E.out.2 (below_set3 B1.out (by omega) _ _ _)
      | true =>
        have E := hid (show negV (.mk k v kids) = .mk 3 0 [.mk k v kids] ∧ negOk (.mk k v kids) = true by rw [EE.out.1, EE.out.2, hq]; simp)
        clear hq EE
        go_wp2_with fail
        obtain ⟨y0, y1, y2, y3, _⟩ := box3_set2 (box3_set1 (box3_set0 bP' (.int .i64 3)) (.int .i64 0)) (.slice a5 1 c5); refine bodyPost_ret (v := .tuple #[.agg #[.int .i64 3, .int .i64 0, .slice a5 1 c5], .bool true]) (by simp [results, Try.results16, go_sem, y1, y2, y3]) rfl ?_
        exact RetT.mk ((newTr_set3 HNN.out hP3 _ _ _).mono (by omega)) E.out.1 E.out.2 (below_set3 B1.out (by omega) _ _ _)

end Formula
end Go.Proofs.Ytobmgfgefccnoaa
