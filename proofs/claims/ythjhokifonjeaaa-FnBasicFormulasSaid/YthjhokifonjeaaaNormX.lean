/- The program's NormalForm: what it returns, for every formula. Conditions: those of each contract. -/
import Derived.Test.YthjhokifonjeaaaNormJ
namespace Go.Proofs.Ythjhokifonjeaaa
open Go.RowKit
namespace Formula

set_option maxHeartbeats 2000000 in
theorem nform_any (t : Tr) (w : World) (x : Value) (hx : TrIn Any w t x) (hv : formL.valid t = true) : Calls Try.prog 49 #[x] w (RetT w.heap.size (normV t) (normOk t) w) := by
  have hx0 := hx
  obtain ⟨a, c, rfl⟩ := TrIn_shape hx
  have HV := hid (fun w x hx => valid_any (nfT t false) w x hx)
  have HP := hid (fun w hx => no_any t 6 false w (.agg #[.int .i64 t.kind, .int .i64 t.val, .slice a t.kids.length c]) (by rw [Lang.valid, Bool.and_eq_true] at hv; exact hv.1) hx)
  have hsm := hid (fun (h : formL.valid (nfT t false) = false) => (⟨by simp [normV, normOk, h], by simp [normOk, h]⟩ : normV t = zeroT ∧ normOk t = false))
  have hst := hid (fun (h : formL.valid (nfT t false) = true) => (⟨by simp [normV, normOk, h, hv], by simp [normOk, h, hv]⟩ : normV t = nfT t false ∧ normOk t = true))
  clear hv
  generalize nfT t false = Q at *
  go_enter Try.func49, Try.ntmps49
  go_wp2_with fail
  refine (HP.out _ (TrIn_below (by repeat (first | exact Below.refl _ _ | assumption | refine below_a ?_ _ | refine below_o ?_ _ | refine below_d ?_ | refine below_n ?_ _ | refine below_s ?_ (by first | (simp; done) | (simp; omega) | omega) _)) hx)).mono ?_
  rintro e w2 ⟨u, rfl, hn, hb⟩
  obtain ⟨a5, c5, rfl⟩ := TrIn_shape hn.any
  have bP := box3_next hb (box3_at (B := w.heap.size + 1) (by simp))
  have B1 := below_next (show Below w.heap.size w _ from (by repeat (first | exact Below.refl _ _ | assumption | refine below_a ?_ _ | refine below_o ?_ _ | refine below_d ?_ | refine below_n ?_ _ | refine below_s ?_ (by first | (simp; done) | (simp; omega) | omega) _))) hb
  simp only [World.size_alloc] at hn
  clear hb
  go_wp2_with fail
  refine (HV.out _ _ (TrIn_below (below_alloc _ _) hn.any)).mono ?_
  rintro e w3 ⟨rfl, hb⟩
  have bF := box3_next hb (box3_new w2 (.int .i64 Q.kind) (.int .i64 Q.val) (.slice a5 Q.kids.length c5) 25)
  replace hb := below_next (below_alloc _ _) hb
  replace bP := box3_next hb bP
  have HB1 := hid (below_next B1 hb)
  have HN := hid (hn.below hb)
  clear hb hn B1
  cases hv2 : formL.valid Q with
  | false =>
    have E := hid (hsm.out hv2)
    clear hv2 bF
    have bP' := bP
    obtain ⟨z0, z1, z2, z3, z4, z5, z6⟩ := bP
    go_wp2_with fail
    obtain ⟨y0, y1, y2, y3, _⟩ := box3_set2 (box3_set1 (box3_set0 bP' (.int .i64 0)) (.int .i64 0)) (.slice none 0 0); refine bodyPost_ret (v := .tuple #[.agg #[.int .i64 0, .int .i64 0, .slice none 0 0], .bool false]) (by simp [results, Try.results49, go_sem, y1, y2, y3]) rfl ?_
    exact RetT.mk (zero_new _ _) E.out.1 E.out.2 (below_set3 HB1.out (by omega) _ _ _)
  | true =>
    have E := hid (hst.out hv2)
    clear hv2
    have bP' := bP
    obtain ⟨z0, z1, z2, z3, z4, z5, z6⟩ := bP
    go_wp2_with fail
    obtain ⟨y0, y1, y2, y3, _⟩ := box3_set2 (box3_set1 (box3_set0 bP' (.int .i64 Q.kind)) (.int .i64 Q.val)) (.slice a5 Q.kids.length c5); refine bodyPost_ret (v := .tuple #[.agg #[.int .i64 Q.kind, .int .i64 Q.val, .slice a5 Q.kids.length c5], .bool true]) (by simp [results, Try.results49, go_sem, y1, y2, y3]) rfl ?_
    exact RetT.mk ((newTr_set3 HN.out (by omega) _ _ _).mono (by omega)) E.out.1 E.out.2 (below_set3 HB1.out (by omega) _ _ _)

set_option maxHeartbeats 2000000 in
theorem norm_any (t : Tr) (w : World) (x : Value) (hx : TrIn Any w t x) (_ : Small t) : Calls Try.prog 20 #[x] w (RetT w.heap.size (normV t) (normOk t) w) := by
  have hx0 := hx
  obtain ⟨a, c, rfl⟩ := TrIn_shape hx
  have HT := hid (fun w hx => valid_any t w (.agg #[.int .i64 t.kind, .int .i64 t.val, .slice a t.kids.length c]) hx)
  cases hv : formL.valid t with
  | false =>
    have E := hid (show normV t = zeroT ∧ normOk t = false by simp [normV, normOk, hv])
    rw [hv] at HT
    clear hv
    go_enter Try.func20, Try.ntmps20
    go_wp2_with fail
    refine (HT.out _ (TrIn_below (by repeat (first | exact Below.refl _ _ | assumption | refine below_a ?_ _ | refine below_o ?_ _ | refine below_d ?_ | refine below_n ?_ _ | refine below_s ?_ (by first | (simp; done) | (simp; omega) | omega) _)) hx)).mono ?_
    rintro e w1 ⟨rfl, hb⟩
    have bP := box3_next hb (box3_at (B := w.heap.size + 1) (by simp))
    have bP' := bP
    obtain ⟨z0, z1, z2, z3, z4, z5, z6⟩ := bP
    have B1 := hid (below_next (show Below w.heap.size w _ from (by repeat (first | exact Below.refl _ _ | assumption | refine below_a ?_ _ | refine below_o ?_ _ | refine below_d ?_ | refine below_n ?_ _ | refine below_s ?_ (by first | (simp; done) | (simp; omega) | omega) _))) hb)
    clear hb
    go_wp2_with fail
    obtain ⟨y0, y1, y2, y3, _⟩ := box3_set2 (box3_set1 (box3_set0 bP' (.int .i64 0)) (.int .i64 0)) (.slice none 0 0); refine bodyPost_ret (v := .tuple #[.agg #[.int .i64 0, .int .i64 0, .slice none 0 0], .bool false]) (by simp [results, Try.results20, go_sem, y1, y2, y3]) rfl ?_
    exact RetT.mk (zero_new _ _) E.out.1 E.out.2 (below_set3 B1.out (by omega) _ _ _)
  | true =>
    have HN := hid (fun w hx => nform_any t w (.agg #[.int .i64 t.kind, .int .i64 t.val, .slice a t.kids.length c]) hx hv)
    rw [hv] at HT
    clear hv
    generalize normV t = Q at *
    generalize normOk t = qb at *
    go_enter Try.func20, Try.ntmps20
    go_wp2_with fail
    refine (HT.out _ (TrIn_below (by repeat (first | exact Below.refl _ _ | assumption | refine below_a ?_ _ | refine below_o ?_ _ | refine below_d ?_ | refine below_n ?_ _ | refine below_s ?_ (by first | (simp; done) | (simp; omega) | omega) _)) hx)).mono ?_
    rintro e w1 ⟨rfl, hb⟩
    have bA := box3_next hb (box3_next (below_alloc _ _) (box3_new w (.int .i64 t.kind) (.int .i64 t.val) (.slice a t.kids.length c) 25))
    have bP := box3_next hb (box3_at (B := w.heap.size + 1) (by simp))
    have B1 := below_next (show Below w.heap.size w _ from (by repeat (first | exact Below.refl _ _ | assumption | refine below_a ?_ _ | refine below_o ?_ _ | refine below_d ?_ | refine below_n ?_ _ | refine below_s ?_ (by first | (simp; done) | (simp; omega) | omega) _))) hb
    clear hb
    go_wp2_with fail
    refine (HN.out _ (TrIn_below B1 hx)).mono ?_
    rintro e w2 ⟨u, rfl, hn, hb⟩
    obtain ⟨a5, c5, rfl⟩ := TrIn_shape hn.any
    have hP1 : w.heap.size + 1 < w1.heap.size := bP.1
    replace bP := box3_next hb bP
    have HB1 := hid (below_next B1 hb)
    have HQ := hid hn
    clear hb hn B1 bA
    have bP' := bP
    obtain ⟨z0, z1, z2, z3, z4, z5, z6⟩ := bP
    go_wp2_with fail
    obtain ⟨y0, y1, y2, y3, _⟩ := box3_set2 (box3_set1 (box3_set0 bP' (.int .i64 Q.kind)) (.int .i64 Q.val)) (.slice a5 Q.kids.length c5); refine bodyPost_ret (v := .tuple #[.agg #[.int .i64 Q.kind, .int .i64 Q.val, .slice a5 Q.kids.length c5], .bool qb]) (by simp [results, Try.results20, go_sem, y1, y2, y3]) rfl ?_
    exact RetT.mk ((newTr_set3 HQ.out hP1 _ _ _).mono (by omega)) rfl rfl (below_set3 HB1.out (by omega) _ _ _)

end Formula
end Go.Proofs.Ythjhokifonjeaaa
