/- NegateFormula, of the program and of the reference: what it returns, for every formula. Conditions: those of each contract. -/
import Derived.Test.YtobmgfgefccnoaaFormulaMk
import Derived.Test.YtobmgfgefccnoaaBox
import Derived.Test.YtobmgfgefccnoaaTxtPlain
import Derived.Test.YtobmgfgefccnoaaFormulaCopy
import Derived.Test.YtobmgfgefccnoaaFormulaDraw
import Derived.Test.YtobmgfgefccnoaaFormulaSpecVB
import Derived.Test.YtobmgfgefccnoaaFormulaImplN
import Derived.Test.YtobmgfgefccnoaaKidsPlain
namespace Go.Proofs.Ytobmgfgefccnoaa
open Go.RowKit
namespace Formula

/-- a tree of one's own, and whether there is one -/
def RetT (B : Nat) (t : Tr) (b : Bool) (w : World) (e : Ending) (w' : World) : Prop := ∃ v, e = .returned (.tuple #[v, .bool b]) ∧ NewTr B t v w' ∧ Below w.heap.size w w'
def zeroT : Tr := .mk 0 0 []
theorem zero_new (B : Nat) (w : World) : NewTr B zeroT (.agg #[.int .i64 0, .int .i64 0, .slice none 0 0]) w := leaf_new _ _ (by unfold i64; omega) (by unfold i64; omega)

/-- the negation -/
def negT : Tr → Tr
  | .mk k v kids => if k = 3 then kids.headD zeroT else .mk 3 0 [.mk k v kids]
def negOk (t : Tr) : Bool := formL.valid t && formL.valid (negT t)
def negV (t : Tr) : Tr := if negOk t = true then negT t else zeroT
theorem neg_kid {k v : Int} {kids : List Tr} (h : formL.valid (.mk k v kids) = true) (hk : k = 3) : ∃ a, kids = [a] ∧ formL.valid a = true := by
  have hs : formL.shape (.mk k v kids) (6 : Nat) = true := by rw [Lang.valid, Bool.and_eq_true] at h; exact h.1
  obtain ⟨m, _, _, _, _, _, h6, _⟩ := formL.shape_mk hs
  subst hk
  obtain ⟨a, rfl⟩ := len1 (by simpa [formL_ar] using h6)
  exact ⟨a, rfl, formL.valid_kid h (by simp)⟩
theorem small_valid {t : Tr} (h : formL.valid t = true) : nodes t ≤ 12 := by rw [Lang.valid, Bool.and_eq_true, decide_eq_true_eq, formL_N] at h; exact h.2

theorem negV_small (t : Tr) : nodes (negV t) ≤ 1000 := by
  unfold negV
  split
  · rename_i h
    rw [negOk, Bool.and_eq_true] at h
    have := small_valid h.2
    omega
  · simp [zeroT, nodes, nodesL]
/-- one node of one's own, just laid -/
theorem own_one {B : Nat} {w : World} {t : Tr} {x y z : Value} {ty : TypeId} (h : NewTr B t (.agg #[x, y, z]) w) : OwnArg B (w.alloc (.cells #[x, y, z] ty)) [t] (some ⟨w.heap.size, 0, none⟩) := by
  obtain ⟨bs, h1, h2⟩ := h
  refine .inr ⟨w.heap.size, fun i => #[x, y, z].getD i undef, bs, rfl, row_three _ _ _ _ _, ?_, h2⟩
  rw [TrsOwn_cons]
  exact ⟨bs, [], by simp, by simp, by simpa using TrOwn_below (below_alloc _ _) h1, (TrsOwn_nil ..).2 rfl⟩

set_option maxHeartbeats 1000000 in
theorem neg_any (t : Tr) (w : World) (x : Value) (hx : TrIn Any w t x) (hv : formL.valid t = true) (hs : Small t) : Calls Try.prog 48 #[x] w (RetP (NewTr w.heap.size (negT t)) w) := by
  have hx0 := hx
  cases t with
  | mk k v kids =>
  rw [TrIn_mk] at hx0
  obtain ⟨a, n, c, rfl, hk, hv2, rfl, hc, hc2, hks⟩ := hx0
  by_cases h3 : k = 3
  · obtain ⟨t, rfl, hvt⟩ := neg_kid hv h3
    subst h3
    have E := hid (show negT (.mk 3 v [t]) = t from rfl)
    rw [TrsIn_cons] at hks
    obtain ⟨b, o, c0, c1, c2, rfl, _, g0, g1, g2, hT, _⟩ := hks
    have hb := blt g0
    have hst : Small t := hs.2.1
    simp only [List.length_cons, List.length_nil] at hc ⊢
    clear hs hv
    go_enter Try.func48, Try.ntmps48
    go_wp2_with fail
    refine (cp_any t _ _ (TrIn_below (by repeat (first | exact Below.refl _ _ | assumption | refine below_a ?_ _ | refine below_o ?_ _ | refine below_d ?_ | refine below_n ?_ _ | refine below_s ?_ (by first | (simp; done) | (simp; omega) | omega) _)) hT) hst).mono ?_
    rintro e w1 ⟨u, rfl, hn, hb1⟩
    have hn2 := hid hn
    obtain ⟨a1, c4, rfl⟩ := TrIn_shape hn.any
    have bP := box3_next hb1 (box3_at (B := w.heap.size + 1) (by simp))
    have bP' := bP
    obtain ⟨z0, z1, z2, z3, z4, z5, z6⟩ := bP
    have B1 := hid (below_next (show Below w.heap.size w _ from (by repeat (first | exact Below.refl _ _ | assumption | refine below_a ?_ _ | refine below_o ?_ _ | refine below_d ?_ | refine below_n ?_ _ | refine below_s ?_ (by first | (simp; done) | (simp; omega) | omega) _))) hb1)
    clear hn hb1
    go_wp2_with fail
    obtain ⟨y0, y1, y2, y3, _⟩ := box3_set2 (box3_set1 (box3_set0 bP' (.int .i64 t.kind)) (.int .i64 t.val)) (.slice a1 t.kids.length c4); refine bodyPost_ret (v := .agg #[.int .i64 t.kind, .int .i64 t.val, .slice a1 t.kids.length c4]) (by simp [results, Try.results48, go_sem, y1, y2, y3]) rfl ?_
    rw [E.out]
    exact RetP.mk ((newTr_set3 hn2.out (by simp) _ _ _).mono (by simp; omega)) (below_set3 B1.out (by omega) _ _ _)
  · have E := hid (show negT (.mk k v kids) = .mk 3 0 [.mk k v kids] by simp [negT, h3])
    have e3 : (k == 3) = false := by simpa using h3
    clear hv
    go_enter Try.func48, Try.ntmps48
    go_wp2_with fail
    refine (cp_any (.mk k v kids) _ _ (TrIn_below (by repeat (first | exact Below.refl _ _ | assumption | refine below_a ?_ _ | refine below_o ?_ _ | refine below_d ?_ | refine below_n ?_ _ | refine below_s ?_ (by first | (simp; done) | (simp; omega) | omega) _)) hx) hs).mono ?_
    rintro e w1 ⟨u, rfl, hn, hb1⟩
    obtain ⟨a1, c1, rfl⟩ := TrIn_shapeMk hn.any
    have hs1 := hb1.size
    simp only [World.size_alloc] at hs1
    have HO := own_one (ty := 29) (hn.mono (B' := w.heap.size + 2) (by simp))
    have bP := box3_next (below_alloc w1 (.cells #[.int .i64 k, .int .i64 v, .slice a1 kids.length c1] 29)) (box3_next hb1 (box3_at (B := w.heap.size + 1) (by simp)))
    have B1 := below_a (below_next (show Below w.heap.size w _ from (by repeat (first | exact Below.refl _ _ | assumption | refine below_a ?_ _ | refine below_o ?_ _ | refine below_d ?_ | refine below_n ?_ _ | refine below_s ?_ (by first | (simp; done) | (simp; omega) | omega) _))) hb1) (.cells #[.int .i64 k, .int .i64 v, .slice a1 kids.length c1] 29)
    clear hn hb1
    go_wp2_with fail
    refine (mk_any 3 (by unfold i64; omega) [.mk k v kids] _ _ 1 (w.heap.size + 2) HO (by simp; omega) (by simp) (by simp [maxLen]) (by simp)).mono ?_
    rintro e w2 ⟨u, rfl, hn, hb⟩
    have hn2 := hid hn
    obtain ⟨a2, c2, rfl⟩ := TrIn_shapeMk hn.any
    simp only [List.length_cons, List.length_nil, Nat.zero_add] at hn2 ⊢
    replace bP := box3_next hb bP
    have bP' := bP
    obtain ⟨z0, z1, z2, z3, z4, z5, z6⟩ := bP
    have B2 := hid (below_next B1 hb)
    clear hn hb B1 HO
    go_wp2_with fail
    obtain ⟨y0, y1, y2, y3, _⟩ := box3_set2 (box3_set1 (box3_set0 bP' (.int .i64 3)) (.int .i64 0)) (.slice a2 1 c2); refine bodyPost_ret (v := .agg #[.int .i64 3, .int .i64 0, .slice a2 1 c2]) (by simp [results, Try.results48, go_sem, y1, y2, y3]) rfl ?_
    rw [E.out]
    exact RetP.mk ((newTr_set3 hn2.out (by simp) _ _ _).mono (by simp)) (below_set3 B2.out (by omega) _ _ _)

theorem RetT.mk {B : Nat} {t t' : Tr} {b b' : Bool} {v : Value} {w w' : World} (h : NewTr B t' v w') (ht : t = t') (hb : b = b') (hw : Below w.heap.size w w') : RetT B t b w (.returned (.tuple #[v, .bool b'])) w' := ⟨v, by rw [hb], ht ▸ h, hw⟩

set_option maxHeartbeats 2000000 in
theorem negate_any (t : Tr) (w : World) (x : Value) (hx : TrIn Any w t x) (hs : Small t) : Calls Try.prog 17 #[x] w (RetT w.heap.size (negV t) (negOk t) w) := by
  have hx0 := hx
  obtain ⟨a, c, rfl⟩ := TrIn_shape hx
  have HT := hid (fun w hx => valid_any t w (.agg #[.int .i64 t.kind, .int .i64 t.val, .slice a t.kids.length c]) hx)
  cases hv : formL.valid t with
  | false =>
    have E := hid (show negV t = zeroT ∧ negOk t = false by simp [negV, negOk, hv])
    rw [hv] at HT
    clear hv
    go_enter Try.func17, Try.ntmps17
    go_wp2_with fail
    refine (HT.out _ (TrIn_below (by repeat (first | exact Below.refl _ _ | assumption | refine below_a ?_ _ | refine below_o ?_ _ | refine below_d ?_ | refine below_n ?_ _ | refine below_s ?_ (by first | (simp; done) | (simp; omega) | omega) _)) hx)).mono ?_
    rintro e w1 ⟨rfl, hb⟩
    have bP := box3_next hb (box3_at (B := w.heap.size + 1) (by simp))
    have bP' := bP
    obtain ⟨z0, z1, z2, z3, z4, z5, z6⟩ := bP
    have B1 := hid (below_next (show Below w.heap.size w _ from (by repeat (first | exact Below.refl _ _ | assumption | refine below_a ?_ _ | refine below_o ?_ _ | refine below_d ?_ | refine below_n ?_ _ | refine below_s ?_ (by first | (simp; done) | (simp; omega) | omega) _))) hb)
    clear hb
    go_wp2_with fail
    obtain ⟨y0, y1, y2, y3, _⟩ := box3_set2 (box3_set1 (box3_set0 bP' (.int .i64 0)) (.int .i64 0)) (.slice none 0 0); refine bodyPost_ret (v := .tuple #[.agg #[.int .i64 0, .int .i64 0, .slice none 0 0], .bool false]) (by simp [results, Try.results17, go_sem, y1, y2, y3]) rfl ?_
    exact RetT.mk (zero_new _ _) E.out.1 E.out.2 (below_set3 B1.out (by omega) _ _ _)
  | true =>
    have HN := hid (fun w hx => neg_any t w (.agg #[.int .i64 t.kind, .int .i64 t.val, .slice a t.kids.length c]) hx hv hs)
    have HV := hid (fun w x hx => valid_any (negT t) w x hx)
    cases hv2 : formL.valid (negT t) with
    | false =>
      have E := hid (show negV t = zeroT ∧ negOk t = false by simp [negV, negOk, hv2])
      rw [hv] at HT
      rw [hv2] at HV
      clear hv hv2
      go_enter Try.func17, Try.ntmps17
      go_wp2_with fail
      refine (HT.out _ (TrIn_below (by repeat (first | exact Below.refl _ _ | assumption | refine below_a ?_ _ | refine below_o ?_ _ | refine below_d ?_ | refine below_n ?_ _ | refine below_s ?_ (by first | (simp; done) | (simp; omega) | omega) _)) hx)).mono ?_
      rintro e w1 ⟨rfl, hb⟩
      have bA := box3_next hb (box3_next (below_alloc _ _) (box3_new w (.int .i64 t.kind) (.int .i64 t.val) (.slice a t.kids.length c) 29))
      have bP := box3_next hb (box3_at (B := w.heap.size + 1) (by simp))
      have B1 := below_next (show Below w.heap.size w _ from (by repeat (first | exact Below.refl _ _ | assumption | refine below_a ?_ _ | refine below_o ?_ _ | refine below_d ?_ | refine below_n ?_ _ | refine below_s ?_ (by first | (simp; done) | (simp; omega) | omega) _))) hb
      clear hb
      go_wp2_with fail
      refine (HN.out _ (TrIn_below B1 hx)).mono ?_
      rintro e w2 ⟨u, rfl, hn, hb⟩
      replace bP := box3_next hb bP
      replace B1 := below_next B1 hb
      clear hb
      go_wp2_with fail
      refine (HV.out _ _ hn.any).mono ?_
      rintro e w3 ⟨rfl, hb⟩
      replace bP := box3_next hb bP
      replace B1 := hid (below_next B1 hb)
      have bP' := bP
      obtain ⟨z0, z1, z2, z3, z4, z5, z6⟩ := bP
      clear hb hn
      go_wp2_with fail
      obtain ⟨y0, y1, y2, y3, _⟩ := box3_set2 (box3_set1 (box3_set0 bP' (.int .i64 0)) (.int .i64 0)) (.slice none 0 0); refine bodyPost_ret (v := .tuple #[.agg #[.int .i64 0, .int .i64 0, .slice none 0 0], .bool false]) (by simp [results, Try.results17, go_sem, y1, y2, y3]) rfl ?_
      exact RetT.mk (zero_new _ _) E.out.1 E.out.2 (below_set3 B1.out (by omega) _ _ _)
    | true =>
      have E := hid (show negV t = negT t ∧ negOk t = true by simp [negV, negOk, hv, hv2])
      rw [hv] at HT
      rw [hv2] at HV
      clear hv hv2
      go_enter Try.func17, Try.ntmps17
      go_wp2_with fail
      refine (HT.out _ (TrIn_below (by repeat (first | exact Below.refl _ _ | assumption | refine below_a ?_ _ | refine below_o ?_ _ | refine below_d ?_ | refine below_n ?_ _ | refine below_s ?_ (by first | (simp; done) | (simp; omega) | omega) _)) hx)).mono ?_
      rintro e w1 ⟨rfl, hb⟩
      have bA := box3_next hb (box3_next (below_alloc _ _) (box3_new w (.int .i64 t.kind) (.int .i64 t.val) (.slice a t.kids.length c) 29))
      have bP := box3_next hb (box3_at (B := w.heap.size + 1) (by simp))
      have B1 := below_next (show Below w.heap.size w _ from (by repeat (first | exact Below.refl _ _ | assumption | refine below_a ?_ _ | refine below_o ?_ _ | refine below_d ?_ | refine below_n ?_ _ | refine below_s ?_ (by first | (simp; done) | (simp; omega) | omega) _))) hb
      clear hb
      go_wp2_with fail
      refine (HN.out _ (TrIn_below B1 hx)).mono ?_
      rintro e w2 ⟨u, rfl, hn, hb⟩
      replace bP := box3_next hb bP
      replace bA := box3_next hb bA
      replace B1 := below_next B1 hb
      clear hb
      go_wp2_with fail
      refine (HV.out _ _ hn.any).mono ?_
      rintro e w3 ⟨rfl, hb⟩
      replace bP := box3_next hb bP
      replace bA := box3_next hb bA
      replace B1 := below_next B1 hb
      clear hb hn
      go_wp2_with fail
      refine (HN.out _ (TrIn_below B1 hx)).mono ?_
      rintro e w4 ⟨u, rfl, hn, hb⟩
      have hP3 : w.heap.size + 1 < w3.heap.size := bP.1
      replace bP := box3_next hb bP
      replace B1 := hid (below_next B1 hb)
      obtain ⟨a5, c5, rfl⟩ := TrIn_shape hn.any
      have bP' := bP
      obtain ⟨z0, z1, z2, z3, z4, z5, z6⟩ := bP
      have HNN := hid hn
      clear hb hn
      go_wp2_with fail
      obtain ⟨y0, y1, y2, y3, _⟩ := box3_set2 (box3_set1 (box3_set0 bP' (.int .i64 (negT t).kind)) (.int .i64 (negT t).val)) (.slice a5 (negT t).kids.length c5); refine bodyPost_ret (v := .tuple #[.agg #[.int .i64 (negT t).kind, .int .i64 (negT t).val, .slice a5 (negT t).kids.length c5], .bool true]) (by simp [results, Try.results17, go_sem, y1, y2, y3]) rfl ?_
      exact RetT.mk ((newTr_set3 HNN.out hP3 _ _ _).mono (by omega)) E.out.1 E.out.2 (below_set3 B1.out (by omega) _ _ _)

end Formula
end Go.Proofs.Ytobmgfgefccnoaa
