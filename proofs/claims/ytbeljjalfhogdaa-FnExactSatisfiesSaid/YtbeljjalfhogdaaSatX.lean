/- Satisfies, of the program and of the reference: what each returns. Conditions: those of each contract. -/
import Derived.Test.YtbeljjalfhogdaaEvalLS
import Derived.Test.YtbeljjalfhogdaaFormulaSpecVB
import Derived.Test.YtbeljjalfhogdaaFormulaImplN
namespace Go.Proofs.Ytbeljjalfhogdaa
open Go.RowKit
namespace Lasso

/-- are both arguments valid; is the formula satisfied -/
def satOk (s l : List Int) (t : Tr) : Bool := ok s l && formL.valid t
noncomputable def satV (s l : List Int) (t : Tr) : Bool := satOk s l t && sem (wordOf s l) t 0
theorem valid_shape {t : Tr} (h : formL.valid t = true) : formL.shape t (6 : Nat) = true := by
  rw [Lang.valid, Bool.and_eq_true] at h; exact h.1

set_option maxRecDepth 100000 in
set_option maxHeartbeats 4000000 in
theorem specSat_any (s l : List Int) (t : Tr) (w : World) (x y : Value) (hx : PairIn Any w s l x) (hy : TrIn Any w t y) : Calls Try.prog 14 #[x, y] w (Ret2 (.bool (satV s l t)) (.bool (satOk s l t)) w) := by
  have HX := hid hx
  have HY := hid hy
  have HV := hid (fun (w' : World) (M : Below w.heap.size w w') => specValid_any s l w' _ (HX.out.below M))
  have HF := hid (fun (w' : World) (M : Below w.heap.size w w') => Formula.specValid_any t w' y (TrIn_below M HY.out))
  have HE := hid (fun (h1 : ok s l = true) (h2 : formL.valid t = true) (w' : World) (M : Below w.heap.size w w') => ev_any s l h1 t 6 w' x y (valid_shape h2) (TrIn_below M HY.out) (HX.out.below M))
  have E := hid (show satOk s l t = (ok s l && formL.valid t) ∧ satV s l t = (satOk s l t && sem (wordOf s l) t 0) from ⟨rfl, rfl⟩)
  have HN := hid (fun (h1 : ok s l = true) => show 0 < s.length + l.length ∧ s.length + l.length ≤ 160 from by have := ok_len h1; omega)
  obtain ⟨a, b, c, d, rfl, _, _, _⟩ := hx
  obtain ⟨ak, ck, rfl⟩ := TrIn_shape hy
  clear hy
  cases ho : ok s l with
  | false =>
    have E2 := hid (show satOk s l t = false ∧ satV s l t = false by rw [E.out.2, E.out.1, ho]; simp)
    rw [ho] at HV
    clear ho HE E HN
    go_enter Try.func14, Try.ntmps14
    go_wp2_with fail
    refine (HV.out _ (by repeat (first | exact Below.refl _ _ | assumption | refine below_a ?_ _ | refine below_o ?_ _ | refine below_d ?_ | refine below_n ?_ _ | refine below_s ?_ (by first | (simp; done) | (simp; omega) | omega) _))).mono ?_
    rintro e w1 ⟨rfl, hb⟩
    go_wp2_with fail
    go_ret2
    exact Ret2.mk (by rw [E2.out.2]; rfl) (by rw [E2.out.1]; rfl) (below_next (by repeat (first | exact Below.refl _ _ | assumption | refine below_a ?_ _ | refine below_o ?_ _ | refine below_d ?_ | refine below_n ?_ _ | refine below_s ?_ (by first | (simp; done) | (simp; omega) | omega) _)) hb)
  | true =>
    cases hv : formL.valid t with
    | false =>
      have E2 := hid (show satOk s l t = false ∧ satV s l t = false by rw [E.out.2, E.out.1, hv]; simp)
      rw [ho] at HV
      rw [hv] at HF
      clear ho hv HE E HN
      go_enter Try.func14, Try.ntmps14
      go_wp2_with fail
      refine (HV.out _ (by repeat (first | exact Below.refl _ _ | assumption | refine below_a ?_ _ | refine below_o ?_ _ | refine below_d ?_ | refine below_n ?_ _ | refine below_s ?_ (by first | (simp; done) | (simp; omega) | omega) _))).mono ?_
      rintro e w1 ⟨rfl, hb⟩
      have b3 := box3_next hb (box3_at (w := w.alloc _) (B := w.heap.size + 1) (a := .int .i64 t.kind) (b := .int .i64 t.val) (c := .slice ak t.kids.length ck) (t := 29) (by simp))
      have B1 := hid (below_next (show Below w.heap.size w _ from below_next (below_alloc _ _) (below_alloc _ _)) hb)
      clear hb
      go_wp2_with fail
      refine (HF.out _ B1.out).mono ?_
      rintro e w2 ⟨rfl, hb⟩
      go_wp2_with fail
      go_ret2
      exact Ret2.mk (by rw [E2.out.2]; rfl) (by rw [E2.out.1]; rfl) (below_next B1.out hb)
    | true =>
      have E2 := hid (show satOk s l t = true ∧ satV s l t = sem (wordOf s l) t 0 by rw [E.out.2, E.out.1, hv, ho]; simp)
      have HEE := hid (HE.out ho hv)
      obtain ⟨n0, n1⟩ := HN.out ho
      rw [ho] at HV
      rw [hv] at HF
      clear ho hv HE E HN
      generalize sem (wordOf s l) t = F at *
      generalize hn : s.length + l.length = n at *
      have HNN := hid hn
      clear hn
      go_enter Try.func14, Try.ntmps14
      go_wp2_with fail
      refine (HV.out _ (by repeat (first | exact Below.refl _ _ | assumption | refine below_a ?_ _ | refine below_o ?_ _ | refine below_d ?_ | refine below_n ?_ _ | refine below_s ?_ (by first | (simp; done) | (simp; omega) | omega) _))).mono ?_
      rintro e w1 ⟨rfl, hb⟩
      have b2 := pbox_next hb (pbox_next (below_alloc _ _) (pbox_at (w := w) (a := .slice a s.length c) (b := .slice b l.length d) rfl))
      have b3 := box3_next hb (box3_at (w := w.alloc _) (B := w.heap.size + 1) (a := .int .i64 t.kind) (b := .int .i64 t.val) (c := .slice ak t.kids.length ck) (t := 29) (by simp))
      have B1 := hid (below_next (show Below w.heap.size w _ from below_next (below_alloc _ _) (below_alloc _ _)) hb)
      clear hb
      go_wp2_with fail
      refine (HF.out _ B1.out).mono ?_
      rintro e w2 ⟨rfl, hb⟩
      have B2 := hid (below_next B1.out hb)
      obtain ⟨p0, p1, p2, _⟩ := pbox_next hb b2
      obtain ⟨q0, q1, q2, q3, _⟩ := box3_next hb b3
      clear hb b2 b3
      go_wp2_with fail
      refine (HEE.out _ B2.out).mono ?_
      rintro e w3 ⟨R, rfl, hR, hrow, hb⟩
      have r0 : w3.cell? ⟨R, 0, none⟩ = some (.bool (F 0)) := hrow.2.1 0 n0
      have rl := hrow.1
      have B3 := hid (below_next B2.out hb)
      clear hb hrow
      go_wp2_with fail
      go_ret2
      exact Ret2.mk (by rw [E2.out.2]; rfl) (by rw [E2.out.1]; rfl) B3.out
set_option maxRecDepth 100000 in
set_option maxHeartbeats 4000000 in
theorem sat_any (s l : List Int) (t : Tr) (w : World) (x y : Value) (hx : PairIn Any w s l x) (hy : TrIn Any w t y) (hn : NilOk x) : Calls Try.prog 11 #[x, y] w (Ret2 (.bool (satV s l t)) (.bool (satOk s l t)) w) := by
  have HX := hid hx
  have HY := hid hy
  have HV := hid (fun (w' : World) (M : Below w.heap.size w w') => valid_any s l w' _ (HX.out.below M))
  have HF := hid (fun (w' : World) (M : Below w.heap.size w w') => Formula.valid_any t w' y (TrIn_below M HY.out))
  have HE := hid (fun (h1 : ok s l = true) (h2 : formL.valid t = true) (w' : World) (M : Below w.heap.size w w') => tru_any s l ⟨(ok_len h1).1, (ok_len h1).2.1, (ok_len h1).2.2.1, (ok_len h1).2.2.2⟩ t 6 w' x y (valid_shape h2) (TrIn_below M HY.out) (HX.out.below M) hn)
  have E := hid (show satOk s l t = (ok s l && formL.valid t) ∧ satV s l t = (satOk s l t && sem (wordOf s l) t 0) from ⟨rfl, rfl⟩)
  have HN := hid (fun (h1 : ok s l = true) => show 0 < s.length + l.length ∧ s.length + l.length ≤ 160 from by have := ok_len h1; omega)
  obtain ⟨a, b, c, d, rfl, _, _, _⟩ := hx
  obtain ⟨ak, ck, rfl⟩ := TrIn_shape hy
  clear hy hn
  cases ho : ok s l with
  | false =>
    have E2 := hid (show satOk s l t = false ∧ satV s l t = false by rw [E.out.2, E.out.1, ho]; simp)
    rw [ho] at HV
    clear ho HE E HN
    go_enter Try.func11, Try.ntmps11
    go_wp2_with fail
    refine (HV.out _ (by repeat (first | exact Below.refl _ _ | assumption | refine below_a ?_ _ | refine below_o ?_ _ | refine below_d ?_ | refine below_n ?_ _ | refine below_s ?_ (by first | (simp; done) | (simp; omega) | omega) _))).mono ?_
    rintro e w1 ⟨rfl, hb⟩
    go_wp2_with fail
    go_ret2
    exact Ret2.mk (by rw [E2.out.2]; rfl) (by rw [E2.out.1]; rfl) (below_next (by repeat (first | exact Below.refl _ _ | assumption | refine below_a ?_ _ | refine below_o ?_ _ | refine below_d ?_ | refine below_n ?_ _ | refine below_s ?_ (by first | (simp; done) | (simp; omega) | omega) _)) hb)
  | true =>
    cases hv : formL.valid t with
    | false =>
      have E2 := hid (show satOk s l t = false ∧ satV s l t = false by rw [E.out.2, E.out.1, hv]; simp)
      rw [ho] at HV
      rw [hv] at HF
      clear ho hv HE E HN
      go_enter Try.func11, Try.ntmps11
      go_wp2_with fail
      refine (HV.out _ (by repeat (first | exact Below.refl _ _ | assumption | refine below_a ?_ _ | refine below_o ?_ _ | refine below_d ?_ | refine below_n ?_ _ | refine below_s ?_ (by first | (simp; done) | (simp; omega) | omega) _))).mono ?_
      rintro e w1 ⟨rfl, hb⟩
      have b3 := box3_next hb (box3_at (w := w.alloc _) (B := w.heap.size + 1) (a := .int .i64 t.kind) (b := .int .i64 t.val) (c := .slice ak t.kids.length ck) (t := 29) (by simp))
      have B1 := hid (below_next (show Below w.heap.size w _ from below_next (below_alloc _ _) (below_alloc _ _)) hb)
      clear hb
      go_wp2_with fail
      refine (HF.out _ B1.out).mono ?_
      rintro e w2 ⟨rfl, hb⟩
      go_wp2_with fail
      go_ret2
      exact Ret2.mk (by rw [E2.out.2]; rfl) (by rw [E2.out.1]; rfl) (below_next B1.out hb)
    | true =>
      have E2 := hid (show satOk s l t = true ∧ satV s l t = sem (wordOf s l) t 0 by rw [E.out.2, E.out.1, hv, ho]; simp)
      have HEE := hid (HE.out ho hv)
      obtain ⟨n0, n1⟩ := HN.out ho
      rw [ho] at HV
      rw [hv] at HF
      clear ho hv HE E HN
      generalize sem (wordOf s l) t = F at *
      generalize hn : s.length + l.length = n at *
      have HNN := hid hn
      clear hn
      go_enter Try.func11, Try.ntmps11
      go_wp2_with fail
      refine (HV.out _ (by repeat (first | exact Below.refl _ _ | assumption | refine below_a ?_ _ | refine below_o ?_ _ | refine below_d ?_ | refine below_n ?_ _ | refine below_s ?_ (by first | (simp; done) | (simp; omega) | omega) _))).mono ?_
      rintro e w1 ⟨rfl, hb⟩
      have b2 := pbox_next hb (pbox_next (below_alloc _ _) (pbox_at (w := w) (a := .slice a s.length c) (b := .slice b l.length d) rfl))
      have b3 := box3_next hb (box3_at (w := w.alloc _) (B := w.heap.size + 1) (a := .int .i64 t.kind) (b := .int .i64 t.val) (c := .slice ak t.kids.length ck) (t := 29) (by simp))
      have B1 := hid (below_next (show Below w.heap.size w _ from below_next (below_alloc _ _) (below_alloc _ _)) hb)
      clear hb
      go_wp2_with fail
      refine (HF.out _ B1.out).mono ?_
      rintro e w2 ⟨rfl, hb⟩
      have B2 := hid (below_next B1.out hb)
      obtain ⟨p0, p1, p2, _⟩ := pbox_next hb b2
      obtain ⟨q0, q1, q2, q3, _⟩ := box3_next hb b3
      clear hb b2 b3
      go_wp2_with fail
      refine (HEE.out _ B2.out).mono ?_
      rintro e w3 ⟨R, rfl, hR, hrow, hb⟩
      have r0 : w3.cell? ⟨R, 0, none⟩ = some (.bool (F 0)) := hrow.2.1 0 n0
      have rl := hrow.1
      have B3 := hid (below_next B2.out hb)
      clear hb hrow
      go_wp2_with fail
      go_ret2
      exact Ret2.mk (by rw [E2.out.2]; rfl) (by rw [E2.out.1]; rfl) B3.out
end Lasso
end Go.Proofs.Ytbeljjalfhogdaa
