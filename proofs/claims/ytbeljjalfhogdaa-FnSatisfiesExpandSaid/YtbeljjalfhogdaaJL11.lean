/- Joined texts (SatX, SatLaws, SufPlain, SufI, KidIn, FormulaClone, FormulaMk): contracts and plain laws. Conditions: those of each theorem. -/
import Derived.Test.YtbeljjalfhogdaaJL10
import Derived.Test.YtbeljjalfhogdaaJL6
import Derived.Test.YtbeljjalfhogdaaJL8
import Derived.Test.YtbeljjalfhogdaaJL5
import Derived.Test.YtbeljjalfhogdaaJL0
import Derived.Test.YtbeljjalfhogdaaRows
import Derived.Test.YtbeljjalfhogdaaJL2
import Derived.Test.YtbeljjalfhogdaaJL4
import Derived.Test.YtbeljjalfhogdaaJL1
import Derived.Maps.AppendAt
import Derived.WalkSpells
import Derived.WalkLawsBesides
namespace Go.Proofs.Ytbeljjalfhogdaa
open Go.RowKit
namespace Lasso

/-- are both arguments valid; is the formula satisfied -/
def satOk (s l : List Int) (t : Tr) : Bool := ok s l && formL.valid t
noncomputable def satV (s l : List Int) (t : Tr) : Bool := satOk s l t && sem (wordOf s l) t 0
theorem valid_shape {t : Tr} (h : formL.valid t = true) : formL.shape t (6 : Nat) = true := by
  rw [Lang.valid, Bool.and_eq_true] at h; exact h.1

set_option maxRecDepth 100000 in
set_option maxHeartbeats 4000000 in
theorem specSat_any (s l : List Int) (t : Tr) (w : World) (x y : Value) (hx : PairIn Any w s l x) (hy : TrIn Any w t y) : Calls Try.prog 14 #[x, y] w (Ret2 (.bool (satV s l t)) (.bool (satOk s l t)) w) := by
  have HX := hid hx
  have HY := hid hy
  have HV := hid (fun (w' : World) (M : Below w.heap.size w w') => specValid_any s l w' _ (HX.out.below M))
  have HF := hid (fun (w' : World) (M : Below w.heap.size w w') => Formula.specValid_any t w' y (TrIn_below M HY.out))
  have HE := hid (fun (h1 : ok s l = true) (h2 : formL.valid t = true) (w' : World) (M : Below w.heap.size w w') => ev_any s l h1 t 6 w' x y (valid_shape h2) (TrIn_below M HY.out) (HX.out.below M))
  have E := hid (show satOk s l t = (ok s l && formL.valid t) ∧ satV s l t = (satOk s l t && sem (wordOf s l) t 0) from ⟨rfl, rfl⟩)
  have HN := hid (fun (h1 : ok s l = true) => show 0 < s.length + l.length ∧ s.length + l.length ≤ 160 from by have := ok_len h1; omega)
  obtain ⟨a, b, c, d, rfl, _, _, _⟩ := hx
  obtain ⟨ak, ck, rfl⟩ := TrIn_shape hy
  clear hy
  cases ho : ok s l with
  | false =>
    have E2 := hid (show satOk s l t = false ∧ satV s l t = false by rw [E.out.2, E.out.1, ho]; simp)
    rw [ho] at HV
    clear ho HE E HN
    go_enter Try.func14, Try.ntmps14
    go_wp2_with fail
    refine (HV.out _ (by repeat (first | exact Below.refl _ _ | assumption | refine below_a ?_ _ | refine below_o ?_ _ | refine below_d ?_ | refine below_n ?_ _ | refine below_s ?_ (by first | (simp; done) | (simp; omega) | omega) _))).mono ?_
    rintro e w1 ⟨rfl, hb⟩
    go_wp2_with fail
    go_ret2
    exact Ret2.mk (by rw [E2.out.2]; rfl) (by rw [E2.out.1]; rfl) (below_next (by repeat (first | exact Below.refl _ _ | assumption | refine below_a ?_ _ | refine below_o ?_ _ | refine below_d ?_ | refine below_n ?_ _ | refine below_s ?_ (by first | (simp; done) | (simp; omega) | omega) _)) hb)
  | true =>
    cases hv : formL.valid t with
    | false =>
      have E2 := hid (show satOk s l t = false ∧ satV s l t = false by rw [E.out.2, E.out.1, hv]; simp)
      rw [ho] at HV
      rw [hv] at HF
      clear ho hv HE E HN
      go_enter Try.func14, Try.ntmps14
      go_wp2_with fail
      refine (HV.out _ (by repeat (first | exact Below.refl _ _ | assumption | refine below_a ?_ _ | refine below_o ?_ _ | refine below_d ?_ | refine below_n ?_ _ | refine below_s ?_ (by first | (simp; done) | (simp; omega) | omega) _))).mono ?_
      rintro e w1 ⟨rfl, hb⟩
      have b3 := box3_next hb (box3_at (w := w.alloc _) (B := w.heap.size + 1) (a := .int .i64 t.kind) (b := .int .i64 t.val) (c := .slice ak t.kids.length ck) (t := 29) (by simp))
      have B1 := hid (below_next (show Below w.heap.size w _ from below_next (below_alloc _ _) (below_alloc _ _)) hb)
      clear hb
      go_wp2_with fail
      refine (HF.out _ B1.out).mono ?_
      rintro e w2 ⟨rfl, hb⟩
      go_wp2_with fail
      go_ret2
      exact Ret2.mk (by rw [E2.out.2]; rfl) (by rw [E2.out.1]; rfl) (below_next B1.out hb)
    | true =>
      have E2 := hid (show satOk s l t = true ∧ satV s l t = sem (wordOf s l) t 0 by rw [E.out.2, E.out.1, hv, ho]; simp)
      have HEE := hid (HE.out ho hv)
      obtain ⟨n0, n1⟩ := HN.out ho
      rw [ho] at HV
      rw [hv] at HF
      clear ho hv HE E HN
      generalize sem (wordOf s l) t = F at *
      generalize hn : s.length + l.length = n at *
      have HNN := hid hn
      clear hn
      go_enter Try.func14, Try.ntmps14
      go_wp2_with fail
      refine (HV.out _ (by repeat (first | exact Below.refl _ _ | assumption | refine below_a ?_ _ | refine below_o ?_ _ | refine below_d ?_ | refine below_n ?_ _ | refine below_s ?_ (by first | (simp; done) | (simp; omega) | omega) _))).mono ?_
      rintro e w1 ⟨rfl, hb⟩
      have b2 := pbox_next hb (pbox_next (below_alloc _ _) (pbox_at (w := w) (a := .slice a s.length c) (b := .slice b l.length d) rfl))
      have b3 := box3_next hb (box3_at (w := w.alloc _) (B := w.heap.size + 1) (a := .int .i64 t.kind) (b := .int .i64 t.val) (c := .slice ak t.kids.length ck) (t := 29) (by simp))
      have B1 := hid (below_next (show Below w.heap.size w _ from below_next (below_alloc _ _) (below_alloc _ _)) hb)
      clear hb
      go_wp2_with fail
      refine (HF.out _ B1.out).mono ?_
      rintro e w2 ⟨rfl, hb⟩
      have B2 := hid (below_next B1.out hb)
      obtain ⟨p0, p1, p2, _⟩ := pbox_next hb b2
      obtain ⟨q0, q1, q2, q3, _⟩ := box3_next hb b3
      clear hb b2 b3
      go_wp2_with fail
      refine (HEE.out _ B2.out).mono ?_
      rintro e w3 ⟨R, rfl, hR, hrow, hb⟩
      have r0 : w3.cell? ⟨R, 0, none⟩ = some (.bool (F 0)) := hrow.2.1 0 n0
      have rl := hrow.1
      have B3 := hid (below_next B2.out hb)
      clear hb hrow
      go_wp2_with fail
      go_ret2
      exact Ret2.mk (by rw [E2.out.2]; rfl) (by rw [E2.out.1]; rfl) B3.out
set_option maxRecDepth 100000 in
set_option maxHeartbeats 4000000 in
theorem sat_any (s l : List Int) (t : Tr) (w : World) (x y : Value) (hx : PairIn Any w s l x) (hy : TrIn Any w t y) (hn : NilOk x) : Calls Try.prog 11 #[x, y] w (Ret2 (.bool (satV s l t)) (.bool (satOk s l t)) w) := by
  have HX := hid hx
  have HY := hid hy
  have HV := hid (fun (w' : World) (M : Below w.heap.size w w') => valid_any s l w' _ (HX.out.below M))
  have HF := hid (fun (w' : World) (M : Below w.heap.size w w') => Formula.valid_any t w' y (TrIn_below M HY.out))
  have HE := hid (fun (h1 : ok s l = true) (h2 : formL.valid t = true) (w' : World) (M : Below w.heap.size w w') => tru_any s l ⟨(ok_len h1).1, (ok_len h1).2.1, (ok_len h1).2.2.1, (ok_len h1).2.2.2⟩ t 6 w' x y (valid_shape h2) (TrIn_below M HY.out) (HX.out.below M) hn)
  have E := hid (show satOk s l t = (ok s l && formL.valid t) ∧ satV s l t = (satOk s l t && sem (wordOf s l) t 0) from ⟨rfl, rfl⟩)
  have HN := hid (fun (h1 : ok s l = true) => show 0 < s.length + l.length ∧ s.length + l.length ≤ 160 from by have := ok_len h1; omega)
  obtain ⟨a, b, c, d, rfl, _, _, _⟩ := hx
  obtain ⟨ak, ck, rfl⟩ := TrIn_shape hy
  clear hy hn
  cases ho : ok s l with
  | false =>
    have E2 := hid (show satOk s l t = false ∧ satV s l t = false by rw [E.out.2, E.out.1, ho]; simp)
    rw [ho] at HV
    clear ho HE E HN
    go_enter Try.func11, Try.ntmps11
    go_wp2_with fail
    refine (HV.out _ (by repeat (first | exact Below.refl _ _ | assumption | refine below_a ?_ _ | refine below_o ?_ _ | refine below_d ?_ | refine below_n ?_ _ | refine below_s ?_ (by first | (simp; done) | (simp; omega) | omega) _))).mono ?_
    rintro e w1 ⟨rfl, hb⟩
    go_wp2_with fail
    go_ret2
    exact Ret2.mk (by rw [E2.out.2]; rfl) (by rw [E2.out.1]; rfl) (below_next (by repeat (first | exact Below.refl _ _ | assumption | refine below_a ?_ _ | refine below_o ?_ _ | refine below_d ?_ | refine below_n ?_ _ | refine below_s ?_ (by first | (simp; done) | (simp; omega) | omega) _)) hb)
  | true =>
    cases hv : formL.valid t with
    | false =>
      have E2 := hid (show satOk s l t = false ∧ satV s l t = false by rw [E.out.2, E.out.1, hv]; simp)
      rw [ho] at HV
      rw [hv] at HF
      clear ho hv HE E HN
      go_enter Try.func11, Try.ntmps11
      go_wp2_with fail
      refine (HV.out _ (by repeat (first | exact Below.refl _ _ | assumption | refine below_a ?_ _ | refine below_o ?_ _ | refine below_d ?_ | refine below_n ?_ _ | refine below_s ?_ (by first | (simp; done) | (simp; omega) | omega) _))).mono ?_
      rintro e w1 ⟨rfl, hb⟩
      have b3 := box3_next hb (box3_at (w := w.alloc _) (B := w.heap.size + 1) (a := .int .i64 t.kind) (b := .int .i64 t.val) (c := .slice ak t.kids.length ck) (t := 29) (by simp))
      have B1 := hid (below_next (show Below w.heap.size w _ from below_next (below_alloc _ _) (below_alloc _ _)) hb)
      clear hb
      go_wp2_with fail
      refine (HF.out _ B1.out).mono ?_
      rintro e w2 ⟨rfl, hb⟩
      go_wp2_with fail
      go_ret2
      exact Ret2.mk (by rw [E2.out.2]; rfl) (by rw [E2.out.1]; rfl) (below_next B1.out hb)
    | true =>
      have E2 := hid (show satOk s l t = true ∧ satV s l t = sem (wordOf s l) t 0 by rw [E.out.2, E.out.1, hv, ho]; simp)
      have HEE := hid (HE.out ho hv)
      obtain ⟨n0, n1⟩ := HN.out ho
      rw [ho] at HV
      rw [hv] at HF
      clear ho hv HE E HN
      generalize sem (wordOf s l) t = F at *
      generalize hn : s.length + l.length = n at *
      have HNN := hid hn
      clear hn
      go_enter Try.func11, Try.ntmps11
      go_wp2_with fail
      refine (HV.out _ (by repeat (first | exact Below.refl _ _ | assumption | refine below_a ?_ _ | refine below_o ?_ _ | refine below_d ?_ | refine below_n ?_ _ | refine below_s ?_ (by first | (simp; done) | (simp; omega) | omega) _))).mono ?_
      rintro e w1 ⟨rfl, hb⟩
      have b2 := pbox_next hb (pbox_next (below_alloc _ _) (pbox_at (w := w) (a := .slice a s.length c) (b := .slice b l.length d) rfl))
      have b3 := box3_next hb (box3_at (w := w.alloc _) (B := w.heap.size + 1) (a := .int .i64 t.kind) (b := .int .i64 t.val) (c := .slice ak t.kids.length ck) (t := 29) (by simp))
      have B1 := hid (below_next (show Below w.heap.size w _ from below_next (below_alloc _ _) (below_alloc _ _)) hb)
      clear hb
      go_wp2_with fail
      refine (HF.out _ B1.out).mono ?_
      rintro e w2 ⟨rfl, hb⟩
      have B2 := hid (below_next B1.out hb)
      obtain ⟨p0, p1, p2, _⟩ := pbox_next hb b2
      obtain ⟨q0, q1, q2, q3, _⟩ := box3_next hb b3
      clear hb b2 b3
      go_wp2_with fail
      refine (HEE.out _ B2.out).mono ?_
      rintro e w3 ⟨R, rfl, hR, hrow, hb⟩
      have r0 : w3.cell? ⟨R, 0, none⟩ = some (.bool (F 0)) := hrow.2.1 0 n0
      have rl := hrow.1
      have B3 := hid (below_next B2.out hb)
      clear hb hrow
      go_wp2_with fail
      go_ret2
      exact Ret2.mk (by rw [E2.out.2]; rfl) (by rw [E2.out.1]; rfl) B3.out
end Lasso
end Go.Proofs.Ytbeljjalfhogdaa
namespace Go.Proofs.Ytbeljjalfhogdaa
open Go.RowKit
namespace Lasso

theorem sat_ok {s l : List Int} {t : Tr} (h : satOk s l t = true) : satV s l t = sem (wordOf s l) t 0 ∧ ok s l = true ∧ formL.valid t = true := by
  have h0 := h
  rw [satOk, Bool.and_eq_true] at h
  exact ⟨by rw [satV, h0, Bool.true_and], h⟩
theorem sat_no {s l : List Int} {t : Tr} (h : satOk s l t = false) : satV s l t = false := by rw [satV, h, Bool.false_and]
theorem dual1 {s l : List Int} {f h : Tr} : satOk s l (.mk 7 0 [.mk 3 0 [f], .mk 3 0 [h]]) = false ∨ satOk s l (.mk 8 0 [f, h]) = false ∨ (satV s l (.mk 7 0 [.mk 3 0 [f], .mk 3 0 [h]]) != satV s l (.mk 8 0 [f, h])) = true := by
  cases h1 : satOk s l (.mk 7 0 [.mk 3 0 [f], .mk 3 0 [h]]) with
  | false => exact .inl rfl
  | true =>
    cases h2 : satOk s l (.mk 8 0 [f, h]) with
    | false => exact .inr (.inl rfl)
    | true =>
      refine .inr (.inr ?_)
      rw [(sat_ok h1).1, (sat_ok h2).1, sem7, sem8, sem3, sem3, unt_not]
      simp
theorem dual2 {s l : List Int} {f : Tr} : satOk s l (.mk 9 0 [.mk 3 0 [f]]) = false ∨ satOk s l (.mk 10 0 [f]) = false ∨ (satV s l (.mk 9 0 [.mk 3 0 [f]]) != satV s l (.mk 10 0 [f])) = true := by
  cases h1 : satOk s l (.mk 9 0 [.mk 3 0 [f]]) with
  | false => exact .inl rfl
  | true =>
    cases h2 : satOk s l (.mk 10 0 [f]) with
    | false => exact .inr (.inl rfl)
    | true =>
      refine .inr (.inr ?_)
      rw [(sat_ok h1).1, (sat_ok h2).1, sem9, sem10, sem3]
      have := unt_not (fun _ => false) (sem (wordOf s l) f)
      simp only [Bool.not_false] at this
      rw [this]
      simp
theorem bne_not {a b : Bool} (h : (a != b) = true) : b = !a := by cases a <;> cases b <;> simp_all
theorem not_cases {o1 o2 v1 v2 : Bool} (h : o1 = true → o2 = true → v2 = !v1) : o1 = false ∨ (o1 = true ∧ o2 = false) ∨ (o1 = true ∧ o2 = true ∧ v1 = true ∧ v2 = false) ∨ (o1 = true ∧ o2 = true ∧ v1 = false ∧ v2 = true) := by
  cases o1 <;> cases o2 <;> cases v1 <;> cases v2 <;> simp_all
theorem dual1b {s l : List Int} {f h : Tr} (h1 : satOk s l (.mk 7 0 [.mk 3 0 [f], .mk 3 0 [h]]) = true) (h2 : satOk s l (.mk 8 0 [f, h]) = true) : satV s l (.mk 8 0 [f, h]) = !satV s l (.mk 7 0 [.mk 3 0 [f], .mk 3 0 [h]]) := by
  rcases dual1 (s := s) (l := l) (f := f) (h := h) with h | h | h
  · rw [h1] at h; cases h
  · rw [h2] at h; cases h
  · exact bne_not h
theorem dual2b {s l : List Int} {f : Tr} (h1 : satOk s l (.mk 9 0 [.mk 3 0 [f]]) = true) (h2 : satOk s l (.mk 10 0 [f]) = true) : satV s l (.mk 10 0 [f]) = !satV s l (.mk 9 0 [.mk 3 0 [f]]) := by
  rcases dual2 (s := s) (l := l) (f := f) with h | h | h
  · rw [h1] at h; cases h
  · rw [h2] at h; cases h
  · exact bne_not h
/-- a normal form, if there is one, means the same; the negation the contrary -/
theorem nf_sat {s l : List Int} {t : Tr} (neg : Bool) (h : satOk s l t = true) (hn : satOk s l (nfT t neg) = true) : satV s l (nfT t neg) = (satV s l t != neg) := by
  rw [(sat_ok h).1, (sat_ok hn).1, sem_nf (wordOf s l) t 6 neg (valid_shape (sat_ok h).2.2)]
/-- always persists, eventually anticipates -/
theorem later1 {s l s' l' : List Int} {f : Tr} {k : Nat} (hw : ∀ i, wordOf s' l' i = wordOf s l (i + k)) (hq : satOk s l (.mk 10 0 [f]) = true) (hr : satOk s' l' (.mk 10 0 [f]) = true) (h : satV s l (.mk 10 0 [f]) = true) : satV s' l' (.mk 10 0 [f]) = true := by
  rw [(sat_ok hr).1, show wordOf s' l' = fun i => wordOf s l (i + k) from funext hw, sem_shf]
  rw [(sat_ok hq).1, sem10] at h
  have := always_later k 0 h
  show sem (wordOf s l) (.mk 10 0 [f]) (0 + k) = true
  rw [sem10]
  exact this
theorem later2 {s l s' l' : List Int} {f : Tr} {k : Nat} (hw : ∀ i, wordOf s' l' i = wordOf s l (i + k)) (hq : satOk s l (.mk 9 0 [f]) = true) (hr : satOk s' l' (.mk 9 0 [f]) = true) (h : satV s' l' (.mk 9 0 [f]) = true) : satV s l (.mk 9 0 [f]) = true := by
  rw [(sat_ok hr).1, show wordOf s' l' = fun i => wordOf s l (i + k) from funext hw, sem_shf] at h
  rw [(sat_ok hq).1, sem9]
  have h2 : sem (wordOf s l) (.mk 9 0 [f]) (0 + k) = true := h
  rw [sem9] at h2
  exact later_soon k 0 h2
theorem sat_shf {s l s' l' : List Int} {f : Tr} {k : Nat} (hw : ∀ i, wordOf s' l' i = wordOf s l (i + k)) (hr : satOk s' l' f = true) : satV s' l' f = sem (wordOf s l) f k := by
  rw [(sat_ok hr).1, show wordOf s' l' = fun i => wordOf s l (i + k) from funext hw, sem_shf]
  show sem (wordOf s l) f (0 + k) = _
  rw [Nat.zero_add]
/-- recurrence and persistence -/
theorem fair1 {s l : List Int} (h : ok s l = true) : satOk s l (.mk 10 0 [.mk 9 0 [.mk 2 0 []]]) = true ∧ satV s l (.mk 10 0 [.mk 9 0 [.mk 2 0 []]]) = l.any oddI := by
  have h1 : satOk s l (.mk 10 0 [.mk 9 0 [.mk 2 0 []]]) = true := by rw [satOk, h]; kernel_rfl
  refine ⟨h1, ?_⟩
  rw [(sat_ok h1).1, sem10, sem9, sem2]
  exact often_loop s l (ok_len h).2.1
theorem fair2 {s l : List Int} (h : ok s l = true) : satOk s l (.mk 9 0 [.mk 10 0 [.mk 2 0 []]]) = true ∧ satV s l (.mk 9 0 [.mk 10 0 [.mk 2 0 []]]) = l.all oddI := by
  have h1 : satOk s l (.mk 9 0 [.mk 10 0 [.mk 2 0 []]]) = true := by rw [satOk, h]; kernel_rfl
  refine ⟨h1, ?_⟩
  rw [(sat_ok h1).1, sem9, sem10, sem2]
  exact stays_loop s l (ok_len h).2.1
theorem fair0 {s l : List Int} {t : Tr} (h : ok s l = false) : satOk s l t = false ∧ satV s l t = false := by
  have h1 : satOk s l t = false := by rw [satOk, h, Bool.false_and]
  exact ⟨h1, sat_no h1⟩
end Lasso
end Go.Proofs.Ytbeljjalfhogdaa
namespace Go.Proofs.Ytbeljjalfhogdaa
namespace Lasso

def sufS (s : List Int) (k : Nat) : List Int := if k < s.length then s.drop k else []
def sufL (s l : List Int) (k : Nat) : List Int := if k < s.length then l else l.drop ((k - s.length) % l.length) ++ l.take ((k - s.length) % l.length)
theorem getD_drop (l : List Int) (k i : Nat) : (l.drop k).getD i 0 = l.getD (k + i) 0 := by simp [List.getD_eq_getElem?_getD, List.getElem?_drop]
theorem rot_at (l : List Int) (k i : Nat) (hk : k < l.length) (hi : i < l.length) : (l.drop k ++ l.take k).getD i 0 = l.getD ((k + i) % l.length) 0 := by
  rw [List.getD_eq_getElem?_getD, List.getElem?_append]
  split
  · rename_i h
    rw [List.length_drop] at h
    rw [List.getElem?_drop, Nat.mod_eq_of_lt (by omega), List.getD_eq_getElem?_getD]
  · rename_i h
    rw [List.length_drop] at h
    rw [List.length_drop, List.getElem?_take, if_pos (by omega), List.getD_eq_getElem?_getD]
    have e : (k + i) % l.length = i - (l.length - k) := by
      rw [Nat.mod_eq_sub_mod (by omega), Nat.mod_eq_of_lt (by omega)]; omega
    rw [e]
theorem suf_word (s l : List Int) (k i : Nat) (hl : 0 < l.length) : wordOf (sufS s k) (sufL s l k) i = wordOf s l (i + k) := by
  unfold wordOf sufS sufL
  by_cases hk : k < s.length
  · simp only [if_pos hk, List.length_drop]
    by_cases hi : i < s.length - k
    · rw [if_pos hi, if_pos (by omega), getD_drop, Nat.add_comm]
    · rw [if_neg hi, if_neg (by omega)]
      congr 2
      omega
  · simp only [if_neg hk, List.length_nil, Nat.not_lt_zero, if_false, Nat.sub_zero]
    have hm : (k - s.length) % l.length < l.length := Nat.mod_lt _ hl
    have hlen : (l.drop ((k - s.length) % l.length) ++ l.take ((k - s.length) % l.length)).length = l.length := by simp; omega
    rw [hlen, rot_at l _ _ hm (Nat.mod_lt _ hl), if_neg (by omega)]
    congr 1
    rw [← Nat.add_mod, show i + k - s.length = (k - s.length) + i by omega]
theorem suf_len (s l : List Int) (k : Nat) : (sufS s k).length ≤ s.length ∧ (sufL s l k).length = l.length := by
  unfold sufS sufL
  split
  · simp
  · refine ⟨by simp, ?_⟩
    by_cases hl : l.length = 0
    · simp [hl]
    · have := Nat.mod_lt (k - s.length) (by omega : 0 < l.length)
      simp; omega
theorem suf_mem (s l : List Int) (k : Nat) : (∀ n, n ∈ sufS s k → n ∈ s) ∧ ∀ n, n ∈ sufL s l k → n ∈ l := by
  unfold sufS sufL
  split
  · exact ⟨fun n h => List.mem_of_mem_drop h, fun n h => h⟩
  · refine ⟨fun n h => (by cases h), fun n h => ?_⟩
    rcases List.mem_append.1 h with h | h
    · exact List.mem_of_mem_drop h
    · exact List.mem_of_mem_take h
theorem suf_ok {s l : List Int} {k : Nat} (h : ok s l = true) : ok (sufS s k) (sufL s l k) = true := by
  unfold ok at h ⊢
  simp only [Bool.and_eq_true, decide_eq_true_eq, List.all_eq_true] at h ⊢
  obtain ⟨⟨⟨⟨h1, h2⟩, h3⟩, h4⟩, h5⟩ := h
  have h6 := suf_len s l k
  have h7 := suf_mem s l k
  exact ⟨⟨⟨⟨fun n hn => h1 n (h7.1 n hn), fun n hn => h2 n (h7.2 n hn)⟩, by omega⟩, by omega⟩, by omega⟩
mutual
theorem shape_up (L : Lang) : ∀ (t : Tr) (d d' : Int), d ≤ d' → L.shape t d = true → L.shape t d' = true
  | .mk k v kids, d, d', h, hs => by
    simp only [Lang.shape, Bool.and_eq_true, decide_eq_true_eq] at hs ⊢
    exact ⟨by omega, hs.2.1, shapeL_up L kids (d - 1) (d' - 1) (by omega) hs.2.2⟩
theorem shapeL_up (L : Lang) : ∀ (l : List Tr) (d d' : Int), d ≤ d' → L.shapeL l d = true → L.shapeL l d' = true
  | [], _, _, _, _ => rfl
  | t :: ts, d, d', h, hs => by
    simp only [Lang.shapeL, Bool.and_eq_true] at hs ⊢
    exact ⟨shape_up L t d d' h hs.1, shapeL_up L ts d d' h hs.2⟩
end
/-- expansion -/
theorem sat_kid {s l : List Int} {k v : Int} {kids : List Tr} (h : satOk s l (.mk k v kids) = true) : ∀ t, t ∈ kids → satOk s l t = true ∧ satV s l t = sem (wordOf s l) t 0 := by
  intro t ht
  have h2 := sat_ok h
  have hv : satOk s l t = true := by
    rw [satOk, h2.2.1, Bool.true_and]
    have h3 := h2.2.2
    rw [Lang.valid, Bool.and_eq_true] at h3 ⊢
    obtain ⟨m, e, _, _, _, _, _, hk⟩ := formL.shape_mk (n := 6) h3.1
    obtain rfl : m = 5 := by omega
    refine ⟨shape_up formL t _ _ (by omega) (hk t ht), ?_⟩
    have h4 := h3.2
    rw [decide_eq_true_eq] at h4 ⊢
    have h5 := nodes_mem ht
    simp only [nodes] at h4
    omega
  exact ⟨hv, (sat_ok hv).1⟩
end Lasso
end Go.Proofs.Ytbeljjalfhogdaa
namespace Go.Proofs.Ytbeljjalfhogdaa
open Go.RowKit
set_option linter.unusedVariables false
set_option linter.unusedSimpArgs false
namespace Lasso

set_option maxHeartbeats 1000000 in
theorem sclip2_any (l : List Int) (w : World) (v : Value) (B : Nat) (h : OwnI B v l w) (hlen : l.length ≤ 1000000) : Calls Try.prog 46 #[v] w (RetP (RowV B l) w) := by
  rcases h.row with ⟨rfl, rfl⟩ | ⟨g, c, rfl, h1, h2, h3, h4⟩
  · go_enter Try.func46, Try.ntmps46
    go_wp2_with fail
    go_ret
    exact RetP.mk ⟨none, 0, [], rfl, Nat.le_refl _, by simp [maxLen], fun _ => rfl, .inl ⟨rfl, rfl⟩, by simp⟩ (Below.refl _ _)
  · have HV := hid h4
    have hl2 : (l.length : Int) ≤ (c : Int) := by omega
    unfold maxLen at h3
    clear h h4
    go_enter Try.func46, Try.ntmps46
    go_wp2_with fail
    go_ret
    exact RetP.mk ⟨_, l.length, [g], rfl, Nat.le_refl _, by unfold maxLen; omega, (fun e => by cases e), .inr ⟨g, rfl, rfl, by rw [List.length_map]; exact HV.out⟩, by simpa using h1⟩ (Below.refl _ _)
set_option maxHeartbeats 1000000 in
theorem clone2_any (l : List Int) (w : World) (a : Option Addr) (c : Nat) (hl : IntsIn Any w a l) (hlen : l.length ≤ 1000000) (hn : a = none → c = 0) : Calls Try.prog 45 #[.slice a l.length c] w (RetP (RowV w.heap.size l) w) := by
  have HC := hid (sclone_any l w a c hl hlen hn)
  go_enter Try.func45, Try.ntmps45
  go_wp2_with fail
  refine HC.out.mono ?_
  rintro e w1 ⟨v, rfl, hv, hb⟩
  have HV := hid hv
  have HB := hid hb
  clear hv hb
  go_wp2_with fail
  refine (sclip2_any l w1 v w.heap.size HV.out hlen).mono ?_
  rintro e w2 ⟨u, rfl, hu, hb⟩
  have HU := hid hu
  have HB2 := hid (below_next HB.out hb)
  clear hu hb
  go_wp2_with fail
  go_ret
  exact RetP.mk HU.out HB2.out

theorem ints_drop {w : World} {b o : Nat} {l : List Int} (h : IntsIn Any w (some ⟨b, o, none⟩) l) (k : Nat) : IntsIn Any w (some ⟨b, o + k, none⟩) (l.drop k) := by
  refine ⟨?_, fun n hn => h.2 n (List.mem_of_mem_drop hn)⟩
  rcases h.1 with h1 | ⟨b', o', e, _, h3, h4⟩
  · have : l = [] := by simpa using h1
    subst this
    exact .inl (by simp)
  · simp at e
    obtain ⟨rfl, rfl⟩ := e
    refine .inr ⟨b, o + k, rfl, trivial, h3, fun i v hv => ?_⟩
    rw [List.map_drop, List.getElem?_drop] at hv
    rw [Nat.add_assoc]
    exact h4 _ v hv
theorem ints_take {w : World} {a : Option Addr} {l : List Int} (h : IntsIn Any w a l) (k : Nat) : IntsIn Any w a (l.take k) := by
  refine ⟨?_, fun n hn => h.2 n (List.mem_of_mem_take hn)⟩
  rcases h.1 with h1 | ⟨b', o', e, h2, h3, h4⟩
  · have : l = [] := by simpa using h1
    subst this
    exact .inl (by simp)
  · refine .inr ⟨b', o', e, h2, h3, fun i v hv => ?_⟩
    rw [List.map_take, List.getElem?_take] at hv
    split at hv
    · exact h4 _ v hv
    · cases hv
/-- what SuffixAt comes to -/
def SufPost (s l : List Int) (k : Nat) (w : World) (e : Ending) (w' : World) : Prop := ∃ v, e = .returned (.tuple #[v, .bool (ok s l)]) ∧ NewLas w.heap.size (if ok s l = true then sufS s k else []) (if ok s l = true then sufL s l k else []) v w' ∧ Below w.heap.size w w'

set_option maxRecDepth 100000 in
set_option maxHeartbeats 2000000 in
theorem suffix_any (s l : List Int) (k : Nat) (hk : k ≤ 1000) (w : World) (x : Value) (hx : PairIn Any w s l x) (hn : NilOk x) : Calls Try.prog 21 #[x, .int .i64 k] w (SufPost s l k w) := by
  have HV := hid (fun (W : World) (M : Below w.heap.size w W) => valid_any s l W x (hx.below M))
  obtain ⟨a, b, c, d, rfl, hi1, hi2, c1, c2, d1, d2⟩ := hx
  obtain ⟨n1, n2⟩ := hn _ _ _ _ _ _ rfl
  have I1 := hid (fun (W : World) (M : Below w.heap.size w W) => hi1.below M)
  have I2 := hid (fun (W : World) (M : Below w.heap.size w W) => hi2.below M)
  have HK := hid (fun h => ok_len (stem := s) (loop := l) h)
  have hk0 : ¬ ((k : Int) < 0) := by omega
  have HI := hid (And.intro hi1.2 hi2.2)
  unfold maxLen at c2 d2
  clear hn hi1 hi2
  cases hok : ok s l with
  | false =>
    rw [hok] at HV
    have hf := hid (show ∀ W, Below w.heap.size w W → SufPost s l k w (.returned (.tuple #[.agg #[.slice none 0 0, .slice none 0 0], .bool false])) W from fun W hW => ⟨_, by rw [hok], by rw [hok]; exact ⟨_, _, rfl, ⟨none, 0, [], rfl, Nat.le_refl _, by simp [maxLen], fun _ => rfl, .inl ⟨rfl, rfl⟩, by simp⟩, ⟨none, 0, [], rfl, Nat.le_refl _, by simp [maxLen], fun _ => rfl, .inl ⟨rfl, rfl⟩, by simp⟩, by simp, by simp⟩, hW⟩)
    clear hok HK I1 I2 HI
    go_enter Try.func21, Try.ntmps21
    go_wp2_with fail
    refine (HV.out _ (by repeat (first | exact Below.refl _ _ | assumption | refine below_a ?_ _ | refine below_o ?_ _ | refine below_d ?_ | refine below_n ?_ _ | refine below_s ?_ (by first | (simp; done) | (simp; omega) | omega) _))).mono ?_
    rintro e w1 ⟨rfl, hb⟩
    have Z := hid (boxp_next hb (boxp_at (w := w.alloc _) (B := w.heap.size + 1) (a := .slice none 0 0) (b := .slice none 0 0) (t := 25) (by simp)))
    have B := hid (below_next (show Below w.heap.size w _ from below_next (below_alloc _ _) (below_alloc _ _)) hb)
    clear hb
    obtain ⟨z0, z1, z2, z3, z4⟩ := id Z.out
    go_wp2_with fail
    obtain ⟨_, t0, t1, _, _⟩ := boxp_set1 (boxp_set0 Z.out (.slice none 0 0)) (.slice none 0 0)
    refine bodyPost_ret (v := .tuple #[.agg #[.slice none 0 0, .slice none 0 0], .bool false]) (by simp [results, Try.results21, go_sem, t0, t1]) rfl ?_
    exact hf.out _ ((B.out.setCell (by simp) _).setCell (by simp) _)
  | true =>
    rw [hok] at HV
    obtain ⟨k1, k2, k3, _⟩ := HK.out hok
    have HOK := hid hok
    clear HK hok
    by_cases hlt : k < s.length
    · have hlt2 : (k : Int) < (s.length : Int) := by omega
      have hlt3 : (k : Int) ≤ (s.length : Int) := by omega
      have hkc : (k : Int) ≤ (c : Int) := by omega
      have hck : c ≠ k := by omega
      have E := hid (show sufS s k = s.drop k ∧ sufL s l k = l from ⟨by rw [sufS, if_pos hlt], by rw [sufL, if_pos hlt]⟩)
      obtain ⟨bs, os, rfl⟩ : ∃ bs os, a = some ⟨bs, os, none⟩ := by
        rcases (I1.out w (Below.refl _ _)).1 with h | ⟨b', o', h, _⟩
        · have : s = [] := by simpa using h
          subst this; simp at hlt
        · exact ⟨b', o', h⟩
      go_enter Try.func21, Try.ntmps21
      go_wp2_with fail
      refine (HV.out _ (by repeat (first | exact Below.refl _ _ | assumption | refine below_a ?_ _ | refine below_o ?_ _ | refine below_d ?_ | refine below_n ?_ _ | refine below_s ?_ (by first | (simp; done) | (simp; omega) | omega) _))).mono ?_
      rintro e w1 ⟨rfl, hb⟩
      have X := hid (boxp_next hb (boxp_next (below_alloc _ _) (boxp_at (w := w) (B := w.heap.size) (a := .slice (some ⟨bs, os, none⟩) s.length c) (b := .slice b l.length d) (t := 25) rfl)))
      have Z := hid (boxp_next hb (boxp_at (w := w.alloc _) (B := w.heap.size + 1) (a := .slice none 0 0) (b := .slice none 0 0) (t := 25) (by simp)))
      have B := hid (below_next (show Below w.heap.size w _ from below_next (below_alloc _ _) (below_alloc _ _)) hb)
      clear hb
      obtain ⟨x0, x1, x2, x3, x4⟩ := id X.out
      go_wp2_with fail
      refine wp_region_ord (C := fun wZ => ∃ xZ, wZ = World.over _ xZ) [0,1,2,3,5,6] (.one 4 (.one 7 (.one 8 (.fre 9 (.fre 10 .done))))) [9,10] (by kernel_rfl) (by kernel_rfl) (fun d _ _ _ _ h => by cases d <;> exact h) (bex (Below.refl _ _).drew) ?_; simp only [pick, List.getElem?_cons_succ, List.getElem?_cons_zero]; (repeat (go_big_quiet_step (fail))); refine wpQuiet_nil ?_; simp only [ordW, pick, List.getElem?_cons_succ, List.getElem?_cons_zero]
      have zz := Z.out.1
      have h0 := below_d (Below.refl w1.heap.size w1)
      have hll : (s.drop k).length = s.length - k := by simp
      have HC := hid (clone2_any (s.drop k) w1.drew (some ⟨bs, os + k, none⟩) (c - k) (ints_drop (I1.out _ (below_next B.out h0)) k) (by simp; omega) (fun e => by cases e))
      have HC2 := HC.out
      rw [hll] at HC2
      clear HC
      have HC := hid HC2
      clear HC2
      go_wp2_with fail
      refine HC.out.mono ?_
      rintro e w2 ⟨v, rfl, hv, hb⟩
      have V1 := hid hv
      have C2 := hid (below_next h0 hb)
      replace X := hid (boxp_next C2.out X.out)
      replace Z := hid (boxp_next C2.out Z.out)
      replace B := hid (below_next B.out C2.out)
      have s12 := C2.out.size
      obtain ⟨aA, cA, hsh⟩ : ∃ aA cA, v = .slice aA (s.length - k) cA := by
        obtain ⟨a, c, bs, e, _⟩ := hv
        rw [hll] at e
        exact ⟨a, c, e⟩
      subst hsh
      clear hb hv HC h0 hll x0 x1 x2 x3 x4
      go_wp2_with fail
      refine ⟨bex C2.out, ?_⟩
      go_wp2_with fail
      refine (clone2_any l w2 b d (I2.out _ B.out) (by omega) n2).mono ?_
      rintro e w3 ⟨v, rfl, hv, hb⟩
      have V2 := hid hv
      have C3 := hid (below_next C2.out hb)
      replace X := hid (boxp_next hb X.out)
      replace Z := hid (boxp_next hb Z.out)
      replace B := hid (below_next B.out hb)
      have s23 := hb.size
      replace V1 := hid (V1.out.frame hb.size fun q _ hl => hb.block q hl)
      obtain ⟨aB, cB, hsh⟩ : ∃ aB cB, v = .slice aB l.length cB := by
        obtain ⟨a, c, bs, e, _⟩ := hv
        exact ⟨a, c, e⟩
      subst hsh
      clear hb hv C2
      obtain ⟨z0, z1, z2, z3, z4⟩ := id Z.out
      have sX := X.out.1
      go_wp2_with fail
      refine ⟨bex C3.out, ?_⟩
      go_wp2_with fail
      refine ⟨bex C3.out, ?_⟩
      have hf := hid (fun u0 u1 => show SufPost s l k w (.returned (.tuple #[.agg #[.slice aA (s.length - k) cA, .slice aB l.length cB], .bool true])) ((w3.setCell ⟨w.heap.size + 1, 0, none⟩ u0).setCell ⟨w.heap.size + 1, 1, none⟩ u1) from
        ⟨_, by rw [HOK.out], by
          rw [if_pos HOK.out, if_pos HOK.out, E.out.1, E.out.2]
          exact ⟨_, _, rfl, ((V1.out.set (by simp; omega) u0).set (by simp; omega) u1).mono (by simp; omega), ((V2.out.set (by simp; omega) u0).set (by simp; omega) u1).mono (by omega), fun n hn => HI.out.1 n (List.mem_of_mem_drop hn), HI.out.2⟩, (B.out.setCell (by simp) _).setCell (by simp) _⟩)
      have T := hid (boxp_set1 (boxp_set0 Z.out (.slice aA (s.length - k) cA)) (.slice aB l.length cB))
      clear X Z V1 V2 B C3
      go_wp2_with fail
      obtain ⟨_, t0, t1, _, _⟩ := T.out
      refine bodyPost_ret (v := .tuple #[.agg #[.slice aA (s.length - k) cA, .slice aB l.length cB], .bool true]) (by simp [results, Try.results21, go_sem, t0, t1]) rfl ?_
      exact hf.out _ _
    · obtain ⟨q, hq⟩ : ∃ q, q = (k - s.length) % l.length := ⟨_, rfl⟩
      have hqlt : q < l.length := by rw [hq]; exact Nat.mod_lt _ (by omega)
      have hlt2 : ¬ ((k : Int) < (s.length : Int)) := by omega
      have hqi : (q : Int) ≤ (l.length : Int) := by omega
      have hqd : (q : Int) ≤ (d : Int) := by omega
      have hqz : (0 : Int) ≤ (q : Int) := by omega
      have hdq : d ≠ q := by omega
      have T0 : Int.tmod ((k : Int) - (s.length : Int)) (l.length : Int) = (q : Int) := by
        rw [show (k : Int) - (s.length : Int) = ((k - s.length : Nat) : Int) by omega, Int.tmod_eq_emod_of_nonneg (by omega), hq]; omega
      have hl0 : (l.length : Int) ≠ 0 := by omega
      have E := hid (show sufS s k = [] ∧ sufL s l k = l.drop q ++ l.take q from ⟨by rw [sufS, if_neg hlt], by rw [sufL, if_neg hlt, ← hq]⟩)
      obtain ⟨bl, ol, rfl⟩ : ∃ bl ol, b = some ⟨bl, ol, none⟩ := by
        rcases (I2.out w (Below.refl _ _)).1 with h | ⟨b', o', h, _⟩
        · have : l = [] := by simpa using h
          subst this; simp at k2
        · exact ⟨b', o', h⟩
      clear hq
      go_enter Try.func21, Try.ntmps21
      go_wp2_with fail
      refine (HV.out _ (by repeat (first | exact Below.refl _ _ | assumption | refine below_a ?_ _ | refine below_o ?_ _ | refine below_d ?_ | refine below_n ?_ _ | refine below_s ?_ (by first | (simp; done) | (simp; omega) | omega) _))).mono ?_
      rintro e w1 ⟨rfl, hb⟩
      have X := hid (boxp_next hb (boxp_next (below_alloc _ _) (boxp_at (w := w) (B := w.heap.size) (a := .slice a s.length c) (b := .slice (some ⟨bl, ol, none⟩) l.length d) (t := 25) rfl)))
      have Z := hid (boxp_next hb (boxp_at (w := w.alloc _) (B := w.heap.size + 1) (a := .slice none 0 0) (b := .slice none 0 0) (t := 25) (by simp)))
      have B := hid (below_next (show Below w.heap.size w _ from below_next (below_alloc _ _) (below_alloc _ _)) hb)
      clear hb
      obtain ⟨x0, x1, x2, x3, x4⟩ := id X.out
      go_wp2_with fail
      refine wp_region_ord (C := fun wZ => ∃ xZ, wZ = World.over _ xZ) [0,1,2,3,4,5,6,7] (.one 8 (.one 9 (.one 10 (.one 11 (.fre 12 (.fre 13 .done)))))) [12,13] (by kernel_rfl) (by kernel_rfl) (fun d _ _ _ _ h => by cases d <;> exact h) (bex (Below.refl _ _).drew) ?_; simp only [pick, List.getElem?_cons_succ, List.getElem?_cons_zero]; (repeat (go_big_quiet_step (fail))); refine wpQuiet_nil ?_; simp only [ordW, pick, List.getElem?_cons_succ, List.getElem?_cons_zero]
      have zz := Z.out.1
      have h0 := below_d (Below.refl w1.heap.size w1)
      go_wp2_with fail
      have h1 := below_next h0 (below_alloc w1.drew (.cells #[.slice (some ⟨bl, ol + q, none⟩) (l.length - q) (d - q), .slice (some ⟨bl, ol, none⟩) q d] 23))
      refine ⟨bex h1, ?_⟩
      have hl1 : (l.drop q).length = l.length - q := by simp
      have hl2 : (l.take q).length = q := by simp; omega
      have HC := hid (concat_any (w1.drew.alloc (.cells #[.slice (some ⟨bl, ol + q, none⟩) (l.length - q) (d - q), .slice (some ⟨bl, ol, none⟩) q d] 23)) w1.heap.size (some ⟨bl, ol + q, none⟩) (some ⟨bl, ol, none⟩) (l.drop q) (l.take q) (d - q) d (by unfold Two2; rw [hl1, hl2]; have hbp := boxp_at (w := w1.drew) (B := w1.heap.size) (a := .slice (some ⟨bl, ol + q, none⟩) (l.length - q) (d - q)) (b := .slice (some ⟨bl, ol, none⟩) q d) (t := 23) rfl; exact ⟨hbp.1, hbp.2.1, hbp.2.2.1⟩)
        (ints_drop (I2.out _ (below_next B.out h1)) q) (ints_take (I2.out _ (below_next B.out h1)) q) (fun e => by cases e) (fun e => by cases e) (by omega) (by omega))
      go_wp2_with fail
      refine HC.out.mono ?_
      rintro e w2 ⟨v, rfl, hv, hb⟩
      have V1 := hid hv
      have C2 := hid (below_next h1 hb)
      replace X := hid (boxp_next C2.out X.out)
      replace Z := hid (boxp_next C2.out Z.out)
      replace B := hid (below_next B.out C2.out)
      have s12 := C2.out.size
      clear hb hv HC h0 h1 x0 x1 x2 x3 x4
      go_wp2_with fail
      refine ⟨bex C2.out, ?_⟩
      go_wp2_with fail
      refine (sclip2_any (l.drop q ++ l.take q) w2 v _ V1.out (by simp; omega)).mono ?_
      rintro e w3 ⟨v3, rfl, hv, hb⟩
      have V2 := hid hv
      have C3 := hid (below_next C2.out hb)
      replace X := hid (boxp_next hb X.out)
      replace Z := hid (boxp_next hb Z.out)
      replace B := hid (below_next B.out hb)
      have s23 := hb.size
      obtain ⟨aB, cB, hsh⟩ : ∃ aB cB, v3 = .slice aB l.length cB := by
        obtain ⟨a, c, bs, e, _⟩ := hv
        rw [List.length_append, hl1, hl2, show l.length - q + q = l.length by omega] at e
        exact ⟨a, c, e⟩
      subst hsh
      clear hb hv C2 V1 hl1 hl2
      obtain ⟨z0, z1, z2, z3, z4⟩ := id Z.out
      have sX := X.out.1
      go_wp2_with fail
      refine ⟨bex C3.out, ?_⟩
      go_wp2_with fail
      refine ⟨bex C3.out, ?_⟩
      have hf := hid (fun u0 u1 => show SufPost s l k w (.returned (.tuple #[.agg #[.slice none 0 0, .slice aB l.length cB], .bool true])) ((w3.setCell ⟨w.heap.size + 1, 0, none⟩ u0).setCell ⟨w.heap.size + 1, 1, none⟩ u1) from
        ⟨_, by rw [HOK.out], by
          rw [if_pos HOK.out, if_pos HOK.out, E.out.1, E.out.2]
          exact ⟨_, _, rfl, ⟨none, 0, [], rfl, Nat.le_refl _, by simp [maxLen], fun _ => rfl, .inl ⟨rfl, rfl⟩, by simp⟩, ((V2.out.set (by simp; omega) u0).set (by simp; omega) u1).mono (by simp; omega), by simp, fun n hn => by
            rcases List.mem_append.1 hn with h | h
            · exact HI.out.2 n (List.mem_of_mem_drop h)
            · exact HI.out.2 n (List.mem_of_mem_take h)⟩, (B.out.setCell (by simp) _).setCell (by simp) _⟩)
      have T := hid (boxp_set1 (boxp_set0 Z.out (.slice none 0 0)) (.slice aB l.length cB))
      clear X Z V2 B C3
      go_wp2_with fail
      obtain ⟨_, t0, t1, _, _⟩ := T.out
      refine bodyPost_ret (v := .tuple #[.agg #[.slice none 0 0, .slice aB l.length cB], .bool true]) (by simp [results, Try.results21, go_sem, t0, t1]) rfl ?_
      exact hf.out _ _
end Lasso
end Go.Proofs.Ytbeljjalfhogdaa
namespace Go.Proofs.Ytbeljjalfhogdaa
open Go.RowKit

theorem in_kid {W : World} {t : Tr} {k : Int} {b c : Nat} {c0 c1 c2 : Value} (hk : i64 k) (h : TrIn Any W t (.agg #[c0, c1, c2])) (e0 : W.cell? ⟨b, 0, none⟩ = some c0) (e1 : W.cell? ⟨b, 1, none⟩ = some c1) (e2 : W.cell? ⟨b, 2, none⟩ = some c2) (h1 : 1 ≤ c) (h2 : c ≤ maxLen) :
    TrIn Any W (.mk k 0 [t]) (.agg #[.int .i64 k, .int .i64 0, .slice (some ⟨b, 0, none⟩) 1 c]) := by
  rw [TrIn_mk]
  refine ⟨_, _, _, rfl, hk, by unfold i64; omega, rfl, h1, h2, ?_⟩
  rw [TrsIn_cons]
  exact ⟨b, 0, c0, c1, c2, rfl, trivial, e0, e1, e2, h, TrsIn_nil _ _ _⟩
theorem in_kids2 {W : World} {t u : Tr} {k : Int} {b c : Nat} {c0 c1 c2 d0 d1 d2 : Value} (hk : i64 k) (h : TrIn Any W t (.agg #[c0, c1, c2])) (h' : TrIn Any W u (.agg #[d0, d1, d2])) (e0 : W.cell? ⟨b, 0, none⟩ = some c0) (e1 : W.cell? ⟨b, 1, none⟩ = some c1) (e2 : W.cell? ⟨b, 2, none⟩ = some c2)
    (f0 : W.cell? ⟨b, 3, none⟩ = some d0) (f1 : W.cell? ⟨b, 4, none⟩ = some d1) (f2 : W.cell? ⟨b, 5, none⟩ = some d2) (h1 : 2 ≤ c) (h2 : c ≤ maxLen) :
    TrIn Any W (.mk k 0 [t, u]) (.agg #[.int .i64 k, .int .i64 0, .slice (some ⟨b, 0, none⟩) 2 c]) := by
  rw [TrIn_mk]
  refine ⟨_, _, _, rfl, hk, by unfold i64; omega, rfl, h1, h2, ?_⟩
  rw [TrsIn_cons]
  refine ⟨b, 0, c0, c1, c2, rfl, trivial, e0, e1, e2, h, ?_⟩
  rw [TrsIn_cons]
  exact ⟨b, 0 + 3, d0, d1, d2, rfl, trivial, by simpa using f0, by simpa using f1, by simpa using f2, h', TrsIn_nil _ _ _⟩
theorem six_at {w : World} {b : Nat} {x0 x1 x2 x3 x4 x5 : Value} {t : TypeId} (h : b = w.heap.size) : (w.alloc (.cells #[x0, x1, x2, x3, x4, x5] t)).cell? ⟨b, 0, none⟩ = some x0 ∧ (w.alloc (.cells #[x0, x1, x2, x3, x4, x5] t)).cell? ⟨b, 1, none⟩ = some x1 ∧ (w.alloc (.cells #[x0, x1, x2, x3, x4, x5] t)).cell? ⟨b, 2, none⟩ = some x2 ∧
    (w.alloc (.cells #[x0, x1, x2, x3, x4, x5] t)).cell? ⟨b, 3, none⟩ = some x3 ∧ (w.alloc (.cells #[x0, x1, x2, x3, x4, x5] t)).cell? ⟨b, 4, none⟩ = some x4 ∧ (w.alloc (.cells #[x0, x1, x2, x3, x4, x5] t)).cell? ⟨b, 5, none⟩ = some x5 := by
  subst h; exact ⟨by simp, by simp, by simp, by simp, by simp, by simp⟩
theorem in_box {W : World} {t : Tr} {k : Int} {b c : Nat} {c0 c1 c2 : Value} (hk : i64 k) (h : TrIn Any W t (.agg #[c0, c1, c2])) (e : Box3 W b c0 c1 c2) (h1 : 1 ≤ c := by omega) (h2 : c ≤ maxLen := by simp [maxLen]) :
    TrIn Any W (.mk k 0 [t]) (.agg #[.int .i64 k, .int .i64 0, .slice (some ⟨b, 0, none⟩) 1 c]) := in_kid hk h e.2.1 e.2.2.1 e.2.2.2.1 h1 h2
theorem in_leaf (W : World) {k v : Int} (hk : i64 k) (hv : i64 v) : TrIn Any W (.mk k v []) (.agg #[.int .i64 k, .int .i64 v, .slice none 0 0]) := by
  rw [TrIn_mk]
  exact ⟨_, _, _, rfl, hk, hv, rfl, Nat.le_refl _, by simp [maxLen], TrsIn_nil _ _ _⟩
end Go.Proofs.Ytbeljjalfhogdaa
namespace Go.Proofs.Ytbeljjalfhogdaa
open Go.RowKit
/-- the cells of a row of nodes; and the same nodes wherever these cells stand -/
theorem trs_news {p : Nat → Prop} {w : World} : ∀ (l : List Tr) (b o : Nat), TrsIn p w l (some ⟨b, o, none⟩) → ∃ news : List Value, news.length = l.length * 3 ∧ (∀ j u, news[j]? = some u → w.cell? ⟨b, o + j, none⟩ = some u) ∧ (∀ u, u ∈ news → u.oneCell' = true) ∧
    ∀ (w' : World) (R o' : Nat), Below w.heap.size w w' → (∀ j u, news[j]? = some u → w'.cell? ⟨R, o' + j, none⟩ = some u) → TrsIn Any w' l (some ⟨R, o', none⟩) := by
  intro l
  induction l with
  | nil => intro b o _; exact ⟨[], rfl, by simp, by simp, fun _ _ _ _ _ => TrsIn_nil _ _ _⟩
  | cons t ts ih =>
    intro b o h
    rw [TrsIn_cons] at h
    obtain ⟨b', o', c0, c1, c2, hbo, hp, g0, g1, g2, hT, hr⟩ := h
    simp only [Option.some.injEq, Addr.mk.injEq, and_true] at hbo
    obtain ⟨rfl, rfl⟩ := hbo
    obtain ⟨news, h1, h2, h3, h4⟩ := ih b (o + 3) hr
    obtain ⟨x, k, hx⟩ := TrIn_shape hT
    simp only [Value.agg.injEq, Array.mk.injEq, List.cons.injEq, and_true] at hx
    obtain ⟨e0, e1, e2⟩ := hx
    refine ⟨c0 :: c1 :: c2 :: news, by simp [h1]; omega, ?_, ?_, ?_⟩
    · intro j u hj
      match j, hj with
      | 0, hj => simp at hj; subst hj; exact g0
      | 1, hj => simp at hj; subst hj; exact g1
      | 2, hj => simp at hj; subst hj; exact g2
      | j + 3, hj =>
        have := h2 j u (by simpa using hj)
        rw [show o + 3 + j = o + (j + 3) by omega] at this
        exact this
    · intro u hu
      simp only [List.mem_cons] at hu
      rcases hu with rfl | rfl | rfl | hu
      · rw [e0]; rfl
      · rw [e1]; rfl
      · rw [e2]; rfl
      · exact h3 u hu
    · intro w' R o2 hb hc
      rw [TrsIn_cons]
      refine ⟨R, o2, c0, c1, c2, rfl, trivial, hc 0 c0 rfl, hc 1 c1 rfl, hc 2 c2 rfl, TrIn_any (TrIn_below hb hT), h4 w' R (o2 + 3) hb fun j u hj => ?_⟩
      rw [show o2 + 3 + j = o2 + (j + 3) by omega]
      exact hc (j + 3) u (by simpa using hj)
theorem addr_add (b o i : Nat) : Addr.add ⟨b, o, none⟩ i = ⟨b, o + i, none⟩ := by unfold Addr.add; split <;> simp_all
theorem ownsRow_new (w : World) (e : TypeId) (size : Nat) : (w.alloc (.cells #[] e)).ownsRow w.heap.size e size (.slice (some ⟨w.heap.size, 0, none⟩) 0 0) 0 [] :=
  ⟨by simp, .inr ⟨w.heap.size, 0, #[], rfl, Nat.le_refl _, heap_alloc_new w _, Nat.le_refl _, Nat.zero_le _, by simp, by simp⟩⟩

namespace Formula

theorem cInfo : (Try.prog.info? 29).map (fun i => (i.zero, i.size, i.bytes)) = some (some (.agg #[.int .i64 0, .int .i64 0, .slice none 0 0]), 3, 40) := by kernel_rfl

/-- what a clone comes to: a new row with the cells of the nodes l, which still lie where they lay -/
def CloneP (l : List Tr) (s : Option Addr) (w : World) (v : Value) (w' : World) : Prop := ∃ a c, v = .slice a l.length c ∧ l.length ≤ c ∧ c ≤ maxLen ∧ (0 < l.length → ∃ R f, a = some ⟨R, 0, none⟩ ∧ w.heap.size ≤ R ∧ Row w' R (l.length * 3) f ∧ TrsIn Any w' l a ∧
  ∀ b o i, s = some ⟨b, o, none⟩ → i < l.length * 3 → w.cell? ⟨b, o + i, none⟩ = some (f i))

set_option maxRecDepth 100000 in
set_option maxHeartbeats 1000000 in
theorem sclone_any (l : List Tr) (w : World) (a : Option Addr) (c : Nat) (hl : TrsIn Any w l a) (hc : l.length ≤ c) (hc2 : c ≤ maxLen) (hlen : l.length ≤ 1048576) :
    Calls Try.prog 103 #[.slice a l.length c] w (RetP (CloneP l a w) w) := by
  unfold maxLen at hc2
  rcases a with _ | ad
  · have hl0 : l = [] := by
      cases l with
      | nil => rfl
      | cons t ts => rw [TrsIn_cons] at hl; obtain ⟨b, o, c0, c1, c2, h, _⟩ := hl; cases h
    subst hl0
    have hq : ∀ w, (binOp .eql 27 (.slice none ([] : List Tr).length c) (.slice none 0 0)).run Try.prog w = .ok (.bool true) w := fun w => by
      have := Lib.run_eql_slice_nil (P := Try.prog) w 27 29 none ([] : List Tr).length c 0 0 Try.underlying27
      simpa using this
    simp only [List.length_nil] at hq ⊢
    go_enter Try.func103, Try.ntmps103
    go_wp2_with fail
    go_ret
    exact RetP.mk ⟨none, 0, rfl, Nat.le_refl _, Nat.zero_le _, fun h => by simp at h⟩ (Below.refl _ _)
  · have hq : ∀ w, (binOp .eql 27 (.slice (some ad) l.length c) (.slice none 0 0)).run Try.prog w = .ok (.bool false) w := fun w => by
      have := Lib.run_eql_slice_nil (P := Try.prog) w 27 29 (some ad) l.length c 0 0 Try.underlying27
      simpa using this
    obtain ⟨ri, hi, hz, hs1, hs2⟩ := info_parts cInfo
    have hnews : ∃ news : List Value, news.length = l.length * 3 ∧ (∀ j u, news[j]? = some u → w.cell? (ad.add j) = some u) ∧ (∀ u, u ∈ news → u.oneCell' = true) ∧
        ∀ (w' : World) (R : Nat), Below w.heap.size w w' → (∀ j u, news[j]? = some u → w'.cell? ⟨R, j, none⟩ = some u) → TrsIn Any w' l (some ⟨R, 0, none⟩) := by
      cases hl0 : l with
      | nil => exact ⟨[], rfl, by simp, by simp, fun _ _ _ _ => TrsIn_nil _ _ _⟩
      | cons t ts =>
        obtain ⟨b, o, hbo, _⟩ := TrsIn_addr hl (by rw [hl0]; simp)
        cases hbo
        obtain ⟨news, h1, h2, h3, h4⟩ := trs_news l b o hl
        rw [hl0] at h1 h4
        exact ⟨news, h1, fun j u hj => by rw [addr_add]; exact h2 j u hj, h3, fun w' R hb hc => h4 w' R 0 hb fun j u hj => by rw [Nat.zero_add]; exact hc j u hj⟩
    obtain ⟨news, n1, n2, n3, n4⟩ := hnews
    have N1 := hid n1; have N2 := hid n2; have N3 := hid n3; have N4 := hid n4; have HI := hid hi; have HZ := hid hz; have H1 := hid hs1; have H2 := hid hs2
    clear n1 n2 n3 n4 hi hz hs1 hs2
    go_enter Try.func103, Try.ntmps103
    go_wp2_with (refine wpList_append_own_at _ rfl (.tmp 5) (.tmp 6) 27 rfl w.heap.size 29 ri (.agg #[.int .i64 0, .int .i64 0, .slice none 0 0]) 3 40 Try.underlying27 HI.out HZ.out H1.out H2.out rfl (by omega) (.slice (some ⟨w.heap.size, 0, none⟩) 0 0) 0 [] rfl (ownsRow_new w 29 3) ad l.length c news rfl N1.out (fun j u hj => (below_alloc w _).cell (blt (N2.out j u hj)) ▸ N2.out j u hj) N3.out (by unfold maxLen; omega) (by omega) (by simp) ?_)
    intro v2 w3 hown hgrow _ _
    have B : Below w.heap.size w w3 := ⟨hgrow.os, hgrow.tape, hgrow.output, by have := hgrow.size; simp at this; omega, fun k hk => by
      rw [hgrow.block k (by simp; omega) (fun e => by simp [Value.ownBlock] at e; omega), (below_alloc w _).block k hk]⟩
    have hfin := hid (show CloneP l (some ad) w v2 w3 by
      rcases hown.2 with ⟨rfl, h⟩ | ⟨g, cap, cur, rfl, hb, hgg, h4, h5, h6, h7⟩
      · exact ⟨none, 0, by rw [h], by omega, Nat.zero_le _, fun h' => by omega⟩
      · have hcs := hown.cells (g := g) rfl
        refine ⟨some ⟨g, 0, none⟩, cap, rfl, h4, h5, fun _ => ⟨g, fun i => news.getD i undef, rfl, hb, ⟨(Array.getElem?_eq_some_iff.1 hgg).1, fun i hi => ?_, fun i => by simp [World.frozen?, hgg]⟩, ?_⟩⟩
        · have hx : news[i]? = some (news.getD i undef) := by
            simp only [List.getD_eq_getElem?_getD]
            rw [List.getElem?_eq_getElem (by rw [N1.out]; exact hi)]; rfl
          have := hcs i _ hx
          rw [addr_add, Nat.zero_add] at this
          exact this
        · refine ⟨N4.out w3 g B fun j u hj => ?_, fun b o i e hi => ?_⟩
          · have := hcs j u hj
            rw [addr_add, Nat.zero_add] at this
            exact this
          · simp only [Option.some.injEq] at e
            subst e
            have hx : news[i]? = some (news.getD i undef) := by
              simp only [List.getD_eq_getElem?_getD]
              rw [List.getElem?_eq_getElem (by rw [N1.out]; exact hi)]; rfl
            have := N2.out i _ hx
            rwa [addr_add] at this)
    clear hown hgrow
    go_wp2_with fail
    go_ret
    exact RetP.mk hfin.out B

set_option maxHeartbeats 1000000 in
theorem clip_any (a : Option Addr) (n c : Nat) (w : World) (hc : n ≤ c) (hc2 : c ≤ maxLen) :
    Calls Try.prog 102 #[.slice a n c] w (RetW (.slice a n n) w) := by
  unfold maxLen at hc2
  go_enter Try.func102, Try.ntmps102
  go_wp2_with fail
  go_ret
  exact ⟨rfl, rfl⟩

set_option maxHeartbeats 1000000 in
theorem clone_any (l : List Tr) (w : World) (a : Option Addr) (c : Nat) (hl : TrsIn Any w l a) (hc : l.length ≤ c) (hc2 : c ≤ maxLen) (hlen : l.length ≤ 1048576) :
    Calls Try.prog 95 #[.slice a l.length c] w (RetP (CloneP l a w) w) := by
  go_enter Try.func95, Try.ntmps95
  go_wp2_with fail
  refine (sclone_any l _ a c hl hc hc2 hlen).mono ?_
  rintro e w1 ⟨v, rfl, ⟨a', c', rfl, k1, k2, k3⟩, hb⟩
  go_wp2_with fail
  refine (clip_any a' l.length c' _ k1 k2).mono ?_
  rintro e w2 ⟨rfl, rfl⟩
  go_wp2_with fail
  go_ret
  exact RetP.mk ⟨a', l.length, rfl, Nat.le_refl _, Nat.le_trans k1 k2, k3⟩ hb

end Formula
end Go.Proofs.Ytbeljjalfhogdaa
namespace Go.Proofs.Ytbeljjalfhogdaa
open Go.RowKit
namespace Formula

/-- a row of nodes of one's own, the nodes' blocks from B on -/
def OwnArg (B : Nat) (w : World) (l : List Tr) (a : Option Addr) : Prop := l = [] ∨ ∃ R f bs, a = some ⟨R, 0, none⟩ ∧ Row w R (l.length * 3) f ∧ TrsOwn w f l 0 bs ∧ ∀ x, x ∈ bs → B ≤ x
theorem OwnArg.trs {B : Nat} {w : World} {l : List Tr} {a : Option Addr} (h : OwnArg B w l a) : TrsIn Any w l a := by
  rcases h with rfl | ⟨R, f, bs, rfl, h1, h2, _⟩
  · exact TrsIn_nil _ _ _
  · exact TrOwn_in.2 l f 0 bs h2 (fun _ _ => trivial) R trivial (by simpa using h1)

set_option maxHeartbeats 400000 in
theorem mk_any (k : Int) (hk : i64 k) (l : List Tr) (w : World) (a : Option Addr) (c B : Nat) (h : OwnArg B w l a) (hB : B ≤ w.heap.size) (hc : l.length ≤ c) (hc2 : c ≤ maxLen) (hlen : l.length ≤ 1048576) :
    Calls Try.prog 86 #[.int .i64 k, .slice a l.length c] w (RetP (NewTr B (.mk k 0 l)) w) := by
  have ht := h.trs
  have H := hid h
  clear h
  go_enter Try.func86, Try.ntmps86
  go_wp2_with fail
  refine (clone_any l _ a c (TrsIn_below (by repeat (first | exact Below.refl _ _ | assumption | refine below_a ?_ _ | refine below_o ?_ _ | refine below_d ?_ | refine below_n ?_ _ | refine below_s ?_ (by first | (simp; done) | (simp; omega) | omega) _)) ht) hc hc2 hlen).mono ?_
  rintro e w1 ⟨u, rfl, ⟨a', c', rfl, k1, k2, k3⟩, hb⟩
  have hfin := hid (show ∃ bs, TrOwn w1 (.mk k 0 l) (.agg #[.int .i64 k, .int .i64 0, .slice a' l.length c']) bs ∧ w.heap.size ∉ bs ∧ ∀ x, x ∈ bs → B ≤ x by
    have key : ∃ bs, TrOwn w1 (.mk k 0 l) (.agg #[.int .i64 k, .int .i64 0, .slice a' l.length c']) bs ∧ w.heap.size ∉ bs ∧ ∀ x, x ∈ bs → B ≤ x := by
      rcases H.out with rfl | ⟨R0, f0, bs, rfl, hr0, ho0, hlt⟩
      · exact ⟨[], TrOwn_leaf hk (by unfold i64; omega) k2, by simp, by simp⟩
      · by_cases h0 : 0 < l.length
        · obtain ⟨R, f, rfl, hR, hrow, _, hcells⟩ := k3 h0
          simp only [World.size_alloc] at hR
          have hlb := TrOwn_lt.2 _ _ _ _ ho0
          have hr0' := hr0.below (below_alloc w (.cells #[.int .i64 0, .int .i64 0, .slice none 0 0] 29))
          have hown : TrsOwn w1 f l 0 bs := TrsOwn_congr (TrsOwn_below hb (TrsOwn_below (below_alloc _ _) ho0)) fun i _ hi => by
            have h1 := hcells R0 0 i rfl (by omega)
            rw [Nat.zero_add, hr0'.2.1 i (by omega)] at h1
            exact Option.some.inj h1
          obtain ⟨bs', g1, g2⟩ := TrOwn_new hk (show i64 0 by unfold i64; omega) k1 k2 hrow hown (fun e => by have := hlb R e; omega)
          refine ⟨bs', g1, fun e => ?_, fun x hx => ?_⟩
          · rcases g2 _ e with h | h
            · omega
            · have := hlb _ h; omega
          · rcases g2 _ hx with rfl | h
            · omega
            · exact hlt x h
        · have e : l = [] := List.eq_nil_of_length_eq_zero (by omega)
          subst e
          exact ⟨[], TrOwn_leaf hk (by unfold i64; omega) k2, by simp, by simp⟩
    exact key)
  have bz := box3_next hb (box3_new w (.int .i64 0) (.int .i64 0) (.slice none 0 0) 29)
  obtain ⟨z0, z1, z2, z3, z4, z5, z6⟩ := bz
  have hB1 := hid (below_next (below_alloc _ _) hb)
  clear hb k3
  go_wp2_with fail
  have z := box3_set2 (box3_set1 (box3_set0 ⟨z0, z1, z2, z3, z4, z5, z6⟩ (.int .i64 k)) (.int .i64 0)) (.slice a' l.length c')
  obtain ⟨y0, y1, y2, y3, _⟩ := z
  refine bodyPost_ret (v := .agg #[.int .i64 k, .int .i64 0, .slice a' l.length c']) (by simp [results, Try.results86, go_sem, y1, y2, y3]) rfl ?_
  obtain ⟨bs, g1, g2, g3⟩ := hfin.out
  exact RetP.mk ⟨bs, TrOwn_set (TrOwn_set (TrOwn_set g1 g2 _) g2 _) g2 _, g3⟩ (((hB1.out.setCell (by simp) _).setCell (by simp) _).setCell (by simp) _)

end Formula
end Go.Proofs.Ytbeljjalfhogdaa
