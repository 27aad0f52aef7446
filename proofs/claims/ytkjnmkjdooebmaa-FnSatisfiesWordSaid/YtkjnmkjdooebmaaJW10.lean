/- Joined texts (SatX, SatLaws, SufPlain, SufI, RedP, StSame, ArgRow): contracts and plain laws. Conditions: those of each theorem. -/
import Derived.Test.YtkjnmkjdooebmaaJW9
import Derived.Test.YtkjnmkjdooebmaaJW6
import Derived.Test.YtkjnmkjdooebmaaJW7
import Derived.Test.YtkjnmkjdooebmaaJW5
import Derived.Test.YtkjnmkjdooebmaaJW2
import Derived.Test.YtkjnmkjdooebmaaJW0
import Derived.Test.YtkjnmkjdooebmaaJW3
import Derived.Test.YtkjnmkjdooebmaaJW1
import Derived.ProofKit
import Derived.ChangeOld
import Derived.Lib.SmallJoins
set_option linter.unusedVariables false
set_option linter.unusedSimpArgs false
namespace Go.Proofs.Ytkjnmkjdooebmaa
open Go.RowKit
namespace Lasso

/-- are both arguments valid; is the formula satisfied -/
def satOk (s l : List Int) (t : Tr) : Bool := ok s l && formL.valid t
noncomputable def satV (s l : List Int) (t : Tr) : Bool := satOk s l t && sem (wordOf s l) t 0
theorem valid_shape {t : Tr} (h : formL.valid t = true) : formL.shape t (6 : Nat) = true := by
  rw [Lang.valid, Bool.and_eq_true] at h; exact h.1

set_option maxRecDepth 100000 in
set_option maxHeartbeats 4000000 in
theorem sat_any (s l : List Int) (t : Tr) (w : World) (x y : Value) (hx : PairIn Any w s l x) (hy : TrIn Any w t y) (hn : NilOk x) : Calls Try.prog 8 #[x, y] w (Ret2 (.bool (satV s l t)) (.bool (satOk s l t)) w) := by
  have HX := hid hx
  have HY := hid hy
  have HV := hid (fun (w' : World) (M : Below w.heap.size w w') => valid_any s l w' _ (HX.out.below M))
  have HF := hid (fun (w' : World) (M : Below w.heap.size w w') => Formula.valid_any t w' y (TrIn_below M HY.out))
  have HE := hid (fun (h1 : ok s l = true) (h2 : formL.valid t = true) (w' : World) (M : Below w.heap.size w w') => tru_any s l ⟨(ok_len h1).1, (ok_len h1).2.1, (ok_len h1).2.2.1, (ok_len h1).2.2.2⟩ t 6 w' x y (valid_shape h2) (TrIn_below M HY.out) (HX.out.below M) hn)
  have E := hid (show satOk s l t = (ok s l && formL.valid t) ∧ satV s l t = (satOk s l t && sem (wordOf s l) t 0) from ⟨rfl, rfl⟩)
  have HN := hid (fun (h1 : ok s l = true) => show 0 < s.length + l.length ∧ s.length + l.length ≤ 160 from by have := ok_len h1; omega)
  obtain ⟨a, b, c, d, rfl, _, _, _⟩ := hx
  obtain ⟨ak, ck, rfl⟩ := TrIn_shape hy
  clear hy hn
  cases ho : ok s l with
  | false =>
    have E2 := hid (show satOk s l t = false ∧ satV s l t = false by rw [E.out.2, E.out.1, ho]; simp)
    rw [ho] at HV
    clear ho HE E HN
    go_enter Try.func8, Try.ntmps8
    go_wp2_with fail
    refine (HV.out _ (by repeat (first | exact Below.refl _ _ | assumption | refine below_a ?_ _ | refine below_o ?_ _ | refine below_d ?_ | refine below_n ?_ _ | refine below_s ?_ (by first | (simp; done) | (simp; omega) | omega) _))).mono ?_
    rintro e w1 ⟨rfl, hb⟩
    go_wp2_with fail
    go_ret2
    exact Ret2.mk (by rw [E2.out.2]; rfl) (by rw [E2.out.1]; rfl) (below_next (by repeat (first | exact Below.refl _ _ | assumption | refine below_a ?_ _ | refine below_o ?_ _ | refine below_d ?_ | refine below_n ?_ _ | refine below_s ?_ (by first | (simp; done) | (simp; omega) | omega) _)) hb)
  | true =>
    cases hv : formL.valid t with
    | false =>
      have E2 := hid (show satOk s l t = false ∧ satV s l t = false by rw [E.out.2, E.out.1, hv]; simp)
      rw [ho] at HV
      rw [hv] at HF
      clear ho hv HE E HN
      go_enter Try.func8, Try.ntmps8
      go_wp2_with fail
      refine (HV.out _ (by repeat (first | exact Below.refl _ _ | assumption | refine below_a ?_ _ | refine below_o ?_ _ | refine below_d ?_ | refine below_n ?_ _ | refine below_s ?_ (by first | (simp; done) | (simp; omega) | omega) _))).mono ?_
      rintro e w1 ⟨rfl, hb⟩
      have b3 := box3_next hb (box3_at (w := w.alloc _) (B := w.heap.size + 1) (a := .int .i64 t.kind) (b := .int .i64 t.val) (c := .slice ak t.kids.length ck) (t := 30) (by simp))
      have B1 := hid (below_next (show Below w.heap.size w _ from below_next (below_alloc _ _) (below_alloc _ _)) hb)
      clear hb
      go_wp2_with fail
      refine (HF.out _ B1.out).mono ?_
      rintro e w2 ⟨rfl, hb⟩
      go_wp2_with fail
      go_ret2
      exact Ret2.mk (by rw [E2.out.2]; rfl) (by rw [E2.out.1]; rfl) (below_next B1.out hb)
    | true =>
      have E2 := hid (show satOk s l t = true ∧ satV s l t = sem (wordOf s l) t 0 by rw [E.out.2, E.out.1, hv, ho]; simp)
      have HEE := hid (HE.out ho hv)
      obtain ⟨n0, n1⟩ := HN.out ho
      rw [ho] at HV
      rw [hv] at HF
      clear ho hv HE E HN
      generalize sem (wordOf s l) t = F at *
      generalize hn : s.length + l.length = n at *
      have HNN := hid hn
      clear hn
      go_enter Try.func8, Try.ntmps8
      go_wp2_with fail
      refine (HV.out _ (by repeat (first | exact Below.refl _ _ | assumption | refine below_a ?_ _ | refine below_o ?_ _ | refine below_d ?_ | refine below_n ?_ _ | refine below_s ?_ (by first | (simp; done) | (simp; omega) | omega) _))).mono ?_
      rintro e w1 ⟨rfl, hb⟩
      have b2 := pbox_next hb (pbox_next (below_alloc _ _) (pbox_at (w := w) (a := .slice a s.length c) (b := .slice b l.length d) rfl))
      have b3 := box3_next hb (box3_at (w := w.alloc _) (B := w.heap.size + 1) (a := .int .i64 t.kind) (b := .int .i64 t.val) (c := .slice ak t.kids.length ck) (t := 30) (by simp))
      have B1 := hid (below_next (show Below w.heap.size w _ from below_next (below_alloc _ _) (below_alloc _ _)) hb)
      clear hb
      go_wp2_with fail
      refine (HF.out _ B1.out).mono ?_
      rintro e w2 ⟨rfl, hb⟩
      have B2 := hid (below_next B1.out hb)
      obtain ⟨p0, p1, p2, _⟩ := pbox_next hb b2
      obtain ⟨q0, q1, q2, q3, _⟩ := box3_next hb b3
      clear hb b2 b3
      go_wp2_with fail
      refine (HEE.out _ B2.out).mono ?_
      rintro e w3 ⟨R, rfl, hR, hrow, hb⟩
      have r0 : w3.cell? ⟨R, 0, none⟩ = some (.bool (F 0)) := hrow.2.1 0 n0
      have rl := hrow.1
      have B3 := hid (below_next B2.out hb)
      clear hb hrow
      go_wp2_with fail
      go_ret2
      exact Ret2.mk (by rw [E2.out.2]; rfl) (by rw [E2.out.1]; rfl) B3.out
end Lasso
end Go.Proofs.Ytkjnmkjdooebmaa
namespace Go.Proofs.Ytkjnmkjdooebmaa
open Go.RowKit
namespace Lasso

theorem sat_ok {s l : List Int} {t : Tr} (h : satOk s l t = true) : satV s l t = sem (wordOf s l) t 0 ∧ ok s l = true ∧ formL.valid t = true := by
  have h0 := h
  rw [satOk, Bool.and_eq_true] at h
  exact ⟨by rw [satV, h0, Bool.true_and], h⟩
theorem sat_no {s l : List Int} {t : Tr} (h : satOk s l t = false) : satV s l t = false := by rw [satV, h, Bool.false_and]
theorem dual1 {s l : List Int} {f h : Tr} : satOk s l (.mk 7 0 [.mk 3 0 [f], .mk 3 0 [h]]) = false ∨ satOk s l (.mk 8 0 [f, h]) = false ∨ (satV s l (.mk 7 0 [.mk 3 0 [f], .mk 3 0 [h]]) != satV s l (.mk 8 0 [f, h])) = true := by
  cases h1 : satOk s l (.mk 7 0 [.mk 3 0 [f], .mk 3 0 [h]]) with
  | false => exact .inl rfl
  | true =>
    cases h2 : satOk s l (.mk 8 0 [f, h]) with
    | false => exact .inr (.inl rfl)
    | true =>
      refine .inr (.inr ?_)
      rw [(sat_ok h1).1, (sat_ok h2).1, sem7, sem8, sem3, sem3, unt_not]
      simp
theorem dual2 {s l : List Int} {f : Tr} : satOk s l (.mk 9 0 [.mk 3 0 [f]]) = false ∨ satOk s l (.mk 10 0 [f]) = false ∨ (satV s l (.mk 9 0 [.mk 3 0 [f]]) != satV s l (.mk 10 0 [f])) = true := by
  cases h1 : satOk s l (.mk 9 0 [.mk 3 0 [f]]) with
  | false => exact .inl rfl
  | true =>
    cases h2 : satOk s l (.mk 10 0 [f]) with
    | false => exact .inr (.inl rfl)
    | true =>
      refine .inr (.inr ?_)
      rw [(sat_ok h1).1, (sat_ok h2).1, sem9, sem10, sem3]
      have := unt_not (fun _ => false) (sem (wordOf s l) f)
      simp only [Bool.not_false] at this
      rw [this]
      simp
theorem bne_not {a b : Bool} (h : (a != b) = true) : b = !a := by cases a <;> cases b <;> simp_all
theorem not_cases {o1 o2 v1 v2 : Bool} (h : o1 = true → o2 = true → v2 = !v1) : o1 = false ∨ (o1 = true ∧ o2 = false) ∨ (o1 = true ∧ o2 = true ∧ v1 = true ∧ v2 = false) ∨ (o1 = true ∧ o2 = true ∧ v1 = false ∧ v2 = true) := by
  cases o1 <;> cases o2 <;> cases v1 <;> cases v2 <;> simp_all
theorem dual1b {s l : List Int} {f h : Tr} (h1 : satOk s l (.mk 7 0 [.mk 3 0 [f], .mk 3 0 [h]]) = true) (h2 : satOk s l (.mk 8 0 [f, h]) = true) : satV s l (.mk 8 0 [f, h]) = !satV s l (.mk 7 0 [.mk 3 0 [f], .mk 3 0 [h]]) := by
  rcases dual1 (s := s) (l := l) (f := f) (h := h) with h | h | h
  · rw [h1] at h; cases h
  · rw [h2] at h; cases h
  · exact bne_not h
theorem dual2b {s l : List Int} {f : Tr} (h1 : satOk s l (.mk 9 0 [.mk 3 0 [f]]) = true) (h2 : satOk s l (.mk 10 0 [f]) = true) : satV s l (.mk 10 0 [f]) = !satV s l (.mk 9 0 [.mk 3 0 [f]]) := by
  rcases dual2 (s := s) (l := l) (f := f) with h | h | h
  · rw [h1] at h; cases h
  · rw [h2] at h; cases h
  · exact bne_not h
/-- a normal form, if there is one, means the same; the negation the contrary -/
theorem nf_sat {s l : List Int} {t : Tr} (neg : Bool) (h : satOk s l t = true) (hn : satOk s l (nfT t neg) = true) : satV s l (nfT t neg) = (satV s l t != neg) := by
  rw [(sat_ok h).1, (sat_ok hn).1, sem_nf (wordOf s l) t 6 neg (valid_shape (sat_ok h).2.2)]
/-- always persists, eventually anticipates -/
theorem later1 {s l s' l' : List Int} {f : Tr} {k : Nat} (hw : ∀ i, wordOf s' l' i = wordOf s l (i + k)) (hq : satOk s l (.mk 10 0 [f]) = true) (hr : satOk s' l' (.mk 10 0 [f]) = true) (h : satV s l (.mk 10 0 [f]) = true) : satV s' l' (.mk 10 0 [f]) = true := by
  rw [(sat_ok hr).1, show wordOf s' l' = fun i => wordOf s l (i + k) from funext hw, sem_shf]
  rw [(sat_ok hq).1, sem10] at h
  have := always_later k 0 h
  show sem (wordOf s l) (.mk 10 0 [f]) (0 + k) = true
  rw [sem10]
  exact this
theorem later2 {s l s' l' : List Int} {f : Tr} {k : Nat} (hw : ∀ i, wordOf s' l' i = wordOf s l (i + k)) (hq : satOk s l (.mk 9 0 [f]) = true) (hr : satOk s' l' (.mk 9 0 [f]) = true) (h : satV s' l' (.mk 9 0 [f]) = true) : satV s l (.mk 9 0 [f]) = true := by
  rw [(sat_ok hr).1, show wordOf s' l' = fun i => wordOf s l (i + k) from funext hw, sem_shf] at h
  rw [(sat_ok hq).1, sem9]
  have h2 : sem (wordOf s l) (.mk 9 0 [f]) (0 + k) = true := h
  rw [sem9] at h2
  exact later_soon k 0 h2
theorem sat_shf {s l s' l' : List Int} {f : Tr} {k : Nat} (hw : ∀ i, wordOf s' l' i = wordOf s l (i + k)) (hr : satOk s' l' f = true) : satV s' l' f = sem (wordOf s l) f k := by
  rw [(sat_ok hr).1, show wordOf s' l' = fun i => wordOf s l (i + k) from funext hw, sem_shf]
  show sem (wordOf s l) f (0 + k) = _
  rw [Nat.zero_add]
/-- recurrence and persistence -/
theorem fair1 {s l : List Int} (h : ok s l = true) : satOk s l (.mk 10 0 [.mk 9 0 [.mk 2 0 []]]) = true ∧ satV s l (.mk 10 0 [.mk 9 0 [.mk 2 0 []]]) = l.any oddI := by
  have h1 : satOk s l (.mk 10 0 [.mk 9 0 [.mk 2 0 []]]) = true := by rw [satOk, h]; kernel_rfl
  refine ⟨h1, ?_⟩
  rw [(sat_ok h1).1, sem10, sem9, sem2]
  exact often_loop s l (ok_len h).2.1
theorem fair2 {s l : List Int} (h : ok s l = true) : satOk s l (.mk 9 0 [.mk 10 0 [.mk 2 0 []]]) = true ∧ satV s l (.mk 9 0 [.mk 10 0 [.mk 2 0 []]]) = l.all oddI := by
  have h1 : satOk s l (.mk 9 0 [.mk 10 0 [.mk 2 0 []]]) = true := by rw [satOk, h]; kernel_rfl
  refine ⟨h1, ?_⟩
  rw [(sat_ok h1).1, sem9, sem10, sem2]
  exact stays_loop s l (ok_len h).2.1
theorem fair0 {s l : List Int} {t : Tr} (h : ok s l = false) : satOk s l t = false ∧ satV s l t = false := by
  have h1 : satOk s l t = false := by rw [satOk, h, Bool.false_and]
  exact ⟨h1, sat_no h1⟩
end Lasso
end Go.Proofs.Ytkjnmkjdooebmaa
namespace Go.Proofs.Ytkjnmkjdooebmaa
namespace Lasso

def sufS (s : List Int) (k : Nat) : List Int := if k < s.length then s.drop k else []
def sufL (s l : List Int) (k : Nat) : List Int := if k < s.length then l else l.drop ((k - s.length) % l.length) ++ l.take ((k - s.length) % l.length)
theorem getD_drop (l : List Int) (k i : Nat) : (l.drop k).getD i 0 = l.getD (k + i) 0 := by simp [List.getD_eq_getElem?_getD, List.getElem?_drop]
theorem rot_at (l : List Int) (k i : Nat) (hk : k < l.length) (hi : i < l.length) : (l.drop k ++ l.take k).getD i 0 = l.getD ((k + i) % l.length) 0 := by
  rw [List.getD_eq_getElem?_getD, List.getElem?_append]
  split
  · rename_i h
    rw [List.length_drop] at h
    rw [List.getElem?_drop, Nat.mod_eq_of_lt (by omega), List.getD_eq_getElem?_getD]
  · rename_i h
    rw [List.length_drop] at h
    rw [List.length_drop, List.getElem?_take, if_pos (by omega), List.getD_eq_getElem?_getD]
    have e : (k + i) % l.length = i - (l.length - k) := by
      rw [Nat.mod_eq_sub_mod (by omega), Nat.mod_eq_of_lt (by omega)]; omega
    rw [e]
theorem suf_word (s l : List Int) (k i : Nat) (hl : 0 < l.length) : wordOf (sufS s k) (sufL s l k) i = wordOf s l (i + k) := by
  unfold wordOf sufS sufL
  by_cases hk : k < s.length
  · simp only [if_pos hk, List.length_drop]
    by_cases hi : i < s.length - k
    · rw [if_pos hi, if_pos (by omega), getD_drop, Nat.add_comm]
    · rw [if_neg hi, if_neg (by omega)]
      congr 2
      omega
  · simp only [if_neg hk, List.length_nil, Nat.not_lt_zero, if_false, Nat.sub_zero]
    have hm : (k - s.length) % l.length < l.length := Nat.mod_lt _ hl
    have hlen : (l.drop ((k - s.length) % l.length) ++ l.take ((k - s.length) % l.length)).length = l.length := by simp; omega
    rw [hlen, rot_at l _ _ hm (Nat.mod_lt _ hl), if_neg (by omega)]
    congr 1
    rw [← Nat.add_mod, show i + k - s.length = (k - s.length) + i by omega]
theorem suf_len (s l : List Int) (k : Nat) : (sufS s k).length ≤ s.length ∧ (sufL s l k).length = l.length := by
  unfold sufS sufL
  split
  · simp
  · refine ⟨by simp, ?_⟩
    by_cases hl : l.length = 0
    · simp [hl]
    · have := Nat.mod_lt (k - s.length) (by omega : 0 < l.length)
      simp; omega
theorem suf_mem (s l : List Int) (k : Nat) : (∀ n, n ∈ sufS s k → n ∈ s) ∧ ∀ n, n ∈ sufL s l k → n ∈ l := by
  unfold sufS sufL
  split
  · exact ⟨fun n h => List.mem_of_mem_drop h, fun n h => h⟩
  · refine ⟨fun n h => (by cases h), fun n h => ?_⟩
    rcases List.mem_append.1 h with h | h
    · exact List.mem_of_mem_drop h
    · exact List.mem_of_mem_take h
theorem suf_ok {s l : List Int} {k : Nat} (h : ok s l = true) : ok (sufS s k) (sufL s l k) = true := by
  unfold ok at h ⊢
  simp only [Bool.and_eq_true, decide_eq_true_eq, List.all_eq_true] at h ⊢
  obtain ⟨⟨⟨⟨h1, h2⟩, h3⟩, h4⟩, h5⟩ := h
  have h6 := suf_len s l k
  have h7 := suf_mem s l k
  exact ⟨⟨⟨⟨fun n hn => h1 n (h7.1 n hn), fun n hn => h2 n (h7.2 n hn)⟩, by omega⟩, by omega⟩, by omega⟩
mutual
theorem shape_up (L : Lang) : ∀ (t : Tr) (d d' : Int), d ≤ d' → L.shape t d = true → L.shape t d' = true
  | .mk k v kids, d, d', h, hs => by
    simp only [Lang.shape, Bool.and_eq_true, decide_eq_true_eq] at hs ⊢
    exact ⟨by omega, hs.2.1, shapeL_up L kids (d - 1) (d' - 1) (by omega) hs.2.2⟩
theorem shapeL_up (L : Lang) : ∀ (l : List Tr) (d d' : Int), d ≤ d' → L.shapeL l d = true → L.shapeL l d' = true
  | [], _, _, _, _ => rfl
  | t :: ts, d, d', h, hs => by
    simp only [Lang.shapeL, Bool.and_eq_true] at hs ⊢
    exact ⟨shape_up L t d d' h hs.1, shapeL_up L ts d d' h hs.2⟩
end
/-- expansion -/
theorem sat_kid {s l : List Int} {k v : Int} {kids : List Tr} (h : satOk s l (.mk k v kids) = true) : ∀ t, t ∈ kids → satOk s l t = true ∧ satV s l t = sem (wordOf s l) t 0 := by
  intro t ht
  have h2 := sat_ok h
  have hv : satOk s l t = true := by
    rw [satOk, h2.2.1, Bool.true_and]
    have h3 := h2.2.2
    rw [Lang.valid, Bool.and_eq_true] at h3 ⊢
    obtain ⟨m, e, _, _, _, _, _, hk⟩ := formL.shape_mk (n := 6) h3.1
    obtain rfl : m = 5 := by omega
    refine ⟨shape_up formL t _ _ (by omega) (hk t ht), ?_⟩
    have h4 := h3.2
    rw [decide_eq_true_eq] at h4 ⊢
    have h5 := nodes_mem ht
    simp only [nodes] at h4
    omega
  exact ⟨hv, (sat_ok hv).1⟩
end Lasso
end Go.Proofs.Ytkjnmkjdooebmaa
namespace Go.Proofs.Ytkjnmkjdooebmaa
open Go.RowKit
set_option linter.unusedVariables false
set_option linter.unusedSimpArgs false
namespace Lasso

set_option maxHeartbeats 1000000 in
theorem sclip2_any (l : List Int) (w : World) (v : Value) (B : Nat) (h : OwnI B v l w) (hlen : l.length ≤ 1000000) : Calls Try.prog 51 #[v] w (RetP (RowV B l) w) := by
  rcases h.row with ⟨rfl, rfl⟩ | ⟨g, c, rfl, h1, h2, h3, h4⟩
  · go_enter Try.func51, Try.ntmps51
    go_wp2_with fail
    go_ret
    exact RetP.mk ⟨none, 0, [], rfl, Nat.le_refl _, by simp [maxLen], fun _ => rfl, .inl ⟨rfl, rfl⟩, by simp⟩ (Below.refl _ _)
  · have HV := hid h4
    have hl2 : (l.length : Int) ≤ (c : Int) := by omega
    unfold maxLen at h3
    clear h h4
    go_enter Try.func51, Try.ntmps51
    go_wp2_with fail
    go_ret
    exact RetP.mk ⟨_, l.length, [g], rfl, Nat.le_refl _, by unfold maxLen; omega, (fun e => by cases e), .inr ⟨g, rfl, rfl, by rw [List.length_map]; exact HV.out⟩, by simpa using h1⟩ (Below.refl _ _)
set_option maxHeartbeats 1000000 in
theorem clone2_any (l : List Int) (w : World) (a : Option Addr) (c : Nat) (hl : IntsIn Any w a l) (hlen : l.length ≤ 1000000) (hn : a = none → c = 0) : Calls Try.prog 32 #[.slice a l.length c] w (RetP (RowV w.heap.size l) w) := by
  have HC := hid (sclone_any l w a c hl hlen hn)
  go_enter Try.func32, Try.ntmps32
  go_wp2_with fail
  refine HC.out.mono ?_
  rintro e w1 ⟨v, rfl, hv, hb⟩
  have HV := hid hv
  have HB := hid hb
  clear hv hb
  go_wp2_with fail
  refine (sclip2_any l w1 v w.heap.size HV.out hlen).mono ?_
  rintro e w2 ⟨u, rfl, hu, hb⟩
  have HU := hid hu
  have HB2 := hid (below_next HB.out hb)
  clear hu hb
  go_wp2_with fail
  go_ret
  exact RetP.mk HU.out HB2.out

theorem ints_drop {w : World} {b o : Nat} {l : List Int} (h : IntsIn Any w (some ⟨b, o, none⟩) l) (k : Nat) : IntsIn Any w (some ⟨b, o + k, none⟩) (l.drop k) := by
  refine ⟨?_, fun n hn => h.2 n (List.mem_of_mem_drop hn)⟩
  rcases h.1 with h1 | ⟨b', o', e, _, h3, h4⟩
  · have : l = [] := by simpa using h1
    subst this
    exact .inl (by simp)
  · simp at e
    obtain ⟨rfl, rfl⟩ := e
    refine .inr ⟨b, o + k, rfl, trivial, h3, fun i v hv => ?_⟩
    rw [List.map_drop, List.getElem?_drop] at hv
    rw [Nat.add_assoc]
    exact h4 _ v hv
theorem ints_take {w : World} {a : Option Addr} {l : List Int} (h : IntsIn Any w a l) (k : Nat) : IntsIn Any w a (l.take k) := by
  refine ⟨?_, fun n hn => h.2 n (List.mem_of_mem_take hn)⟩
  rcases h.1 with h1 | ⟨b', o', e, h2, h3, h4⟩
  · have : l = [] := by simpa using h1
    subst this
    exact .inl (by simp)
  · refine .inr ⟨b', o', e, h2, h3, fun i v hv => ?_⟩
    rw [List.map_take, List.getElem?_take] at hv
    split at hv
    · exact h4 _ v hv
    · cases hv
/-- what SuffixAt comes to -/
def SufPost (s l : List Int) (k : Nat) (w : World) (e : Ending) (w' : World) : Prop := ∃ v, e = .returned (.tuple #[v, .bool (ok s l)]) ∧ NewLas w.heap.size (if ok s l = true then sufS s k else []) (if ok s l = true then sufL s l k else []) v w' ∧ Below w.heap.size w w'

end Lasso
end Go.Proofs.Ytkjnmkjdooebmaa
namespace Go.Proofs.Ytkjnmkjdooebmaa
set_option linter.unusedVariables false
set_option linter.unusedSimpArgs false
namespace Lasso

/-- the list is its first n numbers, again and again -/
noncomputable def perB (l : List Int) (n : Nat) : Bool := dec (l.length % n = 0 ∧ ∀ i, n ≤ i → i < l.length → l.getD i 0 = l.getD (i - n) 0)
theorem perB_iff {l : List Int} {n : Nat} : perB l n = true ↔ l.length % n = 0 ∧ ∀ i, n ≤ i → i < l.length → l.getD i 0 = l.getD (i - n) 0 := dec_iff
def IsPer (l : List Int) (n : Nat) : Prop := 1 ≤ n ∧ n ≤ l.length ∧ perB l n = true ∧ ∀ m, 1 ≤ m → m < n → perB l m = false
theorem IsPer.eq {l : List Int} {n m : Nat} (h : IsPer l n) (k : IsPer l m) : n = m := by
  rcases Nat.lt_trichotomy n m with e | e | e
  · have := k.2.2.2 n h.1 e; rw [h.2.2.1] at this; cases this
  · exact e
  · have := h.2.2.2 m k.1 e; rw [k.2.2.1] at this; cases this
noncomputable def perN (l : List Int) : Nat := open Classical in if h : ∃ n, IsPer l n then h.choose else 0
theorem IsPer.n {l : List Int} {n : Nat} (h : IsPer l n) : perN l = n := by
  have hx : ∃ n, IsPer l n := ⟨n, h⟩
  unfold perN
  rw [dif_pos hx]
  exact hx.choose_spec.eq h
theorem perB_full (l : List Int) : perB l l.length = true := perB_iff.2 ⟨Nat.mod_self _, fun i h1 h2 => by omega⟩
theorem perB_mod {l : List Int} {n : Nat} (h : perB l n = true) (hn : 1 ≤ n) : ∀ i, i < l.length → l.getD i 0 = l.getD (i % n) 0 := by
  intro i
  induction i using Nat.strongRecOn with
  | ind i ih =>
    intro hi
    by_cases e : i < n
    · rw [Nat.mod_eq_of_lt e]
    · rw [(perB_iff.1 h).2 i (by omega) hi, ih (i - n) (by omega) (by omega), ← Nat.mod_eq_sub_mod (by omega)]
/-- t, k times -/
def rep (t : List Int) (k : Nat) : List Int := (List.replicate k t).flatten
theorem rep_len (t : List Int) (k : Nat) : (rep t k).length = k * t.length := by simp [rep]
theorem rep_at (t : List Int) : ∀ (k i : Nat), i < k * t.length → (rep t k).getD i 0 = t.getD (i % t.length) 0
  | 0, i, h => by omega
  | k + 1, i, h => by
    have e : rep t (k + 1) = t ++ rep t k := by simp [rep, List.replicate_succ]
    rw [e, List.getD_eq_getElem?_getD, List.getElem?_append]
    split
    · rename_i h1
      rw [Nat.mod_eq_of_lt h1, List.getD_eq_getElem?_getD]
    · rename_i h1
      rw [Nat.add_mul, Nat.one_mul] at h
      rw [← List.getD_eq_getElem?_getD, rep_at t k (i - t.length) (by omega), ← Nat.mod_eq_sub_mod (by omega)]
theorem list_ext0 {l m : List Int} (h : l.length = m.length) (h2 : ∀ i, i < l.length → l.getD i 0 = m.getD i 0) : l = m := by
  refine List.ext_getElem h fun i h3 h4 => ?_
  have := h2 i h3
  rwa [List.getD_eq_getElem?_getD, List.getD_eq_getElem?_getD, List.getElem?_eq_getElem h3, List.getElem?_eq_getElem h4] at this
theorem getD_take0 (l : List Int) {n i : Nat} (h : i < n) : (l.take n).getD i 0 = l.getD i 0 := by
  rw [List.getD_eq_getElem?_getD, List.getD_eq_getElem?_getD, List.getElem?_take, if_pos h]
theorem rep_iff {l : List Int} {n : Nat} (h1 : 1 ≤ n) (h2 : n ≤ l.length) (h3 : l.length % n = 0) : rep (l.take n) (l.length / n) = l ↔ perB l n = true := by
  have hl : (l.take n).length = n := by rw [List.length_take]; omega
  have hm : l.length / n * n = l.length := Nat.div_mul_cancel (Nat.dvd_of_mod_eq_zero h3)
  constructor
  · intro e
    have key : ∀ i, i < l.length → l.getD i 0 = l.getD (i % n) 0 := fun i hi => by
      have h4 := rep_at (l.take n) (l.length / n) i (by rw [hl, hm]; exact hi)
      rw [hl, e, getD_take0 l (Nat.mod_lt _ (by omega))] at h4
      exact h4
    refine perB_iff.2 ⟨h3, fun i h4 h5 => ?_⟩
    rw [key i h5, key (i - n) (by omega), ← Nat.mod_eq_sub_mod h4]
  · intro h
    refine list_ext0 (by rw [rep_len, hl, hm]) fun i hi => ?_
    rw [rep_len, hl, hm] at hi
    rw [rep_at _ _ _ (by rw [hl, hm]; exact hi), hl, getD_take0 l (Nat.mod_lt _ (by omega)), ← perB_mod h h1 i hi]

/-- the last number -/
def lst (l : List Int) : Int := l.getD (l.length - 1) 0
/-- the last number goes to the front -/
def rotR (l : List Int) : List Int := lst l :: l.take (l.length - 1)
/-- k numbers of the stem may be taken into the loop -/
def rot : Nat → List Int → List Int → List Int × List Int
  | 0, s, l => (s, l)
  | k + 1, s, l => if lst s = lst l then rot k (s.take (s.length - 1)) (rotR l) else (s, l)
theorem rotR_len {l : List Int} (h : 0 < l.length) : (rotR l).length = l.length := by simp [rotR]; omega
noncomputable def red (s l : List Int) : List Int × List Int := rot s.length s (l.take (perN l))

theorem getD_zero (l : List Int) (i : Nat) (h : i < l.length) : l.getD i 0 = l[i] := by rw [List.getD_eq_getElem?_getD, List.getElem?_eq_getElem h]; rfl
theorem rotR_at {l : List Int} (h : 0 < l.length) {i : Nat} (hi : i < l.length) : (rotR l).getD i 0 = l.getD ((i + (l.length - 1)) % l.length) 0 := by
  cases i with
  | zero => rw [Nat.zero_add, Nat.mod_eq_of_lt (by omega)]; rfl
  | succ i =>
    rw [show i + 1 + (l.length - 1) = i + l.length by omega, Nat.add_mod_right, Nat.mod_eq_of_lt (by omega)]
    show (l.take (l.length - 1)).getD i 0 = _
    exact getD_take0 l (by omega)
theorem word_take {s l : List Int} {n : Nat} (h : IsPer l n) (i : Nat) : wordOf s (l.take n) i = wordOf s l i := by
  obtain ⟨h1, h2, h3, _⟩ := h
  have hl : (l.take n).length = n := by rw [List.length_take]; omega
  have hd := (perB_iff.1 h3).1
  unfold wordOf
  split
  · rfl
  · rw [hl, getD_take0 l (Nat.mod_lt _ (by omega)), perB_mod h3 h1 _ (Nat.mod_lt _ (by omega)), Nat.mod_mod_of_dvd _ (Nat.dvd_of_mod_eq_zero hd)]
theorem word_rot {s l : List Int} (hs : 0 < s.length) (hl : 0 < l.length) (he : lst s = lst l) (i : Nat) : wordOf (s.take (s.length - 1)) (rotR l) i = wordOf s l i := by
  have h1 : (s.take (s.length - 1)).length = s.length - 1 := by rw [List.length_take]; omega
  unfold wordOf
  rw [h1, rotR_len hl]
  by_cases c : i < s.length - 1
  · rw [if_pos c, if_pos (by omega), getD_take0 s c]
  · rw [if_neg c, rotR_at hl (Nat.mod_lt _ hl)]
    by_cases c2 : i = s.length - 1
    · subst c2
      rw [if_pos (by omega), Nat.sub_self, Nat.zero_mod, Nat.zero_add, Nat.mod_eq_of_lt (by omega)]
      exact he.symm
    · rw [if_neg (by omega), Nat.mod_add_mod, show i - (s.length - 1) + (l.length - 1) = i - s.length + l.length by omega, Nat.add_mod_right]
theorem word_rots : ∀ (k : Nat) (s l : List Int), k ≤ s.length → 0 < l.length → ∀ i, wordOf (rot k s l).1 (rot k s l).2 i = wordOf s l i
  | 0, s, l, _, _, i => rfl
  | k + 1, s, l, hk, hl, i => by
    unfold rot
    split
    · rename_i he
      rw [word_rots k _ _ (by rw [List.length_take]; omega) (by rw [rotR_len hl]; exact hl), word_rot (by omega) hl he]
    · rfl
theorem red_word {s l : List Int} {n : Nat} (h : IsPer l n) (i : Nat) : wordOf (red s l).1 (red s l).2 i = wordOf s l i := by
  rw [red, h.n, word_rots _ _ _ (Nat.le_refl _) (by rw [List.length_take]; have := h.1; have := h.2.1; omega), word_take h]
theorem per_ex (l : List Int) (h : 0 < l.length) : ∃ n, IsPer l n := by
  have key : ∀ k, (∃ n, IsPer l n) ∨ k ≤ l.length → (∃ n, IsPer l n) ∨ ∀ m, 1 ≤ m → m ≤ k → perB l m = false := by
    intro k
    induction k with
    | zero => intro _; exact .inr fun m h1 h2 => by omega
    | succ k ih =>
      rintro (hh | hh)
      · exact .inl hh
      rcases ih (.inr (by omega)) with h2 | h2
      · exact .inl h2
      · cases e : perB l (k + 1) with
        | true => exact .inl ⟨k + 1, by omega, hh, e, fun m h3 h4 => h2 m h3 (by omega)⟩
        | false =>
          refine .inr fun m h3 h4 => ?_
          by_cases e2 : m = k + 1
          · rw [e2]; exact e
          · exact h2 m h3 (by omega)
  rcases key l.length (.inr (Nat.le_refl _)) with h1 | h1
  · exact h1
  · have := h1 l.length h (Nat.le_refl _)
    rw [perB_full] at this
    cases this
/-- do two lassos have the same reduced one? -/
noncomputable def sameW (s l s' l' : List Int) : Bool := ok s l && ok s' l' && decide ((red s l).1 = (red s' l').1) && decide ((red s l).2 = (red s' l').2)
theorem same_word {s l s' l' : List Int} (h : sameW s l s' l' = true) (i : Nat) : wordOf s l i = wordOf s' l' i := by
  unfold sameW at h
  simp only [Bool.and_eq_true, decide_eq_true_eq] at h
  obtain ⟨⟨⟨h1, h2⟩, h3⟩, h4⟩ := h
  obtain ⟨n, hn⟩ := per_ex l (ok_len h1).2.1
  obtain ⟨m, hm⟩ := per_ex l' (ok_len h2).2.1
  rw [← red_word (s := s) hn i, ← red_word (s := s') hm i, h3, h4]
end Lasso
end Go.Proofs.Ytkjnmkjdooebmaa
namespace Go.Proofs.Ytkjnmkjdooebmaa
open Go.RowKit
set_option linter.unusedVariables false
set_option linter.unusedSimpArgs false

theorem ne_dec {l m : List Int} {k : Nat} (h1 : k < l.length) (h2 : k < m.length) (h : l[k] ≠ m[k]) : decide (l = m) = false := by
  simp only [decide_eq_false_iff_not]
  intro e
  subst e
  exact h rfl
theorem take_eq {l m : List Int} {k : Nat} (h : l.take k = m.take k) (h1 : k < l.length) (h2 : k < m.length) (h3 : l[k] = m[k]) : l.take (k + 1) = m.take (k + 1) := by
  rw [List.take_add_one, List.take_add_one, h, List.getElem?_eq_getElem h1, List.getElem?_eq_getElem h2, h3]

set_option maxRecDepth 100000 in
set_option maxHeartbeats 1000000 in
theorem eqSl_any (l m : List Int) (w : World) (a a' : Option Addr) (c c' : Nat) (hl : IntsIn Any w a l) (hm : IntsIn Any w a' m) (h1 : l.length ≤ c ∧ c ≤ maxLen) (h2 : m.length ≤ c' ∧ c' ≤ maxLen) :
    Calls Try.prog 31 #[.slice a l.length c, .slice a' m.length c'] w (Ret (.bool (decide (l = m))) w) := by
  have HL := hid hl
  have HM := hid hm
  obtain ⟨c1, c2⟩ := h1
  obtain ⟨c3, c4⟩ := h2
  unfold maxLen at c2 c4
  clear hl hm
  by_cases hne : l.length = m.length
  · have HNE := hid hne
    have hne1 : ((l.length : Int) == (m.length : Int)) = true := by rw [hne]; simp
    have hne2 : ((l.length : Int) != (m.length : Int)) = false := by rw [hne]; simp
    clear hne
    go_enter Try.func31, Try.ntmps31
    go_wp2_with fail
    go_loopw [13] (fun i wr => ∃ k : Nat, k ≤ l.length ∧ i = .int .i64 k ∧ Hid (Below w.heap.size w wr) ∧ Hid (l.take k = m.take k)) (fun i _ => l.length - (intOf i).toNat)
    case atStart => exact ⟨0, Nat.zero_le _, rfl, hid (Below.refl _ _), hid rfl⟩
    case round =>
      obtain ⟨k, hk, rfl, B, HT⟩ := hrel
      by_cases hlt : k < l.length
      · have hlt2 : (k : Int) < (l.length : Int) := by omega
        have hltm : k < m.length := by have := HNE.out; omega
        have hlt3 : (k : Int) < (m.length : Int) := by omega
        obtain ⟨b, o, rfl, _, _, g1, _⟩ := ints_at HL.out B.out hlt
        obtain ⟨b', o', rfl, _, _, g2, _⟩ := ints_at HM.out B.out hltm
        have HD := hid (fun h => ne_dec hlt hltm h)
        have HE := hid (fun h => take_eq HT.out hlt hltm h)
        generalize l[k] = x at *
        generalize m[k] = y at *
        by_cases hxy : x = y
        · subst hxy
          have HE2 := hid (HE.out rfl)
          clear HD HE HT
          go_wp2_with fail
          refine wp_region_over (by kernel_rfl) (by kernel_rfl) ?_; (repeat (go_big_quiet_step ((fail)))); refine wpQuiet_nil ?_; rintro _ ⟨xq, rfl⟩
          have B2 := hid (below_next B.out (over_below wr xq))
          go_wp2_with fail
          go_roundw
          case rel => exact ⟨k + 1, hlt, by go_num, B2, HE2⟩
          case measure => simp [intOf]; omega
        · have hd := HD.out hxy
          rw [hd]
          have hxy2 : (x == y) = false := by simpa using hxy
          clear hd HD HE HT hxy
          go_wp2_with fail
          refine wp_region_over (by kernel_rfl) (by kernel_rfl) ?_; (repeat (go_big_quiet_step ((fail)))); refine wpQuiet_nil ?_; rintro _ ⟨xq, rfl⟩
          have B2 := hid (below_next B.out (over_below wr xq))
          go_wp2_with fail
          go_ret
          exact Ret.mk rfl B2.out
      · obtain rfl : k = l.length := by omega
        have hd : decide (l = m) = true := by
          have h := HT.out
          rw [List.take_length, HNE.out, List.take_length] at h
          simpa using h
        have HD := hid hd
        clear hd HT
        go_wp2_with fail
        go_ret
        exact Ret.mk (by rw [HD.out]; rfl) B.out
  · have hne2 : ((l.length : Int) == (m.length : Int)) = false := by simp; omega
    have hd : decide (l = m) = false := by simp only [decide_eq_false_iff_not]; intro e; exact hne (by rw [e])
    rw [hd]
    clear hd
    go_enter Try.func31, Try.ntmps31
    go_wp2_with fail
    go_ret
    exact Ret.mk rfl (Below.refl _ _)

end Go.Proofs.Ytkjnmkjdooebmaa
namespace Go.Proofs.Ytkjnmkjdooebmaa
open Go.RowKit

section
variable {H : Type} {enc : TypeId × Value → H} {P : Program} {w : World} {base : Nat} {spare : Nat → Bool} {held : Bool}

theorem cells1 {a : Addr} {cs : List Value} (h : w.cells? base a 1 = some cs) : ∃ c0, cs = [c0] ∧ w.cell? (a.add 0) = some c0 := by
  obtain ⟨_, hl, hc⟩ := World.cells?_some h
  match cs, hl with
  | [c0], _ => exact ⟨c0, rfl, by simpa using hc 0 (by omega)⟩

theorem bytes_read {S I : TypeId} (hS : P.underlying S = some (.slice I)) (hI : P.underlying I = some (.int .u8)) (cI : P.cellsOf I = 1)
    {fuel : Nat} {a : Option Addr} {len cap : Nat} {x : DataW H × List MemPlace} (h : DataW.trod enc P w base spare held fuel S [.slice a len cap] = some x) : ByteArg w a len cap := by
  rcases DataW.trod_slice hS h with ⟨hc, _⟩ | ⟨a', len', cap', elems, rest, m, hm, hc, _, _, hlc, hcm, hel, hcell, _⟩
  · simp at hc
    obtain ⟨rfl, rfl, rfl⟩ := hc
    exact ⟨Nat.le_refl _, Nat.zero_le _, .inl rfl⟩
  · simp at hc
    obtain ⟨rfl, rfl, rfl⟩ := hc
    refine ⟨hlc, hcm, ?_⟩
    by_cases h0 : len = 0
    · exact .inl h0
    have key : ∀ i, i < len → ∃ n : Int, w.cell? (a'.add i) = some (.int .u8 n) ∧ 0 ≤ n ∧ n ≤ 255 := fun i hi => by
      have hh := hcell i hi
      rw [cI, List.getElem?_eq_getElem (by omega)] at hh
      obtain ⟨cs', h3, h4⟩ := Option.bind_eq_some_iff.1 hh
      obtain ⟨c0, rfl, q0⟩ := cells1 h3
      obtain ⟨n, hn, _, wn⟩ := DataW.trod_int hI h4
      simp only [List.cons.injEq, and_true] at hn
      subst hn
      have hwf : 0 ≤ n ∧ n ≤ 255 := by
        simp [Lit.wf, IntKind.min, IntKind.max, IntKind.signed, IntKind.bits] at wn
        omega
      exact ⟨n, by simpa [Addr.add] using q0, hwf⟩
    obtain ⟨b, o, s⟩ := a'
    obtain ⟨n0, e0, _⟩ := key 0 (by omega)
    have hs : s = none := by simpa [Addr.add] using World.cell?_spot e0
    subst hs
    have ea : ∀ i, Addr.add ⟨b, o, none⟩ i = ⟨b, o + i, none⟩ := fun i => by unfold Addr.add; split <;> simp_all
    have hall : ∀ i, ∃ n : Int, i < len → w.cell? ⟨b, o + i, none⟩ = some (.int .u8 n) ∧ 0 ≤ n ∧ n ≤ 255 := fun i => by
      by_cases hi : i < len
      · obtain ⟨n, hn⟩ := key i hi
        rw [ea] at hn
        exact ⟨n, fun _ => hn⟩
      · exact ⟨0, fun h => absurd h hi⟩
    obtain ⟨f, hf⟩ := Classical.axiomOfChoice hall
    refine .inr ⟨b, o, f, rfl, ?_, hf⟩
    have := (hf 0 (by omega)).1
    exact blt this
end
end Go.Proofs.Ytkjnmkjdooebmaa
