/- Joined texts (SysTxtP, SyTxtI, RowS, FmtP, SysVI): contracts and plain laws. Conditions: those of each theorem. -/
import Derived.Test.YtgopfjnpjkpelaaDoorJY12
import Derived.Test.YtgopfjnpjkpelaaDoorJY4
set_option linter.unusedVariables false
set_option linter.unusedSimpArgs false
namespace Go.Proofs.YtgopfjnpjkpelaaDoor
open Go.RowKit
set_option linter.unusedVariables false
set_option linter.unusedSimpArgs false
namespace Sys

def dig (n : Int) : List UInt8 := [byte (48 + n)]
def syncT (n : Int) : List UInt8 := if 0 < n then 33 :: dig n else if n < 0 then 63 :: dig (-n) else [45]
def asgT (e : Ed) : List UInt8 := if 0 ≤ e.var then byte (120 + e.var) :: 58 :: 61 :: exprT.txt e.val else [45]
def edT (e : Ed) : List UInt8 := [101, 100, 103, 101, 32] ++ (dig e.src ++ (32 :: (dig e.dst ++ (32 :: (exprT.txt e.guard ++ (32 :: (asgT e ++ (32 :: (syncT e.sync ++ [10])))))))))
def edsT : List Ed → List UInt8
  | [] => []
  | e :: es => edT e ++ edsT es
def prT (q : Pr) : List UInt8 := [112, 114, 111, 99, 101, 115, 115, 32] ++ (dig q.locs ++ (10 :: edsT q.edges))
def prsT : List Pr → List UInt8
  | [] => []
  | q :: qs => prT q ++ prsT qs
def iniT (l : List Int) : List UInt8 := [115, 121, 115, 116, 101, 109, 32] ++ (dig (l.getD 0 0) ++ (32 :: (dig (l.getD 1 0) ++ (32 :: (dig (l.getD 2 0) ++ [10])))))
def syT (s : Sy) : List UInt8 := iniT s.init ++ prsT s.procs

theorem dig_inj {a b : Int} (h1 : 0 ≤ a ∧ a ≤ 9) (h2 : 0 ≤ b ∧ b ≤ 9) {r r' : List UInt8} (h : dig a ++ r = dig b ++ r') : a = b ∧ r = r' := by
  have hd : ∀ n : Int, 0 ≤ n → n ≤ 9 → n = 0 ∨ n = 1 ∨ n = 2 ∨ n = 3 ∨ n = 4 ∨ n = 5 ∨ n = 6 ∨ n = 7 ∨ n = 8 ∨ n = 9 := fun n h1 h2 => by omega
  simp only [dig, List.cons_append, List.nil_append, List.cons.injEq] at h
  refine ⟨?_, h.2⟩
  have h0 := h.1
  rcases hd a h1.1 h1.2 with rfl | rfl | rfl | rfl | rfl | rfl | rfl | rfl | rfl | rfl <;> rcases hd b h2.1 h2.2 with rfl | rfl | rfl | rfl | rfl | rfl | rfl | rfl | rfl | rfl <;> first | rfl | (exfalso; revert h0; decide)
theorem txt_inj {t u : Tr} {r r' : List UInt8} (ht : exprL.valid t = true) (hu : exprL.valid u = true) (h : exprT.txt t ++ r = exprT.txt u ++ r') : t = u ∧ r = r' := by
  simp only [Lang.valid, Bool.and_eq_true] at ht hu
  have h1 := rdE_txt 51 (by decide) (by decide) 6 t r ht.1
  have h2 := rdE_txt 51 (by decide) (by decide) 6 u r' hu.1
  rw [h, h2] at h1
  simp at h1
  exact ⟨h1.1.symm, h1.2.symm⟩
theorem sync_inj {a b : Int} (h1 : -2 ≤ a ∧ a ≤ 2) (h2 : -2 ≤ b ∧ b ≤ 2) {r r' : List UInt8} (h : syncT a ++ r = syncT b ++ r') : a = b ∧ r = r' := by
  have hd : ∀ n : Int, -2 ≤ n → n ≤ 2 → n = -2 ∨ n = -1 ∨ n = 0 ∨ n = 1 ∨ n = 2 := fun n h1 h2 => by omega
  rcases hd a h1.1 h1.2 with rfl | rfl | rfl | rfl | rfl <;> rcases hd b h2.1 h2.2 with rfl | rfl | rfl | rfl | rfl <;> simp [syncT, dig, byte] at h <;> first | exact ⟨rfl, h⟩ | (exfalso; revert h; decide) | (exfalso; exact absurd h.1 (by decide)) | exact ⟨rfl, by simpa using h⟩
theorem none_eq {t : Tr} (h : Edge.isNone t = true) : t = .mk 0 0 [] := by
  obtain ⟨k, v, l⟩ := t
  simp only [Edge.isNone, Bool.and_eq_true] at h
  have h1 : k = 0 := of_decide_eq_true h.1
  have h2 : v = 0 := of_decide_eq_true h.2.1
  have h3 : l.length = 0 := of_decide_eq_true h.2.2
  rw [h1, h2, List.eq_nil_of_length_eq_zero h3]
theorem asg_inj {e f : Ed} (he : -1 ≤ e.var ∧ e.var ≤ 2) (hf : -1 ≤ f.var ∧ f.var ≤ 2) (ve : (if e.var < 0 then Edge.isNone e.val else exprL.valid e.val) = true) (vf : (if f.var < 0 then Edge.isNone f.val else exprL.valid f.val) = true) {r r' : List UInt8} (h : asgT e ++ r = asgT f ++ r') : e.var = f.var ∧ e.val = f.val ∧ r = r' := by
  have hd : ∀ n : Int, 0 ≤ n → n ≤ 2 → n = 0 ∨ n = 1 ∨ n = 2 := fun n h1 h2 => by omega
  by_cases h1 : 0 ≤ e.var
  · have h1n : ¬ e.var < 0 := by omega
    rw [if_neg h1n] at ve
    by_cases h2 : 0 ≤ f.var
    · have h2n : ¬ f.var < 0 := by omega
      rw [if_neg h2n] at vf
      simp only [asgT, if_pos h1, if_pos h2, List.cons_append, List.cons.injEq, true_and] at h
      obtain ⟨k1, k2⟩ := txt_inj ve vf h.2
      refine ⟨?_, k1, k2⟩
      have h0 := h.1
      rcases hd e.var h1 he.2 with g | g | g <;> rcases hd f.var h2 hf.2 with g' | g' | g' <;> rw [g, g'] at h0 ⊢ <;> first | rfl | (exfalso; revert h0; decide)
    · exfalso
      simp only [asgT, if_pos h1, if_neg h2, List.cons_append, List.cons.injEq] at h
      have h0 := h.1
      rcases hd e.var h1 he.2 with g | g | g <;> rw [g] at h0 <;> revert h0 <;> decide
  · by_cases h2 : 0 ≤ f.var
    · exfalso
      simp only [asgT, if_neg h1, if_pos h2, List.cons_append, List.cons.injEq] at h
      have h0 := h.1
      rcases hd f.var h2 hf.2 with g | g | g <;> rw [g] at h0 <;> revert h0 <;> decide
    · rw [if_pos (by omega)] at ve vf
      simp only [asgT, if_neg h1, if_neg h2, List.cons_append, List.nil_append, List.cons.injEq, true_and] at h
      exact ⟨by omega, by rw [none_eq ve, none_eq vf], h⟩
theorem ed_inj {e f : Ed} {n m : Int} (he : Edge.okB e n = true) (hf : Edge.okB f m = true) {r r' : List UInt8} (h : edT e ++ r = edT f ++ r') : e = f ∧ r = r' := by
  simp only [Edge.okB, Edge.okV, Bool.and_eq_true, decide_eq_true_eq] at he hf
  obtain ⟨⟨e1, e2, e3⟩, e4, e5, e6, e7⟩ := he
  obtain ⟨⟨f1, f2, f3⟩, f4, f5, f6, f7⟩ := hf
  simp only [edT, List.append_assoc, List.cons_append, List.nil_append, List.cons.injEq, true_and] at h
  obtain ⟨k1, h⟩ := dig_inj (by omega) (by omega) h
  simp only [List.cons.injEq, true_and] at h
  obtain ⟨k2, h⟩ := dig_inj (by omega) (by omega) h
  simp only [List.cons.injEq, true_and] at h
  obtain ⟨k3, h⟩ := txt_inj e4 f4 h
  simp only [List.cons.injEq, true_and] at h
  obtain ⟨k4, k5, h⟩ := asg_inj e6 f6 e7 f7 h
  simp only [List.cons.injEq, true_and] at h
  obtain ⟨k6, hz⟩ := sync_inj e5 f5 h
  clear h
  simp only [List.cons.injEq, true_and] at hz
  obtain ⟨a1, a2, a3, a4, a5, a6⟩ := e
  obtain ⟨b1, b2, b3, b4, b5, b6⟩ := f
  simp only at k1 k2 k3 k4 k5 k6
  subst k1 k2 k3 k4 k5 k6
  exact ⟨rfl, hz⟩
/-- a text begins no edge -/
def NoE (r : List UInt8) : Prop := ∀ t, r ≠ 101 :: t
theorem eds_inj {n m : Int} : ∀ {l l' : List Ed} {r r' : List UInt8}, (∀ e, e ∈ l → Edge.okB e n = true) → (∀ e, e ∈ l' → Edge.okB e m = true) → NoE r → NoE r' → edsT l ++ r = edsT l' ++ r' → l = l' ∧ r = r'
  | [], [], r, r', _, _, _, _, h => ⟨rfl, by simpa [edsT] using h⟩
  | [], f :: fs, r, r', _, _, hr, _, h => by
    exfalso
    simp only [edsT, edT, List.nil_append, List.append_assoc, List.cons_append] at h
    exact hr _ h
  | e :: es, [], r, r', _, _, _, hr, h => by
    exfalso
    simp only [edsT, edT, List.nil_append, List.append_assoc, List.cons_append] at h
    exact hr _ h.symm
  | e :: es, f :: fs, r, r', he, hf, hr, hr', h => by
    simp only [edsT, List.append_assoc] at h
    obtain ⟨k1, h1⟩ := ed_inj (he e (by simp)) (hf f (by simp)) h
    obtain ⟨k2, h2⟩ := eds_inj (fun x hx => he x (by simp [hx])) (fun x hx => hf x (by simp [hx])) hr hr' h1
    rw [k1, k2]
    exact ⟨rfl, h2⟩
theorem prs_noE : ∀ l, NoE (prsT l)
  | [], t, h => by cases h
  | q :: qs, t, h => by
    simp only [prsT, prT, List.append_assoc, List.cons_append, List.cons.injEq] at h
    exact absurd h.1 (by decide)
theorem prs_inj : ∀ {l l' : List Pr}, (∀ q, q ∈ l → okP q = true) → (∀ q, q ∈ l' → okP q = true) → prsT l = prsT l' → l = l'
  | [], [], _, _, _ => rfl
  | [], q :: qs, _, _, h => by simp [prsT, prT] at h
  | q :: qs, [], _, _, h => by simp [prsT, prT] at h
  | q :: qs, p :: ps, hq, hp, h => by
    have oq := hq q (by simp)
    have op := hp p (by simp)
    simp only [okP, Bool.and_eq_true, decide_eq_true_eq, List.all_eq_true] at oq op
    simp only [prsT, prT, List.append_assoc, List.cons_append, List.nil_append, List.cons.injEq, true_and] at h
    obtain ⟨k1, h⟩ := dig_inj (by omega) (by omega) h
    simp only [List.cons.injEq, true_and] at h
    obtain ⟨k2, h⟩ := eds_inj oq.1 op.1 (prs_noE _) (prs_noE _) h
    have h3 := prs_inj (fun x hx => hq x (by simp [hx])) (fun x hx => hp x (by simp [hx])) h
    obtain ⟨a1, a2⟩ := q
    obtain ⟨b1, b2⟩ := p
    simp only at k1 k2
    subst k1 k2 h3
    rfl
theorem sy_inj {a b : Sy} (ha : okSy a = true) (hb : okSy b = true) (h : syT a = syT b) : a = b := by
  have va := ha
  have vb := hb
  simp only [okSy, Bool.and_eq_true, List.all_eq_true, Expr.okVals, decide_eq_true_eq, Expr.inV] at va vb
  obtain ⟨i, ps⟩ := a
  obtain ⟨j, qs⟩ := b
  simp only at va vb
  obtain ⟨p1, ⟨p2, p3⟩, p4⟩ := va
  obtain ⟨q1, ⟨q2, q3⟩, q4⟩ := vb
  match i, j, p3, q3 with
  | [x0, x1, x2], [y0, y1, y2], _, _ =>
    have w0 := p2 x0 (by simp)
    have w1 := p2 x1 (by simp)
    have w2 := p2 x2 (by simp)
    have z0 := q2 y0 (by simp)
    have z1 := q2 y1 (by simp)
    have z2 := q2 y2 (by simp)
    simp only [syT, iniT, List.getD_cons_zero, List.getD_cons_succ, List.append_assoc, List.cons_append, List.nil_append, List.cons.injEq, true_and] at h
    obtain ⟨k1, h⟩ := dig_inj (by omega) (by omega) h
    simp only [List.cons.injEq, true_and] at h
    obtain ⟨k2, h⟩ := dig_inj (by omega) (by omega) h
    simp only [List.cons.injEq, true_and] at h
    obtain ⟨k3, h⟩ := dig_inj (by omega) (by omega) h
    simp only [List.cons.injEq, true_and] at h
    have k4 := prs_inj p1 q1 h
    subst k1 k2 k3 k4
    rfl
end Sys
end Go.Proofs.YtgopfjnpjkpelaaDoor
namespace Go.Proofs.YtgopfjnpjkpelaaDoor
open Go.RowKit
set_option linter.unusedVariables false
set_option linter.unusedSimpArgs false
namespace Sys
theorem dsmall_any (v : Int) (hv : 0 ≤ v ∧ v ≤ 4) (w : World) : Calls Tryd.prog 58 #[.int .i64 v] w (Ret (.string (bs (dig v))) w) := by
  have h : v = 0 ∨ v = 1 ∨ v = 2 ∨ v = 3 ∨ v = 4 := by omega
  rcases h with rfl | rfl | rfl | rfl | rfl
  all_goals
    go_enter Tryd.func58, Tryd.ntmps58
    go_wp2_with fail
    go_ret
    exact Ret.mk (str_val rfl) (Below.refl _ _)
theorem dformat_any (v : Int) (hv : 0 ≤ v ∧ v ≤ 4) (w : World) : Calls Tryd.prog 50 #[.int .i64 v, .int .i64 10] w (Ret (.string (bs (dig v))) w) := by
  have H := hid (fun w => dsmall_any v hv w)
  have h1 : 0 ≤ v := hv.1
  have h2 : v < 100 := by omega
  clear hv
  generalize dig v = d at *
  go_enter Tryd.func50, Tryd.ntmps50
  go_wp2_with fail
  refine (H.out _).mono ?_
  rintro e w1 ⟨rfl, hb⟩
  go_wp2_with fail
  go_ret
  exact Ret.mk rfl hb
theorem ditoa1_any (v : Int) (hv : 0 ≤ v ∧ v ≤ 4) (w : World) : Calls Tryd.prog 37 #[.int .i64 v] w (Ret (.string (bs (dig v))) w) := by
  have H := hid (fun w => dformat_any v hv w)
  clear hv
  generalize dig v = d at *
  go_enter Tryd.func37, Tryd.ntmps37
  go_wp2_with fail
  refine (H.out _).mono ?_
  rintro e w1 ⟨rfl, hb⟩
  go_wp2_with fail
  go_ret
  exact Ret.mk rfl hb
theorem ditoa_any (v : Int) (hv : 0 ≤ v ∧ v ≤ 4) (w : World) : Calls Tryd.prog 21 #[.int .i64 v] w (Ret (.string (bs (dig v))) w) := by
  have H := hid (fun w => ditoa1_any v hv w)
  clear hv
  generalize dig v = d at *
  go_enter Tryd.func21, Tryd.ntmps21
  go_wp2_with fail
  refine (H.out _).mono ?_
  rintro e w1 ⟨rfl, hb⟩
  go_wp2_with fail
  go_ret
  exact Ret.mk rfl hb
theorem syncT_any (v : Int) (hv : -2 ≤ v ∧ v ≤ 2) (w : World) : Calls Tryd.prog 23 #[.int .i64 v] w (Ret (.string (bs (syncT v))) w) := by
  have h : v = -2 ∨ v = -1 ∨ v = 0 ∨ v = 1 ∨ v = 2 := by omega
  rcases h with rfl | rfl | rfl | rfl | rfl
  · go_enter Tryd.func23, Tryd.ntmps23
    go_wp2_with fail
    refine (ditoa_any 2 (by omega) _).mono ?_
    rintro e w1 ⟨rfl, hb⟩
    go_wp2_with fail
    go_ret
    exact Ret.mk (str_val rfl) hb
  · go_enter Tryd.func23, Tryd.ntmps23
    go_wp2_with fail
    refine (ditoa_any 1 (by omega) _).mono ?_
    rintro e w1 ⟨rfl, hb⟩
    go_wp2_with fail
    go_ret
    exact Ret.mk (str_val rfl) hb
  · go_enter Tryd.func23, Tryd.ntmps23
    go_wp2_with fail
    go_ret
    exact Ret.mk (str_val rfl) (Below.refl _ _)
  · go_enter Tryd.func23, Tryd.ntmps23
    go_wp2_with fail
    refine (ditoa_any 1 (by omega) _).mono ?_
    rintro e w1 ⟨rfl, hb⟩
    go_wp2_with fail
    go_ret
    exact Ret.mk (str_val rfl) hb
  · go_enter Tryd.func23, Tryd.ntmps23
    go_wp2_with fail
    refine (ditoa_any 2 (by omega) _).mono ?_
    rintro e w1 ⟨rfl, hb⟩
    go_wp2_with fail
    go_ret
    exact Ret.mk (str_val rfl) hb
end Sys
end Go.Proofs.YtgopfjnpjkpelaaDoor
namespace Go.Proofs.YtgopfjnpjkpelaaDoor
open Go.RowKit
set_option linter.unusedVariables false
set_option linter.unusedSimpArgs false
namespace Sys
def joinT : List (List UInt8) → List UInt8
  | [] => []
  | [x] => x
  | x :: y :: r => x ++ (32 :: joinT (y :: r))
/-- what impl.row comes to -/
def RowC : Prop := ∀ (xs : List (List UInt8)) (w : World) (b : Nat), 2 ≤ xs.length → xs.length ≤ 6 → (∀ j x, xs[j]? = some x → w.cell? ⟨b, j, none⟩ = some (.string (bs x)) ∧ x.length ≤ 1000) → b < w.heap.size →
  Calls Tryd.prog 20 #[.slice (some ⟨b, 0, none⟩) xs.length xs.length] w (Ret (.string (bs (joinT xs ++ [10]))) w)
theorem join_eq : ∀ xs : List (List UInt8), Lib.join xs [32] = joinT xs
  | [] => rfl
  | [x] => by simp [Lib.join, joinT, List.intercalate]
  | x :: y :: r => by
    have h := join_eq (y :: r)
    simp only [Lib.join, List.intercalate] at h ⊢
    rw [joinT, ← h]
    simp [List.intersperse]
theorem joinT_len : ∀ xs : List (List UInt8), (∀ x, x ∈ xs → x.length ≤ 1000) → (joinT xs).length ≤ xs.length * 1001
  | [], _ => by simp [joinT]
  | [x], h => by have := h x (by simp); simp [joinT]; omega
  | x :: y :: r, h => by
    have h1 := h x (by simp)
    have h2 := joinT_len (y :: r) (fun z hz => h z (by simp [hz]))
    simp [joinT] at h2 ⊢
    omega
set_option maxHeartbeats 1000000 in
theorem row_any : RowC := by
  intro xs w b h2 h6 hc hb
  have hl := joinT_len xs (fun x hx => by
    obtain ⟨j, hj⟩ := List.mem_iff_getElem?.1 hx
    exact (hc j x hj).2)
  have hmap : (xs.map bs).map (·.data.toList) = xs := by
    rw [List.map_map]
    have : ∀ l : List (List UInt8), l.map ((fun y : ByteArray => y.data.toList) ∘ bs) = l := fun l => by
      induction l with
      | nil => rfl
      | cons a l ih => rw [List.map_cons, ih]; simp [bs]
    exact this xs
  have HJ0 := Tryd.strings_Join b 0 xs.length (xs.map bs) ⟨#[32]⟩ w (fun j x hx => by
    rw [List.getElem?_map] at hx
    cases hy : xs[j]? with
    | none => rw [hy] at hx; cases hx
    | some y =>
      rw [hy] at hx
      simp at hx
      subst hx
      rw [Nat.zero_add]
      exact (hc j y hy).1) hb (by rw [List.length_map]; omega) (by rw [List.length_map]; omega) (by rw [hmap]; show (Lib.join xs [32]).length ≤ _; rw [join_eq]; omega)
  rw [hmap, List.length_map] at HJ0
  have HJ := hid HJ0
  have hsz := hid (show ¬ 9223372036854775807 < (bs (joinT xs)).size + 1 by rw [bs_size]; omega)
  have hje := join_eq xs
  have HE := hid (show (⟨(Lib.join xs ([32] : List UInt8)).toArray⟩ : ByteArray) = bs (joinT xs) by rw [hje]; rfl)
  clear HJ0 hc hl hmap hje
  generalize xs.length = n at *
  go_enter Tryd.func20, Tryd.ntmps20
  go_wp2_with fail
  refine HJ.out.mono ?_
  rintro e w1 ⟨rfl, hb1⟩
  have HB := hid hb1
  clear hb1
  rw [HE.out]
  have hsz1 := hsz.out
  go_wp2_with fail
  go_ret
  exact Ret.mk (str_val (by rw [show (⟨#[10]⟩ : ByteArray) = bs [10] from rfl, bs_append])) HB.out
end Sys
end Go.Proofs.YtgopfjnpjkpelaaDoor
namespace Go.Proofs.YtgopfjnpjkpelaaDoor
open Go.RowKit
set_option linter.unusedVariables false
set_option linter.unusedSimpArgs false
namespace Sys

theorem dig_len (n : Int) : (dig n).length = 1 := rfl
theorem val_nodes {t : Tr} (h : exprL.valid t = true) : exprL.shape t 6 = true ∧ nodes t ≤ 15 := by
  simp only [Lang.valid, Bool.and_eq_true] at h
  exact ⟨h.1, of_decide_eq_true h.2⟩
theorem val_len {t : Tr} (h : exprL.valid t = true) : (exprT.txt t).length ≤ 60 := by
  have := exprT.txt_len t
  have := (val_nodes h).2
  omega
theorem asg_len {e : Ed} {n : Int} (h : Edge.okB e n = true) : (asgT e).length ≤ 100 := by
  simp only [Edge.okB, Edge.okV, Bool.and_eq_true, decide_eq_true_eq] at h
  obtain ⟨_, _, _, _, h7⟩ := h
  unfold asgT
  split
  · rename_i hv
    rw [if_neg (by omega)] at h7
    have := val_len h7
    simp only [List.length_cons]; omega
  · simp
theorem sync_len (n : Int) : (syncT n).length ≤ 2 := by
  unfold syncT; split
  · simp [dig]
  · split <;> simp [dig]
theorem ed_len {e : Ed} {n : Int} (h : Edge.okB e n = true) : (edT e).length ≤ 300 := by
  have h1 := asg_len h
  have h2 := sync_len e.sync
  simp only [Edge.okB, Edge.okV, Bool.and_eq_true, decide_eq_true_eq] at h
  have h3 := val_len h.2.1
  simp only [edT, List.length_append, List.length_cons, List.length_nil, dig_len]
  omega
theorem eds_len {n : Int} : ∀ {l : List Ed}, (∀ e, e ∈ l → Edge.okB e n = true) → (edsT l).length ≤ 300 * l.length
  | [], _ => by simp [edsT]
  | e :: es, h => by
    have h1 := ed_len (h e (by simp))
    have h2 := eds_len (l := es) (fun x hx => h x (by simp [hx]))
    simp only [edsT, List.length_append, List.length_cons]
    omega
theorem pr_len {q : Pr} (h : okP q = true) : (prT q).length ≤ 2000 := by
  simp only [okP, Bool.and_eq_true, decide_eq_true_eq, List.all_eq_true] at h
  have := eds_len h.1
  simp only [prT, List.length_append, List.length_cons, List.length_nil, dig_len]
  omega
theorem prs_len : ∀ {l : List Pr}, (∀ q, q ∈ l → okP q = true) → (prsT l).length ≤ 2000 * l.length
  | [], _ => by simp [prsT]
  | q :: qs, h => by
    have h1 := pr_len (h q (by simp))
    have h2 := prs_len (l := qs) (fun x hx => h x (by simp [hx]))
    simp only [prsT, List.length_append, List.length_cons]
    omega
theorem ini_len (l : List Int) : (iniT l).length ≤ 20 := by simp [iniT, dig_len]
theorem eds_snoc : ∀ (l : List Ed) (e : Ed), edsT (l ++ [e]) = edsT l ++ edT e
  | [], e => by simp [edsT]
  | x :: l, e => by simp [edsT, eds_snoc l e]
theorem prs_snoc : ∀ (l : List Pr) (q : Pr), prsT (l ++ [q]) = prsT l ++ prT q
  | [], e => by simp [prsT]
  | x :: l, e => by simp [prsT, prs_snoc l e]
theorem eds_take {l : List Ed} {k : Nat} (h : k < l.length) : edsT (l.take (k + 1)) = edsT (l.take k) ++ edT l[k] := by
  rw [← List.take_append_getElem h, eds_snoc]
theorem prs_take {l : List Pr} {k : Nat} (h : k < l.length) : prsT (l.take (k + 1)) = prsT (l.take k) ++ prT l[k] := by
  rw [← List.take_append_getElem h, prs_snoc]
theorem txt_so_far {s : Sy} (h : okSy s = true) (k : Nat) : (iniT s.init ++ prsT (s.procs.take k)).length ≤ 7000 := by
  simp only [okSy, Bool.and_eq_true, decide_eq_true_eq, List.all_eq_true] at h
  have h1 := ini_len s.init
  have h2 := prs_len (l := s.procs.take k) (fun q hq => h.1 q (List.mem_of_mem_take hq))
  have h3 : (s.procs.take k).length ≤ s.procs.length := by simp; omega
  simp only [List.length_append]
  have := h.2.2.2
  omega
theorem eds_so_far {q : Pr} (h : okP q = true) (j : Nat) : (edsT (q.edges.take j)).length ≤ 2000 := by
  simp only [okP, Bool.and_eq_true, decide_eq_true_eq, List.all_eq_true] at h
  have h2 := eds_len (l := q.edges.take j) (fun e he => h.1 e (List.mem_of_mem_take he))
  have h3 : (q.edges.take j).length ≤ q.edges.length := by simp; omega
  omega
end Sys
end Go.Proofs.YtgopfjnpjkpelaaDoor
namespace Go.Proofs.YtgopfjnpjkpelaaDoor
open Go.RowKit
set_option linter.unusedVariables false
namespace Sys

set_option maxHeartbeats 1000000 in
theorem vclo_any (e : Ed) (n : Int) (w : World) (x : Value) (D : Nat) (z : Value) (hx : EdIn Any w e x) (hD : Box2 w D (.int .i64 n) z) : Calls Tryd.prog 34 #[x, .pointer (some ⟨D, 0, none⟩)] w (Ret (.bool (!Edge.okB e n)) w) := by
  have HX := hid hx
  have HE := hid (fun (W : World) (M : Below w.heap.size w W) => Edge.edge_any e n W x (EdIn_below M HX.out))
  obtain ⟨a, c, a', c', rfl, _⟩ := hx
  obtain ⟨p0, p1, p2, p3, p4⟩ := hD
  generalize Edge.okB e n = r at *
  go_enter Tryd.func34, Tryd.ntmps34
  go_wp2_with fail
  refine (HE.out _ (by repeat (first | exact Below.refl _ _ | assumption | refine below_a ?_ _ | refine below_o ?_ _ | refine below_d ?_ | refine below_n ?_ _ | refine below_s ?_ (by first | (simp; done) | (simp; omega) | omega) _))).mono ?_
  rintro y w1 ⟨rfl, hb⟩
  go_wp2_with fail
  go_ret
  exact Ret.mk rfl (below_next (by repeat (first | exact Below.refl _ _ | assumption | refine below_a ?_ _ | refine below_o ?_ _ | refine below_d ?_ | refine below_n ?_ _ | refine below_s ?_ (by first | (simp; done) | (simp; omega) | omega) _)) hb)

def IxE (bad : Bool) (w : World) (e : Ending) (w' : World) : Prop := ∃ i : Int, e = .returned (.int .i64 i) ∧ decide (0 ≤ i) = bad ∧ Below w.heap.size w w'

set_option maxRecDepth 100000 in
set_option maxHeartbeats 2000000 in
theorem vix_any (l : List Ed) (n : Int) (w : World) (a : Option Addr) (c D : Nat) (z : Value) (hl : EdsIn Any w l a) (hc : l.length ≤ c) (hc2 : c ≤ maxLen) (hD : Box2 w D (.int .i64 n) z) :
    Calls Tryd.prog 45 #[.slice a l.length c, .func (.func 34) #[] #[.pointer (some ⟨D, 0, none⟩)]] w (IxE (!l.all (fun e => Edge.okB e n)) w) := by
  unfold maxLen at hc2
  have HL := hid hl
  have HD := hid hD
  clear hl hD
  go_enter Tryd.func45, Tryd.ntmps45
  go_wp2_with fail
  go_loopw [5, 8] (fun _ i wr => ∃ j : Nat, j ≤ l.length ∧ i = .int .i64 j ∧ Hid (Below w.heap.size w wr) ∧ Hid ((l.drop j).all (fun e => Edge.okB e n) = l.all (fun e => Edge.okB e n))) (fun _ i _ => l.length - (intOf i).toNat)
  case atStart => exact ⟨0, Nat.zero_le _, rfl, hid (Below.refl _ _), hid rfl⟩
  case round =>
    obtain ⟨j, hj, rfl, B, hr⟩ := hrel
    by_cases hlt : j < l.length
    · obtain ⟨b, o, rfl, _, hb, a1, c1, a2, c2, ⟨g0, g1, g2, g3, g4, g5, g6, g7, g8, g9⟩, hT⟩ := SeqIn.at (EdsIn.below HL.out B.out) hlt
      have HR2 := hr.out
      rw [List.drop_eq_getElem_cons hlt, List.all_cons] at HR2
      have HR := hid HR2; clear HR2 hr
      have hlt2 : (j : Int) < (l.length : Int) := by omega
      generalize l[j] = e at *
      have HC := hid (vclo_any e n wr _ D z hT (box2_next B.out HD.out))
      clear hT
      go_wp2_with fail
      refine HC.out.mono ?_
      rintro y w2 ⟨rfl, hb2⟩
      have B2 := hid (below_next B.out hb2)
      clear hb2 g0 g1 g2 g3 g4 g5 g6 g7 g8 g9
      cases hq : Edge.okB e n with
      | true =>
        have HR3 := HR.out
        rw [hq, Bool.true_and] at HR3
        have HR4 := hid HR3; clear HR3 hq
        go_wp2_with fail
        go_roundw
        case rel => exact ⟨j + 1, by omega, by go_num, B2, HR4⟩
        case measure => simp [intOf]; omega
      | false =>
        have HR3 := HR.out
        rw [hq, Bool.false_and] at HR3
        have HR4 := hid HR3; clear HR3 hq
        go_wp2_with fail
        go_ret
        exact ⟨j, rfl, by rw [← HR4.out]; simp, B2.out⟩
    · have HR2 := hr.out
      rw [List.drop_of_length_le (by omega), List.all_nil] at HR2
      have HR := hid HR2; clear HR2 hr
      have hlt2 : ¬ ((j : Int) < (l.length : Int)) := by omega
      go_wp2_with fail
      go_ret
      exact ⟨-1, rfl, by rw [← HR.out]; simp, B.out⟩

set_option maxHeartbeats 1000000 in
theorem vcf_any (l : List Ed) (n : Int) (w : World) (a : Option Addr) (c D : Nat) (z : Value) (hl : EdsIn Any w l a) (hc : l.length ≤ c) (hc2 : c ≤ maxLen) (hD : Box2 w D (.int .i64 n) z) :
    Calls Tryd.prog 33 #[.slice a l.length c, .func (.func 34) #[] #[.pointer (some ⟨D, 0, none⟩)]] w (Ret (.bool (!l.all (fun e => Edge.okB e n))) w) := by
  have HH := hid (vix_any l n w a c D z hl hc hc2 hD)
  clear hl hD
  go_enter Tryd.func33, Tryd.ntmps33
  go_wp2_with fail
  refine HH.out.mono ?_
  rintro e w2 ⟨i, rfl, hi, hb⟩
  have HI := hid hi; clear hi
  go_wp2_with fail
  go_ret
  exact Ret.mk (bool_val HI.out) hb

set_option maxRecDepth 100000 in
set_option maxHeartbeats 4000000 in
theorem valid_any (s : Sy) (w : World) (x : Value) (hx : SyIn Any w s x) : Calls Tryd.prog 19 #[x] w (Ret (.bool (okSy s)) w) := by
  obtain ⟨a, c, b, d, rfl, hc, hc2, hi, hd, hd2, hp⟩ := hx
  have HP := hid hp
  have HV := hid (fun (W : World) (M : Below w.heap.size w W) => Expr.vals_any s.init W a c (hi.below M) hc hc2)
  unfold maxLen at hd2
  have E := hid (show okSy s = (s.procs.all okP && (Expr.okVals s.init && (decide (1 ≤ s.procs.length) && decide (s.procs.length ≤ 3)))) from rfl)
  generalize okSy s = r at *
  generalize Expr.okVals s.init = ov at *
  clear hp hi
  cases ov with
  | false =>
    have E2 := hid (show r = false by rw [E.out]; simp)
    go_enter Tryd.func19, Tryd.ntmps19
    go_wp2_with fail
    refine (HV.out _ (by repeat (first | exact Below.refl _ _ | assumption | refine below_a ?_ _ | refine below_o ?_ _ | refine below_d ?_ | refine below_n ?_ _ | refine below_s ?_ (by first | (simp; done) | (simp; omega) | omega) _))).mono ?_
    rintro y w1 ⟨rfl, hb⟩
    go_wp2_with fail
    go_ret
    exact Ret.mk (bool_val E2.out.symm) (below_next (below_alloc _ _) hb)
  | true =>
    by_cases k0 : 1 ≤ s.procs.length ∧ s.procs.length ≤ 3
    · have E2 := hid (show r = s.procs.all okP by rw [E.out, decide_eq_true k0.1, decide_eq_true k0.2]; simp)
      have k1 : (1 : Int) ≤ (s.procs.length : Int) ∧ (s.procs.length : Int) ≤ 3 := by omega
      have HIN := hid (fun (W : World) => in_yes (a := (s.procs.length : Int)) (b := 1) (c := 3) k1 W)
      clear k0 E
      go_enter Tryd.func19, Tryd.ntmps19
      go_wp2_with fail
      refine (HV.out _ (by repeat (first | exact Below.refl _ _ | assumption | refine below_a ?_ _ | refine below_o ?_ _ | refine below_d ?_ | refine below_n ?_ _ | refine below_s ?_ (by first | (simp; done) | (simp; omega) | omega) _))).mono ?_
      rintro y w1 ⟨rfl, hb⟩
      have BX := hid (box2_next hb (box2_at (w := w) (a := .slice a s.init.length c) (b := .slice b s.procs.length d) rfl))
      have B1 := hid (below_next (below_alloc _ _) hb)
      obtain ⟨p0, p1, p2, _⟩ := id BX.out
      clear hb
      go_wp2_with fail
      refine (HIN.out _).mono ?_
      rintro y w2 ⟨rfl, rfl⟩
      go_wp2_with fail
      go_loopw [19] (fun i wr => ∃ j : Nat, j ≤ s.procs.length ∧ i = .int .i64 j ∧ Hid (Below w.heap.size w wr) ∧ Hid ((s.procs.drop j).all okP = s.procs.all okP)) (fun i _ => s.procs.length - (intOf i).toNat)
      case atStart => exact ⟨0, Nat.zero_le _, rfl, B1, hid rfl⟩
      case round =>
        obtain ⟨j, hj, rfl, B, hr⟩ := hrel
        by_cases hlt : j < s.procs.length
        · obtain ⟨b', o, rfl, _, hb, a1, c1, ⟨g0, g1⟩, hT⟩ := SeqIn.at (PrsIn.below HP.out B.out) hlt
          have HT := hid hT
          have HR2 := hr.out
          rw [List.drop_eq_getElem_cons hlt, List.all_cons] at HR2
          have HR := hid HR2
          clear HR2 hr hT
          have hlt2 : (j : Int) < (s.procs.length : Int) := by omega
          generalize s.procs[j] = q at *
          have EQ := hid (show okP q = (q.edges.all (fun e => Edge.okB e q.locs) && (decide (1 ≤ q.locs) && (decide (q.locs ≤ 4) && decide (q.edges.length ≤ 6)))) from rfl)
          obtain ⟨_, _, hsh, hi1, hc1, hc3, he1⟩ := HT.out
          simp only [Value.agg.injEq, Array.mk.injEq, List.cons.injEq, Value.slice.injEq, and_true, true_and] at hsh
          obtain ⟨rfl, rfl⟩ := hsh
          have HE1 := hid he1
          have hc4 := hc3
          unfold maxLen at hc4
          have HCF := hid (fun (W : World) (M : Below wr.heap.size wr W) (D : Nat) (z : Value) (hD : Box2 W D (.int .i64 q.locs) z) => vcf_any q.edges q.locs W a1 c1 D z (HE1.out.below M) hc1 hc3 hD)
          clear he1 hc3
          generalize q.edges.all (fun e => Edge.okB e q.locs) = al at *
          by_cases k2 : 1 ≤ q.locs ∧ q.locs ≤ 4
          · have HIN2 := hid (fun (W : World) => in_yes (a := q.locs) (b := 1) (c := 4) k2 W)
            by_cases k3 : q.edges.length ≤ 6
            · have k4 : ¬ ((q.edges.length : Int) > 6) := by omega
              have EQ2 := hid (show okP q = al by rw [EQ.out, decide_eq_true k2.1, decide_eq_true k2.2, decide_eq_true k3]; simp)
              clear k2 EQ
              go_wp2_with fail
              refine (HIN2.out _).mono ?_
              rintro y w3 ⟨rfl, rfl⟩
              go_wp2_with fail
              refine (HCF.out _ (below_alloc _ _) _ _ (box2_at rfl)).mono ?_
              rintro y w4 ⟨rfl, hb4⟩
              have B4 := hid (below_next (below_next B.out (below_alloc _ _)) hb4)
              clear hb4
              cases al with
              | true =>
                have HR3 := HR.out
                rw [EQ2.out, Bool.true_and] at HR3
                have HR4 := hid HR3
                clear HR3
                go_wp2_with fail
                go_roundw
                case rel => exact ⟨j + 1, by omega, by go_num, B4, HR4⟩
                case measure => simp [intOf]; omega
              | false =>
                have E3 := hid (show r = false by rw [E2.out, ← HR.out, EQ2.out]; rfl)
                go_wp2_with fail
                go_ret
                exact Ret.mk (bool_val E3.out.symm) B4.out
            · have k4 : (q.edges.length : Int) > 6 := by omega
              have E3 := hid (show r = false by rw [E2.out, ← HR.out, EQ.out, decide_eq_false k3]; simp)
              clear k2 EQ
              go_wp2_with fail
              refine (HIN2.out _).mono ?_
              rintro y w3 ⟨rfl, rfl⟩
              go_wp2_with fail
              go_ret
              exact Ret.mk (bool_val E3.out.symm) (below_next B.out (below_alloc _ _))
          · have HIN2 := hid (fun (W : World) => in_no (a := q.locs) (b := 1) (c := 4) k2 W)
            have E3 := hid (show r = false by
              rw [E2.out, ← HR.out, EQ.out]
              have : decide (1 ≤ q.locs) = false ∨ decide (q.locs ≤ 4) = false := by
                simp only [decide_eq_false_iff_not]; omega
              rcases this with h | h <;> rw [h] <;> simp)
            clear k2 EQ
            go_wp2_with fail
            refine (HIN2.out _).mono ?_
            rintro y w3 ⟨rfl, rfl⟩
            go_wp2_with fail
            go_ret
            exact Ret.mk (bool_val E3.out.symm) (below_next B.out (below_alloc _ _))
        · have HR2 := hr.out
          rw [List.drop_of_length_le (by omega), List.all_nil] at HR2
          have hlt2 : ¬ ((j : Int) < (s.procs.length : Int)) := by omega
          have E3 := hid (show r = true by rw [E2.out, ← HR2])
          clear HR2 hr
          go_wp2_with fail
          go_ret
          exact Ret.mk (bool_val E3.out.symm) B.out
    · have E2 := hid (show r = false by
        rw [E.out]
        have : decide (1 ≤ s.procs.length) = false ∨ decide (s.procs.length ≤ 3) = false := by
          simp only [decide_eq_false_iff_not]; omega
        rcases this with h | h <;> rw [h] <;> simp)
      have k1 : ¬ ((1 : Int) ≤ (s.procs.length : Int) ∧ (s.procs.length : Int) ≤ 3) := by omega
      have HIN := hid (fun (W : World) => in_no (a := (s.procs.length : Int)) (b := 1) (c := 3) k1 W)
      clear k0 k1 E
      go_enter Tryd.func19, Tryd.ntmps19
      go_wp2_with fail
      refine (HV.out _ (by repeat (first | exact Below.refl _ _ | assumption | refine below_a ?_ _ | refine below_o ?_ _ | refine below_d ?_ | refine below_n ?_ _ | refine below_s ?_ (by first | (simp; done) | (simp; omega) | omega) _))).mono ?_
      rintro y w1 ⟨rfl, hb⟩
      obtain ⟨p0, p1, p2, _⟩ := box2_next hb (box2_at (w := w) (a := .slice a s.init.length c) (b := .slice b s.procs.length d) rfl)
      have B1 := hid (below_next (below_alloc _ _) hb)
      clear hb
      go_wp2_with fail
      refine (HIN.out _).mono ?_
      rintro y w2 ⟨rfl, rfl⟩
      go_wp2_with fail
      go_ret
      exact Ret.mk (bool_val E2.out.symm) B1.out
end Sys
end Go.Proofs.YtgopfjnpjkpelaaDoor
