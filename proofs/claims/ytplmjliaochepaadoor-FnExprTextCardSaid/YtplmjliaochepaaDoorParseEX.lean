/- ParseExpr, of the program and of the reference: what it returns, for every text. Conditions: those of each contract. -/
import Derived.Test.YtplmjliaochepaaDoorParseEI
import Derived.Test.YtplmjliaochepaaDoorParseES2
import Derived.Test.YtplmjliaochepaaDoorExprFmt
import Derived.Test.YtplmjliaochepaaDoorExprImplN
namespace Go.Proofs.YtplmjliaochepaaDoor
open Go.RowKit
namespace Expr

theorem box2_at {w : World} {B : Nat} {a b : Value} {t : TypeId} (h : B = w.heap.size) : Box2 (w.alloc (.cells #[a, b] t)) B a b := by subst h; exact ⟨by simp, by simp, by simp, by simp, by simp⟩
theorem rd_all : ∀ n, n ≤ 6 → RdT n := by
  intro n
  induction n with
  | zero => intro _; exact rd_zero
  | succ n ih =>
    intro hn w s b R d hR hl hd
    have ih := ih (by omega)
    have hd1 : d ≤ 6 := by omega
    rcases take1_bad s b with ⟨⟨s', h1, h2⟩, h3⟩ | ⟨rfl, c, s1, rfl, h⟩
    · exact rd_bad (n + 1) w s s' b R d hR hl hd1 h1 h2 (h3 _)
    · rcases h with h | h | rfl | rfl
      · rcases h with rfl | rfl | rfl | rfl
        · exact rd_const n 48 0 (.inl ⟨rfl, rfl⟩) w s1 R d hR hl hd1
        · exact rd_const n 49 1 (.inr (.inl ⟨rfl, rfl⟩)) w s1 R d hR hl hd1
        · exact rd_const n 50 2 (.inr (.inr (.inl ⟨rfl, rfl⟩))) w s1 R d hR hl hd1
        · exact rd_const n 51 3 (.inr (.inr (.inr ⟨rfl, rfl⟩))) w s1 R d hR hl hd1
      · rcases h with rfl | rfl | rfl
        · exact rd_atom n 120 4 (.inl ⟨rfl, rfl⟩) w s1 R d hR hl hd1
        · exact rd_atom n 121 5 (.inr (.inl ⟨rfl, rfl⟩)) w s1 R d hR hl hd1
        · exact rd_atom n 122 6 (.inr (.inr ⟨rfl, rfl⟩)) w s1 R d hR hl hd1
      · exact rd_un n ih w s1 R d hR hl hd1 hd (by omega)
      · exact rd_two n ih w s1 R d hR hl hd1 hd (by omega)

theorem ps_all : ∀ n, n ≤ 1000 → PsT n := by
  intro n
  induction n with
  | zero => intro _ w S i d hi hl hd; exact ps_none 0 S i d w (.inl (by omega)) (by omega) hl rfl
  | succ n ih =>
    intro hn w S i d hi hl hd
    have ih := ih (by omega)
    rcases Nat.lt_or_ge i S.length with hlt | hge
    · obtain ⟨c, hc⟩ : ∃ c, S[i]? = some c := ⟨_, List.getElem?_eq_getElem hlt⟩
      have hd1 : 1 ≤ d := by omega
      have e48 : (48 : UInt8).toNat = 48 := rfl
      have e57 : (57 : UInt8).toNat = 57 := rfl
      have e120 : (120 : UInt8).toNat = 120 := rfl
      have e122 : (122 : UInt8).toNat = 122 := rfl
      by_cases n1 : 48 ≤ c ∧ c ≤ 57
      · have g1 := UInt8.le_iff_toNat_le.1 n1.1
        have g2 := UInt8.le_iff_toNat_le.1 n1.2
        exact ps_leaf n c 1 ((c.toNat : Int) - 48) (.inl ⟨rfl, by omega, by omega, rfl⟩) S i d w hd1 hl hc (by simp only [rdE]; rw [if_pos n1])
      by_cases n2 : 120 ≤ c ∧ c ≤ 122
      · have g1 := UInt8.le_iff_toNat_le.1 n2.1
        have g2 := UInt8.le_iff_toNat_le.1 n2.2
        exact ps_leaf n c 2 ((c.toNat : Int) - 120) (.inr ⟨rfl, by omega, by omega, rfl⟩) S i d w hd1 hl hc (by simp only [rdE]; rw [if_neg n1, if_pos n2])
      by_cases n3 : c = 33
      · subst n3; exact ps_un n ih S i d w hd1 hd hl hc (by omega)
      by_cases n4 : c = 40
      · subst n4; exact ps_two n ih S i d w hd1 hd hl hc (by omega)
      · refine ps_else n c S i d w hd1 hl hc ?_ n3 n4 (by simp only [rdE]; rw [if_neg n1, if_neg n2, if_neg n3, if_neg n4])
        rw [UInt8.le_iff_toNat_le, UInt8.le_iff_toNat_le] at n1 n2
        unfold NoLeaf
        omega
    · exact ps_none (n + 1) S i d w (.inr hge) (by omega) hl (by rw [List.drop_of_length_le hge]; rfl)

/-- the tree that a text is read to -/
def parP (s : List UInt8) : Option Tr :=
  match rdE 51 6 s with
  | some (t, []) => if exprL.valid t = true then some t else none
  | _ => none
def parV (s : List UInt8) : Tr := (parP s).getD zeroP
def parOk (s : List UInt8) : Bool := (parP s).isSome

theorem parV_nodes (s : List UInt8) : nodes (parV s) ≤ 1000 := by
  unfold parV parP
  split
  · rename_i t h
    split
    · rename_i hv
      rw [Lang.valid, Bool.and_eq_true, decide_eq_true_eq, exprL_N] at hv
      simp; omega
    · simp [zeroP, nodes, nodesL]
  · simp [zeroP, nodes, nodesL]

theorem par_none {s : List UInt8} (h : rdE 51 6 s = none) : parV s = zeroP ∧ parOk s = false := by simp [parV, parOk, parP, h]
theorem par_rest {s r : List UInt8} {t : Tr} (h : rdE 51 6 s = some (t, r)) (hr : r ≠ []) : parV s = zeroP ∧ parOk s = false := by
  cases r with
  | nil => exact absurd rfl hr
  | cons c r => simp [parV, parOk, parP, h]
theorem par_bad {s : List UInt8} {t : Tr} (h : rdE 51 6 s = some (t, [])) (hv : exprL.valid t = false) : parV s = zeroP ∧ parOk s = false := by simp [parV, parOk, parP, h, hv]
theorem par_ok {s : List UInt8} {t : Tr} (h : rdE 51 6 s = some (t, [])) (hv : exprL.valid t = true) : parV s = t ∧ parOk s = true := by simp [parV, parOk, parP, h, hv]


theorem rd_tops {a b : UInt8} {s : List UInt8} {t : Tr} (hb : 51 ≤ b) (hb2 : b < 120) (h : rdE a 6 s = some (t, [])) (hv : exprL.valid t = true) : rdE b 6 s = some (t, []) := by
  have e := rdE_back a 6 _ _ _ h
  have hs : exprL.shape t (6 : Nat) = true := by rw [Lang.valid, Bool.and_eq_true] at hv; exact hv.1
  rw [e]
  exact rdE_txt b hb hb2 6 t [] hs
theorem parP_iff {s : List UInt8} {t : Tr} (h : parP s = some t) : rdE 57 6 s = some (t, []) ∧ exprL.valid t = true := by
  unfold parP at h
  split at h
  · rename_i u hu
    split at h
    · rename_i hv
      obtain rfl : u = t := by simpa using h
      exact ⟨rd_tops (by decide) (by decide) hu hv, hv⟩
    · cases h
  · cases h
theorem par_not {s : List UInt8} (h : ∀ t, parP s ≠ some t) : parV s = zeroP ∧ parOk s = false := by
  have : parP s = none := by
    cases hq : parP s with
    | none => rfl
    | some t => exact absurd hq (h t)
  simp [parV, parOk, this]
theorem par_none7 {s : List UInt8} (h : rdE 57 6 s = none) : parV s = zeroP ∧ parOk s = false := par_not fun t ht => by
  have := (parP_iff ht).1
  rw [h] at this; cases this
theorem par_rest7 {s r : List UInt8} {t : Tr} (h : rdE 57 6 s = some (t, r)) (hr : r ≠ []) : parV s = zeroP ∧ parOk s = false := par_not fun u ht => by
  have := (parP_iff ht).1
  rw [h] at this
  simp at this
  exact hr this.2
theorem par_bad7 {s : List UInt8} {t : Tr} (h : rdE 57 6 s = some (t, [])) (hv : exprL.valid t = false) : parV s = zeroP ∧ parOk s = false := par_not fun u ht => by
  have h2 := parP_iff ht
  rw [h] at h2
  simp at h2
  rw [← h2.1, hv] at h2
  cases h2.2
theorem par_ok7 {s : List UInt8} {t : Tr} (h : rdE 57 6 s = some (t, [])) (hv : exprL.valid t = true) : parV s = t ∧ parOk s = true := par_ok (rd_tops (by decide) (by decide) h hv) hv

set_option maxRecDepth 100000 in
set_option maxHeartbeats 2000000 in
theorem parse_any (s : List UInt8) (w : World) (hl : s.length ≤ 1048576) : Calls Tryd.prog 6 #[.string (bs s)] w (RetTP w.heap.size (parV s) (parOk s) w) := by
  have HR := hid (fun (w : World) (R : Nat) (hR : Box2 w R (.string (bs s)) (.bool false)) => rd_all 6 (Nat.le_refl _) w s false R 1 hR hl rfl)
  go_enter Tryd.func6, Tryd.ntmps6
  go_wp2_with fail
  refine (HR.out _ (w.heap.size + 1) (box2_at (by simp))).mono ?_
  rintro e w1 ⟨v, t, r, b', rfl, hn, hB, hbut, hr, hE⟩
  obtain ⟨a1, n1, rfl⟩ := TrIn_shape hn.any
  simp only [Bool.false_eq_true, if_false] at hE
  have hsz := hbut.size
  simp only [World.size_alloc] at hsz
  have HB := hid (box2_next (below_alloc w1 (.cells #[.int .i64 t.kind, .int .i64 t.val, .slice a1 t.kids.length n1] 25)) hB)
  have hb0 := box3_but hbut (by omega) (box3_next (below_alloc _ (.cells #[.string (bs s), .bool false] 37)) (box3_new w (.int .i64 0) (.int .i64 0) (.slice none 0 0) 25))
  have H0 := hid (box3_next (below_alloc w1 (.cells #[.int .i64 t.kind, .int .i64 t.val, .slice a1 t.kids.length n1] 25)) hb0)
  have HBel := hid (below_a (hbut.new (below_a (below_alloc w _) (.cells #[.string (bs s), .bool false] 37)) (by omega)) (.cells #[.int .i64 t.kind, .int .i64 t.val, .slice a1 t.kids.length n1] 25))
  have HN := hid ((hn.mono (B' := w.heap.size + 1) (by simp)).below (below_alloc w1 (.cells #[.int .i64 t.kind, .int .i64 t.val, .slice a1 t.kids.length n1] 25)))
  have H5 := hid (box3_new w1 (.int .i64 t.kind) (.int .i64 t.val) (.slice a1 t.kids.length n1) 25)
  clear hn hB hbut hb0
  cases b' with
  | true =>
    have hP := hid (par_none hE)
    obtain ⟨q0, q1, q2, q3, q4⟩ := HB.out
    obtain ⟨z0, z1, z2, z3, z4, z5, z6⟩ := H0.out
    clear hE
    go_wp2_with fail
    obtain ⟨y0, y1, y2, y3, _⟩ := box3_set2 (box3_set1 (box3_set0 H0.out (.int .i64 0)) (.int .i64 0)) (.slice none 0 0); refine bodyPost_ret (v := .tuple #[.agg #[.int .i64 0, .int .i64 0, .slice none 0 0], .bool false]) (by simp [results, Tryd.results6, go_sem, y1, y2, y3]) rfl ?_
    exact RetTP.mk (zeroP_new _ _) hP.out.1 hP.out.2 (below_set3 HBel.out (by omega) _ _ _)
  | false =>
    simp only [Bool.false_eq_true, if_false] at hE
    cases r with
    | cons c r =>
      have hP := hid (par_rest hE (by simp))
      have hne : (bs (c :: r)).toList.isEmpty = false := by rw [Go.ByteArray.toList_eq]; rfl
      obtain ⟨q0, q1, q2, q3, q4⟩ := HB.out
      obtain ⟨z0, z1, z2, z3, z4, z5, z6⟩ := H0.out
      clear hE
      go_wp2_with fail
      obtain ⟨y0, y1, y2, y3, _⟩ := box3_set2 (box3_set1 (box3_set0 H0.out (.int .i64 0)) (.int .i64 0)) (.slice none 0 0); refine bodyPost_ret (v := .tuple #[.agg #[.int .i64 0, .int .i64 0, .slice none 0 0], .bool false]) (by simp [results, Tryd.results6, go_sem, y1, y2, y3]) rfl ?_
      exact RetTP.mk (zeroP_new _ _) hP.out.1 hP.out.2 (below_set3 HBel.out (by omega) _ _ _)
    | nil =>
      have e0 : bs [] = (⟨#[]⟩ : ByteArray) := rfl
      have HV := hid (fun w x (hx : TrIn Any w t x) => valid_any t w x hx)
      have hbx := HB.out
      rw [e0] at hbx
      obtain ⟨q0, q1, q2, q3, q4⟩ := hbx
      obtain ⟨x0, x1, x2, x3, _⟩ := H5.out
      have HE := hid hE
      clear hE
      go_wp2_with fail
      refine (HV.out _ _ HN.out.any).mono ?_
      rintro e w2 ⟨rfl, hb2⟩
      have h0 := box3_next hb2 H0.out
      have HBel2 := hid (below_next HBel.out hb2)
      have HN2 := hid (HN.out.below hb2)
      have h5 := box3_next hb2 H5.out
      clear hb2 q0 q1 q2 q3 q4 x0 x1 x2 x3
      obtain ⟨x0, x1, x2, x3, _⟩ := h5
      have H02 := hid h0
      obtain ⟨z0, z1, z2, z3, z4, z5, z6⟩ := h0
      cases hv : exprL.valid t with
      | false =>
        have hP := hid (par_bad HE.out hv)
        clear hv
        go_wp2_with fail
        obtain ⟨y0, y1, y2, y3, _⟩ := box3_set2 (box3_set1 (box3_set0 H02.out (.int .i64 0)) (.int .i64 0)) (.slice none 0 0); refine bodyPost_ret (v := .tuple #[.agg #[.int .i64 0, .int .i64 0, .slice none 0 0], .bool false]) (by simp [results, Tryd.results6, go_sem, y1, y2, y3]) rfl ?_
        exact RetTP.mk (zeroP_new _ _) hP.out.1 hP.out.2 (below_set3 HBel2.out (by omega) _ _ _)
      | true =>
        have hP := hid (par_ok HE.out hv)
        clear hv
        go_wp2_with fail
        obtain ⟨y0, y1, y2, y3, _⟩ := box3_set2 (box3_set1 (box3_set0 H02.out (.int .i64 t.kind)) (.int .i64 t.val)) (.slice a1 t.kids.length n1); refine bodyPost_ret (v := .tuple #[.agg #[.int .i64 t.kind, .int .i64 t.val, .slice a1 t.kids.length n1], .bool true]) (by simp [results, Tryd.results6, go_sem, y1, y2, y3]) rfl ?_
        exact RetTP.mk ((newTr_set3 HN2.out (by omega) _ _ _).mono (by omega)) hP.out.1 hP.out.2 (below_set3 HBel2.out (by omega) _ _ _)

set_option maxRecDepth 100000 in
set_option maxHeartbeats 2000000 in
theorem specParse_any (s : List UInt8) (w : World) (hl : s.length ≤ 1048576) : Calls Tryd.prog 12 #[.string (bs s)] w (RetTP w.heap.size (parV s) (parOk s) w) := by
  have HR := hid (fun (w : World) => ps_all 6 (by omega) w s 0 6 (by omega) hl rfl)
  have hsz : (bs s).size = s.length := bs_size s
  go_enter Tryd.func12, Tryd.ntmps12
  go_wp2_with fail
  refine (HR.out _).mono ?_
  rintro e w1 ⟨v, t, nx, rfl, hn, hb, hE⟩
  obtain ⟨a1, n1, rfl⟩ := TrIn_shape hn.any
  rw [List.drop_zero] at hE
  have hszw := hb.size
  simp only [World.size_alloc] at hszw
  have H0 := hid (box3_next (below_alloc w1 (.cells #[.int .i64 t.kind, .int .i64 t.val, .slice a1 t.kids.length n1] 25)) (box3_next hb (box3_new w (.int .i64 0) (.int .i64 0) (.slice none 0 0) 25)))
  have HBel := hid (below_a (below_next (below_alloc _ _) hb) (.cells #[.int .i64 t.kind, .int .i64 t.val, .slice a1 t.kids.length n1] 25))
  have HN := hid ((hn.mono (B' := w.heap.size + 1) (by simp)).below (below_alloc w1 (.cells #[.int .i64 t.kind, .int .i64 t.val, .slice a1 t.kids.length n1] 25)))
  have H5 := hid (box3_new w1 (.int .i64 t.kind) (.int .i64 t.val) (.slice a1 t.kids.length n1) 25)
  clear hn hb
  have E00 : bs [] = (⟨#[]⟩ : ByteArray) := rfl
  cases s with
  | nil =>
    have hP := hid (par_none (s := []) rfl)
    rw [E00] at *
    obtain ⟨z0, z1, z2, z3, z4, z5, z6⟩ := H0.out
    clear hE
    go_wp2_with fail
    obtain ⟨y0, y1, y2, y3, _⟩ := box3_set2 (box3_set1 (box3_set0 H0.out (.int .i64 0)) (.int .i64 0)) (.slice none 0 0); refine bodyPost_ret (v := .tuple #[.agg #[.int .i64 0, .int .i64 0, .slice none 0 0], .bool false]) (by simp [results, Tryd.results12, go_sem, y1, y2, y3]) rfl ?_
    exact RetTP.mk (zeroP_new _ _) hP.out.1 hP.out.2 (below_set3 HBel.out (by omega) _ _ _)
  | cons c s =>
    have hne : (bs (c :: s)).toList.isEmpty = false := by rw [Go.ByteArray.toList_eq]; rfl
    rcases hE with ⟨hr, rfl⟩ | ⟨k, hr, rfl, hk⟩
    · have hP := hid (par_none7 hr)
      have hnl : ((-1 : Int) != ((c :: s).length : Int)) = true := by simp; omega
      have hnl2 : ¬ ((-1 : Int) = ((c :: s).length : Int)) := by simp; omega
      obtain ⟨z0, z1, z2, z3, z4, z5, z6⟩ := H0.out
      clear hr
      generalize (c :: s) = S at *
      go_wp2_with fail
      obtain ⟨y0, y1, y2, y3, _⟩ := box3_set2 (box3_set1 (box3_set0 H0.out (.int .i64 0)) (.int .i64 0)) (.slice none 0 0); refine bodyPost_ret (v := .tuple #[.agg #[.int .i64 0, .int .i64 0, .slice none 0 0], .bool false]) (by simp [results, Tryd.results12, go_sem, y1, y2, y3]) rfl ?_
      exact RetTP.mk (zeroP_new _ _) hP.out.1 hP.out.2 (below_set3 HBel.out (by omega) _ _ _)
    · by_cases hkl : k = (c :: s).length
      · subst hkl
        rw [List.drop_length] at hr
        have hback := rdE_back 57 6 _ _ _ hr
        rw [List.append_nil] at hback
        have HX := hid (fun (w : World) x (hx : TrIn Any w t x) => specFmt_any t w x hx)
        obtain ⟨x0, x1, x2, x3, _⟩ := H5.out
        cases hv : exprL.valid t with
        | false =>
          have hP := hid (par_bad7 hr hv)
          have hf : bs (fmt t) = (⟨#[]⟩ : ByteArray) := by simp [fmt, hv, bs]
          rw [hf] at HX
          clear hr hback hv hf
          generalize (c :: s) = S at *
          go_wp2_with fail
          refine (HX.out _ _ HN.out.any).mono ?_
          rintro e w2 ⟨rfl, hb2⟩
          have H02 := hid (box3_next hb2 H0.out)
          have HBel2 := hid (below_next HBel.out hb2)
          obtain ⟨z0, z1, z2, z3, z4, z5, z6⟩ := H02.out
          have hq : (([] : List UInt8) == (bs S).toList) = false := by
            cases hh : (bs S).toList with
            | nil => rw [hh] at hne; simp at hne
            | cons a b => rfl
          clear hb2 x0 x1 x2 x3
          go_wp2_with fail
          obtain ⟨y0, y1, y2, y3, _⟩ := box3_set2 (box3_set1 (box3_set0 H02.out (.int .i64 0)) (.int .i64 0)) (.slice none 0 0); refine bodyPost_ret (v := .tuple #[.agg #[.int .i64 0, .int .i64 0, .slice none 0 0], .bool false]) (by simp [results, Tryd.results12, go_sem, y1, y2, y3]) rfl ?_
          exact RetTP.mk (zeroP_new _ _) hP.out.1 hP.out.2 (below_set3 HBel2.out (by omega) _ _ _)
        | true =>
          have hP := hid (par_ok7 hr hv)
          have hf : fmt t = c :: s := by simp [fmt, hv, hback]
          rw [hf] at HX
          clear hr hback hv hf
          generalize (c :: s) = S at *
          go_wp2_with fail
          refine (HX.out _ _ HN.out.any).mono ?_
          rintro e w2 ⟨rfl, hb2⟩
          have H02 := hid (box3_next hb2 H0.out)
          have HBel2 := hid (below_next HBel.out hb2)
          have HN2 := hid (HN.out.below hb2)
          have h5 := box3_next hb2 H5.out
          obtain ⟨z0, z1, z2, z3, z4, z5, z6⟩ := H02.out
          clear hb2 x0 x1 x2 x3
          obtain ⟨x0, x1, x2, x3, _⟩ := h5
          go_wp2_with fail
          obtain ⟨y0, y1, y2, y3, _⟩ := box3_set2 (box3_set1 (box3_set0 H02.out (.int .i64 t.kind)) (.int .i64 t.val)) (.slice a1 t.kids.length n1); refine bodyPost_ret (v := .tuple #[.agg #[.int .i64 t.kind, .int .i64 t.val, .slice a1 t.kids.length n1], .bool true]) (by simp [results, Tryd.results12, go_sem, y1, y2, y3]) rfl ?_
          exact RetTP.mk ((newTr_set3 HN2.out (by omega) _ _ _).mono (by omega)) hP.out.1 hP.out.2 (below_set3 HBel2.out (by omega) _ _ _)
      · have hP := hid (par_rest7 hr (by
          intro e
          have := congrArg List.length e
          rw [List.length_drop] at this
          simp only [List.length_nil] at this
          omega))
        have hnl2 : ¬ ((k : Int) = ((c :: s).length : Int)) := by omega
        have hnl : ((k : Int) != ((c :: s).length : Int)) = true := by simpa using hnl2
        obtain ⟨z0, z1, z2, z3, z4, z5, z6⟩ := H0.out
        clear hr hkl
        generalize (c :: s) = S at *
        go_wp2_with fail
        obtain ⟨y0, y1, y2, y3, _⟩ := box3_set2 (box3_set1 (box3_set0 H0.out (.int .i64 0)) (.int .i64 0)) (.slice none 0 0); refine bodyPost_ret (v := .tuple #[.agg #[.int .i64 0, .int .i64 0, .slice none 0 0], .bool false]) (by simp [results, Tryd.results12, go_sem, y1, y2, y3]) rfl ?_
        exact RetTP.mk (zeroP_new _ _) hP.out.1 hP.out.2 (below_set3 HBel.out (by omega) _ _ _)
end Expr
end Go.Proofs.YtplmjliaochepaaDoor
