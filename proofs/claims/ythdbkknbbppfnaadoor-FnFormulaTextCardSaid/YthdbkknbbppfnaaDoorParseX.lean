/- ParseFormula, of the program and of the reference: what it returns, for every text. Conditions: those of each contract. -/
import Derived.Test.YthdbkknbbppfnaaDoorParseI
import Derived.Test.YthdbkknbbppfnaaDoorParseS2
import Derived.Test.YthdbkknbbppfnaaDoorFormFmt
import Derived.Test.YthdbkknbbppfnaaDoorFormulaImplN
namespace Go.Proofs.YthdbkknbbppfnaaDoor
open Go.RowKit
namespace Formula

theorem box2_at {w : World} {B : Nat} {a b : Value} {t : TypeId} (h : B = w.heap.size) : Box2 (w.alloc (.cells #[a, b] t)) B a b := by subst h; exact ⟨by simp, by simp, by simp, by simp, by simp⟩
theorem rd_all : ∀ n, n ≤ 6 → RdT n := by
  intro n
  induction n with
  | zero => intro _; exact rd_zero
  | succ n ih =>
    intro hn w s b R d hR hl hd
    have ih := ih (by omega)
    have hd1 : d ≤ 6 := by omega
    rcases take1_bad s b with ⟨⟨s', h1, h2⟩, h3⟩ | ⟨rfl, c, s1, rfl, h⟩
    · exact rd_bad (n + 1) w s s' b R d hR hl hd1 h1 h2 (h3 _)
    · rcases h with rfl | h | h | rfl
      · exact rd_true n w s1 R d hR hl hd1
      · rcases h with rfl | rfl | rfl
        · exact rd_atom n 112 1 (.inl ⟨rfl, rfl⟩) w s1 R d hR hl hd1
        · exact rd_atom n 113 2 (.inr (.inl ⟨rfl, rfl⟩)) w s1 R d hR hl hd1
        · exact rd_atom n 114 3 (.inr (.inr ⟨rfl, rfl⟩)) w s1 R d hR hl hd1
      · rcases h with rfl | rfl | rfl | rfl
        · exact rd_un n ih 33 3 4 (.inl ⟨rfl, rfl, rfl⟩) w s1 R d hR hl hd1 hd (by omega)
        · exact rd_un n ih 88 6 5 (.inr (.inl ⟨rfl, rfl, rfl⟩)) w s1 R d hR hl hd1 hd (by omega)
        · exact rd_un n ih 70 9 6 (.inr (.inr (.inl ⟨rfl, rfl, rfl⟩))) w s1 R d hR hl hd1 hd (by omega)
        · exact rd_un n ih 71 10 7 (.inr (.inr (.inr ⟨rfl, rfl, rfl⟩))) w s1 R d hR hl hd1 hd (by omega)
      · exact rd_two n ih w s1 R d hR hl hd1 hd (by omega)

/-- the tree that a text is read to -/
def parP (s : List UInt8) : Option Tr :=
  match rdF 6 s with
  | some (t, []) => if formL.valid t = true then some t else none
  | _ => none
def parV (s : List UInt8) : Tr := (parP s).getD zeroT
def parOk (s : List UInt8) : Bool := (parP s).isSome

theorem parV_nodes (s : List UInt8) : nodes (parV s) ≤ 1000 := by
  unfold parV parP
  split
  · rename_i t h
    split
    · rename_i hv
      rw [Lang.valid, Bool.and_eq_true, decide_eq_true_eq, formL_N] at hv
      simp; omega
    · simp [zeroT, nodes, nodesL]
  · simp [zeroT, nodes, nodesL]

theorem par_none {s : List UInt8} (h : rdF 6 s = none) : parV s = zeroT ∧ parOk s = false := by simp [parV, parOk, parP, h]
theorem par_rest {s r : List UInt8} {t : Tr} (h : rdF 6 s = some (t, r)) (hr : r ≠ []) : parV s = zeroT ∧ parOk s = false := by
  cases r with
  | nil => exact absurd rfl hr
  | cons c r => simp [parV, parOk, parP, h]
theorem par_bad {s : List UInt8} {t : Tr} (h : rdF 6 s = some (t, [])) (hv : formL.valid t = false) : parV s = zeroT ∧ parOk s = false := by simp [parV, parOk, parP, h, hv]
theorem par_ok {s : List UInt8} {t : Tr} (h : rdF 6 s = some (t, [])) (hv : formL.valid t = true) : parV s = t ∧ parOk s = true := by simp [parV, parOk, parP, h, hv]

set_option maxRecDepth 100000 in
set_option maxHeartbeats 2000000 in
theorem parse_any (s : List UInt8) (w : World) (hl : s.length ≤ 1048576) : Calls Tryd.prog 6 #[.string (bs s)] w (RetT w.heap.size (parV s) (parOk s) w) := by
  have HR := hid (fun (w : World) (R : Nat) (hR : Box2 w R (.string (bs s)) (.bool false)) => rd_all 6 (Nat.le_refl _) w s false R 1 hR hl rfl)
  go_enter Tryd.func6, Tryd.ntmps6
  go_wp2_with fail
  refine (HR.out _ (w.heap.size + 1) (box2_at (by simp))).mono ?_
  rintro e w1 ⟨v, t, r, b', rfl, hn, hB, hbut, hr, hE⟩
  obtain ⟨a1, n1, rfl⟩ := TrIn_shape hn.any
  simp only [Bool.false_eq_true, if_false] at hE
  have hsz := hbut.size
  simp only [World.size_alloc] at hsz
  have HB := hid (box2_next (below_alloc w1 (.cells #[.int .i64 t.kind, .int .i64 t.val, .slice a1 t.kids.length n1] 25)) hB)
  have hb0 := box3_but hbut (by omega) (box3_next (below_alloc _ (.cells #[.string (bs s), .bool false] 37)) (box3_new w (.int .i64 0) (.int .i64 0) (.slice none 0 0) 25))
  have H0 := hid (box3_next (below_alloc w1 (.cells #[.int .i64 t.kind, .int .i64 t.val, .slice a1 t.kids.length n1] 25)) hb0)
  have HBel := hid (below_a (hbut.new (below_a (below_alloc w _) (.cells #[.string (bs s), .bool false] 37)) (by omega)) (.cells #[.int .i64 t.kind, .int .i64 t.val, .slice a1 t.kids.length n1] 25))
  have HN := hid ((hn.mono (B' := w.heap.size + 1) (by simp)).below (below_alloc w1 (.cells #[.int .i64 t.kind, .int .i64 t.val, .slice a1 t.kids.length n1] 25)))
  have H5 := hid (box3_new w1 (.int .i64 t.kind) (.int .i64 t.val) (.slice a1 t.kids.length n1) 25)
  clear hn hB hbut hb0
  cases b' with
  | true =>
    have hP := hid (par_none hE)
    obtain ⟨q0, q1, q2, q3, q4⟩ := HB.out
    obtain ⟨z0, z1, z2, z3, z4, z5, z6⟩ := H0.out
    clear hE
    go_wp2_with fail
    obtain ⟨y0, y1, y2, y3, _⟩ := box3_set2 (box3_set1 (box3_set0 H0.out (.int .i64 0)) (.int .i64 0)) (.slice none 0 0); refine bodyPost_ret (v := .tuple #[.agg #[.int .i64 0, .int .i64 0, .slice none 0 0], .bool false]) (by simp [results, Tryd.results6, go_sem, y1, y2, y3]) rfl ?_
    exact RetT.mk (zero_new _ _) hP.out.1 hP.out.2 (below_set3 HBel.out (by omega) _ _ _)
  | false =>
    simp only [Bool.false_eq_true, if_false] at hE
    cases r with
    | cons c r =>
      have hP := hid (par_rest hE (by simp))
      have hne : (bs (c :: r)).toList.isEmpty = false := by rw [Go.ByteArray.toList_eq]; rfl
      obtain ⟨q0, q1, q2, q3, q4⟩ := HB.out
      obtain ⟨z0, z1, z2, z3, z4, z5, z6⟩ := H0.out
      clear hE
      go_wp2_with fail
      obtain ⟨y0, y1, y2, y3, _⟩ := box3_set2 (box3_set1 (box3_set0 H0.out (.int .i64 0)) (.int .i64 0)) (.slice none 0 0); refine bodyPost_ret (v := .tuple #[.agg #[.int .i64 0, .int .i64 0, .slice none 0 0], .bool false]) (by simp [results, Tryd.results6, go_sem, y1, y2, y3]) rfl ?_
      exact RetT.mk (zero_new _ _) hP.out.1 hP.out.2 (below_set3 HBel.out (by omega) _ _ _)
    | nil =>
      have e0 : bs [] = (⟨#[]⟩ : ByteArray) := rfl
      have HV := hid (fun w x (hx : TrIn Any w t x) => valid_any t w x hx)
      have hbx := HB.out
      rw [e0] at hbx
      obtain ⟨q0, q1, q2, q3, q4⟩ := hbx
      obtain ⟨x0, x1, x2, x3, _⟩ := H5.out
      have HE := hid hE
      clear hE
      go_wp2_with fail
      refine (HV.out _ _ HN.out.any).mono ?_
      rintro e w2 ⟨rfl, hb2⟩
      have h0 := box3_next hb2 H0.out
      have HBel2 := hid (below_next HBel.out hb2)
      have HN2 := hid (HN.out.below hb2)
      have h5 := box3_next hb2 H5.out
      clear hb2 q0 q1 q2 q3 q4 x0 x1 x2 x3
      obtain ⟨x0, x1, x2, x3, _⟩ := h5
      have H02 := hid h0
      obtain ⟨z0, z1, z2, z3, z4, z5, z6⟩ := h0
      cases hv : formL.valid t with
      | false =>
        have hP := hid (par_bad HE.out hv)
        clear hv
        go_wp2_with fail
        obtain ⟨y0, y1, y2, y3, _⟩ := box3_set2 (box3_set1 (box3_set0 H02.out (.int .i64 0)) (.int .i64 0)) (.slice none 0 0); refine bodyPost_ret (v := .tuple #[.agg #[.int .i64 0, .int .i64 0, .slice none 0 0], .bool false]) (by simp [results, Tryd.results6, go_sem, y1, y2, y3]) rfl ?_
        exact RetT.mk (zero_new _ _) hP.out.1 hP.out.2 (below_set3 HBel2.out (by omega) _ _ _)
      | true =>
        have hP := hid (par_ok HE.out hv)
        clear hv
        go_wp2_with fail
        obtain ⟨y0, y1, y2, y3, _⟩ := box3_set2 (box3_set1 (box3_set0 H02.out (.int .i64 t.kind)) (.int .i64 t.val)) (.slice a1 t.kids.length n1); refine bodyPost_ret (v := .tuple #[.agg #[.int .i64 t.kind, .int .i64 t.val, .slice a1 t.kids.length n1], .bool true]) (by simp [results, Tryd.results6, go_sem, y1, y2, y3]) rfl ?_
        exact RetT.mk ((newTr_set3 HN2.out (by omega) _ _ _).mono (by omega)) hP.out.1 hP.out.2 (below_set3 HBel2.out (by omega) _ _ _)

theorem bs_len_inj {a b : List UInt8} (h : bs a = bs b) : a = b := bs_inj h

set_option maxRecDepth 100000 in
set_option maxHeartbeats 2000000 in
theorem specParse_any (s : List UInt8) (w : World) (hl : s.length ≤ 1048576) : Calls Tryd.prog 12 #[.string (bs s)] w (RetT w.heap.size (parV s) (parOk s) w) := by
  have HR := hid (fun (w : World) => ps_all 6 (by omega) w s 0 6 (by omega) hl rfl)
  have hsz : (bs s).size = s.length := bs_size s
  go_enter Tryd.func12, Tryd.ntmps12
  go_wp2_with fail
  refine (HR.out _).mono ?_
  rintro e w1 ⟨v, t, nx, rfl, hn, hb, hE⟩
  obtain ⟨a1, n1, rfl⟩ := TrIn_shape hn.any
  rw [List.drop_zero] at hE
  have hszw := hb.size
  simp only [World.size_alloc] at hszw
  have H0 := hid (box3_next (below_alloc w1 (.cells #[.int .i64 t.kind, .int .i64 t.val, .slice a1 t.kids.length n1] 25)) (box3_next hb (box3_new w (.int .i64 0) (.int .i64 0) (.slice none 0 0) 25)))
  have HBel := hid (below_a (below_next (below_alloc _ _) hb) (.cells #[.int .i64 t.kind, .int .i64 t.val, .slice a1 t.kids.length n1] 25))
  have HN := hid ((hn.mono (B' := w.heap.size + 1) (by simp)).below (below_alloc w1 (.cells #[.int .i64 t.kind, .int .i64 t.val, .slice a1 t.kids.length n1] 25)))
  have H5 := hid (box3_new w1 (.int .i64 t.kind) (.int .i64 t.val) (.slice a1 t.kids.length n1) 25)
  clear hn hb
  have E00 : bs [] = (⟨#[]⟩ : ByteArray) := rfl
  cases s with
  | nil =>
    have hP := hid (par_none (s := []) rfl)
    rw [E00] at *
    obtain ⟨z0, z1, z2, z3, z4, z5, z6⟩ := H0.out
    clear hE
    go_wp2_with fail
    obtain ⟨y0, y1, y2, y3, _⟩ := box3_set2 (box3_set1 (box3_set0 H0.out (.int .i64 0)) (.int .i64 0)) (.slice none 0 0); refine bodyPost_ret (v := .tuple #[.agg #[.int .i64 0, .int .i64 0, .slice none 0 0], .bool false]) (by simp [results, Tryd.results12, go_sem, y1, y2, y3]) rfl ?_
    exact RetT.mk (zero_new _ _) hP.out.1 hP.out.2 (below_set3 HBel.out (by omega) _ _ _)
  | cons c s =>
    have hne : (bs (c :: s)).toList.isEmpty = false := by rw [Go.ByteArray.toList_eq]; rfl
    rcases hE with ⟨hr, rfl⟩ | ⟨k, hr, rfl, hk⟩
    · have hP := hid (par_none hr)
      have hnl : ((-1 : Int) != ((c :: s).length : Int)) = true := by simp; omega
      have hnl2 : ¬ ((-1 : Int) = ((c :: s).length : Int)) := by simp; omega
      obtain ⟨z0, z1, z2, z3, z4, z5, z6⟩ := H0.out
      clear hr
      generalize (c :: s) = S at *
      go_wp2_with fail
      obtain ⟨y0, y1, y2, y3, _⟩ := box3_set2 (box3_set1 (box3_set0 H0.out (.int .i64 0)) (.int .i64 0)) (.slice none 0 0); refine bodyPost_ret (v := .tuple #[.agg #[.int .i64 0, .int .i64 0, .slice none 0 0], .bool false]) (by simp [results, Tryd.results12, go_sem, y1, y2, y3]) rfl ?_
      exact RetT.mk (zero_new _ _) hP.out.1 hP.out.2 (below_set3 HBel.out (by omega) _ _ _)
    · by_cases hkl : k = (c :: s).length
      · subst hkl
        rw [List.drop_length] at hr
        have hback := rdF_back 6 _ _ _ hr
        rw [List.append_nil] at hback
        have HX := hid (fun (w : World) x (hx : TrIn Any w t x) => specFmt_any t w x hx)
        obtain ⟨x0, x1, x2, x3, _⟩ := H5.out
        cases hv : formL.valid t with
        | false =>
          have hP := hid (par_bad hr hv)
          have hf : bs (fmt t) = (⟨#[]⟩ : ByteArray) := by simp [fmt, hv, bs]
          rw [hf] at HX
          clear hr hback hv hf
          generalize (c :: s) = S at *
          go_wp2_with fail
          refine (HX.out _ _ HN.out.any).mono ?_
          rintro e w2 ⟨rfl, hb2⟩
          have H02 := hid (box3_next hb2 H0.out)
          have HBel2 := hid (below_next HBel.out hb2)
          obtain ⟨z0, z1, z2, z3, z4, z5, z6⟩ := H02.out
          have hq : (([] : List UInt8) == (bs S).toList) = false := by
            cases hh : (bs S).toList with
            | nil => rw [hh] at hne; simp at hne
            | cons a b => rfl
          clear hb2 x0 x1 x2 x3
          go_wp2_with fail
          obtain ⟨y0, y1, y2, y3, _⟩ := box3_set2 (box3_set1 (box3_set0 H02.out (.int .i64 0)) (.int .i64 0)) (.slice none 0 0); refine bodyPost_ret (v := .tuple #[.agg #[.int .i64 0, .int .i64 0, .slice none 0 0], .bool false]) (by simp [results, Tryd.results12, go_sem, y1, y2, y3]) rfl ?_
          exact RetT.mk (zero_new _ _) hP.out.1 hP.out.2 (below_set3 HBel2.out (by omega) _ _ _)
        | true =>
          have hP := hid (par_ok hr hv)
          have hf : fmt t = c :: s := by simp [fmt, hv, hback]
          rw [hf] at HX
          clear hr hback hv hf
          generalize (c :: s) = S at *
          go_wp2_with fail
          refine (HX.out _ _ HN.out.any).mono ?_
          rintro e w2 ⟨rfl, hb2⟩
          have H02 := hid (box3_next hb2 H0.out)
          have HBel2 := hid (below_next HBel.out hb2)
          have HN2 := hid (HN.out.below hb2)
          have h5 := box3_next hb2 H5.out
          obtain ⟨z0, z1, z2, z3, z4, z5, z6⟩ := H02.out
          clear hb2 x0 x1 x2 x3
          obtain ⟨x0, x1, x2, x3, _⟩ := h5
          go_wp2_with fail
          obtain ⟨y0, y1, y2, y3, _⟩ := box3_set2 (box3_set1 (box3_set0 H02.out (.int .i64 t.kind)) (.int .i64 t.val)) (.slice a1 t.kids.length n1); refine bodyPost_ret (v := .tuple #[.agg #[.int .i64 t.kind, .int .i64 t.val, .slice a1 t.kids.length n1], .bool true]) (by simp [results, Tryd.results12, go_sem, y1, y2, y3]) rfl ?_
          exact RetT.mk ((newTr_set3 HN2.out (by omega) _ _ _).mono (by omega)) hP.out.1 hP.out.2 (below_set3 HBel2.out (by omega) _ _ _)
      · have hP := hid (par_rest hr (by
          intro e
          have := congrArg List.length e
          rw [List.length_drop] at this
          simp only [List.length_nil] at this
          omega))
        have hnl2 : ¬ ((k : Int) = ((c :: s).length : Int)) := by omega
        have hnl : ((k : Int) != ((c :: s).length : Int)) = true := by simpa using hnl2
        obtain ⟨z0, z1, z2, z3, z4, z5, z6⟩ := H0.out
        clear hr hkl
        generalize (c :: s) = S at *
        go_wp2_with fail
        obtain ⟨y0, y1, y2, y3, _⟩ := box3_set2 (box3_set1 (box3_set0 H0.out (.int .i64 0)) (.int .i64 0)) (.slice none 0 0); refine bodyPost_ret (v := .tuple #[.agg #[.int .i64 0, .int .i64 0, .slice none 0 0], .bool false]) (by simp [results, Tryd.results12, go_sem, y1, y2, y3]) rfl ?_
        exact RetT.mk (zero_new _ _) hP.out.1 hP.out.2 (below_set3 HBel.out (by omega) _ _ _)
end Formula
end Go.Proofs.YthdbkknbbppfnaaDoor
