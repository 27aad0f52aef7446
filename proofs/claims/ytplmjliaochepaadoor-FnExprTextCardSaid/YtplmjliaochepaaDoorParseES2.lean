/- The reference's reader of expressions: two operands. Conditions: those of each contract. -/
import Derived.Test.YtplmjliaochepaaDoorParseES
namespace Go.Proofs.YtplmjliaochepaaDoor
open Go.RowKit
namespace Expr

/-- no tree: the first operand ends the text, or no sign follows, or .. -/
theorem pair_none {rd : List UInt8 → Option (Tr × List UInt8)} {op : UInt8 → Option Int} {s r : List UInt8} {t : Tr} (h : rd s = none ∨ rd s = some (t, r) ∧ (r = [] ∨ ∃ o r1, r = o :: r1 ∧ (op o = none ∨ ∃ k, op o = some k ∧ (rd r1 = none ∨ ∃ t2 r2, rd r1 = some (t2, r2) ∧ (r2 = [] ∨ ∃ c r3, r2 = c :: r3 ∧ c ≠ 41))))) : pairWith rd op s = none := by
  unfold pairWith
  rcases h with h | ⟨h, h2⟩
  · rw [h]
  · rw [h]
    rcases h2 with rfl | ⟨o, r1, rfl, h3⟩
    · rfl
    · rcases h3 with h3 | ⟨k, h3, h4⟩
      · simp [h3]
      · simp only [h3]
        rcases h4 with h4 | ⟨t2, r2, h4, h5⟩
        · rw [h4]
        · rw [h4]
          rcases h5 with rfl | ⟨c, r3, rfl, h6⟩
          · rfl
          · simp [h6]


theorem exprOp_range {o : UInt8} {k : Int} (h : exprOp o = some k) : 4 ≤ k ∧ k ≤ 9 := by
  unfold exprOp at h
  repeat' split at h
  all_goals simp at h
  all_goals omega
theorem bs1_cmp (a o : UInt8) : ((bs [a]).toList == (bs [o]).toList) = decide (a = o) := by
  rw [Go.ByteArray.toList_eq, Go.ByteArray.toList_eq]
  simp [bs]
  by_cases h : a = o <;> simp [h]
/-- the sign of a kind, and which byte it is -/
theorem sg_any (k : Int) (hk : 4 ≤ k ∧ k ≤ 9) : ∃ σ : ByteArray, (∀ w, Calls Tryd.prog 29 #[.int .i64 k] w (Ret (.string σ) w)) ∧ ∀ (τ : ByteArray) (o : UInt8), τ = bs [o] → (σ.toList == τ.toList) = decide (exprOp o = some k) := by
  have key : ∀ (a : UInt8), SignOf k (bs [a]) → (∀ o, (a = o) ↔ exprOp o = some k) → ∃ σ : ByteArray, (∀ w, Calls Tryd.prog 29 #[.int .i64 k] w (Ret (.string σ) w)) ∧ ∀ (τ : ByteArray) (o : UInt8), τ = bs [o] → (σ.toList == τ.toList) = decide (exprOp o = some k) := by
    intro a hs ha
    refine ⟨bs [a], fun w => sign_any k _ hs w, fun τ o ht => ?_⟩
    subst ht
    rw [bs1_cmp]
    by_cases h : a = o
    · rw [decide_eq_true h, decide_eq_true ((ha o).1 h)]
    · rw [decide_eq_false h, decide_eq_false (fun e => h ((ha o).2 e))]
  have hop : ∀ (a : UInt8) (j : Int), exprOp a = some j → (∀ o, exprOp o = some j → o = a) → ∀ o, (a = o) ↔ exprOp o = some j := fun a j h1 h2 o => ⟨fun e => e ▸ h1, fun e => (h2 o e).symm⟩
  have hinv : ∀ (j : Int) (a : UInt8), (j = 4 ∧ a = 38) ∨ (j = 5 ∧ a = 124) ∨ (j = 6 ∧ a = 61) ∨ (j = 7 ∧ a = 60) ∨ (j = 8 ∧ a = 43) ∨ (j = 9 ∧ a = 45) → ∀ o, exprOp o = some j → o = a := by
    intro j a hj o ho
    unfold exprOp at ho
    repeat' split at ho
    all_goals simp at ho
    all_goals (first | (subst o; rcases hj with ⟨h1, h2⟩ | ⟨h1, h2⟩ | ⟨h1, h2⟩ | ⟨h1, h2⟩ | ⟨h1, h2⟩ | ⟨h1, h2⟩ <;> first | (exfalso; omega) | (rw [h2])))
  have hk2 : k = 4 ∨ k = 5 ∨ k = 6 ∨ k = 7 ∨ k = 8 ∨ k = 9 := by omega
  rcases hk2 with rfl | rfl | rfl | rfl | rfl | rfl
  · exact key 38 (.inl ⟨rfl, rfl⟩) (hop 38 4 rfl (hinv 4 38 (by simp)))
  · exact key 124 (.inr (.inl ⟨rfl, rfl⟩)) (hop 124 5 rfl (hinv 5 124 (by simp)))
  · exact key 61 (.inr (.inr (.inl ⟨rfl, rfl⟩))) (hop 61 6 rfl (hinv 6 61 (by simp)))
  · exact key 60 (.inr (.inr (.inr (.inl ⟨rfl, rfl⟩)))) (hop 60 7 rfl (hinv 7 60 (by simp)))
  · exact key 43 (.inr (.inr (.inr (.inr (.inl ⟨rfl, rfl⟩))))) (hop 43 8 rfl (hinv 8 43 (by simp)))
  · exact key 45 (.inr (.inr (.inr (.inr (.inr ⟨rfl, rfl⟩))))) (hop 45 9 rfl (hinv 9 45 (by simp)))

theorem pair_none2 {rd : List UInt8 → Option (Tr × List UInt8)} {op : UInt8 → Option Int} {s r1 : List UInt8} {t : Tr} {o : UInt8} (h : rd s = some (t, o :: r1)) (h2 : rd r1 = none ∨ ∃ t2 r2, rd r1 = some (t2, r2) ∧ (r2 = [] ∨ ∃ c r3, r2 = c :: r3 ∧ c ≠ 41)) : pairWith rd op s = none := by
  refine pair_none (.inr ⟨h, .inr ⟨o, r1, rfl, ?_⟩⟩)
  cases hop : op o with
  | none => exact .inl rfl
  | some k => exact .inr ⟨k, rfl, h2⟩

set_option maxRecDepth 100000 in
set_option maxHeartbeats 4000000 in
theorem ps_two (n : Nat) (ih : PsT n) (S : List UInt8) (i : Nat) (d : Int) (w : World) (hd : 1 ≤ d) (hdn : d = (n + 1 : Nat)) (hl : S.length ≤ 1048576) (hc : S[i]? = some 40) (hd9 : d ≤ 1000) : Calls Tryd.prog 24 #[.string (bs S), .int .i64 i, .int .i64 d] w (PsPost (rdE 57 (n + 1)) S i w) := by
  have hsz : (bs S).size = S.length := bs_size S
  have hi : i < S.length := (List.getElem?_eq_some_iff.1 hc).1
  have hg := bs_at hc
  have E := hid (show rdE 57 (n + 1) (S.drop i) = pairWith (rdE 57 n) exprOp (S.drop (i + 1)) by rw [drop_at hc]; simp [rdE])
  have h1 : ¬ (d < 1) := by omega
  have h2 : ¬ ((S.length : Int) ≤ (i : Int)) := by omega
  have h3 : (i : Int) < (S.length : Int) := by omega
  have HI := hid (fun (w : World) (j : Nat) (hj : j ≤ S.length) => ih w S j (d - 1) hj hl (by omega))
  have ei : (i : Int) + 1 = ((i + 1 : Nat) : Int) := by omega
  have HEI := hid ei
  have b4 := box3_new w (.int .i64 0) (.int .i64 0) (.slice none 0 0) 25
  clear hc ih hdn ei
  go_enter Tryd.func24, Tryd.ntmps24
  go_wp2_with fail
  rw [HEI.out]
  refine (HI.out _ (i + 1) (by omega)).mono ?_
  rintro e w2 ⟨v, t1, nx, rfl, hn, hb, hE⟩
  obtain ⟨a2, n2, rfl⟩ := TrIn_shape hn.any
  have hsz2 := hb.size
  simp only [World.size_alloc] at hsz2
  have HN := hid ((hn.mono (B' := w.heap.size + 1) (by simp)).below (below_alloc w2 (.cells #[.int .i64 t1.kind, .int .i64 t1.val, .slice a2 t1.kids.length n2] 25)))
  have HB := hid (below_a (below_next (below_alloc _ _) hb) (.cells #[.int .i64 t1.kind, .int .i64 t1.val, .slice a2 t1.kids.length n2] 25))
  have H4 := hid (box3_next (below_alloc w2 (.cells #[.int .i64 t1.kind, .int .i64 t1.val, .slice a2 t1.kids.length n2] 25)) (box3_next hb b4))
  have H7 := hid (box3_new w2 (.int .i64 t1.kind) (.int .i64 t1.val) (.slice a2 t1.kids.length n2) 25)
  clear hn hb b4
  rcases hE with ⟨hr, rfl⟩ | ⟨k1, hr, rfl, hk1⟩
  · have hfin := hid (show rdE 57 (n + 1) (S.drop i) = none by rw [E.out]; exact pair_none (t := t1) (r := []) (.inl hr))
    obtain ⟨z0, z1, z2, z3, z4, z5, z6⟩ := H4.out
    clear hr
    go_wp2_with fail
    obtain ⟨y0, y1, y2, y3, _⟩ := box3_set2 (box3_set1 (box3_set0 H4.out (.int .i64 0)) (.int .i64 0)) (.slice none 0 0); refine bodyPost_ret (v := .tuple #[.agg #[.int .i64 0, .int .i64 0, .slice none 0 0], .int .i64 (-1)]) (by simp [results, Tryd.results24, go_sem, y1, y2, y3]) rfl ?_
    exact ps_end (t := zeroP) (zeroP_new _ _) HB.out (.inl ⟨hfin.out, rfl⟩) _ _ _
  have hk1n : ¬ ((k1 : Int) < 0) := by omega
  by_cases hke : S.length ≤ k1
  · have hfin := hid (show rdE 57 (n + 1) (S.drop i) = none by rw [E.out]; exact pair_none (t := t1) (.inr ⟨hr, .inl (List.drop_of_length_le hke)⟩))
    have hke2 : (S.length : Int) ≤ (k1 : Int) := by omega
    obtain ⟨z0, z1, z2, z3, z4, z5, z6⟩ := H4.out
    clear hr
    go_wp2_with fail
    obtain ⟨y0, y1, y2, y3, _⟩ := box3_set2 (box3_set1 (box3_set0 H4.out (.int .i64 0)) (.int .i64 0)) (.slice none 0 0); refine bodyPost_ret (v := .tuple #[.agg #[.int .i64 0, .int .i64 0, .slice none 0 0], .int .i64 (-1)]) (by simp [results, Tryd.results24, go_sem, y1, y2, y3]) rfl ?_
    exact ps_end (t := zeroP) (zeroP_new _ _) HB.out (.inl ⟨hfin.out, rfl⟩) _ _ _
  have hke2 : ¬ ((S.length : Int) ≤ (k1 : Int)) := by omega
  have hke3 : (k1 : Int) < (S.length : Int) := by omega
  obtain ⟨o, ho⟩ : ∃ o, S[k1]? = some o := ⟨_, List.getElem?_eq_getElem (by omega)⟩
  have hdo := drop_at ho
  have hcut := cut_at ho
  have ek : (k1 : Int) + 1 = ((k1 + 1 : Nat) : Int) := by omega
  have HEK := hid ek
  obtain ⟨z0, z1, z2, z3, z4, z5, z6⟩ := H4.out
  rw [hdo] at hr
  have HR := hid hr
  have HCUT := hid hcut
  clear hr hdo ho ek hcut
  go_wp2_with fail
  rw [HEK.out]
  clear z0 z1 z2 z3 z4 z5 z6
  refine (HI.out _ (k1 + 1) (by omega)).mono ?_
  rintro e w4 ⟨v4, t2, nx2, rfl, hn4, hb4, hE4⟩
  obtain ⟨a4, n4, rfl⟩ := TrIn_shape hn4.any
  have hsz4 := hb4.size
  simp only [World.size_alloc] at hsz4
  have HTW := hid (Two.mk HN.out hn4 (Nat.le_refl _) hb4 (by simp; omega))
  have HB4 := hid (below_next HB.out hb4)
  have H44 := hid (box3_next hb4 H4.out)
  have H74 := hid (box3_next hb4 H7.out)
  clear hn4 hb4
  have H9 := hid (box3_new w4 (.int .i64 t2.kind) (.int .i64 t2.val) (.slice a4 t2.kids.length n4) 25)
  have H45 := hid (box3_next (below_alloc w4 (.cells #[.int .i64 t2.kind, .int .i64 t2.val, .slice a4 t2.kids.length n4] 25)) H44.out)
  have HB5 := hid (below_a HB4.out (.cells #[.int .i64 t2.kind, .int .i64 t2.val, .slice a4 t2.kids.length n4] 25))
  rcases hE4 with ⟨hr2, rfl⟩ | ⟨k2, hr2, rfl, hk2⟩
  · have hfin := hid (show rdE 57 (n + 1) (S.drop i) = none by rw [E.out]; exact pair_none2 HR.out (.inl hr2))
    obtain ⟨z0, z1, z2, z3, z4, z5, z6⟩ := H45.out
    clear hr2
    go_wp2_with fail
    obtain ⟨y0, y1, y2, y3, _⟩ := box3_set2 (box3_set1 (box3_set0 H45.out (.int .i64 0)) (.int .i64 0)) (.slice none 0 0); refine bodyPost_ret (v := .tuple #[.agg #[.int .i64 0, .int .i64 0, .slice none 0 0], .int .i64 (-1)]) (by simp [results, Tryd.results24, go_sem, y1, y2, y3]) rfl ?_
    exact ps_end (t := zeroP) (zeroP_new _ _) HB5.out (.inl ⟨hfin.out, rfl⟩) _ _ _
  have hk2n : ¬ ((k2 : Int) < 0) := by omega
  by_cases hke4 : S.length ≤ k2
  · have hfin := hid (show rdE 57 (n + 1) (S.drop i) = none by rw [E.out]; exact pair_none2 HR.out (.inr ⟨t2, _, hr2, .inl (List.drop_of_length_le hke4)⟩))
    have hke5 : (S.length : Int) ≤ (k2 : Int) := by omega
    obtain ⟨z0, z1, z2, z3, z4, z5, z6⟩ := H45.out
    clear hr2
    go_wp2_with fail
    obtain ⟨y0, y1, y2, y3, _⟩ := box3_set2 (box3_set1 (box3_set0 H45.out (.int .i64 0)) (.int .i64 0)) (.slice none 0 0); refine bodyPost_ret (v := .tuple #[.agg #[.int .i64 0, .int .i64 0, .slice none 0 0], .int .i64 (-1)]) (by simp [results, Tryd.results24, go_sem, y1, y2, y3]) rfl ?_
    exact ps_end (t := zeroP) (zeroP_new _ _) HB5.out (.inl ⟨hfin.out, rfl⟩) _ _ _
  have hke5 : ¬ ((S.length : Int) ≤ (k2 : Int)) := by omega
  have hke6 : (k2 : Int) < (S.length : Int) := by omega
  obtain ⟨q, hq⟩ : ∃ q, S[k2]? = some q := ⟨_, List.getElem?_eq_getElem (by omega)⟩
  have hg2 := bs_at hq
  have hdq := drop_at hq
  by_cases hq41 : q = 41
  · subst hq41
    rw [hdq] at hr2
    have HR2 := hid hr2
    clear hr2 hq hdq
    have hwr : IntKind.i64.wrap ((k2 : Int) + 1) = (k2 : Int) + 1 := IntWalk.i64_in _ (by omega)
    obtain ⟨z0, z1, z2, z3, z4, z5, z6⟩ := H45.out
    go_upto_region 19 with fail
    refine wp_gen (fun W => Below w.heap.size w W ∧ Box3 W w.heap.size (.int .i64 0) (.int .i64 0) (.slice none 0 0) ∧ Box3 W w2.heap.size (.int .i64 t1.kind) (.int .i64 t1.val) (.slice a2 t1.kids.length n2) ∧ Box3 W w4.heap.size (.int .i64 t2.kind) (.int .i64 t2.val) (.slice a4 t2.kids.length n4) ∧ Two (w.heap.size + 1) t1 t2 (.agg #[.int .i64 t1.kind, .int .i64 t1.val, .slice a2 t1.kids.length n2]) (.agg #[.int .i64 t2.kind, .int .i64 t2.val, .slice a4 t2.kids.length n4]) W)
      ⟨HB5.out, H45.out, box3_next (below_alloc _ _) H74.out, H9.out, two_below HTW.out (below_alloc _ _)⟩ ?_
    rintro W ⟨BW, hb4, hb7, hb9, hTW⟩
    have HBW := hid BW
    have HB4w := hid hb4
    have HB7w := hid hb7
    have HB9w := hid hb9
    have HTWw := hid hTW
    clear BW hb4 hb7 hb9 hTW z0 z1 z2 z3 z4 z5 z6
    go_wp2_with fail
    go_loopw [15] (fun i wr => ∃ kk : Int, i = .int .i64 kk ∧ 4 ≤ kk ∧ kk ≤ 10 ∧ Hid (Below W.heap.size W wr) ∧ Hid (∀ j, 4 ≤ j → j < kk → exprOp o ≠ some j)) (fun i _ => (10 - intOf i).toNat)
    case atStart => exact ⟨4, rfl, by omega, by omega, hid (Below.refl _ _), hid (fun j h1 h2 => by omega)⟩
    case round =>
      obtain ⟨kk, rfl, hk4, hk10, HBr, hno⟩ := hrel
      by_cases hk9 : kk ≤ 9
      · obtain ⟨σ, hσ, hcmp⟩ := sg_any kk ⟨hk4, hk9⟩
        have HS := hid hσ
        have hcm := hcmp _ o HCUT.out
        clear hσ hcmp
        generalize hτ : (bs S).extract k1 (k1 + 1) = τ at *
        by_cases hop : exprOp o = some kk
        · have hfin := hid (show rdE 57 (n + 1) (S.drop i) = some (.mk kk 0 [t1, t2], S.drop (k2 + 1)) by
            rw [E.out]
            exact pairWith_txt HR.out hop HR2.out)
          rw [decide_eq_true hop] at hcm
          have hkk : i64 kk := by unfold i64; omega
          have hb4 := hid (box3_next HBr.out HB4w.out)
          obtain ⟨x0, x1, x2, x3, _⟩ := box3_next HBr.out HB7w.out
          obtain ⟨y0, y1, y2, y3, _⟩ := box3_next HBr.out HB9w.out
          obtain ⟨z0, z1, z2, z3, z4, z5, z6⟩ := hb4.out
          clear hop hno
          go_wp2_with fail
          refine wp_region_over (by kernel_rfl) (by kernel_rfl) ?_; (repeat (go_big_quiet_step ((go_at_call 29; with_reducible exact Calls.over (HS.out _))))); refine wpQuiet_nil ?_; rintro _ ⟨xq, rfl⟩
          have hb4' := box3_next (over_below wr xq) hb4.out
          have hT' := two_below (two_below HTWw.out HBr.out) (over_below wr xq)
          have hBB := hid (below_next (below_next HBW.out HBr.out) (over_below wr xq))
          have hz := hid (fun (u0 u1 u2 : Value) => And.intro (Two.node (b' := (wr.over xq).heap.size) (ty := 25) hkk (Two.set3 (P := w.heap.size) hT' (by omega) u0 u1 u2) (by have := hb4'.1; simp; omega) (by simp)) (box3_next (below_alloc ((((wr.over xq).setCell ⟨w.heap.size, 0, none⟩ u0).setCell ⟨w.heap.size, 1, none⟩ u1).setCell ⟨w.heap.size, 2, none⟩ u2) (.cells #[.int .i64 t1.kind, .int .i64 t1.val, .slice a2 t1.kids.length n2, .int .i64 t2.kind, .int .i64 t2.val, .slice a4 t2.kids.length n4] 25)) (box3_set2 (box3_set1 (box3_set0 hb4' u0) u1) u2)))
          clear hb4' hT'
          go_wp2_with fail
          obtain ⟨hnew, hbx⟩ := hz.out (.int .i64 kk) (.int .i64 0) (.slice (some ⟨(wr.over xq).heap.size, 0, none⟩) 2 2)
          obtain ⟨y0, y1, y2, y3, _⟩ := hbx
          refine bodyPost_ret (v := .tuple #[.agg #[.int .i64 kk, .int .i64 0, .slice (some ⟨(wr.over xq).heap.size, 0, none⟩) 2 2], .int .i64 ((k2 : Int) + 1)]) (by simp [results, Tryd.results24, go_sem, y1, y2, y3]) rfl ?_
          exact ⟨_, _, _, rfl, hnew.mono (by omega), below_a (below_set3 hBB.out (Nat.le_refl _) _ _ _) _, .inr ⟨k2 + 1, hfin.out, by omega, by omega⟩⟩
        · rw [decide_eq_false hop] at hcm
          have HNO := hid (show ∀ j, 4 ≤ j → j < kk + 1 → exprOp o ≠ some j from fun j h1 h2 => by
            by_cases e : j = kk
            · rw [e]; exact hop
            · exact hno.out j h1 (by omega))
          clear hop hno
          go_wp2_with fail
          refine wp_region_over (by kernel_rfl) (by kernel_rfl) ?_; (repeat (go_big_quiet_step ((go_at_call 29; with_reducible exact Calls.over (HS.out _))))); refine wpQuiet_nil ?_; rintro _ ⟨xq, rfl⟩
          have HBq := hid (below_next HBr.out (over_below wr xq))
          go_wp2_with fail
          go_roundw
          case rel => exact ⟨kk + 1, by go_num, by omega, by omega, HBq, HNO⟩
          case measure => simp [intOf]; omega
      · have hk0 : kk = 10 := by omega
        have hop : exprOp o = none := by
          cases hq : exprOp o with
          | none => rfl
          | some j =>
            have := exprOp_range hq
            exact absurd hq (hno.out j this.1 (by omega))
        have hfin := hid (show rdE 57 (n + 1) (S.drop i) = none by rw [E.out]; exact pair_none (t := t1) (.inr ⟨HR.out, .inr ⟨o, _, rfl, .inl hop⟩⟩))
        have hb4 := hid (box3_next HBr.out HB4w.out)
        obtain ⟨z0, z1, z2, z3, z4, z5, z6⟩ := hb4.out
        have HBB := hid (below_next HBW.out HBr.out)
        clear hop hno
        go_wp2_with fail
        obtain ⟨y0, y1, y2, y3, _⟩ := box3_set2 (box3_set1 (box3_set0 hb4.out (.int .i64 0)) (.int .i64 0)) (.slice none 0 0); refine bodyPost_ret (v := .tuple #[.agg #[.int .i64 0, .int .i64 0, .slice none 0 0], .int .i64 (-1)]) (by simp [results, Tryd.results24, go_sem, y1, y2, y3]) rfl ?_
        exact ps_end (t := zeroP) (zeroP_new _ _) HBB.out (.inl ⟨hfin.out, rfl⟩) _ _ _
  · have hfin := hid (show rdE 57 (n + 1) (S.drop i) = none by rw [E.out]; exact pair_none2 HR.out (.inr ⟨t2, _, hr2, .inr ⟨q, _, hdq, hq41⟩⟩))
    have hq2 : ((q.toNat : Int) == 41) = false := u8_neE hq41
    have hq3 : ((q.toNat : Int) != 41) = true := by simp only [bne, hq2]; rfl
    obtain ⟨z0, z1, z2, z3, z4, z5, z6⟩ := H45.out
    clear hr2 hq hdq hq41
    go_wp2_with fail
    obtain ⟨y0, y1, y2, y3, _⟩ := box3_set2 (box3_set1 (box3_set0 H45.out (.int .i64 0)) (.int .i64 0)) (.slice none 0 0); refine bodyPost_ret (v := .tuple #[.agg #[.int .i64 0, .int .i64 0, .slice none 0 0], .int .i64 (-1)]) (by simp [results, Tryd.results24, go_sem, y1, y2, y3]) rfl ?_
    exact ps_end (t := zeroP) (zeroP_new _ _) HB5.out (.inl ⟨hfin.out, rfl⟩) _ _ _
end Expr
end Go.Proofs.YtplmjliaochepaaDoor
