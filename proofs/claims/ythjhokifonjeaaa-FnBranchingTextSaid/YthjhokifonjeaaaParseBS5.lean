/- The reference's reader of branching-time formulas: two operands behind A. Conditions: those of each contract. -/
import Derived.Test.YthjhokifonjeaaaParseBS2
namespace Go.Proofs.Ythjhokifonjeaaa
open Go.RowKit
namespace Branching

set_option maxRecDepth 100000 in
set_option maxHeartbeats 4000000 in
theorem ps_every (n : Nat) (ih : PsT n) (S : List UInt8) (i : Nat) (d : Int) (w : World) (hd : 1 ≤ d) (hdn : d = (n + 1 : Nat)) (hl : S.length ≤ 1048576) (hc : S[i]? = some 65) (hx : S[i + 1]? = some 40) (hU : Un S i 0 0) (hd9 : d ≤ 1000) : Calls Try.prog 69 #[.string (bs S), .int .i64 i, .int .i64 d] w (PsPost (rdB (n + 1)) S i w) := by
  have hsz : (bs S).size = S.length := bs_size S
  have hi : i < S.length := (List.getElem?_eq_some_iff.1 hc).1
  have hg := bs_at hc
  have E := hid (show rdB (n + 1) (S.drop i) = pairWith (rdB n) (pathOp 10) (S.drop (i + 2)) by rw [drop_at hc, drop_at hx]; simp [rdB, rdB2]; rfl)
  have h1 : ¬ (d < 1) := by omega
  have h2 : ¬ ((S.length : Int) ≤ (i : Int)) := by omega
  have h3 : (i : Int) < (S.length : Int) := by omega
  have HI := hid (fun (w : World) (j : Nat) (hj : j ≤ S.length) => ih w S j (d - 1) hj hl (by omega))
  have HU := hid hU
  have hi1 : i + 1 < S.length := (List.getElem?_eq_some_iff.1 hx).1
  have hgx := bs_at hx
  have hcut : (bs S).extract i (i + 1) = (⟨#[65]⟩ : ByteArray) := cut_at hc
  have hx4 : ¬ ((S.length : Int) ≤ (i : Int) + 1) := by omega
  have hx5 : (i : Int) + 1 < (S.length : Int) := by omega
  have ei : (i : Int) + 1 + 1 = ((i + 2 : Nat) : Int) := by omega
  have HEI := hid ei
  have b4 := box3_new w (.int .i64 0) (.int .i64 0) (.slice none 0 0) 39
  clear hc hx ih hdn ei hU
  go_enter Try.func69, Try.ntmps69
  go_wp2_with fail
  refine (HU.out _).mono ?_
  rintro e w1 ⟨rfl, rfl⟩
  go_wp2_with fail
  rw [HEI.out]
  refine (HI.out _ (i + 2) (by omega)).mono ?_
  rintro e w2 ⟨v, t1, nx, rfl, hn, hb, hE⟩
  obtain ⟨a2, n2, rfl⟩ := TrIn_shape hn.any
  have hsz2 := hb.size
  simp only [World.size_alloc] at hsz2
  have HN := hid ((hn.mono (B' := w.heap.size + 1) (by simp)).below (below_alloc w2 (.cells #[.int .i64 t1.kind, .int .i64 t1.val, .slice a2 t1.kids.length n2] 39)))
  have HB := hid (below_a (below_next (below_alloc _ _) hb) (.cells #[.int .i64 t1.kind, .int .i64 t1.val, .slice a2 t1.kids.length n2] 39))
  have H4 := hid (box3_next (below_alloc w2 (.cells #[.int .i64 t1.kind, .int .i64 t1.val, .slice a2 t1.kids.length n2] 39)) (box3_next hb b4))
  have H7 := hid (box3_new w2 (.int .i64 t1.kind) (.int .i64 t1.val) (.slice a2 t1.kids.length n2) 39)
  clear hn hb b4
  -- no first operand
  rcases hE with ⟨hr, rfl⟩ | ⟨k1, hr, rfl, hk1⟩
  · have hfin := hid (show rdB (n + 1) (S.drop i) = none by rw [E.out]; exact pair_none (t := t1) (r := []) (.inl hr))
    obtain ⟨z0, z1, z2, z3, z4, z5, z6⟩ := H4.out
    clear hr
    go_wp2_with fail
    obtain ⟨y0, y1, y2, y3, _⟩ := box3_set2 (box3_set1 (box3_set0 H4.out (.int .i64 0)) (.int .i64 0)) (.slice none 0 0); refine bodyPost_ret (v := .tuple #[.agg #[.int .i64 0, .int .i64 0, .slice none 0 0], .int .i64 (-1)]) (by simp [results, Try.results69, go_sem, y1, y2, y3]) rfl ?_
    exact ps_end (t := zeroT) (zero_new _ _) HB.out (.inl ⟨hfin.out, rfl⟩) _ _ _
  have hk1n : ¬ ((k1 : Int) < 0) := by omega
  -- the text ends behind it
  by_cases hke : S.length ≤ k1
  · have hfin := hid (show rdB (n + 1) (S.drop i) = none by rw [E.out]; exact pair_none (t := t1) (.inr ⟨hr, .inl (List.drop_of_length_le hke)⟩))
    have hke2 : (S.length : Int) ≤ (k1 : Int) := by omega
    obtain ⟨z0, z1, z2, z3, z4, z5, z6⟩ := H4.out
    clear hr
    go_wp2_with fail
    obtain ⟨y0, y1, y2, y3, _⟩ := box3_set2 (box3_set1 (box3_set0 H4.out (.int .i64 0)) (.int .i64 0)) (.slice none 0 0); refine bodyPost_ret (v := .tuple #[.agg #[.int .i64 0, .int .i64 0, .slice none 0 0], .int .i64 (-1)]) (by simp [results, Try.results69, go_sem, y1, y2, y3]) rfl ?_
    exact ps_end (t := zeroT) (zero_new _ _) HB.out (.inl ⟨hfin.out, rfl⟩) _ _ _
  have hke2 : ¬ ((S.length : Int) ≤ (k1 : Int)) := by omega
  have hke3 : (k1 : Int) < (S.length : Int) := by omega
  obtain ⟨o, ho⟩ : ∃ o, S[k1]? = some o := ⟨_, List.getElem?_eq_getElem (by omega)⟩
  have hg1 := bs_at ho
  have hdo := drop_at ho
  have HBI := hid (fun w => bi_every o w)
  cases hop : (pathOp 10) o with
  | none =>
    have hfin := hid (show rdB (n + 1) (S.drop i) = none by rw [E.out]; exact pair_none (t := t1) (.inr ⟨hr, .inr ⟨o, _, hdo, .inl hop⟩⟩))
    have hb0 : (pathOp 10 o).getD 0 = 0 := by simp [hop]
    rw [hb0] at HBI
    obtain ⟨z0, z1, z2, z3, z4, z5, z6⟩ := H4.out
    clear hr hop hdo ho hb0
    go_wp2_with fail
    refine (HBI.out _).mono ?_
    rintro e w3 ⟨rfl, rfl⟩
    go_wp2_with fail
    obtain ⟨y0, y1, y2, y3, _⟩ := box3_set2 (box3_set1 (box3_set0 H4.out (.int .i64 0)) (.int .i64 0)) (.slice none 0 0); refine bodyPost_ret (v := .tuple #[.agg #[.int .i64 0, .int .i64 0, .slice none 0 0], .int .i64 (-1)]) (by simp [results, Try.results69, go_sem, y1, y2, y3]) rfl ?_
    exact ps_end (t := zeroT) (zero_new _ _) HB.out (.inl ⟨hfin.out, rfl⟩) _ _ _
  | some kop =>
    have hb0 : (pathOp 10 o).getD 0 = kop := by simp [hop]
    rw [hb0] at HBI
    have hkop : 10 ≤ kop ∧ kop ≤ 10 := by
      unfold pathOp at hop
      split at hop
      all_goals simp at hop
      all_goals omega
    have hk0 : (kop == 0) = false := by simp; omega
    have ek : (k1 : Int) + 1 = ((k1 + 1 : Nat) : Int) := by omega
    have HEK := hid ek
    obtain ⟨z0, z1, z2, z3, z4, z5, z6⟩ := H4.out
    have HR := hid hr
    have HDO := hid hdo
    have HOP := hid hop
    clear hr hdo hop ho hb0 ek
    go_wp2_with fail
    refine (HBI.out _).mono ?_
    rintro e w3 ⟨rfl, rfl⟩
    go_wp2_with fail
    rw [HEK.out]
    clear z0 z1 z2 z3 z4 z5 z6
    refine (HI.out _ (k1 + 1) (by omega)).mono ?_
    rintro e w4 ⟨v4, t2, nx2, rfl, hn4, hb4, hE4⟩
    obtain ⟨a4, n4, rfl⟩ := TrIn_shape hn4.any
    have hsz4 := hb4.size
    simp only [World.size_alloc] at hsz4
    have HTW := hid (Two.mk HN.out hn4 (Nat.le_refl _) hb4 (by simp; omega))
    have HB4 := hid (below_next HB.out hb4)
    have H44 := hid (box3_next hb4 H4.out)
    have H74 := hid (box3_next hb4 H7.out)
    clear hn4 hb4
    have H9 := hid (box3_new w4 (.int .i64 t2.kind) (.int .i64 t2.val) (.slice a4 t2.kids.length n4) 39)
    have H45 := hid (box3_next (below_alloc w4 (.cells #[.int .i64 t2.kind, .int .i64 t2.val, .slice a4 t2.kids.length n4] 39)) H44.out)
    have HB5 := hid (below_a HB4.out (.cells #[.int .i64 t2.kind, .int .i64 t2.val, .slice a4 t2.kids.length n4] 39))
    rcases hE4 with ⟨hr2, rfl⟩ | ⟨k2, hr2, rfl, hk2⟩
    · have hfin := hid (show rdB (n + 1) (S.drop i) = none by rw [E.out]; exact pair_none (t := t1) (.inr ⟨HR.out, .inr ⟨o, _, HDO.out, .inr ⟨kop, HOP.out, .inl hr2⟩⟩⟩))
      obtain ⟨z0, z1, z2, z3, z4, z5, z6⟩ := H45.out
      clear hr2
      go_wp2_with fail
      obtain ⟨y0, y1, y2, y3, _⟩ := box3_set2 (box3_set1 (box3_set0 H45.out (.int .i64 0)) (.int .i64 0)) (.slice none 0 0); refine bodyPost_ret (v := .tuple #[.agg #[.int .i64 0, .int .i64 0, .slice none 0 0], .int .i64 (-1)]) (by simp [results, Try.results69, go_sem, y1, y2, y3]) rfl ?_
      exact ps_end (t := zeroT) (zero_new _ _) HB5.out (.inl ⟨hfin.out, rfl⟩) _ _ _
    have hk2n : ¬ ((k2 : Int) < 0) := by omega
    by_cases hke4 : S.length ≤ k2
    · have hfin := hid (show rdB (n + 1) (S.drop i) = none by rw [E.out]; exact pair_none (t := t1) (.inr ⟨HR.out, .inr ⟨o, _, HDO.out, .inr ⟨kop, HOP.out, .inr ⟨t2, _, hr2, .inl (List.drop_of_length_le hke4)⟩⟩⟩⟩))
      have hke5 : (S.length : Int) ≤ (k2 : Int) := by omega
      obtain ⟨z0, z1, z2, z3, z4, z5, z6⟩ := H45.out
      clear hr2
      go_wp2_with fail
      obtain ⟨y0, y1, y2, y3, _⟩ := box3_set2 (box3_set1 (box3_set0 H45.out (.int .i64 0)) (.int .i64 0)) (.slice none 0 0); refine bodyPost_ret (v := .tuple #[.agg #[.int .i64 0, .int .i64 0, .slice none 0 0], .int .i64 (-1)]) (by simp [results, Try.results69, go_sem, y1, y2, y3]) rfl ?_
      exact ps_end (t := zeroT) (zero_new _ _) HB5.out (.inl ⟨hfin.out, rfl⟩) _ _ _
    have hke5 : ¬ ((S.length : Int) ≤ (k2 : Int)) := by omega
    have hke6 : (k2 : Int) < (S.length : Int) := by omega
    obtain ⟨q, hq⟩ : ∃ q, S[k2]? = some q := ⟨_, List.getElem?_eq_getElem (by omega)⟩
    have hg2 := bs_at hq
    have hdq := drop_at hq
    by_cases hq41 : q = 41
    · subst hq41
      have hfin := hid (show rdB (n + 1) (S.drop i) = some (.mk kop 0 [t1, t2], S.drop (k2 + 1)) by
        rw [E.out]
        rw [hdq] at hr2
        have h1 := HR.out
        rw [HDO.out] at h1
        exact pairWith_txt h1 HOP.out hr2)
      clear hr2 hq hdq
      go_wp2_with fail
      refine wp_gen (fun W => Below w.heap.size w W ∧ Box3 W w.heap.size (.int .i64 0) (.int .i64 0) (.slice none 0 0) ∧ Box3 W w2.heap.size (.int .i64 t1.kind) (.int .i64 t1.val) (.slice a2 t1.kids.length n2) ∧ Box3 W w4.heap.size (.int .i64 t2.kind) (.int .i64 t2.val) (.slice a4 t2.kids.length n4) ∧ Two (w.heap.size + 1) t1 t2 (.agg #[.int .i64 t1.kind, .int .i64 t1.val, .slice a2 t1.kids.length n2]) (.agg #[.int .i64 t2.kind, .int .i64 t2.val, .slice a4 t2.kids.length n4]) W)
        ⟨HB5.out, H45.out, box3_next (below_alloc _ _) H74.out, H9.out, two_below HTW.out (below_alloc _ _)⟩ ?_
      rintro W ⟨BW, hb4, hb7, hb9, hTW⟩
      have hl7 := hb7.1
      have hl9 := hb9.1
      have hl4 := hb4.1
      have h4 := hb4
      obtain ⟨x0, x1, x2, x3, _⟩ := hb7
      obtain ⟨y0, y1, y2, y3, _⟩ := hb9
      obtain ⟨z0, z1, z2, z3, z4, z5, z6⟩ := hb4
      have HF := hid (fun w' (M : But W w.heap.size w') => (⟨(M.cell hl7 (by omega)).trans x1, (M.cell hl7 (by omega)).trans x2, (M.cell hl7 (by omega)).trans x3, (M.cell hl9 (by omega)).trans y1, (M.cell hl9 (by omega)).trans y2, (M.cell hl9 (by omega)).trans y3⟩ :
        w'.cell? ⟨w2.heap.size, 0, none⟩ = some (.int .i64 t1.kind) ∧ w'.cell? ⟨w2.heap.size, 1, none⟩ = some (.int .i64 t1.val) ∧ w'.cell? ⟨w2.heap.size, 2, none⟩ = some (.slice a2 t1.kids.length n2) ∧ w'.cell? ⟨w4.heap.size, 0, none⟩ = some (.int .i64 t2.kind) ∧ w'.cell? ⟨w4.heap.size, 1, none⟩ = some (.int .i64 t2.val) ∧ w'.cell? ⟨w4.heap.size, 2, none⟩ = some (.slice a4 t2.kids.length n4)))
      have hkk : i64 kop := by unfold i64; omega
      have hwr : IntKind.i64.wrap ((k2 : Int) + 1) = (k2 : Int) + 1 := IntWalk.i64_in _ (by omega)
      go_region_held3 (fun w' => w'.cell? ⟨w2.heap.size, 0, none⟩ = some (.int .i64 t1.kind) ∧ w'.cell? ⟨w2.heap.size, 1, none⟩ = some (.int .i64 t1.val) ∧ w'.cell? ⟨w2.heap.size, 2, none⟩ = some (.slice a2 t1.kids.length n2) ∧ w'.cell? ⟨w4.heap.size, 0, none⟩ = some (.int .i64 t2.kind) ∧ w'.cell? ⟨w4.heap.size, 1, none⟩ = some (.int .i64 t2.val) ∧ w'.cell? ⟨w4.heap.size, 2, none⟩ = some (.slice a4 t2.kids.length n4))
        (first | (refine HF.out _ ?_; (repeat (first | exact But.refl _ _ | (refine But.of ?_; assumption) | refine but_a ?_ _ | refine but_d ?_ | refine but_s ?_ _)); done) | go_keep)
        ((go_at_call 98; refine (HBI.out _).mono ?_; rintro e w6 ⟨rfl, rfl⟩))
      all_goals
        have hz := hid (box3_next (below_d (below_a (Below.refl _ _) (.cells #[.int .i64 t1.kind, .int .i64 t1.val, .slice a2 t1.kids.length n2, .int .i64 t2.kind, .int .i64 t2.val, .slice a4 t2.kids.length n4] 39))) (box3_set2 (box3_set1 (box3_set0 h4 (.int .i64 kop)) (.int .i64 0)) (.slice (some ⟨W.heap.size, 0, none⟩) 2 2)))
        have hnew := hid ((Two.node (b' := W.heap.size) (ty := 39) hkk (Two.set3 (P := w.heap.size) hTW (by omega) (.int .i64 kop) (.int .i64 0) (.slice (some ⟨W.heap.size, 0, none⟩) 2 2)) (by simp; omega) (by simp)).below (below_d (Below.refl _ _)))
        have hbel := hid (below_d (below_a (below_set3 BW (Nat.le_refl _) (.int .i64 kop) (.int .i64 0) (.slice (some ⟨W.heap.size, 0, none⟩) 2 2)) (.cells #[.int .i64 t1.kind, .int .i64 t1.val, .slice a2 t1.kids.length n2, .int .i64 t2.kind, .int .i64 t2.val, .slice a4 t2.kids.length n4] 39)))
        clear h4 hTW BW
        go_wp2_with fail
        obtain ⟨y0, y1, y2, y3, _⟩ := hz.out
        refine bodyPost_ret (v := .tuple #[.agg #[.int .i64 kop, .int .i64 0, (.slice (some ⟨W.heap.size, 0, none⟩) 2 2)], .int .i64 ((k2 : Int) + 1)]) (by simp [results, Try.results69, go_sem, y1, y2, y3]) rfl ?_
        exact ⟨_, _, _, rfl, hnew.out.mono (by omega), hbel.out, .inr ⟨k2 + 1, hfin.out, by omega, by omega⟩⟩
    · have hfin := hid (show rdB (n + 1) (S.drop i) = none by rw [E.out]; exact pair_none (t := t1) (.inr ⟨HR.out, .inr ⟨o, _, HDO.out, .inr ⟨kop, HOP.out, .inr ⟨t2, _, hr2, .inr ⟨q, _, hdq, hq41⟩⟩⟩⟩⟩))
      have hq2 : ((q.toNat : Int) == 41) = false := u8_ne hq41
      have hq3 : ((q.toNat : Int) != 41) = true := by simp only [bne, hq2]; rfl
      obtain ⟨z0, z1, z2, z3, z4, z5, z6⟩ := H45.out
      clear hr2 hq hdq hq41
      go_wp2_with fail
      obtain ⟨y0, y1, y2, y3, _⟩ := box3_set2 (box3_set1 (box3_set0 H45.out (.int .i64 0)) (.int .i64 0)) (.slice none 0 0); refine bodyPost_ret (v := .tuple #[.agg #[.int .i64 0, .int .i64 0, .slice none 0 0], .int .i64 (-1)]) (by simp [results, Try.results69, go_sem, y1, y2, y3]) rfl ?_
      exact ps_end (t := zeroT) (zero_new _ _) HB5.out (.inl ⟨hfin.out, rfl⟩) _ _ _


end Branching
end Go.Proofs.Ythjhokifonjeaaa
