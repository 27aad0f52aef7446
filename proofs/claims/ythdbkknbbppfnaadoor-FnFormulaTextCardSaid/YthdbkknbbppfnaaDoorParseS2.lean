/- The reference's reader of formulas: nodes with operands. Conditions: those of each contract. -/
import Derived.Test.YthdbkknbbppfnaaDoorParseS
namespace Go.Proofs.YthdbkknbbppfnaaDoor
open Go.RowKit
namespace Formula

set_option maxRecDepth 100000 in
set_option maxHeartbeats 2000000 in
theorem ps_un (n : Nat) (ih : PsT n) (c : UInt8) (k : Int) (hck : (c = 33 ∧ k = 3) ∨ (c = 88 ∧ k = 6) ∨ (c = 70 ∧ k = 9) ∨ (c = 71 ∧ k = 10)) (S : List UInt8) (i : Nat) (d : Int) (w : World) (hd : 1 ≤ d) (hdn : d = (n + 1 : Nat)) (hl : S.length ≤ 1048576) (hc : S[i]? = some c) (hd9 : d ≤ 1000) : Calls Tryd.prog 24 #[.string (bs S), .int .i64 i, .int .i64 d] w (PsPost (rdF (n + 1)) S i w) := by
  have hsz : (bs S).size = S.length := bs_size S
  have hi : i < S.length := (List.getElem?_eq_some_iff.1 hc).1
  have hg := bs_at hc
  have E := hid (show rdF (n + 1) (S.drop i) = oneWith (rdF n) k (S.drop (i + 1)) by rw [drop_at hc]; rcases hck with ⟨rfl, rfl⟩ | ⟨rfl, rfl⟩ | ⟨rfl, rfl⟩ | ⟨rfl, rfl⟩ <;> simp [rdF, formUn])
  have h1 : ¬ (d < 1) := by omega
  have h2 : ¬ ((S.length : Int) ≤ (i : Int)) := by omega
  have h3 : (i : Int) < (S.length : Int) := by omega
  have hk : i64 k := by unfold i64; omega
  have HI := hid (fun (w : World) => ih w S (i + 1) (d - 1) (by omega) hl (by omega))
  have hU := un_any c
  have hUK : unK c = k := by rcases hck with ⟨rfl, rfl⟩ | ⟨rfl, rfl⟩ | ⟨rfl, rfl⟩ | ⟨rfl, rfl⟩ <;> rfl
  rw [hUK] at hU
  have HU := hid hU
  have hkp : k > 0 := by omega
  have hne : c ≠ 84 := by rcases hck with ⟨rfl, rfl⟩ | ⟨rfl, rfl⟩ | ⟨rfl, rfl⟩ | ⟨rfl, rfl⟩ <;> decide
  have e1 : ((c.toNat : Int) == 84) = false := u8_ne hne
  have e3 : ¬ (112 ≤ (c.toNat : Int)) := by rcases hck with ⟨rfl, rfl⟩ | ⟨rfl, rfl⟩ | ⟨rfl, rfl⟩ | ⟨rfl, rfl⟩ <;> decide
  have ei : (i : Int) + 1 = ((i + 1 : Nat) : Int) := by omega
  have HEI := hid ei
  have b4 := box3_new w (.int .i64 0) (.int .i64 0) (.slice none 0 0) 25
  clear hc hck hU hUK ih hdn ei hne
  go_enter Tryd.func24, Tryd.ntmps24
  go_wp2_with fail
  refine (HU.out _).mono ?_
  rintro e w1 ⟨rfl, rfl⟩
  go_wp2_with fail
  rw [HEI.out]
  refine (HI.out _).mono ?_
  rintro e w2 ⟨v, t, nx, rfl, hn, hb, hE⟩
  obtain ⟨a2, n2, rfl⟩ := TrIn_shape hn.any
  have hfin := hid (show (rdF (n + 1) (S.drop i) = none ∧ nx = -1) ∨ ∃ q : Nat, rdF (n + 1) (S.drop i) = some (.mk k 0 [t], S.drop q) ∧ nx = q ∧ q ≤ S.length by
    rw [E.out]
    rcases hE with ⟨h1, h2⟩ | ⟨q, h1, h2, h3⟩
    · exact .inl ⟨by unfold oneWith; rw [h1], h2⟩
    · exact .inr ⟨q, by unfold oneWith; rw [h1], h2, h3⟩)
  have hsz2 := hb.size
  simp only [World.size_alloc] at hsz2
  have HN := hid (hn.mono (B' := w.heap.size + 1) (by simp))
  have HB := hid (below_next (below_alloc _ _) hb)
  have H4 := hid (box3_next hb b4)
  clear hn hb hE b4
  go_wp2_with fail
  refine wp_gen (fun W => Below w.heap.size w W ∧ Box3 W w.heap.size (.int .i64 0) (.int .i64 0) (.slice none 0 0) ∧ Box3 W w2.heap.size (.int .i64 t.kind) (.int .i64 t.val) (.slice a2 t.kids.length n2) ∧ NewTr (w.heap.size + 1) t (.agg #[.int .i64 t.kind, .int .i64 t.val, .slice a2 t.kids.length n2]) W) ⟨below_a HB.out _, box3_next (below_alloc _ _) H4.out, box3_new .., HN.out.below (below_alloc _ _)⟩ ?_
  rintro W ⟨BW, hb4, hb9, hnW⟩
  have hl9 := hb9.1
  have hl4 := hb4.1
  have h4 := hb4
  obtain ⟨x0, x1, x2, x3, _⟩ := hb9
  obtain ⟨z0, z1, z2, z3, z4, z5, z6⟩ := hb4
  have HF := hid (fun w' (M : But W w.heap.size w') => (⟨(M.cell hl9 (by omega)).trans x1, (M.cell hl9 (by omega)).trans x2, (M.cell hl9 (by omega)).trans x3⟩ :
    w'.cell? ⟨w2.heap.size, 0, none⟩ = some (.int .i64 t.kind) ∧ w'.cell? ⟨w2.heap.size, 1, none⟩ = some (.int .i64 t.val) ∧ w'.cell? ⟨w2.heap.size, 2, none⟩ = some (.slice a2 t.kids.length n2)))
  go_region_held3 (fun w' => w'.cell? ⟨w2.heap.size, 0, none⟩ = some (.int .i64 t.kind) ∧ w'.cell? ⟨w2.heap.size, 1, none⟩ = some (.int .i64 t.val) ∧ w'.cell? ⟨w2.heap.size, 2, none⟩ = some (.slice a2 t.kids.length n2))
    (first | (refine HF.out _ ?_; (repeat (first | exact But.refl _ _ | (refine But.of ?_; assumption) | refine but_a ?_ _ | refine but_d ?_ | refine but_s ?_ _)); done) | go_keep)
    ((go_at_call 35; refine (HU.out _).mono ?_; rintro e w6 ⟨rfl, rfl⟩))
  all_goals
    have hz := hid (box3_next (below_d (below_a (Below.refl _ _) (.cells #[.int .i64 t.kind, .int .i64 t.val, .slice a2 t.kids.length n2] 25))) (box3_set2 (box3_set1 (box3_set0 h4 (.int .i64 k)) (.int .i64 0)) (.slice (some ⟨W.heap.size, 0, none⟩) 1 1)))
    have hnew := hid ((own_node (k' := W.heap.size) (ty := 25) hk (newTr_set3 (P := w.heap.size) hnW (by omega) (.int .i64 k) (.int .i64 0) (.slice (some ⟨W.heap.size, 0, none⟩) 1 1)) (by simp; omega) (by simp)).below (below_d (Below.refl _ _)))
    have hbel := hid (below_d (below_a (below_set3 BW (Nat.le_refl _) (.int .i64 k) (.int .i64 0) (.slice (some ⟨W.heap.size, 0, none⟩) 1 1)) (.cells #[.int .i64 t.kind, .int .i64 t.val, .slice a2 t.kids.length n2] 25)))
    clear h4 hnW BW
    go_wp2_with fail
    obtain ⟨y0, y1, y2, y3, _⟩ := hz.out
    refine bodyPost_ret (v := .tuple #[.agg #[.int .i64 k, .int .i64 0, .slice (some ⟨W.heap.size, 0, none⟩) 1 1], .int .i64 nx]) (by simp [results, Tryd.results24, go_sem, y1, y2, y3]) rfl ?_
    exact ⟨_, _, nx, rfl, hnew.out.mono (by omega), hbel.out, hfin.out⟩

theorem two_below {B : Nat} {t u : Tr} {x y : Value} {w w' : World} (h : Two B t u x y w) (hb : Below w.heap.size w w') : Two B t u x y w' := by
  obtain ⟨b1, b2, h1, h2, h3, h4, h5⟩ := h
  exact ⟨b1, b2, TrOwn_below hb h1, TrOwn_below hb h2, h3, h4, h5⟩
theorem u8_pqr2 {c : UInt8} (h : 112 ≤ c ∧ c ≤ 114) : c = 112 ∨ c = 113 ∨ c = 114 := by
  obtain ⟨h1, h2⟩ := h
  rw [UInt8.le_iff_toNat_le] at h1 h2
  have h3 : c.toNat = 112 ∨ c.toNat = 113 ∨ c.toNat = 114 := by
    have e1 : (112 : UInt8).toNat = 112 := rfl
    have e2 : (114 : UInt8).toNat = 114 := rfl
    omega
  rcases h3 with h | h | h
  · exact .inl (UInt8.toNat_inj.1 h)
  · exact .inr (.inl (UInt8.toNat_inj.1 h))
  · exact .inr (.inr (UInt8.toNat_inj.1 h))
/-- no tree: the first operand ends the text, or no sign follows, or .. -/
theorem pair_none {rd : List UInt8 → Option (Tr × List UInt8)} {op : UInt8 → Option Int} {s r : List UInt8} {t : Tr} (h : rd s = none ∨ rd s = some (t, r) ∧ (r = [] ∨ ∃ o r1, r = o :: r1 ∧ (op o = none ∨ ∃ k, op o = some k ∧ (rd r1 = none ∨ ∃ t2 r2, rd r1 = some (t2, r2) ∧ (r2 = [] ∨ ∃ c r3, r2 = c :: r3 ∧ c ≠ 41))))) : pairWith rd op s = none := by
  unfold pairWith
  rcases h with h | ⟨h, h2⟩
  · rw [h]
  · rw [h]
    rcases h2 with rfl | ⟨o, r1, rfl, h3⟩
    · rfl
    · rcases h3 with h3 | ⟨k, h3, h4⟩
      · simp [h3]
      · simp only [h3]
        rcases h4 with h4 | ⟨t2, r2, h4, h5⟩
        · rw [h4]
        · rw [h4]
          rcases h5 with rfl | ⟨c, r3, rfl, h6⟩
          · rfl
          · simp [h6]

set_option maxRecDepth 100000 in
set_option maxHeartbeats 4000000 in
theorem ps_two (n : Nat) (ih : PsT n) (S : List UInt8) (i : Nat) (d : Int) (w : World) (hd : 1 ≤ d) (hdn : d = (n + 1 : Nat)) (hl : S.length ≤ 1048576) (hc : S[i]? = some 40) (hd9 : d ≤ 1000) : Calls Tryd.prog 24 #[.string (bs S), .int .i64 i, .int .i64 d] w (PsPost (rdF (n + 1)) S i w) := by
  have hsz : (bs S).size = S.length := bs_size S
  have hi : i < S.length := (List.getElem?_eq_some_iff.1 hc).1
  have hg := bs_at hc
  have E := hid (show rdF (n + 1) (S.drop i) = pairWith (rdF n) formOp (S.drop (i + 1)) by rw [drop_at hc]; simp [rdF, formUn])
  have h1 : ¬ (d < 1) := by omega
  have h2 : ¬ ((S.length : Int) ≤ (i : Int)) := by omega
  have h3 : (i : Int) < (S.length : Int) := by omega
  have HI := hid (fun (w : World) (j : Nat) (hj : j ≤ S.length) => ih w S j (d - 1) hj hl (by omega))
  have HU := hid (fun w => un_any 40 w)
  have ei : (i : Int) + 1 = ((i + 1 : Nat) : Int) := by omega
  have HEI := hid ei
  have b4 := box3_new w (.int .i64 0) (.int .i64 0) (.slice none 0 0) 25
  clear hc ih hdn ei
  go_enter Tryd.func24, Tryd.ntmps24
  go_wp2_with fail
  refine (HU.out _).mono ?_
  rintro e w1 ⟨rfl, rfl⟩
  go_wp2_with fail
  rw [HEI.out]
  refine (HI.out _ (i + 1) (by omega)).mono ?_
  rintro e w2 ⟨v, t1, nx, rfl, hn, hb, hE⟩
  obtain ⟨a2, n2, rfl⟩ := TrIn_shape hn.any
  have hsz2 := hb.size
  simp only [World.size_alloc] at hsz2
  have HN := hid ((hn.mono (B' := w.heap.size + 1) (by simp)).below (below_alloc w2 (.cells #[.int .i64 t1.kind, .int .i64 t1.val, .slice a2 t1.kids.length n2] 25)))
  have HB := hid (below_a (below_next (below_alloc _ _) hb) (.cells #[.int .i64 t1.kind, .int .i64 t1.val, .slice a2 t1.kids.length n2] 25))
  have H4 := hid (box3_next (below_alloc w2 (.cells #[.int .i64 t1.kind, .int .i64 t1.val, .slice a2 t1.kids.length n2] 25)) (box3_next hb b4))
  have H7 := hid (box3_new w2 (.int .i64 t1.kind) (.int .i64 t1.val) (.slice a2 t1.kids.length n2) 25)
  clear hn hb b4
  -- no first operand
  rcases hE with ⟨hr, rfl⟩ | ⟨k1, hr, rfl, hk1⟩
  · have hfin := hid (show rdF (n + 1) (S.drop i) = none by rw [E.out]; exact pair_none (t := t1) (r := []) (.inl hr))
    obtain ⟨z0, z1, z2, z3, z4, z5, z6⟩ := H4.out
    clear hr
    go_wp2_with fail
    obtain ⟨y0, y1, y2, y3, _⟩ := box3_set2 (box3_set1 (box3_set0 H4.out (.int .i64 0)) (.int .i64 0)) (.slice none 0 0); refine bodyPost_ret (v := .tuple #[.agg #[.int .i64 0, .int .i64 0, .slice none 0 0], .int .i64 (-1)]) (by simp [results, Tryd.results24, go_sem, y1, y2, y3]) rfl ?_
    exact ps_end (t := zeroT) (zero_new _ _) HB.out (.inl ⟨hfin.out, rfl⟩) _ _ _
  have hk1n : ¬ ((k1 : Int) < 0) := by omega
  -- the text ends behind it
  by_cases hke : S.length ≤ k1
  · have hfin := hid (show rdF (n + 1) (S.drop i) = none by rw [E.out]; exact pair_none (t := t1) (.inr ⟨hr, .inl (List.drop_of_length_le hke)⟩))
    have hke2 : (S.length : Int) ≤ (k1 : Int) := by omega
    obtain ⟨z0, z1, z2, z3, z4, z5, z6⟩ := H4.out
    clear hr
    go_wp2_with fail
    obtain ⟨y0, y1, y2, y3, _⟩ := box3_set2 (box3_set1 (box3_set0 H4.out (.int .i64 0)) (.int .i64 0)) (.slice none 0 0); refine bodyPost_ret (v := .tuple #[.agg #[.int .i64 0, .int .i64 0, .slice none 0 0], .int .i64 (-1)]) (by simp [results, Tryd.results24, go_sem, y1, y2, y3]) rfl ?_
    exact ps_end (t := zeroT) (zero_new _ _) HB.out (.inl ⟨hfin.out, rfl⟩) _ _ _
  have hke2 : ¬ ((S.length : Int) ≤ (k1 : Int)) := by omega
  have hke3 : (k1 : Int) < (S.length : Int) := by omega
  obtain ⟨o, ho⟩ : ∃ o, S[k1]? = some o := ⟨_, List.getElem?_eq_getElem (by omega)⟩
  have hg1 := bs_at ho
  have hdo := drop_at ho
  have HBI := hid (fun w => bi_any o w)
  cases hop : formOp o with
  | none =>
    have hfin := hid (show rdF (n + 1) (S.drop i) = none by rw [E.out]; exact pair_none (t := t1) (.inr ⟨hr, .inr ⟨o, _, hdo, .inl hop⟩⟩))
    have hb0 : biK o = 0 := by simp [biK, hop]
    rw [hb0] at HBI
    obtain ⟨z0, z1, z2, z3, z4, z5, z6⟩ := H4.out
    clear hr hop hdo ho hb0
    go_wp2_with fail
    refine (HBI.out _).mono ?_
    rintro e w3 ⟨rfl, rfl⟩
    go_wp2_with fail
    obtain ⟨y0, y1, y2, y3, _⟩ := box3_set2 (box3_set1 (box3_set0 H4.out (.int .i64 0)) (.int .i64 0)) (.slice none 0 0); refine bodyPost_ret (v := .tuple #[.agg #[.int .i64 0, .int .i64 0, .slice none 0 0], .int .i64 (-1)]) (by simp [results, Tryd.results24, go_sem, y1, y2, y3]) rfl ?_
    exact ps_end (t := zeroT) (zero_new _ _) HB.out (.inl ⟨hfin.out, rfl⟩) _ _ _
  | some kop =>
    have hb0 : biK o = kop := by simp [biK, hop]
    rw [hb0] at HBI
    have hkop : kop = 4 ∨ kop = 5 ∨ kop = 7 ∨ kop = 8 := by
      unfold formOp at hop
      repeat' split at hop
      all_goals simp at hop
      all_goals omega
    have hk0 : (kop == 0) = false := by rcases hkop with rfl | rfl | rfl | rfl <;> rfl
    have ek : (k1 : Int) + 1 = ((k1 + 1 : Nat) : Int) := by omega
    have HEK := hid ek
    obtain ⟨z0, z1, z2, z3, z4, z5, z6⟩ := H4.out
    have HR := hid hr
    have HDO := hid hdo
    have HOP := hid hop
    clear hr hdo hop ho hb0 ek
    go_wp2_with fail
    refine (HBI.out _).mono ?_
    rintro e w3 ⟨rfl, rfl⟩
    go_wp2_with fail
    rw [HEK.out]
    clear z0 z1 z2 z3 z4 z5 z6
    refine (HI.out _ (k1 + 1) (by omega)).mono ?_
    rintro e w4 ⟨v4, t2, nx2, rfl, hn4, hb4, hE4⟩
    obtain ⟨a4, n4, rfl⟩ := TrIn_shape hn4.any
    have hsz4 := hb4.size
    simp only [World.size_alloc] at hsz4
    have HTW := hid (Two.mk HN.out hn4 (Nat.le_refl _) hb4 (by simp; omega))
    have HB4 := hid (below_next HB.out hb4)
    have H44 := hid (box3_next hb4 H4.out)
    have H74 := hid (box3_next hb4 H7.out)
    clear hn4 hb4
    have H9 := hid (box3_new w4 (.int .i64 t2.kind) (.int .i64 t2.val) (.slice a4 t2.kids.length n4) 25)
    have H45 := hid (box3_next (below_alloc w4 (.cells #[.int .i64 t2.kind, .int .i64 t2.val, .slice a4 t2.kids.length n4] 25)) H44.out)
    have HB5 := hid (below_a HB4.out (.cells #[.int .i64 t2.kind, .int .i64 t2.val, .slice a4 t2.kids.length n4] 25))
    rcases hE4 with ⟨hr2, rfl⟩ | ⟨k2, hr2, rfl, hk2⟩
    · have hfin := hid (show rdF (n + 1) (S.drop i) = none by rw [E.out]; exact pair_none (t := t1) (.inr ⟨HR.out, .inr ⟨o, _, HDO.out, .inr ⟨kop, HOP.out, .inl hr2⟩⟩⟩))
      obtain ⟨z0, z1, z2, z3, z4, z5, z6⟩ := H45.out
      clear hr2
      go_wp2_with fail
      obtain ⟨y0, y1, y2, y3, _⟩ := box3_set2 (box3_set1 (box3_set0 H45.out (.int .i64 0)) (.int .i64 0)) (.slice none 0 0); refine bodyPost_ret (v := .tuple #[.agg #[.int .i64 0, .int .i64 0, .slice none 0 0], .int .i64 (-1)]) (by simp [results, Tryd.results24, go_sem, y1, y2, y3]) rfl ?_
      exact ps_end (t := zeroT) (zero_new _ _) HB5.out (.inl ⟨hfin.out, rfl⟩) _ _ _
    have hk2n : ¬ ((k2 : Int) < 0) := by omega
    by_cases hke4 : S.length ≤ k2
    · have hfin := hid (show rdF (n + 1) (S.drop i) = none by rw [E.out]; exact pair_none (t := t1) (.inr ⟨HR.out, .inr ⟨o, _, HDO.out, .inr ⟨kop, HOP.out, .inr ⟨t2, _, hr2, .inl (List.drop_of_length_le hke4)⟩⟩⟩⟩))
      have hke5 : (S.length : Int) ≤ (k2 : Int) := by omega
      obtain ⟨z0, z1, z2, z3, z4, z5, z6⟩ := H45.out
      clear hr2
      go_wp2_with fail
      obtain ⟨y0, y1, y2, y3, _⟩ := box3_set2 (box3_set1 (box3_set0 H45.out (.int .i64 0)) (.int .i64 0)) (.slice none 0 0); refine bodyPost_ret (v := .tuple #[.agg #[.int .i64 0, .int .i64 0, .slice none 0 0], .int .i64 (-1)]) (by simp [results, Tryd.results24, go_sem, y1, y2, y3]) rfl ?_
      exact ps_end (t := zeroT) (zero_new _ _) HB5.out (.inl ⟨hfin.out, rfl⟩) _ _ _
    have hke5 : ¬ ((S.length : Int) ≤ (k2 : Int)) := by omega
    have hke6 : (k2 : Int) < (S.length : Int) := by omega
    obtain ⟨q, hq⟩ : ∃ q, S[k2]? = some q := ⟨_, List.getElem?_eq_getElem (by omega)⟩
    have hg2 := bs_at hq
    have hdq := drop_at hq
    by_cases hq41 : q = 41
    · subst hq41
      have hfin := hid (show rdF (n + 1) (S.drop i) = some (.mk kop 0 [t1, t2], S.drop (k2 + 1)) by
        rw [E.out]
        rw [hdq] at hr2
        have h1 := HR.out
        rw [HDO.out] at h1
        exact pairWith_txt h1 HOP.out hr2)
      clear hr2 hq hdq
      go_wp2_with fail
      refine wp_gen (fun W => Below w.heap.size w W ∧ Box3 W w.heap.size (.int .i64 0) (.int .i64 0) (.slice none 0 0) ∧ Box3 W w2.heap.size (.int .i64 t1.kind) (.int .i64 t1.val) (.slice a2 t1.kids.length n2) ∧ Box3 W w4.heap.size (.int .i64 t2.kind) (.int .i64 t2.val) (.slice a4 t2.kids.length n4) ∧ Two (w.heap.size + 1) t1 t2 (.agg #[.int .i64 t1.kind, .int .i64 t1.val, .slice a2 t1.kids.length n2]) (.agg #[.int .i64 t2.kind, .int .i64 t2.val, .slice a4 t2.kids.length n4]) W)
        ⟨HB5.out, H45.out, box3_next (below_alloc _ _) H74.out, H9.out, two_below HTW.out (below_alloc _ _)⟩ ?_
      rintro W ⟨BW, hb4, hb7, hb9, hTW⟩
      have hl7 := hb7.1
      have hl9 := hb9.1
      have hl4 := hb4.1
      have h4 := hb4
      obtain ⟨x0, x1, x2, x3, _⟩ := hb7
      obtain ⟨y0, y1, y2, y3, _⟩ := hb9
      obtain ⟨z0, z1, z2, z3, z4, z5, z6⟩ := hb4
      have HF := hid (fun w' (M : But W w.heap.size w') => (⟨(M.cell hl7 (by omega)).trans x1, (M.cell hl7 (by omega)).trans x2, (M.cell hl7 (by omega)).trans x3, (M.cell hl9 (by omega)).trans y1, (M.cell hl9 (by omega)).trans y2, (M.cell hl9 (by omega)).trans y3⟩ :
        w'.cell? ⟨w2.heap.size, 0, none⟩ = some (.int .i64 t1.kind) ∧ w'.cell? ⟨w2.heap.size, 1, none⟩ = some (.int .i64 t1.val) ∧ w'.cell? ⟨w2.heap.size, 2, none⟩ = some (.slice a2 t1.kids.length n2) ∧ w'.cell? ⟨w4.heap.size, 0, none⟩ = some (.int .i64 t2.kind) ∧ w'.cell? ⟨w4.heap.size, 1, none⟩ = some (.int .i64 t2.val) ∧ w'.cell? ⟨w4.heap.size, 2, none⟩ = some (.slice a4 t2.kids.length n4)))
      have hkk : i64 kop := by unfold i64; omega
      have hwr : IntKind.i64.wrap ((k2 : Int) + 1) = (k2 : Int) + 1 := IntWalk.i64_in _ (by omega)
      go_region_held3 (fun w' => w'.cell? ⟨w2.heap.size, 0, none⟩ = some (.int .i64 t1.kind) ∧ w'.cell? ⟨w2.heap.size, 1, none⟩ = some (.int .i64 t1.val) ∧ w'.cell? ⟨w2.heap.size, 2, none⟩ = some (.slice a2 t1.kids.length n2) ∧ w'.cell? ⟨w4.heap.size, 0, none⟩ = some (.int .i64 t2.kind) ∧ w'.cell? ⟨w4.heap.size, 1, none⟩ = some (.int .i64 t2.val) ∧ w'.cell? ⟨w4.heap.size, 2, none⟩ = some (.slice a4 t2.kids.length n4))
        (first | (refine HF.out _ ?_; (repeat (first | exact But.refl _ _ | (refine But.of ?_; assumption) | refine but_a ?_ _ | refine but_d ?_ | refine but_s ?_ _)); done) | go_keep)
        ((go_at_call 36; refine (HBI.out _).mono ?_; rintro e w6 ⟨rfl, rfl⟩))
      all_goals
        have hz := hid (box3_next (below_d (below_a (Below.refl _ _) (.cells #[.int .i64 t1.kind, .int .i64 t1.val, .slice a2 t1.kids.length n2, .int .i64 t2.kind, .int .i64 t2.val, .slice a4 t2.kids.length n4] 25))) (box3_set2 (box3_set1 (box3_set0 h4 (.int .i64 kop)) (.int .i64 0)) (.slice (some ⟨W.heap.size, 0, none⟩) 2 2)))
        have hnew := hid ((Two.node (b' := W.heap.size) (ty := 25) hkk (Two.set3 (P := w.heap.size) hTW (by omega) (.int .i64 kop) (.int .i64 0) (.slice (some ⟨W.heap.size, 0, none⟩) 2 2)) (by simp; omega) (by simp)).below (below_d (Below.refl _ _)))
        have hbel := hid (below_d (below_a (below_set3 BW (Nat.le_refl _) (.int .i64 kop) (.int .i64 0) (.slice (some ⟨W.heap.size, 0, none⟩) 2 2)) (.cells #[.int .i64 t1.kind, .int .i64 t1.val, .slice a2 t1.kids.length n2, .int .i64 t2.kind, .int .i64 t2.val, .slice a4 t2.kids.length n4] 25)))
        clear h4 hTW BW
        go_wp2_with fail
        obtain ⟨y0, y1, y2, y3, _⟩ := hz.out
        refine bodyPost_ret (v := .tuple #[.agg #[.int .i64 kop, .int .i64 0, (.slice (some ⟨W.heap.size, 0, none⟩) 2 2)], .int .i64 ((k2 : Int) + 1)]) (by simp [results, Tryd.results24, go_sem, y1, y2, y3]) rfl ?_
        exact ⟨_, _, _, rfl, hnew.out.mono (by omega), hbel.out, .inr ⟨k2 + 1, hfin.out, by omega, by omega⟩⟩
    · have hfin := hid (show rdF (n + 1) (S.drop i) = none by rw [E.out]; exact pair_none (t := t1) (.inr ⟨HR.out, .inr ⟨o, _, HDO.out, .inr ⟨kop, HOP.out, .inr ⟨t2, _, hr2, .inr ⟨q, _, hdq, hq41⟩⟩⟩⟩⟩))
      have hq2 : ((q.toNat : Int) == 41) = false := u8_ne hq41
      have hq3 : ((q.toNat : Int) != 41) = true := by simp only [bne, hq2]; rfl
      obtain ⟨z0, z1, z2, z3, z4, z5, z6⟩ := H45.out
      clear hr2 hq hdq hq41
      go_wp2_with fail
      obtain ⟨y0, y1, y2, y3, _⟩ := box3_set2 (box3_set1 (box3_set0 H45.out (.int .i64 0)) (.int .i64 0)) (.slice none 0 0); refine bodyPost_ret (v := .tuple #[.agg #[.int .i64 0, .int .i64 0, .slice none 0 0], .int .i64 (-1)]) (by simp [results, Tryd.results24, go_sem, y1, y2, y3]) rfl ?_
      exact ps_end (t := zeroT) (zero_new _ _) HB5.out (.inl ⟨hfin.out, rfl⟩) _ _ _

theorem ps_all : ∀ n, n ≤ 1000 → PsT n := by
  intro n
  induction n with
  | zero => intro _ w S i d hi hl hd; exact ps_none 0 S i d w (.inl (by omega)) (by omega) hl rfl
  | succ n ih =>
    intro hn w S i d hi hl hd
    have ih := ih (by omega)
    rcases Nat.lt_or_ge i S.length with hlt | hge
    · obtain ⟨c, hc⟩ : ∃ c, S[i]? = some c := ⟨_, List.getElem?_eq_getElem hlt⟩
      have hd1 : 1 ≤ d := by omega
      by_cases n1 : c = 84
      · subst n1; exact ps_true n S i d w hd1 hl hc
      by_cases n2 : 112 ≤ c ∧ c ≤ 114
      · rcases u8_pqr2 n2 with rfl | rfl | rfl
        · exact ps_atom n 112 0 (.inl ⟨rfl, rfl⟩) S i d w hd1 hl hc
        · exact ps_atom n 113 1 (.inr (.inl ⟨rfl, rfl⟩)) S i d w hd1 hl hc
        · exact ps_atom n 114 2 (.inr (.inr ⟨rfl, rfl⟩)) S i d w hd1 hl hc
      cases n3 : formUn c with
      | some k =>
        have hck : (c = 33 ∧ k = 3) ∨ (c = 88 ∧ k = 6) ∨ (c = 70 ∧ k = 9) ∨ (c = 71 ∧ k = 10) := by
          unfold formUn at n3
          repeat' split at n3
          all_goals simp at n3
          all_goals simp_all
        exact ps_un n ih c k hck S i d w hd1 hd hl hc (by omega)
      | none =>
        by_cases n4 : c = 40
        · subst n4; exact ps_two n ih S i d w hd1 hd hl hc (by omega)
        · exact ps_else n c S i d w hd1 hl hc n1 n2 n3 n4
    · exact ps_none (n + 1) S i d w (.inr hge) (by omega) hl (by rw [List.drop_of_length_le hge]; rfl)
end Formula
end Go.Proofs.YthdbkknbbppfnaaDoor
