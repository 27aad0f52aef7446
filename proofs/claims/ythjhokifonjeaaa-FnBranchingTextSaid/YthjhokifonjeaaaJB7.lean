/- Joined texts (ParseBS5, ParseBS6, ParseBX, BranchingSame, LawFnBranText, ArgRow): contracts and plain laws. Conditions: those of each theorem. -/
import Derived.Test.YthjhokifonjeaaaJB6
import Derived.Test.YthjhokifonjeaaaJB5
import Derived.Test.YthjhokifonjeaaaJB4
import Derived.Test.YthjhokifonjeaaaJB3
import Derived.Test.YthjhokifonjeaaaRows
import Derived.Test.YthjhokifonjeaaaJB1
import Derived.WalkSpells
import Derived.WalkLawsBesides
import Derived.ProofKit
import Derived.ChangeOld
import Derived.Lib.SmallJoins
set_option linter.unusedVariables false
set_option linter.unusedSimpArgs false
namespace Go.Proofs.Ythjhokifonjeaaa
open Go.RowKit
namespace Branching

set_option maxRecDepth 100000 in
set_option maxHeartbeats 4000000 in
theorem ps_every (n : Nat) (ih : PsT n) (S : List UInt8) (i : Nat) (d : Int) (w : World) (hd : 1 ≤ d) (hdn : d = (n + 1 : Nat)) (hl : S.length ≤ 1048576) (hc : S[i]? = some 65) (hx : S[i + 1]? = some 40) (hU : Un S i 0 0) (hd9 : d ≤ 1000) : Calls Try.prog 69 #[.string (bs S), .int .i64 i, .int .i64 d] w (PsPost (rdB (n + 1)) S i w) := by
  have hsz : (bs S).size = S.length := bs_size S
  have hi : i < S.length := (List.getElem?_eq_some_iff.1 hc).1
  have hg := bs_at hc
  have E := hid (show rdB (n + 1) (S.drop i) = pairWith (rdB n) (pathOp 10) (S.drop (i + 2)) by rw [drop_at hc, drop_at hx]; simp [rdB, rdB2]; rfl)
  have h1 : ¬ (d < 1) := by omega
  have h2 : ¬ ((S.length : Int) ≤ (i : Int)) := by omega
  have h3 : (i : Int) < (S.length : Int) := by omega
  have HI := hid (fun (w : World) (j : Nat) (hj : j ≤ S.length) => ih w S j (d - 1) hj hl (by omega))
  have HU := hid hU
  have hi1 : i + 1 < S.length := (List.getElem?_eq_some_iff.1 hx).1
  have hgx := bs_at hx
  have hcut : (bs S).extract i (i + 1) = (⟨#[65]⟩ : ByteArray) := cut_at hc
  have hx4 : ¬ ((S.length : Int) ≤ (i : Int) + 1) := by omega
  have hx5 : (i : Int) + 1 < (S.length : Int) := by omega
  have ei : (i : Int) + 1 + 1 = ((i + 2 : Nat) : Int) := by omega
  have HEI := hid ei
  have b4 := box3_new w (.int .i64 0) (.int .i64 0) (.slice none 0 0) 39
  clear hc hx ih hdn ei hU
  go_enter Try.func69, Try.ntmps69
  go_wp2_with fail
  refine (HU.out _).mono ?_
  rintro e w1 ⟨rfl, rfl⟩
  go_wp2_with fail
  rw [HEI.out]
  refine (HI.out _ (i + 2) (by omega)).mono ?_
  rintro e w2 ⟨v, t1, nx, rfl, hn, hb, hE⟩
  obtain ⟨a2, n2, rfl⟩ := TrIn_shape hn.any
  have hsz2 := hb.size
  simp only [World.size_alloc] at hsz2
  have HN := hid ((hn.mono (B' := w.heap.size + 1) (by simp)).below (below_alloc w2 (.cells #[.int .i64 t1.kind, .int .i64 t1.val, .slice a2 t1.kids.length n2] 39)))
  have HB := hid (below_a (below_next (below_alloc _ _) hb) (.cells #[.int .i64 t1.kind, .int .i64 t1.val, .slice a2 t1.kids.length n2] 39))
  have H4 := hid (box3_next (below_alloc w2 (.cells #[.int .i64 t1.kind, .int .i64 t1.val, .slice a2 t1.kids.length n2] 39)) (box3_next hb b4))
  have H7 := hid (box3_new w2 (.int .i64 t1.kind) (.int .i64 t1.val) (.slice a2 t1.kids.length n2) 39)
  clear hn hb b4
  -- no first operand
  rcases hE with ⟨hr, rfl⟩ | ⟨k1, hr, rfl, hk1⟩
  · have hfin := hid (show rdB (n + 1) (S.drop i) = none by rw [E.out]; exact pair_none (t := t1) (r := []) (.inl hr))
    obtain ⟨z0, z1, z2, z3, z4, z5, z6⟩ := H4.out
    clear hr
    go_wp2_with fail
    obtain ⟨y0, y1, y2, y3, _⟩ := box3_set2 (box3_set1 (box3_set0 H4.out (.int .i64 0)) (.int .i64 0)) (.slice none 0 0); refine bodyPost_ret (v := .tuple #[.agg #[.int .i64 0, .int .i64 0, .slice none 0 0], .int .i64 (-1)]) (by simp [results, Try.results69, go_sem, y1, y2, y3]) rfl ?_
    exact ps_end (t := zeroT) (zero_new _ _) HB.out (.inl ⟨hfin.out, rfl⟩) _ _ _
  have hk1n : ¬ ((k1 : Int) < 0) := by omega
  -- the text ends behind it
  by_cases hke : S.length ≤ k1
  · have hfin := hid (show rdB (n + 1) (S.drop i) = none by rw [E.out]; exact pair_none (t := t1) (.inr ⟨hr, .inl (List.drop_of_length_le hke)⟩))
    have hke2 : (S.length : Int) ≤ (k1 : Int) := by omega
    obtain ⟨z0, z1, z2, z3, z4, z5, z6⟩ := H4.out
    clear hr
    go_wp2_with fail
    obtain ⟨y0, y1, y2, y3, _⟩ := box3_set2 (box3_set1 (box3_set0 H4.out (.int .i64 0)) (.int .i64 0)) (.slice none 0 0); refine bodyPost_ret (v := .tuple #[.agg #[.int .i64 0, .int .i64 0, .slice none 0 0], .int .i64 (-1)]) (by simp [results, Try.results69, go_sem, y1, y2, y3]) rfl ?_
    exact ps_end (t := zeroT) (zero_new _ _) HB.out (.inl ⟨hfin.out, rfl⟩) _ _ _
  have hke2 : ¬ ((S.length : Int) ≤ (k1 : Int)) := by omega
  have hke3 : (k1 : Int) < (S.length : Int) := by omega
  obtain ⟨o, ho⟩ : ∃ o, S[k1]? = some o := ⟨_, List.getElem?_eq_getElem (by omega)⟩
  have hg1 := bs_at ho
  have hdo := drop_at ho
  have HBI := hid (fun w => bi_every o w)
  cases hop : (pathOp 10) o with
  | none =>
    have hfin := hid (show rdB (n + 1) (S.drop i) = none by rw [E.out]; exact pair_none (t := t1) (.inr ⟨hr, .inr ⟨o, _, hdo, .inl hop⟩⟩))
    have hb0 : (pathOp 10 o).getD 0 = 0 := by simp [hop]
    rw [hb0] at HBI
    obtain ⟨z0, z1, z2, z3, z4, z5, z6⟩ := H4.out
    clear hr hop hdo ho hb0
    go_wp2_with fail
    refine (HBI.out _).mono ?_
    rintro e w3 ⟨rfl, rfl⟩
    go_wp2_with fail
    obtain ⟨y0, y1, y2, y3, _⟩ := box3_set2 (box3_set1 (box3_set0 H4.out (.int .i64 0)) (.int .i64 0)) (.slice none 0 0); refine bodyPost_ret (v := .tuple #[.agg #[.int .i64 0, .int .i64 0, .slice none 0 0], .int .i64 (-1)]) (by simp [results, Try.results69, go_sem, y1, y2, y3]) rfl ?_
    exact ps_end (t := zeroT) (zero_new _ _) HB.out (.inl ⟨hfin.out, rfl⟩) _ _ _
  | some kop =>
    have hb0 : (pathOp 10 o).getD 0 = kop := by simp [hop]
    rw [hb0] at HBI
    have hkop : 10 ≤ kop ∧ kop ≤ 10 := by
      unfold pathOp at hop
      split at hop
      all_goals simp at hop
      all_goals omega
    have hk0 : (kop == 0) = false := by simp; omega
    have ek : (k1 : Int) + 1 = ((k1 + 1 : Nat) : Int) := by omega
    have HEK := hid ek
    obtain ⟨z0, z1, z2, z3, z4, z5, z6⟩ := H4.out
    have HR := hid hr
    have HDO := hid hdo
    have HOP := hid hop
    clear hr hdo hop ho hb0 ek
    go_wp2_with fail
    refine (HBI.out _).mono ?_
    rintro e w3 ⟨rfl, rfl⟩
    go_wp2_with fail
    rw [HEK.out]
    clear z0 z1 z2 z3 z4 z5 z6
    refine (HI.out _ (k1 + 1) (by omega)).mono ?_
    rintro e w4 ⟨v4, t2, nx2, rfl, hn4, hb4, hE4⟩
    obtain ⟨a4, n4, rfl⟩ := TrIn_shape hn4.any
    have hsz4 := hb4.size
    simp only [World.size_alloc] at hsz4
    have HTW := hid (Two.mk HN.out hn4 (Nat.le_refl _) hb4 (by simp; omega))
    have HB4 := hid (below_next HB.out hb4)
    have H44 := hid (box3_next hb4 H4.out)
    have H74 := hid (box3_next hb4 H7.out)
    clear hn4 hb4
    have H9 := hid (box3_new w4 (.int .i64 t2.kind) (.int .i64 t2.val) (.slice a4 t2.kids.length n4) 39)
    have H45 := hid (box3_next (below_alloc w4 (.cells #[.int .i64 t2.kind, .int .i64 t2.val, .slice a4 t2.kids.length n4] 39)) H44.out)
    have HB5 := hid (below_a HB4.out (.cells #[.int .i64 t2.kind, .int .i64 t2.val, .slice a4 t2.kids.length n4] 39))
    rcases hE4 with ⟨hr2, rfl⟩ | ⟨k2, hr2, rfl, hk2⟩
    · have hfin := hid (show rdB (n + 1) (S.drop i) = none by rw [E.out]; exact pair_none (t := t1) (.inr ⟨HR.out, .inr ⟨o, _, HDO.out, .inr ⟨kop, HOP.out, .inl hr2⟩⟩⟩))
      obtain ⟨z0, z1, z2, z3, z4, z5, z6⟩ := H45.out
      clear hr2
      go_wp2_with fail
      obtain ⟨y0, y1, y2, y3, _⟩ := box3_set2 (box3_set1 (box3_set0 H45.out (.int .i64 0)) (.int .i64 0)) (.slice none 0 0); refine bodyPost_ret (v := .tuple #[.agg #[.int .i64 0, .int .i64 0, .slice none 0 0], .int .i64 (-1)]) (by simp [results, Try.results69, go_sem, y1, y2, y3]) rfl ?_
      exact ps_end (t := zeroT) (zero_new _ _) HB5.out (.inl ⟨hfin.out, rfl⟩) _ _ _
    have hk2n : ¬ ((k2 : Int) < 0) := by omega
    by_cases hke4 : S.length ≤ k2
    · have hfin := hid (show rdB (n + 1) (S.drop i) = none by rw [E.out]; exact pair_none (t := t1) (.inr ⟨HR.out, .inr ⟨o, _, HDO.out, .inr ⟨kop, HOP.out, .inr ⟨t2, _, hr2, .inl (List.drop_of_length_le hke4)⟩⟩⟩⟩))
      have hke5 : (S.length : Int) ≤ (k2 : Int) := by omega
      obtain ⟨z0, z1, z2, z3, z4, z5, z6⟩ := H45.out
      clear hr2
      go_wp2_with fail
      obtain ⟨y0, y1, y2, y3, _⟩ := box3_set2 (box3_set1 (box3_set0 H45.out (.int .i64 0)) (.int .i64 0)) (.slice none 0 0); refine bodyPost_ret (v := .tuple #[.agg #[.int .i64 0, .int .i64 0, .slice none 0 0], .int .i64 (-1)]) (by simp [results, Try.results69, go_sem, y1, y2, y3]) rfl ?_
      exact ps_end (t := zeroT) (zero_new _ _) HB5.out (.inl ⟨hfin.out, rfl⟩) _ _ _
    have hke5 : ¬ ((S.length : Int) ≤ (k2 : Int)) := by omega
    have hke6 : (k2 : Int) < (S.length : Int) := by omega
    obtain ⟨q, hq⟩ : ∃ q, S[k2]? = some q := ⟨_, List.getElem?_eq_getElem (by omega)⟩
    have hg2 := bs_at hq
    have hdq := drop_at hq
    by_cases hq41 : q = 41
    · subst hq41
      have hfin := hid (show rdB (n + 1) (S.drop i) = some (.mk kop 0 [t1, t2], S.drop (k2 + 1)) by
        rw [E.out]
        rw [hdq] at hr2
        have h1 := HR.out
        rw [HDO.out] at h1
        exact pairWith_txt h1 HOP.out hr2)
      clear hr2 hq hdq
      go_wp2_with fail
      refine wp_gen (fun W => Below w.heap.size w W ∧ Box3 W w.heap.size (.int .i64 0) (.int .i64 0) (.slice none 0 0) ∧ Box3 W w2.heap.size (.int .i64 t1.kind) (.int .i64 t1.val) (.slice a2 t1.kids.length n2) ∧ Box3 W w4.heap.size (.int .i64 t2.kind) (.int .i64 t2.val) (.slice a4 t2.kids.length n4) ∧ Two (w.heap.size + 1) t1 t2 (.agg #[.int .i64 t1.kind, .int .i64 t1.val, .slice a2 t1.kids.length n2]) (.agg #[.int .i64 t2.kind, .int .i64 t2.val, .slice a4 t2.kids.length n4]) W)
        ⟨HB5.out, H45.out, box3_next (below_alloc _ _) H74.out, H9.out, two_below HTW.out (below_alloc _ _)⟩ ?_
      rintro W ⟨BW, hb4, hb7, hb9, hTW⟩
      have hl7 := hb7.1
      have hl9 := hb9.1
      have hl4 := hb4.1
      have h4 := hb4
      obtain ⟨x0, x1, x2, x3, _⟩ := hb7
      obtain ⟨y0, y1, y2, y3, _⟩ := hb9
      obtain ⟨z0, z1, z2, z3, z4, z5, z6⟩ := hb4
      have HF := hid (fun w' (M : But W w.heap.size w') => (⟨(M.cell hl7 (by omega)).trans x1, (M.cell hl7 (by omega)).trans x2, (M.cell hl7 (by omega)).trans x3, (M.cell hl9 (by omega)).trans y1, (M.cell hl9 (by omega)).trans y2, (M.cell hl9 (by omega)).trans y3⟩ :
        w'.cell? ⟨w2.heap.size, 0, none⟩ = some (.int .i64 t1.kind) ∧ w'.cell? ⟨w2.heap.size, 1, none⟩ = some (.int .i64 t1.val) ∧ w'.cell? ⟨w2.heap.size, 2, none⟩ = some (.slice a2 t1.kids.length n2) ∧ w'.cell? ⟨w4.heap.size, 0, none⟩ = some (.int .i64 t2.kind) ∧ w'.cell? ⟨w4.heap.size, 1, none⟩ = some (.int .i64 t2.val) ∧ w'.cell? ⟨w4.heap.size, 2, none⟩ = some (.slice a4 t2.kids.length n4)))
      have hkk : i64 kop := by unfold i64; omega
      have hwr : IntKind.i64.wrap ((k2 : Int) + 1) = (k2 : Int) + 1 := IntWalk.i64_in _ (by omega)
      go_region_held3 (fun w' => w'.cell? ⟨w2.heap.size, 0, none⟩ = some (.int .i64 t1.kind) ∧ w'.cell? ⟨w2.heap.size, 1, none⟩ = some (.int .i64 t1.val) ∧ w'.cell? ⟨w2.heap.size, 2, none⟩ = some (.slice a2 t1.kids.length n2) ∧ w'.cell? ⟨w4.heap.size, 0, none⟩ = some (.int .i64 t2.kind) ∧ w'.cell? ⟨w4.heap.size, 1, none⟩ = some (.int .i64 t2.val) ∧ w'.cell? ⟨w4.heap.size, 2, none⟩ = some (.slice a4 t2.kids.length n4))
        (first | (refine HF.out _ ?_; (repeat (first | exact But.refl _ _ | (refine But.of ?_; assumption) | refine but_a ?_ _ | refine but_d ?_ | refine but_s ?_ _)); done) | go_keep)
        ((go_at_call 98; refine (HBI.out _).mono ?_; rintro e w6 ⟨rfl, rfl⟩))
      all_goals
        have hz := hid (box3_next (below_d (below_a (Below.refl _ _) (.cells #[.int .i64 t1.kind, .int .i64 t1.val, .slice a2 t1.kids.length n2, .int .i64 t2.kind, .int .i64 t2.val, .slice a4 t2.kids.length n4] 39))) (box3_set2 (box3_set1 (box3_set0 h4 (.int .i64 kop)) (.int .i64 0)) (.slice (some ⟨W.heap.size, 0, none⟩) 2 2)))
        have hnew := hid ((Two.node (b' := W.heap.size) (ty := 39) hkk (Two.set3 (P := w.heap.size) hTW (by omega) (.int .i64 kop) (.int .i64 0) (.slice (some ⟨W.heap.size, 0, none⟩) 2 2)) (by simp; omega) (by simp)).below (below_d (Below.refl _ _)))
        have hbel := hid (below_d (below_a (below_set3 BW (Nat.le_refl _) (.int .i64 kop) (.int .i64 0) (.slice (some ⟨W.heap.size, 0, none⟩) 2 2)) (.cells #[.int .i64 t1.kind, .int .i64 t1.val, .slice a2 t1.kids.length n2, .int .i64 t2.kind, .int .i64 t2.val, .slice a4 t2.kids.length n4] 39)))
        clear h4 hTW BW
        go_wp2_with fail
        obtain ⟨y0, y1, y2, y3, _⟩ := hz.out
        refine bodyPost_ret (v := .tuple #[.agg #[.int .i64 kop, .int .i64 0, (.slice (some ⟨W.heap.size, 0, none⟩) 2 2)], .int .i64 ((k2 : Int) + 1)]) (by simp [results, Try.results69, go_sem, y1, y2, y3]) rfl ?_
        exact ⟨_, _, _, rfl, hnew.out.mono (by omega), hbel.out, .inr ⟨k2 + 1, hfin.out, by omega, by omega⟩⟩
    · have hfin := hid (show rdB (n + 1) (S.drop i) = none by rw [E.out]; exact pair_none (t := t1) (.inr ⟨HR.out, .inr ⟨o, _, HDO.out, .inr ⟨kop, HOP.out, .inr ⟨t2, _, hr2, .inr ⟨q, _, hdq, hq41⟩⟩⟩⟩⟩))
      have hq2 : ((q.toNat : Int) == 41) = false := u8_ne hq41
      have hq3 : ((q.toNat : Int) != 41) = true := by simp only [bne, hq2]; rfl
      obtain ⟨z0, z1, z2, z3, z4, z5, z6⟩ := H45.out
      clear hr2 hq hdq hq41
      go_wp2_with fail
      obtain ⟨y0, y1, y2, y3, _⟩ := box3_set2 (box3_set1 (box3_set0 H45.out (.int .i64 0)) (.int .i64 0)) (.slice none 0 0); refine bodyPost_ret (v := .tuple #[.agg #[.int .i64 0, .int .i64 0, .slice none 0 0], .int .i64 (-1)]) (by simp [results, Try.results69, go_sem, y1, y2, y3]) rfl ?_
      exact ps_end (t := zeroT) (zero_new _ _) HB5.out (.inl ⟨hfin.out, rfl⟩) _ _ _


end Branching
end Go.Proofs.Ythjhokifonjeaaa
namespace Go.Proofs.Ythjhokifonjeaaa
open Go.RowKit
namespace Branching


theorem ps_all : ∀ n, n ≤ 1000 → PsT n := by
  intro n
  induction n with
  | zero => intro _ w S i d hi hl hd; exact ps_none 0 S i d w (.inl (by omega)) (by omega) hl rfl
  | succ n ih =>
    intro hn w S i d hi hl hd
    have ih := ih (by omega)
    rcases Nat.lt_or_ge i S.length with hlt | hge
    · obtain ⟨c, hc⟩ : ∃ c, S[i]? = some c := ⟨_, List.getElem?_eq_getElem hlt⟩
      have hd1 : 1 ≤ d := by omega
      by_cases n1 : c = 84
      · subst n1; exact ps_true n S i d w hd1 hl hc
      by_cases n2 : 112 ≤ c ∧ c ≤ 114
      · rcases u8_pqr n2 with rfl | rfl | rfl
        · exact ps_atom n 112 0 (.inl ⟨rfl, rfl⟩) S i d w hd1 hl hc
        · exact ps_atom n 113 1 (.inr (.inl ⟨rfl, rfl⟩)) S i d w hd1 hl hc
        · exact ps_atom n 114 2 (.inr (.inr ⟨rfl, rfl⟩)) S i d w hd1 hl hc
      by_cases n3 : c = 33
      · subst n3
        exact ps_un n ih 33 3 1 (.inl rfl) (by omega) (by omega) S i d w hd1 hd hl hc (by omega) (un_not S i hc) (by rw [drop_at hc]; simp [rdB]) (by omega)
      have nope : ¬ (c = 69 ∨ c = 65) → Un S i 0 0 := fun h => by
        rcases Nat.lt_or_ge (i + 1) S.length with h1 | h1
        · obtain ⟨x, hx⟩ : ∃ x, S[i + 1]? = some x := ⟨_, List.getElem?_eq_getElem h1⟩
          exact un_none S i c x hl hc hx n3 (fun q => h q.1)
        · exact un_end S i c hl hc n3 h1
      by_cases n4 : c = 40
      · have hU := nope (by rw [n4]; decide)
        subst n4
        exact ps_and n ih S i d w hd1 hd hl hc hU (by omega)
      by_cases n5 : c = 69 ∨ c = 65
      · rcases Nat.lt_or_ge (i + 1) S.length with h1 | h1
        · obtain ⟨x, hx⟩ : ∃ x, S[i + 1]? = some x := ⟨_, List.getElem?_eq_getElem h1⟩
          by_cases x1 : x = 88
          · subst x1
            rcases n5 with rfl | rfl
            · exact ps_un n ih 69 6 2 (.inr (.inl rfl)) (by omega) (by omega) S i d w hd1 hd hl hc (by omega) (un_op S i 69 88 6 (.inl ⟨rfl, rfl, rfl⟩) hl hc hx) (by rw [drop_at hc, drop_at hx]; simp [rdB, rdB2]) (by omega)
            · exact ps_un n ih 65 9 2 (.inr (.inr rfl)) (by omega) (by omega) S i d w hd1 hd hl hc (by omega) (un_op S i 65 88 9 (.inr (.inr (.inl ⟨rfl, rfl, rfl⟩))) hl hc hx) (by rw [drop_at hc, drop_at hx]; simp [rdB, rdB2]) (by omega)
          by_cases x2 : x = 71
          · subst x2
            rcases n5 with rfl | rfl
            · exact ps_un n ih 69 8 2 (.inr (.inl rfl)) (by omega) (by omega) S i d w hd1 hd hl hc (by omega) (un_op S i 69 71 8 (.inr (.inl ⟨rfl, rfl, rfl⟩)) hl hc hx) (by rw [drop_at hc, drop_at hx]; simp [rdB, rdB2]) (by omega)
            · exact ps_un n ih 65 11 2 (.inr (.inr rfl)) (by omega) (by omega) S i d w hd1 hd hl hc (by omega) (un_op S i 65 71 11 (.inr (.inr (.inr ⟨rfl, rfl, rfl⟩))) hl hc hx) (by rw [drop_at hc, drop_at hx]; simp [rdB, rdB2]) (by omega)
          have hU := un_none S i c x hl hc hx n3 (fun q => by rcases q.2 with h | h; exact x1 h; exact x2 h)
          by_cases x3 : x = 40
          · subst x3
            rcases n5 with rfl | rfl
            · exact ps_some n ih S i d w hd1 hd hl hc hx hU (by omega)
            · exact ps_every n ih S i d w hd1 hd hl hc hx hU (by omega)
          · exact ps_hno n c x n5 S i d w hd1 hl hc hx x1 x2 x3 hU
        · exact ps_hend n c n5 S i d w hd1 hl hc h1 (un_end S i c hl hc n3 h1)
      · exact ps_else n c S i d w hd1 hl hc n1 n2 n3 n4 (fun e => n5 (.inl e)) (fun e => n5 (.inr e)) (nope n5)
    · exact ps_none (n + 1) S i d w (.inr hge) (by omega) hl (by rw [List.drop_of_length_le hge]; rfl)
end Branching
end Go.Proofs.Ythjhokifonjeaaa
namespace Go.Proofs.Ythjhokifonjeaaa
open Go.RowKit
namespace Branching

def RetT (B : Nat) (t : Tr) (b : Bool) (w : World) (e : Ending) (w' : World) : Prop := ∃ v, e = .returned (.tuple #[v, .bool b]) ∧ NewTr B t v w' ∧ Below w.heap.size w w'
theorem RetT.mk {B : Nat} {t t' : Tr} {b b' : Bool} {v : Value} {w w' : World} (h : NewTr B t' v w') (ht : t = t') (hb : b = b') (hw : Below w.heap.size w w') : RetT B t b w (.returned (.tuple #[v, .bool b'])) w' := ⟨v, by rw [hb], ht ▸ h, hw⟩

theorem box2_at {w : World} {B : Nat} {a b : Value} {t : TypeId} (h : B = w.heap.size) : Box2 (w.alloc (.cells #[a, b] t)) B a b := by subst h; exact ⟨by simp, by simp, by simp, by simp, by simp⟩
theorem takeB3_bad {s : List UInt8} (h : s = [] ∨ ∃ x s1, s = x :: s1 ∧ x ≠ 88 ∧ x ≠ 40 ∧ x ≠ 71) : takeB set3 s false = (-1, s, true) := by
  rcases h with rfl | ⟨x, s1, rfl, h1, h2, h3⟩
  · rfl
  · have e1 : ¬ (88 : UInt8) = x := fun e => h1 e.symm
    have e2 : ¬ (40 : UInt8) = x := fun e => h2 e.symm
    have e3 : ¬ (71 : UInt8) = x := fun e => h3 e.symm
    simp [takeB, set3, idxI, e1, e2, e3]
theorem rd_path (n : Nat) (ih : RdT n) (c : UInt8) (f at1 : Int) (hc : (c = 69 ∧ at1 = 6 ∧ f = 6) ∨ (c = 65 ∧ at1 = 7 ∧ f = 9)) (w : World) (s : List UInt8) (R : Nat) (d : Int) (hR : Box2 w R (.string (bs (c :: s))) (.bool false)) (hl : (c :: s : List UInt8).length ≤ 1048576) (hd : d ≤ 6) (hdn : d = 7 - (n + 1 : Nat)) (hd3 : -1000 ≤ d) :
    Calls Try.prog 63 #[.pointer (some ⟨R, 0, none⟩), .int .i64 d] w (RdPost (rdB (n + 1)) (c :: s) false R w) := by
  cases s with
  | nil => exact rd_pbad n ih c f at1 hc w [] R d hR hl hd hdn hd3 (takeB3_bad (.inl rfl)) (fun rd k => rdB2_none (.inl rfl))
  | cons x s =>
    by_cases h1 : x = 88
    · subst h1; exact rd_pone n ih c f at1 hc 88 0 (.inl ⟨rfl, rfl⟩) w s R d hR hl hd hdn hd3
    by_cases h2 : x = 71
    · subst h2; exact rd_pone n ih c f at1 hc 71 2 (.inr ⟨rfl, rfl⟩) w s R d hR hl hd hdn hd3
    by_cases h3 : x = 40
    · subst h3; exact rd_ptwo n ih c f at1 hc w s R d hR hl hd hdn hd3
    · exact rd_pbad n ih c f at1 hc w (x :: s) R d hR hl hd hdn hd3 (takeB3_bad (.inr ⟨x, s, rfl, h1, h3, h2⟩)) (fun rd k => rdB2_none (.inr ⟨x, s, rfl, h1, h3, h2⟩))

theorem rd_all : ∀ n, n ≤ 6 → RdT n := by
  intro n
  induction n with
  | zero => intro _; exact rd_zero
  | succ n ih =>
    intro hn w s b R d hR hl hd
    have ih := ih (by omega)
    have hd1 : d ≤ 6 := by omega
    rcases take1_bad s b with ⟨⟨s', h1, h2⟩, h3⟩ | ⟨rfl, c, s1, rfl, h⟩
    · exact rd_bad (n + 1) w s s' b R d hR hl hd1 h1 h2 (h3 _)
    · rcases h with rfl | h | rfl | rfl | rfl | rfl
      · exact rd_true n w s1 R d hR hl hd1
      · rcases h with rfl | rfl | rfl
        · exact rd_atom n 112 1 (.inl ⟨rfl, rfl⟩) w s1 R d hR hl hd1
        · exact rd_atom n 113 2 (.inr (.inl ⟨rfl, rfl⟩)) w s1 R d hR hl hd1
        · exact rd_atom n 114 3 (.inr (.inr ⟨rfl, rfl⟩)) w s1 R d hR hl hd1
      · exact rd_not n ih w s1 R d hR hl hd1 hd (by omega)
      · exact rd_and n ih w s1 R d hR hl hd1 hd (by omega)
      · exact rd_path n ih 69 6 6 (.inl ⟨rfl, rfl, rfl⟩) w s1 R d hR hl hd1 hd (by omega)
      · exact rd_path n ih 65 9 7 (.inr ⟨rfl, rfl, rfl⟩) w s1 R d hR hl hd1 hd (by omega)

/-- the tree that a text is read to -/
def parP (s : List UInt8) : Option Tr :=
  match rdB 6 s with
  | some (t, []) => if branL.valid t = true then some t else none
  | _ => none
def parV (s : List UInt8) : Tr := (parP s).getD zeroT
def parOk (s : List UInt8) : Bool := (parP s).isSome

theorem parV_nodes (s : List UInt8) : nodes (parV s) ≤ 1000 := by
  unfold parV parP
  split
  · rename_i t h
    split
    · rename_i hv
      rw [Lang.valid, Bool.and_eq_true, decide_eq_true_eq, branL_N] at hv
      simp; omega
    · simp [zeroT, nodes, nodesL]
  · simp [zeroT, nodes, nodesL]

theorem par_none {s : List UInt8} (h : rdB 6 s = none) : parV s = zeroT ∧ parOk s = false := by simp [parV, parOk, parP, h]
theorem par_rest {s r : List UInt8} {t : Tr} (h : rdB 6 s = some (t, r)) (hr : r ≠ []) : parV s = zeroT ∧ parOk s = false := by
  cases r with
  | nil => exact absurd rfl hr
  | cons c r => simp [parV, parOk, parP, h]
theorem par_bad {s : List UInt8} {t : Tr} (h : rdB 6 s = some (t, [])) (hv : branL.valid t = false) : parV s = zeroT ∧ parOk s = false := by simp [parV, parOk, parP, h, hv]
theorem par_ok {s : List UInt8} {t : Tr} (h : rdB 6 s = some (t, [])) (hv : branL.valid t = true) : parV s = t ∧ parOk s = true := by simp [parV, parOk, parP, h, hv]

set_option maxRecDepth 100000 in
set_option maxHeartbeats 2000000 in
theorem parse_any (s : List UInt8) (w : World) (hl : s.length ≤ 1048576) : Calls Try.prog 35 #[.string (bs s)] w (RetT w.heap.size (parV s) (parOk s) w) := by
  have HR := hid (fun (w : World) (R : Nat) (hR : Box2 w R (.string (bs s)) (.bool false)) => rd_all 6 (Nat.le_refl _) w s false R 1 hR hl rfl)
  go_enter Try.func35, Try.ntmps35
  go_wp2_with fail
  refine (HR.out _ (w.heap.size + 1) (box2_at (by simp))).mono ?_
  rintro e w1 ⟨v, t, r, b', rfl, hn, hB, hbut, hr, hE⟩
  obtain ⟨a1, n1, rfl⟩ := TrIn_shape hn.any
  simp only [Bool.false_eq_true, if_false] at hE
  have hsz := hbut.size
  simp only [World.size_alloc] at hsz
  have HB := hid (box2_next (below_alloc w1 (.cells #[.int .i64 t.kind, .int .i64 t.val, .slice a1 t.kids.length n1] 39)) hB)
  have hb0 := box3_but hbut (by omega) (box3_next (below_alloc _ (.cells #[.string (bs s), .bool false] 70)) (box3_new w (.int .i64 0) (.int .i64 0) (.slice none 0 0) 39))
  have H0 := hid (box3_next (below_alloc w1 (.cells #[.int .i64 t.kind, .int .i64 t.val, .slice a1 t.kids.length n1] 39)) hb0)
  have HBel := hid (below_a (hbut.new (below_a (below_alloc w _) (.cells #[.string (bs s), .bool false] 70)) (by omega)) (.cells #[.int .i64 t.kind, .int .i64 t.val, .slice a1 t.kids.length n1] 39))
  have HN := hid ((hn.mono (B' := w.heap.size + 1) (by simp)).below (below_alloc w1 (.cells #[.int .i64 t.kind, .int .i64 t.val, .slice a1 t.kids.length n1] 39)))
  have H5 := hid (box3_new w1 (.int .i64 t.kind) (.int .i64 t.val) (.slice a1 t.kids.length n1) 39)
  clear hn hB hbut hb0
  cases b' with
  | true =>
    have hP := hid (par_none hE)
    obtain ⟨q0, q1, q2, q3, q4⟩ := HB.out
    obtain ⟨z0, z1, z2, z3, z4, z5, z6⟩ := H0.out
    clear hE
    go_wp2_with fail
    obtain ⟨y0, y1, y2, y3, _⟩ := box3_set2 (box3_set1 (box3_set0 H0.out (.int .i64 0)) (.int .i64 0)) (.slice none 0 0); refine bodyPost_ret (v := .tuple #[.agg #[.int .i64 0, .int .i64 0, .slice none 0 0], .bool false]) (by simp [results, Try.results35, go_sem, y1, y2, y3]) rfl ?_
    exact RetT.mk (zero_new _ _) hP.out.1 hP.out.2 (below_set3 HBel.out (by omega) _ _ _)
  | false =>
    simp only [Bool.false_eq_true, if_false] at hE
    cases r with
    | cons c r =>
      have hP := hid (par_rest hE (by simp))
      have hne : (bs (c :: r)).toList.isEmpty = false := by rw [Go.ByteArray.toList_eq]; rfl
      obtain ⟨q0, q1, q2, q3, q4⟩ := HB.out
      obtain ⟨z0, z1, z2, z3, z4, z5, z6⟩ := H0.out
      clear hE
      go_wp2_with fail
      obtain ⟨y0, y1, y2, y3, _⟩ := box3_set2 (box3_set1 (box3_set0 H0.out (.int .i64 0)) (.int .i64 0)) (.slice none 0 0); refine bodyPost_ret (v := .tuple #[.agg #[.int .i64 0, .int .i64 0, .slice none 0 0], .bool false]) (by simp [results, Try.results35, go_sem, y1, y2, y3]) rfl ?_
      exact RetT.mk (zero_new _ _) hP.out.1 hP.out.2 (below_set3 HBel.out (by omega) _ _ _)
    | nil =>
      have e0 : bs [] = (⟨#[]⟩ : ByteArray) := rfl
      have HV := hid (fun w x (hx : TrIn Any w t x) => valid_any t w x hx)
      have hbx := HB.out
      rw [e0] at hbx
      obtain ⟨q0, q1, q2, q3, q4⟩ := hbx
      obtain ⟨x0, x1, x2, x3, _⟩ := H5.out
      have HE := hid hE
      clear hE
      go_wp2_with fail
      refine (HV.out _ _ HN.out.any).mono ?_
      rintro e w2 ⟨rfl, hb2⟩
      have h0 := box3_next hb2 H0.out
      have HBel2 := hid (below_next HBel.out hb2)
      have HN2 := hid (HN.out.below hb2)
      have h5 := box3_next hb2 H5.out
      clear hb2 q0 q1 q2 q3 q4 x0 x1 x2 x3
      obtain ⟨x0, x1, x2, x3, _⟩ := h5
      have H02 := hid h0
      obtain ⟨z0, z1, z2, z3, z4, z5, z6⟩ := h0
      cases hv : branL.valid t with
      | false =>
        have hP := hid (par_bad HE.out hv)
        clear hv
        go_wp2_with fail
        obtain ⟨y0, y1, y2, y3, _⟩ := box3_set2 (box3_set1 (box3_set0 H02.out (.int .i64 0)) (.int .i64 0)) (.slice none 0 0); refine bodyPost_ret (v := .tuple #[.agg #[.int .i64 0, .int .i64 0, .slice none 0 0], .bool false]) (by simp [results, Try.results35, go_sem, y1, y2, y3]) rfl ?_
        exact RetT.mk (zero_new _ _) hP.out.1 hP.out.2 (below_set3 HBel2.out (by omega) _ _ _)
      | true =>
        have hP := hid (par_ok HE.out hv)
        clear hv
        go_wp2_with fail
        obtain ⟨y0, y1, y2, y3, _⟩ := box3_set2 (box3_set1 (box3_set0 H02.out (.int .i64 t.kind)) (.int .i64 t.val)) (.slice a1 t.kids.length n1); refine bodyPost_ret (v := .tuple #[.agg #[.int .i64 t.kind, .int .i64 t.val, .slice a1 t.kids.length n1], .bool true]) (by simp [results, Try.results35, go_sem, y1, y2, y3]) rfl ?_
        exact RetT.mk ((newTr_set3 HN2.out (by omega) _ _ _).mono (by omega)) hP.out.1 hP.out.2 (below_set3 HBel2.out (by omega) _ _ _)

theorem bs_len_inj {a b : List UInt8} (h : bs a = bs b) : a = b := bs_inj h

set_option maxRecDepth 100000 in
set_option maxHeartbeats 2000000 in
theorem specParse_any (s : List UInt8) (w : World) (hl : s.length ≤ 1048576) : Calls Try.prog 40 #[.string (bs s)] w (RetT w.heap.size (parV s) (parOk s) w) := by
  have HR := hid (fun (w : World) => ps_all 6 (by omega) w s 0 6 (by omega) hl rfl)
  have hsz : (bs s).size = s.length := bs_size s
  go_enter Try.func40, Try.ntmps40
  go_wp2_with fail
  refine (HR.out _).mono ?_
  rintro e w1 ⟨v, t, nx, rfl, hn, hb, hE⟩
  obtain ⟨a1, n1, rfl⟩ := TrIn_shape hn.any
  rw [List.drop_zero] at hE
  have hszw := hb.size
  simp only [World.size_alloc] at hszw
  have H0 := hid (box3_next (below_alloc w1 (.cells #[.int .i64 t.kind, .int .i64 t.val, .slice a1 t.kids.length n1] 39)) (box3_next hb (box3_new w (.int .i64 0) (.int .i64 0) (.slice none 0 0) 39)))
  have HBel := hid (below_a (below_next (below_alloc _ _) hb) (.cells #[.int .i64 t.kind, .int .i64 t.val, .slice a1 t.kids.length n1] 39))
  have HN := hid ((hn.mono (B' := w.heap.size + 1) (by simp)).below (below_alloc w1 (.cells #[.int .i64 t.kind, .int .i64 t.val, .slice a1 t.kids.length n1] 39)))
  have H5 := hid (box3_new w1 (.int .i64 t.kind) (.int .i64 t.val) (.slice a1 t.kids.length n1) 39)
  clear hn hb
  have E00 : bs [] = (⟨#[]⟩ : ByteArray) := rfl
  cases s with
  | nil =>
    have hP := hid (par_none (s := []) rfl)
    rw [E00] at *
    obtain ⟨z0, z1, z2, z3, z4, z5, z6⟩ := H0.out
    clear hE
    go_wp2_with fail
    obtain ⟨y0, y1, y2, y3, _⟩ := box3_set2 (box3_set1 (box3_set0 H0.out (.int .i64 0)) (.int .i64 0)) (.slice none 0 0); refine bodyPost_ret (v := .tuple #[.agg #[.int .i64 0, .int .i64 0, .slice none 0 0], .bool false]) (by simp [results, Try.results40, go_sem, y1, y2, y3]) rfl ?_
    exact RetT.mk (zero_new _ _) hP.out.1 hP.out.2 (below_set3 HBel.out (by omega) _ _ _)
  | cons c s =>
    have hne : (bs (c :: s)).toList.isEmpty = false := by rw [Go.ByteArray.toList_eq]; rfl
    rcases hE with ⟨hr, rfl⟩ | ⟨k, hr, rfl, hk⟩
    · have hP := hid (par_none hr)
      have hnl : ((-1 : Int) != ((c :: s).length : Int)) = true := by simp; omega
      have hnl2 : ¬ ((-1 : Int) = ((c :: s).length : Int)) := by simp; omega
      obtain ⟨z0, z1, z2, z3, z4, z5, z6⟩ := H0.out
      clear hr
      generalize (c :: s) = S at *
      go_wp2_with fail
      obtain ⟨y0, y1, y2, y3, _⟩ := box3_set2 (box3_set1 (box3_set0 H0.out (.int .i64 0)) (.int .i64 0)) (.slice none 0 0); refine bodyPost_ret (v := .tuple #[.agg #[.int .i64 0, .int .i64 0, .slice none 0 0], .bool false]) (by simp [results, Try.results40, go_sem, y1, y2, y3]) rfl ?_
      exact RetT.mk (zero_new _ _) hP.out.1 hP.out.2 (below_set3 HBel.out (by omega) _ _ _)
    · by_cases hkl : k = (c :: s).length
      · subst hkl
        rw [List.drop_length] at hr
        have hback := rdB_back 6 _ _ _ hr
        rw [List.append_nil] at hback
        have HX := hid (fun (w : World) x (hx : TrIn Any w t x) => specFmt_any t w x hx)
        obtain ⟨x0, x1, x2, x3, _⟩ := H5.out
        cases hv : branL.valid t with
        | false =>
          have hP := hid (par_bad hr hv)
          have hf : bs (fmt t) = (⟨#[]⟩ : ByteArray) := by simp [fmt, hv, bs]
          rw [hf] at HX
          clear hr hback hv hf
          generalize (c :: s) = S at *
          go_wp2_with fail
          refine (HX.out _ _ HN.out.any).mono ?_
          rintro e w2 ⟨rfl, hb2⟩
          have H02 := hid (box3_next hb2 H0.out)
          have HBel2 := hid (below_next HBel.out hb2)
          obtain ⟨z0, z1, z2, z3, z4, z5, z6⟩ := H02.out
          have hq : (([] : List UInt8) == (bs S).toList) = false := by
            cases hh : (bs S).toList with
            | nil => rw [hh] at hne; simp at hne
            | cons a b => rfl
          clear hb2 x0 x1 x2 x3
          go_wp2_with fail
          obtain ⟨y0, y1, y2, y3, _⟩ := box3_set2 (box3_set1 (box3_set0 H02.out (.int .i64 0)) (.int .i64 0)) (.slice none 0 0); refine bodyPost_ret (v := .tuple #[.agg #[.int .i64 0, .int .i64 0, .slice none 0 0], .bool false]) (by simp [results, Try.results40, go_sem, y1, y2, y3]) rfl ?_
          exact RetT.mk (zero_new _ _) hP.out.1 hP.out.2 (below_set3 HBel2.out (by omega) _ _ _)
        | true =>
          have hP := hid (par_ok hr hv)
          have hf : fmt t = c :: s := by simp [fmt, hv, hback]
          rw [hf] at HX
          clear hr hback hv hf
          generalize (c :: s) = S at *
          go_wp2_with fail
          refine (HX.out _ _ HN.out.any).mono ?_
          rintro e w2 ⟨rfl, hb2⟩
          have H02 := hid (box3_next hb2 H0.out)
          have HBel2 := hid (below_next HBel.out hb2)
          have HN2 := hid (HN.out.below hb2)
          have h5 := box3_next hb2 H5.out
          obtain ⟨z0, z1, z2, z3, z4, z5, z6⟩ := H02.out
          clear hb2 x0 x1 x2 x3
          obtain ⟨x0, x1, x2, x3, _⟩ := h5
          go_wp2_with fail
          obtain ⟨y0, y1, y2, y3, _⟩ := box3_set2 (box3_set1 (box3_set0 H02.out (.int .i64 t.kind)) (.int .i64 t.val)) (.slice a1 t.kids.length n1); refine bodyPost_ret (v := .tuple #[.agg #[.int .i64 t.kind, .int .i64 t.val, .slice a1 t.kids.length n1], .bool true]) (by simp [results, Try.results40, go_sem, y1, y2, y3]) rfl ?_
          exact RetT.mk ((newTr_set3 HN2.out (by omega) _ _ _).mono (by omega)) hP.out.1 hP.out.2 (below_set3 HBel2.out (by omega) _ _ _)
      · have hP := hid (par_rest hr (by
          intro e
          have := congrArg List.length e
          rw [List.length_drop] at this
          simp only [List.length_nil] at this
          omega))
        have hnl2 : ¬ ((k : Int) = ((c :: s).length : Int)) := by omega
        have hnl : ((k : Int) != ((c :: s).length : Int)) = true := by simpa using hnl2
        obtain ⟨z0, z1, z2, z3, z4, z5, z6⟩ := H0.out
        clear hr hkl
        generalize (c :: s) = S at *
        go_wp2_with fail
        obtain ⟨y0, y1, y2, y3, _⟩ := box3_set2 (box3_set1 (box3_set0 H0.out (.int .i64 0)) (.int .i64 0)) (.slice none 0 0); refine bodyPost_ret (v := .tuple #[.agg #[.int .i64 0, .int .i64 0, .slice none 0 0], .bool false]) (by simp [results, Try.results40, go_sem, y1, y2, y3]) rfl ?_
        exact RetT.mk (zero_new _ _) hP.out.1 hP.out.2 (below_set3 HBel.out (by omega) _ _ _)
end Branching
end Go.Proofs.Ythjhokifonjeaaa
namespace Go.Proofs.Ythjhokifonjeaaa
open Go.RowKit
namespace Branching

def SaT (t : Tr) : Prop := ∀ (w : World) (u : Tr) (x y : Value), TrIn Any w t x → TrIn Any w u y → Calls Try.prog 31 #[x, y] w (Ret (.bool (eqT t u)) w)

set_option maxHeartbeats 400000 in
theorem ef_of (l : List Tr) (h : ∀ t, t ∈ l → SaT t) (w : World) (m : List Tr) (a a' : Option Addr) (c c' : Nat) (hl : TrsIn Any w l a) (hm : TrsIn Any w m a') (hc : l.length ≤ c) (hc2 : c ≤ maxLen) (_ : m.length ≤ c') (_ : c' ≤ maxLen) :
    Calls Try.prog 60 #[.slice a l.length c, .slice a' m.length c', .func (.func 31) #[] #[]] w (Ret (.bool (eqL l m)) w) := by
  unfold maxLen at hc2
  by_cases hn : l.length = m.length
  · have hn1 : l.length ≤ m.length := by omega
    have hn2 : m.length ≤ l.length := by omega
    have h3 : ((l.length : Int) != (m.length : Int)) = false := by rw [bne_eq_false_iff_eq]; omega
    clear hn
    go_enter Try.func60, Try.ntmps60
    go_wp2_with fail
    go_loopw [17] (fun i wr => ∃ k : Nat, k ≤ l.length ∧ i = .int .i64 k ∧ Below w.heap.size w wr ∧ Hid (eqL (l.drop k) (m.drop k) = eqL l m)) (fun i _ => l.length - (intOf i).toNat)
    case atStart => exact ⟨0, Nat.zero_le _, rfl, Below.refl _ _, hid rfl⟩
    case round =>
      obtain ⟨k, hk, rfl, hb, hr⟩ := hrel
      by_cases hlt : k < l.length
      · obtain ⟨b, o, c0, c1, c2, t, rfl, gb, g0, g1, g2, hT⟩ := TrsIn_round hl hb hlt
        obtain ⟨b', o', d0, d1, d2, u, rfl, fb, f0, f1, f2, hU⟩ := TrsIn_round hm hb (show k < m.length by omega)
        have hr2 := eqL_drop hT.out.2.2.1 hU.out.2.2.1 hr.out
        have HR2 := hid hr2; clear hr2
        obtain ⟨a4, n4, hsh⟩ := TrIn_shape hT.out.1
        simp only [Value.agg.injEq, Array.mk.injEq, List.cons.injEq, and_true] at hsh
        obtain ⟨rfl, rfl, rfl⟩ := hsh
        obtain ⟨a5, n5, hsh⟩ := TrIn_shape hU.out.1
        simp only [Value.agg.injEq, Array.mk.injEq, List.cons.injEq, and_true] at hsh
        obtain ⟨rfl, rfl, rfl⟩ := hsh
        have hlt2 : (k : Int) < (l.length : Int) := by omega
        have hlt3 : (k : Int) < (m.length : Int) := by omega
        have HB := hid hb
        go_wp2_with fail
        refine (h t hT.out.2.1 _ u _ _ (TrIn_alloc (TrIn_alloc hT.out.1 _) _) (TrIn_alloc (TrIn_alloc hU.out.1 _) _)).mono ?_
        rintro e w2 ⟨rfl, hb2⟩
        have hbd := below_next HB.out (below_next (below_next (below_alloc _ _) (below_alloc _ _)) hb2)
        clear hb2
        cases hq : eqT t u with
        | true =>
          have HR3 := HR2.out
          rw [hq, Bool.true_and] at HR3
          have HR4 := hid HR3; clear HR3 hq
          go_wp2_with fail
          go_roundw
          case rel => exact ⟨k + 1, by omega, by go_num, hbd, hid HR4.out.symm⟩
          case measure => simp [intOf]; omega
        | false =>
          have HR3 := HR2.out
          rw [hq, Bool.false_and] at HR3
          have HR4 := hid HR3; clear HR3 hq
          go_wp2_with fail
          go_ret
          exact Ret.mk (bool_val HR4.out.symm) hbd
      · have hr2 := hr.out
        rw [List.drop_of_length_le (by omega), List.drop_of_length_le (by omega)] at hr2
        have HR2 := hid hr2; clear hr2
        go_wp2_with fail
        go_ret
        exact Ret.mk (bool_val HR2.out) hb
  · have e1 := eqL_len l m hn
    have E1 := hid e1; clear e1
    have h3 : ((l.length : Int) != (m.length : Int)) = true := by rw [bne_iff_ne]; omega
    go_enter Try.func60, Try.ntmps60
    go_wp2_with fail
    go_ret
    exact Ret.mk (bool_val E1.out.symm) (Below.refl _ _)

set_option maxHeartbeats 400000 in
theorem sa_of (k v : Int) (kids : List Tr) (h : ∀ t, t ∈ kids → SaT t) : SaT (.mk k v kids) := by
  intro w u x y hx hy
  cases u with
  | mk k' v' kids' =>
  rw [TrIn_mk] at hx hy
  obtain ⟨a, n, c, rfl, hk, hv, rfl, hc, hc2, hks⟩ := hx
  obtain ⟨a', n', c', rfl, hk', hv', rfl, hc', hc2', hks'⟩ := hy
  by_cases h1 : k = k'
  · by_cases h2 : v = v'
    · subst h1 h2
      have e1 : eqT (.mk k v kids) (.mk k v kids') = eqL kids kids' := by simp [eqT]
      have E1 := hid e1; clear e1
      have hkk : (k == k) = true := by simp
      have hvv : (v == v) = true := by simp
      go_enter Try.func31, Try.ntmps31
      go_wp2_with fail
      refine (ef_of kids h _ kids' a a' c c' (TrsIn_alloc (TrsIn_alloc hks _) _) (TrsIn_alloc (TrsIn_alloc hks' _) _) hc hc2 hc' hc2').mono ?_
      rintro e w' ⟨rfl, hby⟩
      have B := below_next (show Below w.heap.size w _ from (by repeat (first | exact Below.refl _ _ | assumption | refine below_a ?_ _ | refine below_o ?_ _ | refine below_d ?_ | refine below_n ?_ _ | refine below_s ?_ (by first | (simp; done) | (simp; omega) | omega) _))) hby
      clear hby
      generalize eqL kids kids' = qq at *
      go_wp2_with fail
      go_ret
      exact Ret.mk (bool_val E1.out.symm) B
    · have e1 : eqT (.mk k v kids) (.mk k' v' kids') = false := by simp [eqT, h2]
      have E1 := hid e1; clear e1
      have h3 : (v == v') = false := by simpa using h2
      subst h1
      have hkk : (k == k) = true := by simp
      go_enter Try.func31, Try.ntmps31
      go_wp2_with fail
      go_ret
      exact Ret.mk (bool_val E1.out.symm) (by repeat (first | exact Below.refl _ _ | assumption | refine below_a ?_ _ | refine below_o ?_ _ | refine below_d ?_ | refine below_n ?_ _ | refine below_s ?_ (by first | (simp; done) | (simp; omega) | omega) _))
  · have e1 : eqT (.mk k v kids) (.mk k' v' kids') = false := by simp [eqT, h1]
    have E1 := hid e1; clear e1
    have h3 : (k == k') = false := by simpa using h1
    go_enter Try.func31, Try.ntmps31
    go_wp2_with fail
    go_ret
    exact Ret.mk (bool_val E1.out.symm) (by repeat (first | exact Below.refl _ _ | assumption | refine below_a ?_ _ | refine below_o ?_ _ | refine below_d ?_ | refine below_n ?_ _ | refine below_s ?_ (by first | (simp; done) | (simp; omega) | omega) _))

theorem same_any : ∀ t, SaT t := Tr.ind fun k v kids ih => sa_of k v kids ih

def SsT (t : Tr) : Prop := ∀ (w : World) (u : Tr) (x y : Value), TrIn Any w t x → TrIn Any w u y → Calls Try.prog 32 #[x, y] w (Ret (.bool (eqT t u)) w)

set_option maxRecDepth 100000 in
set_option maxHeartbeats 1000000 in
theorem ss_of (k v : Int) (kids : List Tr) (h : ∀ t, t ∈ kids → SsT t) : SsT (.mk k v kids) := by
  intro w u x y hx hy
  cases u with
  | mk k' v' kids' =>
  rw [TrIn_mk] at hx hy
  obtain ⟨a, n, c, rfl, hk, hv, rfl, hc, hc2, hks⟩ := hx
  obtain ⟨a', n', c', rfl, hk', hv', rfl, hc', hc2', hks'⟩ := hy
  unfold maxLen at hc2 hc2'
  by_cases h1 : k = k'
  · by_cases h2 : v = v'
    · by_cases hn : kids.length = kids'.length
      · subst h1 h2
        have E1 := hid (show eqT (.mk k v kids) (.mk k v kids') = eqL kids kids' by simp [eqT])
        have hkk : (k != k) = false := by simp
        have hvv : (v != v) = false := by simp
        have hll : ((kids.length : Int) != (kids'.length : Int)) = false := by rw [bne_eq_false_iff_eq]; omega
        have hn1 : kids.length ≤ kids'.length := by omega
        have hn2 : kids'.length ≤ kids.length := by omega
        clear hn
        go_enter Try.func32, Try.ntmps32
        go_wp2_with fail
        go_loopw [5] (fun i wr => ∃ j : Nat, j ≤ kids.length ∧ i = .int .i64 j ∧ Below w.heap.size w wr ∧ (Box3 wr w.heap.size (.int .i64 k) (.int .i64 v) (.slice a kids.length c) ∧ Box3 wr (w.heap.size + 1) (.int .i64 k) (.int .i64 v) (.slice a' kids'.length c')) ∧ Hid (eqL (kids.drop j) (kids'.drop j) = eqL kids kids')) (fun i _ => kids.length - (intOf i).toNat)
        case atStart => exact ⟨0, Nat.zero_le _, rfl, (by repeat (first | exact Below.refl _ _ | assumption | refine below_a ?_ _ | refine below_o ?_ _ | refine below_d ?_ | refine below_n ?_ _ | refine below_s ?_ (by first | (simp; done) | (simp; omega) | omega) _)), ⟨box3_next (below_alloc _ _) (box3_new ..), box3_at (by simp)⟩, hid rfl⟩
        case round =>
          obtain ⟨j, hj, rfl, B, ⟨b0, b1⟩, hr⟩ := hrel
          have bb0 := b0
          have bb1 := b1
          obtain ⟨p0, p1, p2, p3, p4⟩ := b0
          obtain ⟨q0, q1, q2, q3, q4⟩ := b1
          by_cases hlt : j < kids.length
          · obtain ⟨b, o, c0, c1, c2, t, rfl, gb, g0, g1, g2, hT⟩ := TrsIn_round hks B hlt
            obtain ⟨b', o', d0, d1, d2, u, rfl, fb, f0, f1, f2, hU⟩ := TrsIn_round hks' B (show j < kids'.length by omega)
            have HR2 := hid (eqL_drop hT.out.2.2.1 hU.out.2.2.1 hr.out)
            have hlt2 : (j : Int) < (kids.length : Int) := by omega
            have hlt3 : (j : Int) < (kids'.length : Int) := by omega
            go_wp2_with fail
            refine wp_region_over (by kernel_rfl) (by kernel_rfl) ?_; (repeat (go_big_quiet_step ((go_at_call 32; exact Calls.over (h t hT.out.2.1 _ u _ _ (TrIn_over hT.out.1 _) (TrIn_over hU.out.1 _)))))); refine wpQuiet_nil ?_; rintro _ ⟨xq, rfl⟩
            have hbd : Below w.heap.size w (wr.over xq) := below_next B (over_below wr xq)
            replace bb0 := box3_next (over_below wr xq) bb0
            replace bb1 := box3_next (over_below wr xq) bb1
            cases hq : eqT t u with
            | true =>
              have HR3 := HR2.out
              rw [hq, Bool.true_and] at HR3
              have HR4 := hid HR3; clear HR3 hq
              go_wp2_with fail
              go_roundw
              case rel => exact ⟨j + 1, by omega, by go_num, hbd, ⟨bb0, bb1⟩, hid HR4.out.symm⟩
              case measure => simp [intOf]; omega
            | false =>
              have HR3 := HR2.out
              rw [hq, Bool.false_and] at HR3
              have HR4 := hid HR3; clear HR3 hq
              go_wp2_with fail
              go_ret
              exact Ret.mk (bool_val (E1.out.trans HR4.out).symm) hbd
          · have hr2 := hr.out
            rw [List.drop_of_length_le (by omega), List.drop_of_length_le (by omega)] at hr2
            have HR2 := hid (E1.out.trans hr2.symm); clear hr2
            have hlt2 : ¬ ((j : Int) < (kids.length : Int)) := by omega
            go_wp2_with fail
            go_ret
            exact Ret.mk (bool_val HR2.out.symm) B
      · have E1 := hid (show eqT (.mk k v kids) (.mk k' v' kids') = false by simp [eqT, eqL_len kids kids' hn])
        have hll : ((kids.length : Int) != (kids'.length : Int)) = true := by rw [bne_iff_ne]; omega
        subst h1 h2
        have hkk : (k != k) = false := by simp
        have hvv : (v != v) = false := by simp
        go_enter Try.func32, Try.ntmps32
        go_wp2_with fail
        go_ret
        exact Ret.mk (bool_val E1.out.symm) (by repeat (first | exact Below.refl _ _ | assumption | refine below_a ?_ _ | refine below_o ?_ _ | refine below_d ?_ | refine below_n ?_ _ | refine below_s ?_ (by first | (simp; done) | (simp; omega) | omega) _))
    · have E1 := hid (show eqT (.mk k v kids) (.mk k' v' kids') = false by simp [eqT, h2])
      have h3 : (v != v') = true := by simpa using h2
      subst h1
      have hkk : (k != k) = false := by simp
      go_enter Try.func32, Try.ntmps32
      go_wp2_with fail
      go_ret
      exact Ret.mk (bool_val E1.out.symm) (by repeat (first | exact Below.refl _ _ | assumption | refine below_a ?_ _ | refine below_o ?_ _ | refine below_d ?_ | refine below_n ?_ _ | refine below_s ?_ (by first | (simp; done) | (simp; omega) | omega) _))
  · have E1 := hid (show eqT (.mk k v kids) (.mk k' v' kids') = false by simp [eqT, h1])
    have h3 : (k != k') = true := by simpa using h1
    go_enter Try.func32, Try.ntmps32
    go_wp2_with fail
    go_ret
    exact Ret.mk (bool_val E1.out.symm) (by repeat (first | exact Below.refl _ _ | assumption | refine below_a ?_ _ | refine below_o ?_ _ | refine below_d ?_ | refine below_n ?_ _ | refine below_s ?_ (by first | (simp; done) | (simp; omega) | omega) _))
theorem specSame_any : ∀ t, SsT t := Tr.ind fun k v kids ih => ss_of k v kids ih

end Branching
end Go.Proofs.Ythjhokifonjeaaa
namespace Go.Proofs.Ythjhokifonjeaaa
open Go.RowKit
open Go.Proofs.Ythjhokifonjeaaa.Branching

theorem bs_of (S : ByteArray) : S = bs S.data.toList := by cases S; rfl
/-- a tree's own text is read to the tree -/
theorem par_fmt (t : Tr) : parOk (fmt t) = branL.valid t ∧ (branL.valid t = true → parV (fmt t) = t) := by
  cases hv : branL.valid t with
  | false =>
    have e : fmt t = [] := by simp [fmt, hv]
    rw [e]
    exact ⟨(par_none (s := []) rfl).2, by simp⟩
  | true =>
    have e : fmt t = branT.txt t := by simp [fmt, hv]
    have hs : branL.shape t (6 : Nat) = true := by rw [Lang.valid, Bool.and_eq_true] at hv; exact hv.1
    have h := rdB_txt 6 t [] hs
    rw [List.append_nil] at h
    rw [e]
    have := par_ok h hv
    exact ⟨this.2, fun _ => this.1⟩
/-- a text that is read is the tree's text -/
theorem par_text {s : List UInt8} (h : parOk s = true) : fmt (parV s) = s := by
  unfold parOk parP at h
  unfold parV parP
  split at h
  · rename_i t ht
    split at h
    · rename_i hv
      rw [if_pos hv]
      have e := rdB_back 6 _ _ _ ht
      rw [List.append_nil] at e
      simp [fmt, hv, e]
    · simp at h
  · simp at h

set_option maxRecDepth 100000 in
set_option maxHeartbeats 8000000 in
theorem walk_FnBranchingText (w : World) (a : Option Addr) (len cap : Nat) (hb : ByteArg w a len cap) (a' : Option Addr) (len' cap' : Nat) (hb' : ByteArg w a' len' cap') : Calls Try.prog 9 #[.slice a len cap, .slice a' len' cap'] w (Ret (.bool true) w) := by
  have hcap := hb.2.1
  have hcap1 := hb.1
  have hcap' := hb'.2.1
  have hcap1' := hb'.1
  unfold maxLen at hcap hcap'
  by_cases hlen : len > 1048576
  · have hlen2 : (len : Int) > 1048576 := by omega
    go_enter Try.func9, Try.ntmps9
    go_wp2_with fail
    go_ret
    exact Ret.mk rfl (by repeat (first | exact Below.refl _ _ | assumption | refine below_a ?_ _ | refine below_o ?_ _ | refine below_d ?_ | refine below_n ?_ _ | refine below_s ?_ (by first | (simp; done) | (simp; omega) | omega) _))
  have hlen2 : ¬ ((len : Int) > 1048576) := by omega
  by_cases hlen' : len' > 1048576
  · have hlen2' : (len' : Int) > 1048576 := by omega
    go_enter Try.func9, Try.ntmps9
    go_wp2_with fail
    go_ret
    exact Ret.mk rfl (by repeat (first | exact Below.refl _ _ | assumption | refine below_a ?_ _ | refine below_o ?_ _ | refine below_d ?_ | refine below_n ?_ _ | refine below_s ?_ (by first | (simp; done) | (simp; omega) | omega) _))
  have hlen2' : ¬ ((len' : Int) > 1048576) := by omega
  have HBY := hid hb'
  go_enter Try.func9, Try.ntmps9
  go_wp2_with fail
  refine (Branching.drawFormatBranching_any _ a len cap hb).mono ?_
  rintro e w1 ⟨v, rfl, ⟨t, hn, hnt⟩, B1⟩
  obtain ⟨a1, n1, rfl⟩ := TrIn_shape hn.any
  have HX := hid (TrIn_below (below_alloc w1 (.cells #[.int .i64 t.kind, .int .i64 t.val, .slice a1 t.kids.length n1] 39)) hn.any)
  have b5 := hid (box3_new w1 (.int .i64 t.kind) (.int .i64 t.val) (.slice a1 t.kids.length n1) 39)
  have HB1 := hid (below_a B1 (.cells #[.int .i64 t.kind, .int .i64 t.val, .slice a1 t.kids.length n1] 39))
  clear hn hb hb' B1
  go_wp2_with fail
  refine (fmt_any t _ _ HX.out).mono ?_
  rintro e w2 ⟨rfl, hb2⟩
  have HX2 := hid (TrIn_below hb2 HX.out)
  have b52 := hid (box3_next hb2 b5.out)
  have HB2 := hid (below_next HB1.out hb2)
  have hl := branT.txt_len t
  have hlf : (fmt t).length ≤ 1000 := by
    unfold fmt
    split
    · omega
    · simp
  clear hb2
  have HPF := hid (par_fmt t)
  have HLF := hid hlf
  go_wp2_with fail
  refine (parse_any (fmt t) _ (by omega)).mono ?_
  rintro e w3 ⟨v3, rfl, hn3, hb3⟩
  obtain ⟨a3, n3, rfl⟩ := TrIn_shape hn3.any
  have HR3 := hid (TrIn_below (below_alloc w3 (.cells #[.int .i64 (parV (fmt t)).kind, .int .i64 (parV (fmt t)).val, .slice a3 (parV (fmt t)).kids.length n3] 39)) hn3.any)
  have HX3 := hid (TrIn_below (below_alloc w3 (.cells #[.int .i64 (parV (fmt t)).kind, .int .i64 (parV (fmt t)).val, .slice a3 (parV (fmt t)).kids.length n3] 39)) (TrIn_below hb3 HX2.out))
  have b53 := box3_next (below_alloc w3 (.cells #[.int .i64 (parV (fmt t)).kind, .int .i64 (parV (fmt t)).val, .slice a3 (parV (fmt t)).kids.length n3] 39)) (box3_next hb3 b52.out)
  have b7 := box3_new w3 (.int .i64 (parV (fmt t)).kind) (.int .i64 (parV (fmt t)).val) (.slice a3 (parV (fmt t)).kids.length n3) 39
  have HB3 := hid (below_a (below_next HB2.out hb3) (.cells #[.int .i64 (parV (fmt t)).kind, .int .i64 (parV (fmt t)).val, .slice a3 (parV (fmt t)).kids.length n3] 39))
  rw [HPF.out.1]
  have HSF := hid (fun (w : World) x (hx : TrIn Any w t x) => specFmt_any t w x hx)
  have HSM := hid (fun (w : World) x y (h1 : TrIn Any w (parV (fmt t)) x) (h2 : TrIn Any w t y) => Branching.same_any (parV (fmt t)) w t x y h1 h2)
  have HV1 := hid (fun (w : World) x (hx : TrIn Any w t x) => valid_any t w x hx)
  have HV2 := hid (fun (w : World) x (hx : TrIn Any w t x) => specValid_any t w x hx)
  have HEQ := hid (fun (h : branL.valid t = true) => show eqT (parV (fmt t)) t = true by rw [HPF.out.2 h]; exact eqT_refl t)
  clear hn3 hb3 hlf hl
  generalize bs (fmt t) = σ at *
  have hss : (σ.toList == σ.toList) = true := by simp
  generalize parV (fmt t) = r at *
  go_wp2_with fail
  refine wp_gen (fun W => Below w.heap.size w W ∧ Box3 W w1.heap.size (.int .i64 t.kind) (.int .i64 t.val) (.slice a1 t.kids.length n1) ∧ Box3 W w3.heap.size (.int .i64 r.kind) (.int .i64 r.val) (.slice a3 r.kids.length n3) ∧ TrIn Any W t (.agg #[.int .i64 t.kind, .int .i64 t.val, .slice a1 t.kids.length n1]) ∧ TrIn Any W r (.agg #[.int .i64 r.kind, .int .i64 r.val, .slice a3 r.kids.length n3])) ⟨HB3.out, b53, b7, HX3.out, HR3.out⟩ ?_
  rintro W ⟨BW, c5, c7, hxt, hxr⟩
  have HXT := hid hxt
  have HXR := hid hxr
  have HBW := hid BW
  obtain ⟨p0, p1, p2, p3, _⟩ := c5
  obtain ⟨q0, q1, q2, q3, _⟩ := c7
  clear BW hxt hxr b53 b7
  cases hv : branL.valid t
  all_goals
    rw [hv] at HV1 HV2
    try rw [HEQ.out hv] at HSM
    clear hv HEQ HPF
    refine wp_region_over (by kernel_rfl) (by kernel_rfl) ?_; (repeat (go_big_quiet_step ((first | (go_at_call 36; with_reducible exact Calls.over (HSF.out _ _ (TrIn_over HXT.out _))) | (go_at_call 37; with_reducible exact Calls.over (HV1.out _ _ (TrIn_over HXT.out _))) | (go_at_call 38; with_reducible exact Calls.over (HV2.out _ _ (TrIn_over HXT.out _))) | (go_at_call 31; with_reducible exact Calls.over (HSM.out _ _ _ (TrIn_over HXR.out _) (TrIn_over HXT.out _))))))); refine wpQuiet_nil ?_; rintro _ ⟨xq, rfl⟩
    have HF := hid (below_next HBW.out (over_below W xq))
    clear p0 p1 p2 p3 q0 q1 q2 q3
    go_wp2_with fail
    refine (Branching.drawText_any _ a' len' cap' (HBY.out.next HF.out)).mono ?_
    rintro e w4 ⟨s, rfl, hs, hb4⟩
    obtain ⟨l, rfl⟩ : ∃ l, s = bs l := ⟨_, bs_of s⟩
    rw [bs_size] at hs
    have HF4 := hid (below_next HF.out hb4)
    clear hb4
    go_wp2_with fail
    refine (parse_any l _ (by omega)).mono ?_
    rintro e w5 ⟨v5, rfl, hn5, hb5⟩
    obtain ⟨a5, n5, rfl⟩ := TrIn_shape hn5.any
    have HF5 := hid (below_a (below_next HF4.out hb5) (.cells #[.int .i64 (parV l).kind, .int .i64 (parV l).val, .slice a5 (parV l).kids.length n5] 39))
    have d1 := box3_new w5 (.int .i64 (parV l).kind) (.int .i64 (parV l).val) (.slice a5 (parV l).kids.length n5) 39
    have x1 := TrIn_below (below_alloc w5 (.cells #[.int .i64 (parV l).kind, .int .i64 (parV l).val, .slice a5 (parV l).kids.length n5] 39)) hn5.any
    clear hn5 hb5
    go_wp2_with fail
    refine (specParse_any l _ (by omega)).mono ?_
    rintro e w6 ⟨v6, rfl, hn6, hb6⟩
    obtain ⟨a6, n6, rfl⟩ := TrIn_shape hn6.any
    have HF6 := hid (below_a (below_next HF5.out hb6) (.cells #[.int .i64 (parV l).kind, .int .i64 (parV l).val, .slice a6 (parV l).kids.length n6] 39))
    have d1' := box3_next (below_alloc w6 (.cells #[.int .i64 (parV l).kind, .int .i64 (parV l).val, .slice a6 (parV l).kids.length n6] 39)) (box3_next hb6 d1)
    have x1' := hid (TrIn_below (below_alloc w6 (.cells #[.int .i64 (parV l).kind, .int .i64 (parV l).val, .slice a6 (parV l).kids.length n6] 39)) (TrIn_below hb6 x1))
    have x2 := hid (TrIn_below (below_alloc w6 (.cells #[.int .i64 (parV l).kind, .int .i64 (parV l).val, .slice a6 (parV l).kids.length n6] 39)) hn6.any)
    have HSM2 := hid (fun (w : World) x y (h1 : TrIn Any w (parV l) x) (h2 : TrIn Any w (parV l) y) => Branching.same_any (parV l) w (parV l) x y h1 h2)
    have HSM3 := HSM2.out
    simp only [eqT_refl] at HSM3
    replace HSM2 := hid HSM3
    have HPT := hid (fun h => par_text (s := l) h)
    have HFM := hid (fun (w : World) x (hx : TrIn Any w (parV l) x) => fmt_any (parV l) w x hx)
    have D1 := hid d1'
    clear HSM3 hn6 hb6 d1 x1 d1'
    generalize parV l = r2 at *
    obtain ⟨p0, p1, p2, p3, _⟩ := D1.out
    go_wp2_with fail
    refine (HSM2.out _ _ _ x1'.out x2.out).mono ?_
    rintro e w7 ⟨rfl, hb7⟩
    have HF7 := hid (below_next HF6.out hb7)
    have x3 := hid (TrIn_below hb7 x1'.out)
    have D7 := hid (box3_next hb7 D1.out)
    clear hb7 p0 p1 p2 p3
    cases hok : parOk l with
    | false =>
      clear hok
      go_wp2_with fail
      go_ret
      exact Ret.mk rfl HF7.out
    | true =>
      have hf := HPT.out hok
      obtain ⟨p0, p1, p2, p3, _⟩ := D7.out
      have hFM := HFM.out
      rw [hf] at hFM
      have HFM2 := hid hFM
      have hss2 : ((bs l).toList == (bs l).toList) = true := by simp
      clear hok hf hFM HFM HPT
      go_wp2_with fail
      refine (HFM2.out _ _ x3.out).mono ?_
      rintro e w8 ⟨rfl, hb8⟩
      have HF8 := hid (below_next HF7.out hb8)
      clear hb8
      go_wp2_with fail
      go_ret
      exact Ret.mk rfl HF8.out
end Go.Proofs.Ythjhokifonjeaaa
namespace Go.Proofs.Ythjhokifonjeaaa
open Go.RowKit

section
variable {H : Type} {enc : TypeId × Value → H} {P : Program} {w : World} {base : Nat} {spare : Nat → Bool} {held : Bool}

theorem cells1 {a : Addr} {cs : List Value} (h : w.cells? base a 1 = some cs) : ∃ c0, cs = [c0] ∧ w.cell? (a.add 0) = some c0 := by
  obtain ⟨_, hl, hc⟩ := World.cells?_some h
  match cs, hl with
  | [c0], _ => exact ⟨c0, rfl, by simpa using hc 0 (by omega)⟩

theorem bytes_read {S I : TypeId} (hS : P.underlying S = some (.slice I)) (hI : P.underlying I = some (.int .u8)) (cI : P.cellsOf I = 1)
    {fuel : Nat} {a : Option Addr} {len cap : Nat} {x : DataW H × List MemPlace} (h : DataW.trod enc P w base spare held fuel S [.slice a len cap] = some x) : ByteArg w a len cap := by
  rcases DataW.trod_slice hS h with ⟨hc, _⟩ | ⟨a', len', cap', elems, rest, m, hm, hc, _, _, hlc, hcm, hel, hcell, _⟩
  · simp at hc
    obtain ⟨rfl, rfl, rfl⟩ := hc
    exact ⟨Nat.le_refl _, Nat.zero_le _, .inl rfl⟩
  · simp at hc
    obtain ⟨rfl, rfl, rfl⟩ := hc
    refine ⟨hlc, hcm, ?_⟩
    by_cases h0 : len = 0
    · exact .inl h0
    have key : ∀ i, i < len → ∃ n : Int, w.cell? (a'.add i) = some (.int .u8 n) ∧ 0 ≤ n ∧ n ≤ 255 := fun i hi => by
      have hh := hcell i hi
      rw [cI, List.getElem?_eq_getElem (by omega)] at hh
      obtain ⟨cs', h3, h4⟩ := Option.bind_eq_some_iff.1 hh
      obtain ⟨c0, rfl, q0⟩ := cells1 h3
      obtain ⟨n, hn, _, wn⟩ := DataW.trod_int hI h4
      simp only [List.cons.injEq, and_true] at hn
      subst hn
      have hwf : 0 ≤ n ∧ n ≤ 255 := by
        simp [Lit.wf, IntKind.min, IntKind.max, IntKind.signed, IntKind.bits] at wn
        omega
      exact ⟨n, by simpa [Addr.add] using q0, hwf⟩
    obtain ⟨b, o, s⟩ := a'
    obtain ⟨n0, e0, _⟩ := key 0 (by omega)
    have hs : s = none := by simpa [Addr.add] using World.cell?_spot e0
    subst hs
    have ea : ∀ i, Addr.add ⟨b, o, none⟩ i = ⟨b, o + i, none⟩ := fun i => by unfold Addr.add; split <;> simp_all
    have hall : ∀ i, ∃ n : Int, i < len → w.cell? ⟨b, o + i, none⟩ = some (.int .u8 n) ∧ 0 ≤ n ∧ n ≤ 255 := fun i => by
      by_cases hi : i < len
      · obtain ⟨n, hn⟩ := key i hi
        rw [ea] at hn
        exact ⟨n, fun _ => hn⟩
      · exact ⟨0, fun h => absurd h hi⟩
    obtain ⟨f, hf⟩ := Classical.axiomOfChoice hall
    refine .inr ⟨b, o, f, rfl, ?_, hf⟩
    have := (hf 0 (by omega)).1
    exact blt this
end
end Go.Proofs.Ythjhokifonjeaaa
