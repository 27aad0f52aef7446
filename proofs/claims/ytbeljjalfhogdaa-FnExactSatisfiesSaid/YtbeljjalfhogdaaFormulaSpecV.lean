/- The reference's l5Arity, l5Shape: what each returns, for every tree. Conditions: those of each contract. -/
import Derived.Test.YtbeljjalfhogdaaRows
import Derived.Test.YtbeljjalfhogdaaMem
import Derived.Test.YtbeljjalfhogdaaValidPlain
import Derived.WalkSpells
import Derived.WalkLawsBesides
import Derived.Deep.DeepCutAuto
import Derived.Deep.CutBlock
namespace Go.Proofs.Ytbeljjalfhogdaa
open Go.RowKit
namespace Formula

def arityV (k : Int) : Int := if k = 1 ∨ k = 2 then 0 else if k = 3 ∨ k = 6 ∨ k = 9 ∨ k = 10 then 1 else if k = 4 ∨ k = 5 ∨ k = 7 ∨ k = 8 then 2 else -1
theorem arityV_ok {k v : Int} {n : Nat} : formL.okB k v n = (decide ((n : Int) = arityV k) && decide (0 ≤ v ∧ v ≤ formL.most k)) := by
  rw [Bool.eq_iff_iff, Lang.okB_iff, Bool.and_eq_true, decide_eq_true_eq, decide_eq_true_eq, formL_K, formL_ar]
  unfold arityV
  by_cases h1 : k = 1 ∨ k = 2
  · rw [if_pos h1, if_pos h1]; constructor
    · rintro ⟨_, a, b⟩; exact ⟨b, a⟩
    · rintro ⟨a, b⟩; exact ⟨by omega, b, a⟩
  by_cases h2 : k = 3 ∨ k = 6 ∨ k = 9 ∨ k = 10
  · rw [if_neg h1, if_neg h1, if_neg (by omega), if_pos h2]; constructor
    · rintro ⟨_, a, b⟩; exact ⟨b, a⟩
    · rintro ⟨a, b⟩; exact ⟨by omega, b, a⟩
  by_cases h3 : k = 4 ∨ k = 5 ∨ k = 7 ∨ k = 8
  · rw [if_neg h1, if_neg h1, if_pos h3, if_neg h2, if_pos h3]; constructor
    · rintro ⟨_, a, b⟩; exact ⟨b, a⟩
    · rintro ⟨a, b⟩; exact ⟨by omega, b, a⟩
  · rw [if_neg h1, if_neg h1, if_neg h3, if_neg h2, if_neg h3]
    constructor
    · rintro ⟨a, _⟩; omega
    · rintro ⟨a, _⟩; omega

set_option maxHeartbeats 1000000 in
theorem arity_any (k : Int) (w : World) : Calls Try.prog 90 #[.int .i64 k] w (Ret (.int .i64 (arityV k)) w) := by
  by_cases h1 : k = 1
  · subst h1
    go_enter Try.func90, Try.ntmps90
    go_wp2_with fail
    go_ret
    exact Ret.mk rfl (Below.refl _ _)
  by_cases h2 : k = 2
  · subst h2
    go_enter Try.func90, Try.ntmps90
    go_wp2_with fail
    go_ret
    exact Ret.mk rfl (Below.refl _ _)
  by_cases h3 : k = 3
  · subst h3
    go_enter Try.func90, Try.ntmps90
    go_wp2_with fail
    go_ret
    exact Ret.mk rfl (Below.refl _ _)
  by_cases h4 : k = 4
  · subst h4
    go_enter Try.func90, Try.ntmps90
    go_wp2_with fail
    go_ret
    exact Ret.mk rfl (Below.refl _ _)
  by_cases h5 : k = 5
  · subst h5
    go_enter Try.func90, Try.ntmps90
    go_wp2_with fail
    go_ret
    exact Ret.mk rfl (Below.refl _ _)
  by_cases h6 : k = 6
  · subst h6
    go_enter Try.func90, Try.ntmps90
    go_wp2_with fail
    go_ret
    exact Ret.mk rfl (Below.refl _ _)
  by_cases h7 : k = 7
  · subst h7
    go_enter Try.func90, Try.ntmps90
    go_wp2_with fail
    go_ret
    exact Ret.mk rfl (Below.refl _ _)
  by_cases h8 : k = 8
  · subst h8
    go_enter Try.func90, Try.ntmps90
    go_wp2_with fail
    go_ret
    exact Ret.mk rfl (Below.refl _ _)
  by_cases h9 : k = 9
  · subst h9
    go_enter Try.func90, Try.ntmps90
    go_wp2_with fail
    go_ret
    exact Ret.mk rfl (Below.refl _ _)
  by_cases h10 : k = 10
  · subst h10
    go_enter Try.func90, Try.ntmps90
    go_wp2_with fail
    go_ret
    exact Ret.mk rfl (Below.refl _ _)
  have e1 : (k == 1) = false := by simpa using h1
  have e2 : (k == 2) = false := by simpa using h2
  have e3 : (k == 3) = false := by simpa using h3
  have e4 : (k == 4) = false := by simpa using h4
  have e5 : (k == 5) = false := by simpa using h5
  have e6 : (k == 6) = false := by simpa using h6
  have e7 : (k == 7) = false := by simpa using h7
  have e8 : (k == 8) = false := by simpa using h8
  have e9 : (k == 9) = false := by simpa using h9
  have e10 : (k == 10) = false := by simpa using h10
  have E := hid (show arityV k = -1 by unfold arityV; rw [if_neg (by omega), if_neg (by omega), if_neg (by omega)])
  clear h1 h2 h3 h4 h5 h6 h7 h8 h9 h10
  go_enter Try.func90, Try.ntmps90
  go_wp2_with fail
  go_ret
  exact Ret.mk (int_val E.out.symm) (Below.refl _ _)

def ShT (t : Tr) : Prop := ∀ (w : World) (x : Value) (d : Int), TrIn Any w t x → -1 ≤ d → d ≤ 6 → Calls Try.prog 71 #[x, .int .i64 d] w (Ret (.bool (formL.shape t d)) w)

/-- the test of a node's number, as the text has it -/
theorem most_cases (k v : Int) : (v < 0 ∨ 3 ≤ v ∨ (k ≠ 2 ∧ v ≠ 0)) ↔ ¬(0 ≤ v ∧ v ≤ formL.most k) := by
  rw [ formL_most ]
  by_cases h : k = 2
  · rw [if_pos h]; omega
  · rw [if_neg h]; omega

set_option maxHeartbeats 1000000 in
theorem shT_of (k v : Int) (kids : List Tr) (h : ∀ t, t ∈ kids → ShT t) : ShT (.mk k v kids) := by
  intro w x d hx hd1 hd2
  rw [TrIn_mk] at hx
  obtain ⟨a, n, c, rfl, hk, hv, rfl, hc, hc2, hks⟩ := hx
  by_cases hd : d < 1
  · have E := hid (show formL.shape (.mk k v kids) d = false by simp only [Lang.shape]; rw [decide_eq_false (by omega), Bool.false_and])
    have hd' : decide (d < 1) = true := by simpa using hd
    go_enter Try.func71, Try.ntmps71
    go_wp2_with fail
    refine wp_region_below (by kernel_rfl) (by kernel_rfl) ?_; (repeat (go_big_quiet_step ((fail)))); refine wpQuiet_nil ?_
    intro w1 hb
    go_wp2_with fail
    go_ret
    exact Ret.mk (bool_val E.out.symm) (below_next (below_alloc _ _) hb)
  have E0 := hid (show formL.shape (.mk k v kids) d = (formL.okB k v kids.length && formL.shapeL kids (d - 1)) by simp only [Lang.shape]; rw [decide_eq_true (by omega), Bool.true_and])
  have hd' : decide (d < 1) = false := by simpa using hd
  by_cases hn : (kids.length : Int) = arityV k
  · have hn1 : ((kids.length : Int) != arityV k) = false := by simpa using hn
    have HN := hid hn; clear hn
    have hno : v < 0 ∨ 3 ≤ v ∨ (k ≠ 2 ∧ v ≠ 0) → formL.shape (.mk k v kids) d = false := fun hh => by
      rw [E0.out, arityV_ok, decide_eq_false ((most_cases k v).1 hh)]; simp
    have HNO := hid hno; clear hno
    go_enter Try.func71, Try.ntmps71
    go_wp2_with fail
    refine wp_region_below (by kernel_rfl) (by kernel_rfl) ?_; (repeat (go_big_quiet_step ((go_at_call 90; exact Calls.over (arity_any _ _))))); refine wpQuiet_nil ?_
    intro w1 hb
    have b1 := box3_next hb (box3_new ..)
    have B := below_next (below_alloc ..) hb
    clear hb
    by_cases hv0 : v < 0
    · have E := hid (HNO.out (.inl hv0)); clear HNO
      go_wp2_with fail
      go_ret
      exact Ret.mk (bool_val E.out.symm) B
    by_cases hv1 : 3 ≤ v
    · have E := hid (HNO.out (.inr (.inl hv1))); clear HNO
      go_wp2_with fail
      go_ret
      exact Ret.mk (bool_val E.out.symm) B
    by_cases hv2 : k ≠ 2 ∧ v ≠ 0
    · have E := hid (HNO.out (.inr (.inr hv2))); clear HNO
      have e1 : (k != 2) = true := by simpa using hv2.1
      have e2 : (v != 0) = true := by simpa using hv2.2
      clear hv2
      go_wp2_with fail
      go_ret
      exact Ret.mk (bool_val E.out.symm) B
    have E := hid (show formL.shape (.mk k v kids) d = formL.shapeL kids (d - 1) by
      rw [E0.out, arityV_ok, decide_eq_true HN.out, decide_eq_true]
      · simp
      · apply Decidable.byContradiction
        intro hh
        rcases (most_cases k v).2 hh with h1 | h1 | h1
        · exact hv0 h1
        · exact hv1 h1
        · exact hv2 h1)
    have hv3 : ((k != 2) && (v != 0)) = false := by
      cases h1 : (k != 2) with
      | false => rfl
      | true =>
        cases h2 : (v != 0) with
        | false => rfl
        | true => exact absurd ⟨by simpa using h1, by simpa using h2⟩ hv2
    clear hv2 HNO
    unfold maxLen at hc2
    cases h1 : (k != 2) with
    | false =>
      clear hv3
      go_wp2_with fail
      go_loopw [5] (fun i wr => ∃ j : Nat, j ≤ kids.length ∧ i = .int .i64 j ∧ Below w.heap.size w wr ∧ Box3 wr w.heap.size (.int .i64 k) (.int .i64 v) (.slice a kids.length c) ∧ Hid (formL.shapeL (kids.drop j) (d - 1) = formL.shapeL kids (d - 1)))
        (fun i _ => kids.length - (intOf i).toNat)
      case atStart => exact ⟨0, Nat.zero_le _, rfl, B, b1, hid rfl⟩
      case round =>
        clear B b1
        obtain ⟨j, hj, rfl, B, b1, hr⟩ := hrel
        by_cases hlt : j < kids.length
        · obtain ⟨b, o, c0, c1, c2, t, rfl, gb, g0, g1, g2, hT⟩ := TrsIn_round hks B hlt
          have HR2 := hr.out
          rw [hT.out.2.2.1] at HR2
          simp only [Lang.shapeL] at HR2
          have HR := hid HR2; clear HR2
          go_wp2_with fail
          refine (h t hT.out.2.1 _ _ (d - 1) hT.out.1 (by omega) (by omega)).mono ?_
          rintro e w2 ⟨rfl, hb⟩
          replace b1 := box3_next hb b1
          replace B := below_next B hb
          clear hb
          cases hq : formL.shape t (d - 1) with
          | true =>
            have HR3 := HR.out
            rw [hq, Bool.true_and] at HR3
            have HR4 := hid HR3; clear HR3 hq
            go_wp2_with fail
            go_roundw
            case rel => exact ⟨j + 1, by omega, by go_num, B, b1, HR4⟩
            case measure => simp [intOf]; omega
          | false =>
            have HR3 := HR.out
            rw [hq, Bool.false_and] at HR3
            have HR4 := hid HR3; clear HR3 hq
            go_wp2_with fail
            go_ret
            exact Ret.mk (bool_val (HR4.out.trans E.out.symm)) B
        · have HR2 := hr.out
          rw [List.drop_of_length_le (by omega)] at HR2
          have HR := hid HR2; clear HR2
          go_wp2_with fail
          go_ret
          exact Ret.mk (bool_val (HR.out.trans E.out.symm)) B
    | true =>
      rw [h1, Bool.true_and] at hv3
      go_wp2_with fail
      go_loopw [5] (fun i wr => ∃ j : Nat, j ≤ kids.length ∧ i = .int .i64 j ∧ Below w.heap.size w wr ∧ Box3 wr w.heap.size (.int .i64 k) (.int .i64 v) (.slice a kids.length c) ∧ Hid (formL.shapeL (kids.drop j) (d - 1) = formL.shapeL kids (d - 1)))
        (fun i _ => kids.length - (intOf i).toNat)
      case atStart => exact ⟨0, Nat.zero_le _, rfl, B, b1, hid rfl⟩
      case round =>
        clear B b1
        obtain ⟨j, hj, rfl, B, b1, hr⟩ := hrel
        by_cases hlt : j < kids.length
        · obtain ⟨b, o, c0, c1, c2, t, rfl, gb, g0, g1, g2, hT⟩ := TrsIn_round hks B hlt
          have HR2 := hr.out
          rw [hT.out.2.2.1] at HR2
          simp only [Lang.shapeL] at HR2
          have HR := hid HR2; clear HR2
          go_wp2_with fail
          refine (h t hT.out.2.1 _ _ (d - 1) hT.out.1 (by omega) (by omega)).mono ?_
          rintro e w2 ⟨rfl, hb⟩
          replace b1 := box3_next hb b1
          replace B := below_next B hb
          clear hb
          cases hq : formL.shape t (d - 1) with
          | true =>
            have HR3 := HR.out
            rw [hq, Bool.true_and] at HR3
            have HR4 := hid HR3; clear HR3 hq
            go_wp2_with fail
            go_roundw
            case rel => exact ⟨j + 1, by omega, by go_num, B, b1, HR4⟩
            case measure => simp [intOf]; omega
          | false =>
            have HR3 := HR.out
            rw [hq, Bool.false_and] at HR3
            have HR4 := hid HR3; clear HR3 hq
            go_wp2_with fail
            go_ret
            exact Ret.mk (bool_val (HR4.out.trans E.out.symm)) B
        · have HR2 := hr.out
          rw [List.drop_of_length_le (by omega)] at HR2
          have HR := hid HR2; clear HR2
          go_wp2_with fail
          go_ret
          exact Ret.mk (bool_val (HR.out.trans E.out.symm)) B
  · have hn1 : ((kids.length : Int) != arityV k) = true := by simpa using hn
    have E := hid (show formL.shape (.mk k v kids) d = false by rw [E0.out, arityV_ok, decide_eq_false hn]; simp)
    clear hn
    go_enter Try.func71, Try.ntmps71
    go_wp2_with fail
    refine wp_region_below (by kernel_rfl) (by kernel_rfl) ?_; (repeat (go_big_quiet_step ((go_at_call 90; exact Calls.over (arity_any _ _))))); refine wpQuiet_nil ?_
    intro w1 hb
    go_wp2_with fail
    go_ret
    exact Ret.mk (bool_val E.out.symm) (below_next (below_alloc _ _) hb)

theorem shape_any : ∀ t, ShT t := fun t => Tr.ind (fun k v kids ih => shT_of k v kids ih) t

end Formula
end Go.Proofs.Ytbeljjalfhogdaa
