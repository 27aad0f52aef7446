/- Joined texts (FormulaDraw, FormulaSpecV, FormulaRandom, FormulaSpecVB, FormulaDraws, DrawSat): contracts and plain laws. Conditions: those of each theorem. -/
import Derived.Test.YtkjnmkjdooebmaaRows
import Derived.Test.YtkjnmkjdooebmaaJW1
import Derived.Test.YtkjnmkjdooebmaaJW0
import Derived.Test.YtkjnmkjdooebmaaJW5
import Derived.WalkSpells
import Derived.WalkLawsBesides
import Derived.Deep.QuietTactic
import Derived.BigQuiet
import Derived.Deep.DeepCutAuto
import Derived.Deep.CutBlock
set_option linter.unusedVariables false
set_option linter.unusedSimpArgs false
namespace Go.Proofs.Ytkjnmkjdooebmaa
open Go.RowKit
namespace Formula

theorem rowInfo : (Try.prog.info? 30).map (fun i => (i.zero, i.size, i.bytes)) = some (some (.agg #[.int .i64 0, .int .i64 0, .slice none 0 0]), 3, 40) := by kernel_rfl

set_option maxHeartbeats 400000 in
theorem true_any (w : World) : Calls Try.prog 26 #[] w (RetP (NewTr w.heap.size (.mk 1 0 [])) w) := by
  go_enter Try.func26, Try.ntmps26
  go_wp2_with fail
  refine bodyPost_ret (v := .agg #[.int .i64 1, .int .i64 0, .slice none 0 0]) (by simp [results, Try.results26, go_sem]) rfl ?_
  exact RetP.mk (leaf_new _ _ (by unfold i64; omega) (by unfold i64; omega)) (by repeat (first | exact Below.refl _ _ | assumption | refine below_a ?_ _ | refine below_o ?_ _ | refine below_d ?_ | refine below_n ?_ _ | refine below_s ?_ (by first | (simp; done) | (simp; omega) | omega) _))

def CopyT (t : Tr) : Prop := ∀ (w : World) (x : Value), TrIn Any w t x → Small t → Calls Try.prog 25 #[x] w (RetP (OwnN w.heap.size 30 t) w)

set_option maxHeartbeats 1000000 in
set_option maxRecDepth 100000 in
theorem copy_of (k v : Int) (kids : List Tr) (h : ∀ t, t ∈ kids → CopyT t) : CopyT (.mk k v kids) := by
  intro w x hx hs
  have hx0 := hx
  rw [TrIn_mk] at hx
  obtain ⟨a, n, c, rfl, hk, hv, rfl, hc, hc2, hks⟩ := hx
  unfold maxLen at hc2
  replace hs : kids.length ≤ 1048576 ∧ SmallL kids := hs
  go_enter Try.func25, Try.ntmps25
  go_wp2_with fail
  go_loopw [4] (fun i wr => ∃ (j : Nat) (u : Value), j ≤ kids.length ∧ i = .int .i64 j ∧ Below w.heap.size w wr ∧ Box3 wr w.heap.size (.int .i64 k) (.int .i64 v) (.slice a kids.length c) ∧
    Box3 wr (w.heap.size + 1) (.int .i64 0) (.int .i64 0) (.slice none 0 0) ∧ Box3 wr (w.heap.size + 1 + 1) (.int .i64 k) (.int .i64 v) u ∧ OwnRow (w.heap.size + 1 + 1 + 1) 30 u (kids.take j) wr) (fun i _ => kids.length - (intOf i).toNat)
  case atStart =>
    refine ⟨0, .slice none 0 0, Nat.zero_le _, rfl, (by repeat (first | exact Below.refl _ _ | assumption | refine below_a ?_ _ | refine below_o ?_ _ | refine below_d ?_ | refine below_n ?_ _ | refine below_s ?_ (by first | (simp; done) | (simp; omega) | omega) _)), ?_, ?_, ?_, OwnRow.nil _ _ _⟩
    · exact box3_next (below_alloc _ _) (box3_next (below_alloc _ _) (box3_new ..))
    · exact box3_next (below_alloc _ _) (box3_at (by simp))
    · exact box3_at (by simp)
  case round =>
    obtain ⟨j, u, hj, rfl, hb, b0, b1, b2, ho⟩ := hrel
    by_cases hlt : j < kids.length
    · obtain ⟨b, o, rfl, gb0, _⟩ := TrsIn_addr hks (by omega)
      obtain ⟨b', o', c0, c1, c2, t, hbo, gb, g0, g1, g2, hT⟩ := TrsIn_round hks hb hlt
      obtain ⟨rfl, rfl⟩ : b = b' ∧ o = o' := by simpa using hbo
      have hlt2 : (j : Int) < (kids.length : Int) := by omega
      have b2l : w.heap.size + 1 + 1 + 1 ≤ wr.heap.size := b2.1
      have b0' := b0
      have b2' := b2
      obtain ⟨p0, p1, p2, p3, p4, p5, p6⟩ := b0'
      obtain ⟨q0, q1, q2, q3, q4, q5, q6⟩ := b2'
      obtain ⟨B, hB⟩ : ∃ B, B = w.heap.size + 1 + 1 + 1 := ⟨_, rfl⟩
      have f0 : ∀ x, (wr.overX B B x).cell? ⟨w.heap.size + 1 + 1, 2, none⟩ = some u := fun x => by rw [overX_cell _ _ _ _ _ _ (by omega) (by omega)]; exact q3
      have f1 : ∀ x, (wr.overX B B x).cell? ⟨w.heap.size, 2, none⟩ = some (.slice (some ⟨b, o, none⟩) kids.length c) := fun x => by rw [overX_cell _ _ _ _ _ _ (by omega) (by omega)]; exact p3
      have f2 : ∀ x, (wr.overX B B x).cell? ⟨b, o + j * 3, none⟩ = some c0 := fun x => by rw [overX_cell _ _ _ _ _ _ (by omega) (by omega)]; exact g0
      have f3 : ∀ x, (wr.overX B B x).cell? ⟨b, o + j * 3 + 1, none⟩ = some c1 := fun x => by rw [overX_cell _ _ _ _ _ _ (by omega) (by omega)]; exact g1
      have f4 : ∀ x, (wr.overX B B x).cell? ⟨b, o + j * 3 + 2, none⟩ = some c2 := fun x => by rw [overX_cell _ _ _ _ _ _ (by omega) (by omega)]; exact g2
      go_wp2_with fail
      refine wp_region_tail (C := fun wZ => ∃ xZ, wZ = World.overX _ (B) (B) xZ) [0,1,2,3,4,5,6] [7,8,9,10,11] (11) (by kernel_rfl) (by kernel_rfl) (fun d _ _ _ _ h => by cases d <;> exact h) (ButX.refl _ _ _).drew.ex ?_; simp only [pick, List.getElem?_cons_succ, List.getElem?_cons_zero]; (repeat (go_big_quiet_step (fail))); refine wpQuiet_nil ?_; simp only [tailW]
      go_wp2_with fail
      refine (h t hT.out.2.1 _ _ (TrIn_below (below_d (Below.refl _ _)) hT.out.1) (smallL_mem hs.2 hT.out.2.1)).mono ?_
      rintro e w1 ⟨v1, rfl, hn0, hb1⟩
      have hn := hn0.new; clear hn0
      obtain ⟨a1, n1, rfl⟩ := TrIn_shape hn.any
      have hb2 : ButX B B wr w1 := ButX.next (ButX.refl B B wr).drew hb1 (by simp; omega)
      have s1 := hb1.size
      simp at s1
      go_wp2_with fail
      refine ⟨hb2.ex, ?_⟩
      go_wp2_with fail
      refine ⟨(hb2.next (below_alloc _ _) (by omega)).ex, ?_⟩
      have hk1 : Keep (w.heap.size + 1 + 1 + 1) wr w1 := (Keep.drew wr).trans (Keep.below hb1)
      refine wp_append_node rfl (.tmp 18) (.tmp 25) 28 rfl 30 Try.underlying28 rowInfo (by rfl) (by rfl) (by intro x hx; simp at hx; rcases hx with rfl | rfl | rfl <;> rfl) ho b2l hk1 (Nat.le_refl _) hn (by simp only [List.length_take]; omega) ?_
      intro a2 n2 m2 w3 ho3' hb4 _ _
      have hb3 : ButX B B wr w3 := hb2.trans (ButX.ofB (hB ▸ hb4))
      have hk3 : kids.take j ++ [t] = kids.take (j + 1) := by rw [List.take_add_one, hT.out.2.2.2]; rfl
      rw [hk3] at ho3'
      have B3 : Below w.heap.size w w3 := hb.trans ⟨hb3.os, hb3.tape, hb3.output, hb3.size, fun k hk => hb3.block k (by omega) (by omega)⟩
      have r1 := box3_butx hb3 (by omega) (by omega) b1
      have r0 := box3_butx hb3 (by omega) (by omega) b0
      have r2 := box3_butx hb3 (by omega) (by omega) b2
      have HO := hid ho3'
      have hw3 : B ≤ w3.heap.size := by have := hb3.size; omega
      clear ho ho3' hn hb1 hb2 hb4 hk1 f0 f1 f2 f3 f4 p0 p1 p2 p3 p4 p5 p6 q0 q1 q2 q3 q4 q5 q6 b0 b1 b2
      obtain ⟨q0, q1, q2, q3, q4, q5, q6⟩ := r2
      have r2 : Box3 w3 (w.heap.size + 1 + 1) (.int .i64 k) (.int .i64 v) u := ⟨q0, q1, q2, q3, q4, q5, q6⟩
      refine ⟨hb3.ex, ?_⟩
      go_wp2_with fail
      refine ⟨hb3.ex, ?_⟩
      go_wp2_with fail
      go_roundw
      case rel => exact ⟨j + 1, .slice a2 n2 m2, by omega, by go_num, B3.setCell (by simp; omega) _, box3_but (But.set w3 (w.heap.size + 1 + 1) 2 _) (by omega) r0, box3_but (But.set w3 (w.heap.size + 1 + 1) 2 _) (by omega) r1, box3_set2 r2 _, HO.out.keep (Keep.set _ (by simp) _)⟩
      case measure => simp [intOf]; omega
    · have hlt2 : ¬ ((j : Int) < (kids.length : Int)) := by omega
      obtain rfl : j = kids.length := by omega
      rw [List.take_length] at ho
      obtain ⟨a2, n2, m2, rfl⟩ : ∃ a2 n2 m2, u = .slice a2 n2 m2 := by obtain ⟨a2, m2, h2, _⟩ := ho.shape; exact ⟨_, _, _, h2⟩
      have HO := hid ho
      clear ho
      go_wp2_with fail
      refine bodyPost_ret (v := .agg #[.int .i64 k, .int .i64 v, .slice a2 n2 m2]) (by simp [results, Try.results25, go_sem, b1]) rfl ?_
      exact RetP.mk ⟨_, rfl, hk, hv, (HO.out.keep (((Keep.set _ (by simp) _).trans (Keep.set _ (by simp) _)).trans (Keep.set _ (by simp) _))).mono (by omega)⟩ (by repeat (first | exact Below.refl _ _ | assumption | refine below_a ?_ _ | refine below_o ?_ _ | refine below_d ?_ | refine below_n ?_ _ | refine below_s ?_ (by first | (simp; done) | (simp; omega) | omega) _))

theorem copy_any : ∀ t, CopyT t := Tr.ind copy_of

end Formula
end Go.Proofs.Ytkjnmkjdooebmaa
namespace Go.Proofs.Ytkjnmkjdooebmaa
open Go.RowKit
namespace Formula

def arityV (k : Int) : Int := if k = 1 ∨ k = 2 then 0 else if k = 3 ∨ k = 6 ∨ k = 9 ∨ k = 10 then 1 else if k = 4 ∨ k = 5 ∨ k = 7 ∨ k = 8 then 2 else -1
theorem arityV_ok {k v : Int} {n : Nat} : formL.okB k v n = (decide ((n : Int) = arityV k) && decide (0 ≤ v ∧ v ≤ formL.most k)) := by
  rw [Bool.eq_iff_iff, Lang.okB_iff, Bool.and_eq_true, decide_eq_true_eq, decide_eq_true_eq, formL_K, formL_ar]
  unfold arityV
  by_cases h1 : k = 1 ∨ k = 2
  · rw [if_pos h1, if_pos h1]; constructor
    · rintro ⟨_, a, b⟩; exact ⟨b, a⟩
    · rintro ⟨a, b⟩; exact ⟨by omega, b, a⟩
  by_cases h2 : k = 3 ∨ k = 6 ∨ k = 9 ∨ k = 10
  · rw [if_neg h1, if_neg h1, if_neg (by omega), if_pos h2]; constructor
    · rintro ⟨_, a, b⟩; exact ⟨b, a⟩
    · rintro ⟨a, b⟩; exact ⟨by omega, b, a⟩
  by_cases h3 : k = 4 ∨ k = 5 ∨ k = 7 ∨ k = 8
  · rw [if_neg h1, if_neg h1, if_pos h3, if_neg h2, if_pos h3]; constructor
    · rintro ⟨_, a, b⟩; exact ⟨b, a⟩
    · rintro ⟨a, b⟩; exact ⟨by omega, b, a⟩
  · rw [if_neg h1, if_neg h1, if_neg h3, if_neg h2, if_neg h3]
    constructor
    · rintro ⟨a, _⟩; omega
    · rintro ⟨a, _⟩; omega

set_option maxHeartbeats 1000000 in
theorem arity_any (k : Int) (w : World) : Calls Try.prog 46 #[.int .i64 k] w (Ret (.int .i64 (arityV k)) w) := by
  by_cases h1 : k = 1
  · subst h1
    go_enter Try.func46, Try.ntmps46
    go_wp2_with fail
    go_ret
    exact Ret.mk rfl (Below.refl _ _)
  by_cases h2 : k = 2
  · subst h2
    go_enter Try.func46, Try.ntmps46
    go_wp2_with fail
    go_ret
    exact Ret.mk rfl (Below.refl _ _)
  by_cases h3 : k = 3
  · subst h3
    go_enter Try.func46, Try.ntmps46
    go_wp2_with fail
    go_ret
    exact Ret.mk rfl (Below.refl _ _)
  by_cases h4 : k = 4
  · subst h4
    go_enter Try.func46, Try.ntmps46
    go_wp2_with fail
    go_ret
    exact Ret.mk rfl (Below.refl _ _)
  by_cases h5 : k = 5
  · subst h5
    go_enter Try.func46, Try.ntmps46
    go_wp2_with fail
    go_ret
    exact Ret.mk rfl (Below.refl _ _)
  by_cases h6 : k = 6
  · subst h6
    go_enter Try.func46, Try.ntmps46
    go_wp2_with fail
    go_ret
    exact Ret.mk rfl (Below.refl _ _)
  by_cases h7 : k = 7
  · subst h7
    go_enter Try.func46, Try.ntmps46
    go_wp2_with fail
    go_ret
    exact Ret.mk rfl (Below.refl _ _)
  by_cases h8 : k = 8
  · subst h8
    go_enter Try.func46, Try.ntmps46
    go_wp2_with fail
    go_ret
    exact Ret.mk rfl (Below.refl _ _)
  by_cases h9 : k = 9
  · subst h9
    go_enter Try.func46, Try.ntmps46
    go_wp2_with fail
    go_ret
    exact Ret.mk rfl (Below.refl _ _)
  by_cases h10 : k = 10
  · subst h10
    go_enter Try.func46, Try.ntmps46
    go_wp2_with fail
    go_ret
    exact Ret.mk rfl (Below.refl _ _)
  have e1 : (k == 1) = false := by simpa using h1
  have e2 : (k == 2) = false := by simpa using h2
  have e3 : (k == 3) = false := by simpa using h3
  have e4 : (k == 4) = false := by simpa using h4
  have e5 : (k == 5) = false := by simpa using h5
  have e6 : (k == 6) = false := by simpa using h6
  have e7 : (k == 7) = false := by simpa using h7
  have e8 : (k == 8) = false := by simpa using h8
  have e9 : (k == 9) = false := by simpa using h9
  have e10 : (k == 10) = false := by simpa using h10
  have E := hid (show arityV k = -1 by unfold arityV; rw [if_neg (by omega), if_neg (by omega), if_neg (by omega)])
  clear h1 h2 h3 h4 h5 h6 h7 h8 h9 h10
  go_enter Try.func46, Try.ntmps46
  go_wp2_with fail
  go_ret
  exact Ret.mk (int_val E.out.symm) (Below.refl _ _)

def ShT (t : Tr) : Prop := ∀ (w : World) (x : Value) (d : Int), TrIn Any w t x → -1 ≤ d → d ≤ 6 → Calls Try.prog 47 #[x, .int .i64 d] w (Ret (.bool (formL.shape t d)) w)

/-- the test of a node's number, as the text has it -/
theorem most_cases (k v : Int) : (v < 0 ∨ 3 ≤ v ∨ (k ≠ 2 ∧ v ≠ 0)) ↔ ¬(0 ≤ v ∧ v ≤ formL.most k) := by
  rw [ formL_most ]
  by_cases h : k = 2
  · rw [if_pos h]; omega
  · rw [if_neg h]; omega

set_option maxHeartbeats 1000000 in
theorem shT_of (k v : Int) (kids : List Tr) (h : ∀ t, t ∈ kids → ShT t) : ShT (.mk k v kids) := by
  intro w x d hx hd1 hd2
  rw [TrIn_mk] at hx
  obtain ⟨a, n, c, rfl, hk, hv, rfl, hc, hc2, hks⟩ := hx
  by_cases hd : d < 1
  · have E := hid (show formL.shape (.mk k v kids) d = false by simp only [Lang.shape]; rw [decide_eq_false (by omega), Bool.false_and])
    have hd' : decide (d < 1) = true := by simpa using hd
    go_enter Try.func47, Try.ntmps47
    go_wp2_with fail
    refine wp_region_below (by kernel_rfl) (by kernel_rfl) ?_; (repeat (go_big_quiet_step ((fail)))); refine wpQuiet_nil ?_
    intro w1 hb
    go_wp2_with fail
    go_ret
    exact Ret.mk (bool_val E.out.symm) (below_next (below_alloc _ _) hb)
  have E0 := hid (show formL.shape (.mk k v kids) d = (formL.okB k v kids.length && formL.shapeL kids (d - 1)) by simp only [Lang.shape]; rw [decide_eq_true (by omega), Bool.true_and])
  have hd' : decide (d < 1) = false := by simpa using hd
  by_cases hn : (kids.length : Int) = arityV k
  · have hn1 : ((kids.length : Int) != arityV k) = false := by simpa using hn
    have HN := hid hn; clear hn
    have hno : v < 0 ∨ 3 ≤ v ∨ (k ≠ 2 ∧ v ≠ 0) → formL.shape (.mk k v kids) d = false := fun hh => by
      rw [E0.out, arityV_ok, decide_eq_false ((most_cases k v).1 hh)]; simp
    have HNO := hid hno; clear hno
    go_enter Try.func47, Try.ntmps47
    go_wp2_with fail
    refine wp_region_below (by kernel_rfl) (by kernel_rfl) ?_; (repeat (go_big_quiet_step ((go_at_call 46; exact Calls.over (arity_any _ _))))); refine wpQuiet_nil ?_
    intro w1 hb
    have b1 := box3_next hb (box3_new ..)
    have B := below_next (below_alloc ..) hb
    clear hb
    by_cases hv0 : v < 0
    · have E := hid (HNO.out (.inl hv0)); clear HNO
      go_wp2_with fail
      go_ret
      exact Ret.mk (bool_val E.out.symm) B
    by_cases hv1 : 3 ≤ v
    · have E := hid (HNO.out (.inr (.inl hv1))); clear HNO
      go_wp2_with fail
      go_ret
      exact Ret.mk (bool_val E.out.symm) B
    by_cases hv2 : k ≠ 2 ∧ v ≠ 0
    · have E := hid (HNO.out (.inr (.inr hv2))); clear HNO
      have e1 : (k != 2) = true := by simpa using hv2.1
      have e2 : (v != 0) = true := by simpa using hv2.2
      clear hv2
      go_wp2_with fail
      go_ret
      exact Ret.mk (bool_val E.out.symm) B
    have E := hid (show formL.shape (.mk k v kids) d = formL.shapeL kids (d - 1) by
      rw [E0.out, arityV_ok, decide_eq_true HN.out, decide_eq_true]
      · simp
      · apply Decidable.byContradiction
        intro hh
        rcases (most_cases k v).2 hh with h1 | h1 | h1
        · exact hv0 h1
        · exact hv1 h1
        · exact hv2 h1)
    have hv3 : ((k != 2) && (v != 0)) = false := by
      cases h1 : (k != 2) with
      | false => rfl
      | true =>
        cases h2 : (v != 0) with
        | false => rfl
        | true => exact absurd ⟨by simpa using h1, by simpa using h2⟩ hv2
    clear hv2 HNO
    unfold maxLen at hc2
    cases h1 : (k != 2) with
    | false =>
      clear hv3
      go_wp2_with fail
      go_loopw [5] (fun i wr => ∃ j : Nat, j ≤ kids.length ∧ i = .int .i64 j ∧ Below w.heap.size w wr ∧ Box3 wr w.heap.size (.int .i64 k) (.int .i64 v) (.slice a kids.length c) ∧ Hid (formL.shapeL (kids.drop j) (d - 1) = formL.shapeL kids (d - 1)))
        (fun i _ => kids.length - (intOf i).toNat)
      case atStart => exact ⟨0, Nat.zero_le _, rfl, B, b1, hid rfl⟩
      case round =>
        clear B b1
        obtain ⟨j, hj, rfl, B, b1, hr⟩ := hrel
        by_cases hlt : j < kids.length
        · obtain ⟨b, o, c0, c1, c2, t, rfl, gb, g0, g1, g2, hT⟩ := TrsIn_round hks B hlt
          have HR2 := hr.out
          rw [hT.out.2.2.1] at HR2
          simp only [Lang.shapeL] at HR2
          have HR := hid HR2; clear HR2
          go_wp2_with fail
          refine (h t hT.out.2.1 _ _ (d - 1) hT.out.1 (by omega) (by omega)).mono ?_
          rintro e w2 ⟨rfl, hb⟩
          replace b1 := box3_next hb b1
          replace B := below_next B hb
          clear hb
          cases hq : formL.shape t (d - 1) with
          | true =>
            have HR3 := HR.out
            rw [hq, Bool.true_and] at HR3
            have HR4 := hid HR3; clear HR3 hq
            go_wp2_with fail
            go_roundw
            case rel => exact ⟨j + 1, by omega, by go_num, B, b1, HR4⟩
            case measure => simp [intOf]; omega
          | false =>
            have HR3 := HR.out
            rw [hq, Bool.false_and] at HR3
            have HR4 := hid HR3; clear HR3 hq
            go_wp2_with fail
            go_ret
            exact Ret.mk (bool_val (HR4.out.trans E.out.symm)) B
        · have HR2 := hr.out
          rw [List.drop_of_length_le (by omega)] at HR2
          have HR := hid HR2; clear HR2
          go_wp2_with fail
          go_ret
          exact Ret.mk (bool_val (HR.out.trans E.out.symm)) B
    | true =>
      rw [h1, Bool.true_and] at hv3
      go_wp2_with fail
      go_loopw [5] (fun i wr => ∃ j : Nat, j ≤ kids.length ∧ i = .int .i64 j ∧ Below w.heap.size w wr ∧ Box3 wr w.heap.size (.int .i64 k) (.int .i64 v) (.slice a kids.length c) ∧ Hid (formL.shapeL (kids.drop j) (d - 1) = formL.shapeL kids (d - 1)))
        (fun i _ => kids.length - (intOf i).toNat)
      case atStart => exact ⟨0, Nat.zero_le _, rfl, B, b1, hid rfl⟩
      case round =>
        clear B b1
        obtain ⟨j, hj, rfl, B, b1, hr⟩ := hrel
        by_cases hlt : j < kids.length
        · obtain ⟨b, o, c0, c1, c2, t, rfl, gb, g0, g1, g2, hT⟩ := TrsIn_round hks B hlt
          have HR2 := hr.out
          rw [hT.out.2.2.1] at HR2
          simp only [Lang.shapeL] at HR2
          have HR := hid HR2; clear HR2
          go_wp2_with fail
          refine (h t hT.out.2.1 _ _ (d - 1) hT.out.1 (by omega) (by omega)).mono ?_
          rintro e w2 ⟨rfl, hb⟩
          replace b1 := box3_next hb b1
          replace B := below_next B hb
          clear hb
          cases hq : formL.shape t (d - 1) with
          | true =>
            have HR3 := HR.out
            rw [hq, Bool.true_and] at HR3
            have HR4 := hid HR3; clear HR3 hq
            go_wp2_with fail
            go_roundw
            case rel => exact ⟨j + 1, by omega, by go_num, B, b1, HR4⟩
            case measure => simp [intOf]; omega
          | false =>
            have HR3 := HR.out
            rw [hq, Bool.false_and] at HR3
            have HR4 := hid HR3; clear HR3 hq
            go_wp2_with fail
            go_ret
            exact Ret.mk (bool_val (HR4.out.trans E.out.symm)) B
        · have HR2 := hr.out
          rw [List.drop_of_length_le (by omega)] at HR2
          have HR := hid HR2; clear HR2
          go_wp2_with fail
          go_ret
          exact Ret.mk (bool_val (HR.out.trans E.out.symm)) B
  · have hn1 : ((kids.length : Int) != arityV k) = true := by simpa using hn
    have E := hid (show formL.shape (.mk k v kids) d = false by rw [E0.out, arityV_ok, decide_eq_false hn]; simp)
    clear hn
    go_enter Try.func47, Try.ntmps47
    go_wp2_with fail
    refine wp_region_below (by kernel_rfl) (by kernel_rfl) ?_; (repeat (go_big_quiet_step ((go_at_call 46; exact Calls.over (arity_any _ _))))); refine wpQuiet_nil ?_
    intro w1 hb
    go_wp2_with fail
    go_ret
    exact Ret.mk (bool_val E.out.symm) (below_next (below_alloc _ _) hb)

theorem shape_any : ∀ t, ShT t := fun t => Tr.ind (fun k v kids ih => shT_of k v kids ih) t

end Formula
end Go.Proofs.Ytkjnmkjdooebmaa
namespace Go.Proofs.Ytkjnmkjdooebmaa
open Go.RowKit
namespace Formula

def RandT (d : Nat) (K : Nat) (M : Int) : Prop := ∀ (w : World) (R B p : Nat), Rd B w R p → p + K ≤ 1000000 → Calls Try.prog 27 #[.pointer (some ⟨R, 0, none⟩), .int .i64 d] w (DrawPost B K M R p w)

set_option maxRecDepth 100000 in
set_option maxHeartbeats 1000000 in
theorem rand1 : RandT 1 3 1 := by
  intro w R B p hr hp
  have hB := hr.lt
  go_enter Try.func27, Try.ntmps27
  go_wp2_with fail
  refine (pick_any B _ _ R p (hr.next (below_alloc _ _)) (by omega) (by omega) (by omega)).mono ?_
  rintro e w1 ⟨i, rfl, _, hb1, hr1⟩
  have c4 := box3_butx (ButX.but (B := w.heap.size + 1) hb1 (by simp)) (by omega) (by omega) (box3_new w (.int .i64 0) (.int .i64 0) (.slice none 0 0) 30)
  have c4l : w.heap.size < w1.heap.size := c4.1
  have B1 : But w R w1 := (But.of (below_alloc w _)).trans hb1
  clear hb1
  by_cases hi : i = 0
  · subst hi
    go_wp2_with fail
    refine (true_any _).mono ?_
    rintro e w2 ⟨v, rfl, hn, hb2⟩
    obtain ⟨a1, n1, hv⟩ := TrIn_shape hn.any
    obtain rfl : v = .agg #[.int .i64 1, .int .i64 0, .slice a1 0 n1] := hv
    have c4 := box3_next hb2 c4
    have hs1 := B1.size
    have hf := hid (fun u0 u1 u2 => DrawPost.ret (w := w) (K := 3) (M := 1) hn c4l (by decide) (B1.next hb2) (hr1.next hb2) (p := p) (by omega) hB.2 u0 u1 u2)
    clear hn hr1 B1 hb2
    go_wp2_with fail
    refine bodyPost_ret (v := .agg #[.int .i64 1, .int .i64 0, .slice a1 0 n1]) (by simp [results, Try.results27, go_sem, c4]) rfl ?_
    exact hf.out _ _ _
  · have hi2 : (i == 0) = false := by simpa using hi
    go_wp2_with fail
    refine (num_new [0, 1, 0, 2] 0 2 (by simp) (by decide) (by decide) B w1 _ R (p + 1) hr1 (by omega)).mono ?_
    rintro e w2 ⟨n, rfl, ⟨hn1, hn2⟩, hb2, hr2⟩
    have c4 := box3_but hb2 (by omega) (box3_next (below_alloc _ _) c4)
    have B2 := (B1.next (below_alloc _ _)).trans hb2
    have hf := hid (fun u0 u1 u2 => DrawPost.ret (w := w) (K := 3) (M := 1) (leaf_new (w.heap.size + 1) w2 (k := 2) (v := n) (by unfold i64; omega) (by unfold i64; omega)) (by omega) (by simp [nodes, nodesL]) B2 hr2 (p := p) (by omega) hB.2 u0 u1 u2)
    clear hr2 B2 hb2 hr1 B1
    go_wp2_with fail
    refine bodyPost_ret (v := .agg #[.int .i64 2, .int .i64 n, .slice none 0 0]) (by simp [results, Try.results27, go_sem, c4]) rfl ?_
    exact hf.out _ _ _

set_option maxRecDepth 100000 in
set_option maxHeartbeats 4000000 in
theorem randS (d K : Nat) (M : Int) (h : RandT d K M) (hM : 1 ≤ M) (hd : 1 ≤ d) (hd3 : d ≤ 10) : RandT (d + 1) (2 * K + 3) (2 * M + 1) := by
  intro w R B p hr hp
  have hB := hr.lt
  have hd2 : ¬ (((d + 1 : Nat) : Int) < 2) := by omega
  have hM1 : nodes (.mk 1 0 []) ≤ 2 * M + 1 := by simp only [nodes, nodesL]; omega
  go_enter Try.func27, Try.ntmps27
  go_wp2_with fail
  refine (pick_any B _ _ R p (hr.next (below_alloc _ _)) (by omega) (by omega) (by omega)).mono ?_
  rintro e w1 ⟨i, rfl, _, hb1, hr1⟩
  have c4 := box3_butx ((ButX.but (B := w.heap.size + 1) hb1 (by simp))) (by omega) (by omega) (box3_new w (.int .i64 0) (.int .i64 0) (.slice none 0 0) 30)
  have c4l : w.heap.size < w1.heap.size := c4.1
  have B1 : But w R w1 := (But.of (below_alloc w _)).trans hb1
  clear hb1
  by_cases hi : i = 0
  · subst hi
    go_wp2_with fail
    refine (pick_any B _ _ R (p + 1) hr1 (by omega) (by omega) (by omega)).mono ?_
    rintro e w1' ⟨i', rfl, _, hb1, hr2'⟩
    replace c4 := box3_but hb1 (by omega) c4
    have c4l' : w.heap.size < w1'.heap.size := c4.1
    have B1' : But w R w1' := B1.trans hb1
    clear hb1 hr1 B1
    by_cases hi' : i' = 0
    · subst hi'
      go_wp2_with fail
      refine (true_any _).mono ?_
      rintro e w2 ⟨v, rfl, hn, hb2⟩
      obtain ⟨a1, n1, hv⟩ := TrIn_shape hn.any
      obtain rfl : v = .agg #[.int .i64 1, .int .i64 0, .slice a1 0 n1] := hv
      have c4 := box3_next hb2 c4
      have hs1 := B1'.size
      have hf := hid (fun u0 u1 u2 => DrawPost.ret (w := w) (K := 2 * K + 3) (M := 2 * M + 1) hn c4l' hM1 (B1'.next hb2) (hr2'.next hb2) (p := p) (by omega) hB.2 u0 u1 u2)
      clear hn hr2' B1' hb2
      go_wp2_with fail
      refine bodyPost_ret (v := .agg #[.int .i64 1, .int .i64 0, .slice a1 0 n1]) (by simp [results, Try.results27, go_sem, c4]) rfl ?_
      exact hf.out _ _ _
    · have hi2 : (i' == 0) = false := by simpa using hi'
      go_wp2_with fail
      refine (num_new [0, 1, 0, 2] 0 2 (by simp) (by decide) (by decide) B w1' _ R (p + 1 + 1) hr2' (by omega)).mono ?_
      rintro e w2 ⟨n, rfl, ⟨hn1, hn2⟩, hb2, hr2⟩
      have c4 := box3_but hb2 (by omega) (box3_next (below_alloc _ _) c4)
      have B2 := (B1'.next (below_alloc _ _)).trans hb2
      have hf := hid (fun u0 u1 u2 => DrawPost.ret (w := w) (K := 2 * K + 3) (M := 2 * M + 1) (leaf_new (w.heap.size + 1) w2 (k := 2) (v := n) (by unfold i64; omega) (by unfold i64; omega)) (by omega) (by simp only [nodes, nodesL]; omega) B2 hr2 (p := p) (by omega) hB.2 u0 u1 u2)
      clear hr2 B2 hb2 hr2' B1'
      go_wp2_with fail
      refine bodyPost_ret (v := .agg #[.int .i64 2, .int .i64 n, .slice none 0 0]) (by simp [results, Try.results27, go_sem, c4]) rfl ?_
      exact hf.out _ _ _

  · have hi2 : (i == 0) = false := by simpa using hi
    go_wp2_with fail
    refine (num_new [7, 9, 10, 3, 4, 5, 6, 8] 3 10 (by simp) (by decide) (by decide) B w1 _ R (p + 1) hr1 (by omega)).mono ?_
    rintro e w2 ⟨k, rfl, ⟨hk1, hk2⟩, hb2, hr2⟩
    replace c4 := box3_but hb2 (by omega) (box3_next (below_alloc _ _) c4)
    have B2 := (B1.next (below_alloc _ _)).trans hb2
    have c4l2 : w.heap.size < w2.heap.size := c4.1
    clear hb2 hr1 B1
    go_wp2_with fail
    have cF : Box3 (w2.alloc (.cells #[.int .i64 k, .int .i64 0, .slice none 0 0] 30)) w2.heap.size (.int .i64 k) (.int .i64 0) (.slice none 0 0) := box3_new ..
    have hA : 1 ≤ arityV k ∧ arityV k ≤ 2 := by unfold arityV; split; omega; split; omega; split; omega; omega
    refine (arity_any k _).mono ?_
    rintro e w3 ⟨rfl, hb3⟩
    replace cF := box3_next hb3 cF
    replace c4 := box3_next hb3 (box3_next (below_alloc _ _) c4)
    replace B2 := (B2.next (below_alloc _ _)).next hb3
    replace hr2 := (hr2.next (below_alloc _ _)).next hb3
    clear hb3
    generalize arityV k = A at *
    go_wp2_with fail
    go_loopw [6] (fun i wr => ∃ (j : Nat) (u : Value) (l : List Tr) (p1 : Nat), i = .int .i64 (A - j) ∧ l.length = j ∧ ((j = 0 ∧ nodesL l ≤ 0 ∧ p1 ≤ p + 2) ∨ (j = 1 ∧ nodesL l ≤ M ∧ p1 ≤ p + 2 + K) ∨ (j = 2 ∧ nodesL l ≤ 2 * M ∧ p1 ≤ p + 2 + 2 * K)) ∧ (j : Int) ≤ A ∧
      But w R wr ∧ Box3 wr w.heap.size (.int .i64 0) (.int .i64 0) (.slice none 0 0) ∧ Box3 wr w2.heap.size (.int .i64 k) (.int .i64 0) u ∧ OwnRow (w2.heap.size + 1) 30 u l wr ∧ Rd B wr R p1) (fun i _ => (intOf i).toNat)
    case atStart => exact ⟨0, .slice none 0 0, [], p + 2, by simp, rfl, .inl ⟨rfl, by simp [nodesL], by omega⟩, by omega, B2, c4, cF, OwnRow.nil _ _ _, hr2⟩
    case round =>
      clear B2 c4 cF hr2
      obtain ⟨j, u, l, p1, rfl, hl, hbd, hjA, B2, c4, cF, ho, hr2⟩ := hrel
      by_cases hlt : (j : Int) < A
      · have hgt : A - (j : Int) > 0 := by omega
        have cF' := cF
        obtain ⟨q0, q1, q2, q3, q4, q5, q6⟩ := cF'
        have f0 : ∀ x, (wr.overX (w2.heap.size + 1) R x).cell? ⟨w2.heap.size, 2, none⟩ = some u := fun x => by rw [overX_cell _ _ _ _ _ _ (by omega) (by omega)]; exact q3
        go_wp2_with fail
        refine wp_region_tail (C := fun wZ => ∃ xZ, wZ = World.overX _ (w2.heap.size + 1) (R) xZ) [0,1,2,3,4] [5,6,7,8,9] (9) (by kernel_rfl) (by kernel_rfl) (fun d _ _ _ _ h => by cases d <;> exact h) (ButX.refl _ _ _).drew.ex ?_; simp only [pick, List.getElem?_cons_succ, List.getElem?_cons_zero]; (repeat (go_big_quiet_step (fail))); refine wpQuiet_nil ?_; simp only [tailW]
        go_wp2_with fail
        refine (h wr.drew R B p1 (hr2.next (below_d (Below.refl _ _))) (by omega)).mono ?_
        rintro e w4 ⟨v, t, p2, rfl, hn, hnt, hb4, hr4, hp2⟩
        obtain ⟨a1, n1, rfl⟩ := TrIn_shape hn.any
        have x4 : ButX (w2.heap.size + 1) R wr w4 := (ButX.refl _ _ wr).drew.trans (ButX.but hb4 q0)
        go_wp2_with fail
        refine ⟨x4.ex, ?_⟩
        go_wp2_with fail
        have s4 := x4.size
        refine ⟨(x4.next (below_alloc _ _) (by omega)).ex, ?_⟩
        refine wp_append_node rfl (.tmp 34) (.tmp 39) 28 rfl 30 Try.underlying28 rowInfo (by rfl) (by rfl) (by intro x hx; simp at hx; rcases hx with rfl | rfl | rfl <;> rfl) ho q0
          ((Keep.drew wr).trans (Keep.but hb4 (by omega))) (Nat.le_refl _) hn (by omega) ?_
        intro a2 n2 m2 w5 ho5 hb5 _ _
        have x5 : ButX (w2.heap.size + 1) R wr w5 := x4.trans (ButX.ofB hb5)
        have c4' := box3_butx x5 (by omega) (by omega) c4
        have cF' := box3_butx x5 (by omega) (by omega) cF
        have hr5 : Rd B w5 R p2 := hr4.keep hb5.size fun b hb => hb5.block b (by omega)
        have B5 : But w R w5 := ⟨x5.os.trans B2.os, x5.tape.trans B2.tape, x5.output.trans B2.output, Nat.le_trans B2.size x5.size, fun k hk hd => (x5.block k (by omega) hd).trans (B2.block k hk hd)⟩
        have HO := hid ho5
        have hl5 : (l ++ [t]).length = j + 1 := by simp [hl]
        have hn5 : nodesL (l ++ [t]) ≤ nodesL l + M := by rw [nodesL_snoc]; omega
        have hxx := x5.ex
        clear ho ho5 hn hb4 hb5 x4 x5 f0 q0 q1 q2 q3 q4 q5 q6 hr4 hr2 B2 c4 cF
        have cF := cF'
        obtain ⟨q0, q1, q2, q3, q4, q5, q6⟩ := cF'
        refine ⟨hxx, ?_⟩
        go_wp2_with fail
        refine ⟨hxx, ?_⟩
        go_wp2_with fail
        go_roundw
        case rel => exact ⟨j + 1, .slice a2 n2 m2, l ++ [t], p2, by go_num, hl5, by omega, by omega, But.setNew B5 (by simp; omega) _, box3_but (But.set w5 w2.heap.size 2 _) (by omega) c4', box3_set2 cF _, HO.out.keep (Keep.set _ (by simp) _), hr5.set (by simp; omega) _⟩
        case measure => simp [intOf]; omega
      · obtain ⟨a2, n2, m2, rfl⟩ : ∃ a2 n2 m2, u = .slice a2 n2 m2 := by obtain ⟨a2, m2, h2, _⟩ := ho.shape; exact ⟨_, _, _, h2⟩
        have hgt : ¬ (A - (j : Int) > 0) := by omega
        have hf := hid (fun u0 u1 u2 => DrawPost.ret (w := w) (K := 2 * K + 3) (M := 2 * M + 1) (ho.node (k := k) (v := 0) (by unfold i64; omega) (by unfold i64; omega)) (by omega) (by simp only [nodes]; omega) B2 hr2 (p := p) (by omega) hB.2 u0 u1 u2)
        clear hr2 B2 ho
        go_wp2_with fail
        refine bodyPost_ret (v := .agg #[.int .i64 k, .int .i64 0, .slice a2 n2 m2]) (by simp [results, Try.results27, go_sem, c4]) rfl ?_
        exact hf.out _ _ _

theorem rand_any : RandT 4 45 31 := by
  have h2 := randS 1 3 1 rand1 (by omega) (by omega) (by omega)
  have h3 := randS 2 _ _ h2 (by omega) (by omega) (by omega)
  have h4 := randS 3 _ _ h3 (by omega) (by omega) (by omega)
  intro w R B p hr hp
  refine (h4 w R B p hr (by omega)).mono ?_
  rintro e w' ⟨v, t, p', rfl, hn, hm, hb, hr', hp'⟩
  exact ⟨v, t, p', rfl, hn, by omega, hb, hr', by omega⟩
theorem rand_le (d : Int) (h1 : 2 ≤ d) (h2 : d ≤ 4) (w : World) (R B p : Nat) (hr : Rd B w R p) (hp : p + 45 ≤ 1000000) : Calls Try.prog 27 #[.pointer (some ⟨R, 0, none⟩), .int .i64 d] w (DrawPost B 45 31 R p w) := by
  have h2' := randS 1 3 1 rand1 (by omega) (by omega) (by omega)
  have h3' := randS 2 _ _ h2' (by omega) (by omega) (by omega)
  have hw : ∀ {K M w' e}, K ≤ 45 → M ≤ 31 → DrawPost B K M R p w e w' → DrawPost B 45 31 R p w e w' := by
    rintro K M w' e hK hM ⟨v, t, p', rfl, hn, hm, hb, hr', hp'⟩
    exact ⟨v, t, p', rfl, hn, by omega, hb, hr', by omega⟩
  rcases (by omega : d = 2 ∨ d = 3 ∨ d = 4) with rfl | rfl | rfl
  · exact (h2' w R B p hr (by omega)).mono fun e w' h => hw (by omega) (by omega) h
  · exact (h3' w R B p hr (by omega)).mono fun e w' h => hw (by omega) (by omega) h
  · exact rand_any w R B p hr hp

end Formula
end Go.Proofs.Ytkjnmkjdooebmaa
namespace Go.Proofs.Ytkjnmkjdooebmaa
open Go.RowKit
namespace Formula

def CntT (t : Tr) : Prop := ∀ (w : World) (x : Value) (d : Int), TrIn Any w t x → 0 ≤ d → d ≤ 6 → nodes t ≤ 1000 → Calls Try.prog 48 #[x, .int .i64 d] w (Ret (.int .i64 (cnt t d)) w)

set_option maxHeartbeats 1000000 in
theorem cntT_of (k v : Int) (kids : List Tr) (h : ∀ t, t ∈ kids → CntT t) : CntT (.mk k v kids) := by
  intro w x d hx hd1 hd2 hn
  rw [TrIn_mk] at hx
  obtain ⟨a, n, c, rfl, hk, hv, rfl, hc, hc2, hks⟩ := hx
  unfold maxLen at hc2
  have hbnd := cnt_le_nodesL kids (d - 1)
  simp only [nodes] at hn
  have E := hid (show cnt (.mk k v kids) d = 1 + if 0 < d then cntL kids (d - 1) else 0 by simp only [cnt])
  by_cases hd : 0 < d
  · go_enter Try.func48, Try.ntmps48
    go_wp2_with fail
    go_loopw [5, 6] (fun s i wr => ∃ (j : Nat) (m : Int), j ≤ kids.length ∧ s = .int .i64 m ∧ i = .int .i64 j ∧ 1 ≤ m ∧ m ≤ 1001 ∧ Below w.heap.size w wr ∧ w.heap.size < wr.heap.size ∧ wr.cell? ⟨w.heap.size, 2, none⟩ = some (.slice a kids.length c) ∧ Hid (m + cntL (kids.drop j) (d - 1) = 1 + cntL kids (d - 1)))
      (fun _ i _ => kids.length - (intOf i).toNat)
    case atStart => exact ⟨0, 1, Nat.zero_le _, rfl, rfl, by omega, by omega, (by repeat (first | exact Below.refl _ _ | assumption | refine below_a ?_ _ | refine below_o ?_ _ | refine below_d ?_ | refine below_n ?_ _ | refine below_s ?_ (by first | (simp; done) | (simp; omega) | omega) _)), by simp, by simp [go_sem], hid rfl⟩
    case round =>
      obtain ⟨j, m, hj, rfl, rfl, hm1, hm2, hb, hsz, q2, hr⟩ := hrel
      by_cases hlt : j < kids.length
      · obtain ⟨b, o, c0, c1, c2, t, rfl, gb, g0, g1, g2, hT⟩ := TrsIn_round hks hb hlt
        have HR2 := hr.out
        rw [hT.out.2.2.1] at HR2
        simp only [cntL] at HR2
        have hp := cntL_pos (kids.drop (j + 1)) (d - 1)
        have hp2 := cnt_pos t (d - 1)
        have hm3 : m + cnt t (d - 1) ≤ 1001 := by omega
        have HR := hid (show m + cnt t (d - 1) + cntL (kids.drop (j + 1)) (d - 1) = 1 + cntL kids (d - 1) by omega); clear HR2
        have htn : nodes t ≤ 1000 := by have := nodes_mem hT.out.2.1; omega
        clear hp
        go_wp2_with fail
        refine (h t hT.out.2.1 _ _ (d - 1) hT.out.1 (by omega) (by omega) htn).mono ?_
        rintro e w2 ⟨rfl, hby⟩
        obtain ⟨y, rfl⟩ := bex hby
        clear hby
        go_wp2_with fail
        go_roundw
        case rel => exact ⟨j + 1, m + cnt t (d - 1), by omega, rfl, by go_num, by omega, hm3, (by repeat (first | exact Below.refl _ _ | assumption | refine below_a ?_ _ | refine below_o ?_ _ | refine below_d ?_ | refine below_n ?_ _ | refine below_s ?_ (by first | (simp; done) | (simp; omega) | omega) _)), by simp [go_sem, hsz], by simp [go_sem, hsz, q2], HR⟩
        case measure => simp [intOf]; omega
      · have HR2 := hr.out
        rw [List.drop_of_length_le (by omega)] at HR2
        simp only [cntL] at HR2
        have HR := hid (show m = cnt (.mk k v kids) d by rw [E.out, if_pos hd]; omega); clear HR2
        go_wp2_with fail
        go_ret
        exact Ret.mk (int_val HR.out) hb
  · have E2 := hid (show cnt (.mk k v kids) d = 1 by rw [E.out, if_neg hd]; omega)
    go_enter Try.func48, Try.ntmps48
    go_wp2_with fail
    go_loopw [5, 6] (fun s i wr => s = .int .i64 1 ∧ i = .int .i64 0 ∧ Below w.heap.size w wr ∧ w.heap.size < wr.heap.size ∧ wr.cell? ⟨w.heap.size, 2, none⟩ = some (.slice a kids.length c)) (fun _ _ _ => 0)
    case atStart => exact ⟨rfl, rfl, (by repeat (first | exact Below.refl _ _ | assumption | refine below_a ?_ _ | refine below_o ?_ _ | refine below_d ?_ | refine below_n ?_ _ | refine below_s ?_ (by first | (simp; done) | (simp; omega) | omega) _)), by simp, by simp [go_sem]⟩
    case round =>
      obtain ⟨rfl, rfl, hb, hsz, q2⟩ := hrel
      by_cases hlt : 0 < kids.length
      all_goals
        go_wp2_with fail
        go_ret
        exact Ret.mk (int_val E2.out.symm) hb

theorem cnt_any : ∀ t, CntT t := fun t => Tr.ind (fun k v kids ih => cntT_of k v kids ih) t

set_option maxHeartbeats 400000 in
/-- the reference's FormulaValid -/
theorem specValid_any (t : Tr) (w : World) (x : Value) (hx : TrIn Any w t x) : Calls Try.prog 28 #[x] w (Ret (.bool (formL.valid t)) w) := by
  have hx0 := hx
  obtain ⟨a, c, rfl⟩ := TrIn_shape hx
  have E := hid (formL.valid_cnt t)
  cases hs : formL.shape t 6 with
  | false =>
    have E2 := E.out
    rw [hs, Bool.false_and] at E2
    have E3 := hid E2; clear E2
    go_enter Try.func28, Try.ntmps28
    go_wp2_with fail
    refine (shape_any t _ _ 6 (TrIn_alloc hx _) (by omega) (by omega)).mono ?_
    rintro e w2 ⟨rfl, hby⟩
    obtain ⟨y, rfl⟩ := bex hby
    clear hby
    rw [hs]
    clear hs
    go_wp2_with fail
    go_ret
    exact Ret.mk (bool_val E3.out.symm) (by repeat (first | exact Below.refl _ _ | assumption | refine below_a ?_ _ | refine below_o ?_ _ | refine below_d ?_ | refine below_n ?_ _ | refine below_s ?_ (by first | (simp; done) | (simp; omega) | omega) _))
  | true =>
    have E2 := E.out
    rw [hs, Bool.true_and] at E2
    have E3 := hid E2; clear E2
    have hn : nodes t ≤ 1000 := by have := Lang.nodes_cap formL formL_two t 6 hs; rw [Lang.cap6] at this; omega
    go_enter Try.func28, Try.ntmps28
    go_wp2_with fail
    refine (shape_any t _ _ 6 (TrIn_alloc hx _) (by omega) (by omega)).mono ?_
    rintro e w2 ⟨rfl, hby⟩
    obtain ⟨y, rfl⟩ := bex hby
    clear hby
    rw [hs]
    clear hs
    go_wp2_with fail
    refine (cnt_any t _ _ 6 (TrIn_over (TrIn_alloc hx _) _) (by omega) (by omega) hn).mono ?_
    rintro e w3 ⟨rfl, hby⟩
    obtain ⟨y2, rfl⟩ := bex hby
    clear hby
    go_wp2_with fail
    all_goals go_ret
    all_goals refine Ret.mk (bool_val ?_) (by repeat (first | exact Below.refl _ _ | assumption | refine below_a ?_ _ | refine below_o ?_ _ | refine below_d ?_ | refine below_n ?_ _ | refine below_s ?_ (by first | (simp; done) | (simp; omega) | omega) _))
    all_goals rw [E3.out]
    all_goals rfl

end Formula
end Go.Proofs.Ytkjnmkjdooebmaa
namespace Go.Proofs.Ytkjnmkjdooebmaa
open Go.RowKit
namespace Formula

/-- what a call of l5Formula comes to: a new, valid tree -/
def FormPost (B : Nat) (R p : Nat) (w : World) (e : Ending) (w' : World) : Prop :=
  ∃ v t p', e = .returned v ∧ NewTr w.heap.size t v w' ∧ nodes t ≤ 31 ∧ formL.valid t = true ∧ But w R w' ∧ Rd B w' R p' ∧ p' ≤ p + 46
theorem FormPost.ret {B : Nat} {R p p' N : Nat} {w W : World} {t : Tr} {x : Value} (hn : NewTr N t x W) (hN : w.heap.size < N) (hM : nodes t ≤ 31) (hv : formL.valid t = true) (hb : But w R W) (hr : Rd B W R p') (hp : p' ≤ p + 46) (hB : B ≤ w.heap.size) (u0 u1 u2 : Value) :
    FormPost B R p w (.returned x) (((W.setCell ⟨w.heap.size, 0, none⟩ u0).setCell ⟨w.heap.size, 1, none⟩ u1).setCell ⟨w.heap.size, 2, none⟩ u2) :=
  ⟨x, t, p', rfl, (hn.keep (((Keep.set _ hN _).trans (Keep.set _ hN _)).trans (Keep.set _ hN _))).mono (Nat.le_of_lt hN), hM, hv, But.setNew (But.setNew (But.setNew hb (Nat.le_refl _) _) (Nat.le_refl _) _) (Nat.le_refl _) _,
    ((hr.set hB _).set hB _).set hB _, hp⟩

set_option maxRecDepth 100000 in
set_option maxHeartbeats 1000000 in
theorem form_any (w : World) (R B p : Nat) (hr : Rd B w R p) (hp : p + 46 ≤ 1000000) : Calls Try.prog 15 #[.pointer (some ⟨R, 0, none⟩)] w (FormPost B R p w) := by
  have hB := hr.lt
  go_enter Try.func15, Try.ntmps15
  go_wp2_with fail
  refine (num_at [3, 2, 4, 3] 2 4 (by simp) (by decide) (by decide) B _ _ _ R p (by simp) (hr.next (below_alloc _ _)) (by omega)).mono ?_
  rintro e w1 ⟨d, rfl, ⟨hd1, hd2⟩, hb1, hr1⟩
  have c4 := box3_but hb1 (by omega) (box3_next (below_alloc _ _) (box3_new w (.int .i64 0) (.int .i64 0) (.slice none 0 0) 30))
  have B1 := ((But.of (D := R) (below_alloc w _)).next (below_alloc _ _)).trans hb1
  clear hb1
  go_wp2_with fail
  refine (rand_le d hd1 hd2 _ R B (p + 1) hr1 (by omega)).mono ?_
  rintro e w2 ⟨v, t, p2, rfl, hn, hnt, hb2, hr2, hp2⟩
  have hN : w.heap.size < w1.heap.size := c4.1
  replace c4 := box3_but hb2 (by omega) c4
  replace B1 := B1.trans hb2
  obtain ⟨a1, n1, rfl⟩ := TrIn_shape hn.any
  clear hb2 hr1
  go_wp2_with fail
  refine (specValid_any t _ _ (hn.below (below_alloc _ _)).any).mono ?_
  rintro e w3 ⟨rfl, hb3⟩
  replace hn := (hn.below (below_alloc _ _)).below hb3
  replace c4 := box3_next hb3 (box3_next (below_alloc _ _) c4)
  have cf := box3_next hb3 (box3_at (t := 30) (a := .int .i64 t.kind) (b := .int .i64 t.val) (c := .slice a1 t.kids.length n1) (w := w2) rfl)
  replace B1 := (B1.next (below_alloc _ _)).next hb3
  replace hr2 := (hr2.next (below_alloc _ _)).next hb3
  clear hb3
  cases hv : formL.valid t with
  | true =>
    have hf := hid (fun u0 u1 u2 => FormPost.ret (w := w) hn hN hnt hv B1 hr2 (p := p) (by omega) hB.2 u0 u1 u2)
    clear hr2 B1 hn hv
    go_wp2_with fail
    refine bodyPost_ret (v := .agg #[.int .i64 t.kind, .int .i64 t.val, .slice a1 t.kids.length n1]) (by simp [results, Try.results15, go_sem, c4]) rfl ?_
    exact hf.out _ _ _
  | false =>
    clear hv
    go_wp2_with fail
    refine bodyPost_ret (v := .agg #[.int .i64 10, .int .i64 0, .slice (some ⟨w3.heap.size, 0, none⟩) 1 1]) (by simp [results, Try.results15, go_sem, c4]) rfl ?_
    have hs := c4.1
    refine ⟨_, .mk 10 0 [.mk 2 0 []], p2, rfl, (new_one _ (by unfold i64; omega) (by unfold i64; omega) (by unfold i64; omega) (by unfold i64; omega) _ _ (by simp)).mono (by simp; omega), by simp [nodes, nodesL], by kernel_rfl,
      (But.setNew (But.setNew (But.setNew B1 (Nat.le_refl _) _) (Nat.le_refl _) _) (Nat.le_refl _) _).next (below_alloc _ _), (((hr2.set hB.2 _).set hB.2 _).set hB.2 _).next (below_alloc _ _), by omega⟩

set_option maxRecDepth 100000 in
set_option maxHeartbeats 2000000 in
theorem mut_any (w : World) (R B p : Nat) (t : Tr) (x : Value) (hx : TrIn Any w t x) (hm : nodes t ≤ 1000) (hr : Rd B w R p) (hp : p + 2 ≤ 1000000) : Calls Try.prog 14 #[.pointer (some ⟨R, 0, none⟩), x] w (DrawPost B 2 (nodes t + 1) R p w) := by
  have hB := hr.lt
  have hx0 := hx
  obtain ⟨a, c, rfl⟩ := TrIn_shape hx
  go_enter Try.func14, Try.ntmps14
  go_wp2_with fail
  refine (copy_any t _ _ (TrIn_alloc (TrIn_alloc hx0 _) _) (small_nodes t (by omega))).mono ?_
  rintro e w1 ⟨v, rfl, ⟨u, rfl, hi1, hi2, ho⟩, hb1⟩
  obtain ⟨a2, n2, m2, rfl⟩ : ∃ a2 n2 m2, u = .slice a2 n2 m2 := by obtain ⟨a2, m2, h2, _⟩ := ho.shape; exact ⟨_, _, _, h2⟩
  have B1 := ((But.of (D := R) (below_alloc w _)).next (below_alloc _ _)).next hb1
  have hr1 := ((hr.next (below_alloc _ _)).next (below_alloc _ _)).next hb1
  have c4 := box3_next hb1 (box3_at (w := w.alloc _) (B := w.heap.size + 1) (a := .int .i64 0) (b := .int .i64 0) (c := .slice none 0 0) (t := 30) (by simp))
  clear hb1
  go_wp2_with fail
  refine (pick_any B _ _ R p (hr1.next (below_alloc _ _)) (by omega) (by omega) (by omega)).mono ?_
  rintro e w2 ⟨i, rfl, _, hb2, hr2⟩
  have hsz := c4.1
  replace c4 := box3_but hb2 (by omega) (box3_next (below_alloc _ _) c4)
  have cf := box3_but hb2 (by omega) (box3_at (t := 30) (a := .int .i64 t.kind) (b := .int .i64 t.val) (c := .slice a2 n2 m2) (w := w1) rfl)
  simp only [World.size_alloc] at ho
  have K2 : Keep (w.heap.size + 1 + 1) w1 w2 := (Keep.alloc w1 _).trans (Keep.but hb2 (by omega))
  replace B1 := (B1.next (below_alloc _ _)).trans hb2
  clear hb2 hr1
  have hw1 : w1.heap.size < w2.heap.size := cf.1
  by_cases i0 : i = 0
  · subst i0
    go_wp2_with fail
    refine (num_new [0, 11, -1, 2, 3, 4] (-1) 11 (by simp) (by decide) (by decide) B w2 _ R (p + 1) hr2 (by omega)).mono ?_
    rintro e w3 ⟨k, rfl, ⟨hk1, hk2⟩, hb3, hr3⟩
    replace c4 := box3_but hb3 (by omega) (box3_next (below_alloc _ _) c4)
    replace cf := box3_but hb3 (by omega) (box3_next (below_alloc _ _) cf)
    replace B1 := (B1.next (below_alloc _ _)).trans hb3
    have K3 : Keep (w.heap.size + 1 + 1) w1 w3 := (K2.trans (Keep.alloc w2 _)).trans (Keep.but hb3 (by omega))
    have hn := fun v => (ho.keep (K3.setHi (a := ⟨w1.heap.size, 0, none⟩) (Nat.le_refl _) v)).node (k := k) (v := t.val) (by unfold i64; omega) hi2
    have hf := hid (fun v u0 u1 u2 => DrawPost.at (w := w) (K := 2) (M := nodes t + 1) (b := w.heap.size + 1) (hn v) (by omega) (by omega) (by rw [nodes_kids t]; simp only [nodes]; omega) (B1.setNew (a := ⟨w1.heap.size, 0, none⟩) (by simp; omega) v) (hr3.set (a := ⟨w1.heap.size, 0, none⟩) (by simp; omega) v) (p := p) (by omega) hB.2 u0 u1 u2)
    clear hr2 hr3 B1 ho hb3 K2 K3 hn
    go_wp2_with fail
    refine bodyPost_ret (v := .agg #[.int .i64 k, .int .i64 t.val, .slice a2 n2 m2]) (by simp [results, Try.results14, go_sem, c4]) rfl ?_
    exact hf.out _ _ _ _
  have e0 : (i == 0) = false := by simpa using i0
  by_cases i1 : i = 1
  · subst i1
    go_wp2_with fail
    refine (num_new [-1, 3, 2, 9223372036854775807] (-1) 9223372036854775807 (by simp) (by decide) (by decide) B w2 _ R (p + 1) hr2 (by omega)).mono ?_
    rintro e w3 ⟨k, rfl, ⟨hk1, hk2⟩, hb3, hr3⟩
    replace c4 := box3_but hb3 (by omega) (box3_next (below_alloc _ _) c4)
    replace cf := box3_but hb3 (by omega) (box3_next (below_alloc _ _) cf)
    replace B1 := (B1.next (below_alloc _ _)).trans hb3
    have K3 : Keep (w.heap.size + 1 + 1) w1 w3 := (K2.trans (Keep.alloc w2 _)).trans (Keep.but hb3 (by omega))
    have hn := fun v => (ho.keep (K3.setHi (a := ⟨w1.heap.size, 1, none⟩) (Nat.le_refl _) v)).node (k := t.kind) (v := k) hi1 (by unfold i64; omega)
    have hf := hid (fun v u0 u1 u2 => DrawPost.at (w := w) (K := 2) (M := nodes t + 1) (b := w.heap.size + 1) (hn v) (by omega) (by omega) (by rw [nodes_kids t]; simp only [nodes]; omega) (B1.setNew (a := ⟨w1.heap.size, 1, none⟩) (by simp; omega) v) (hr3.set (a := ⟨w1.heap.size, 1, none⟩) (by simp; omega) v) (p := p) (by omega) hB.2 u0 u1 u2)
    clear hr2 hr3 B1 ho hb3 K2 K3 hn
    go_wp2_with fail
    refine bodyPost_ret (v := .agg #[.int .i64 t.kind, .int .i64 k, .slice a2 n2 m2]) (by simp [results, Try.results14, go_sem, c4]) rfl ?_
    exact hf.out _ _ _ _
  have e1 : (i == 1) = false := by simpa using i1
  by_cases i2 : i = 2
  · subst i2
    obtain ⟨D, hD1, hD2, hD3⟩ : ∃ D, D ≠ w1.heap.size ∧ w.heap.size + 1 + 1 ≤ D ∧ ∀ k, (Value.slice a2 n2 m2).ownBlock = some k → k = D := by
      cases hu : (Value.slice a2 n2 m2).ownBlock with
      | none => exact ⟨w2.heap.size, by omega, by omega, by simp⟩
      | some k =>
        obtain ⟨xs, bs, o1, _⟩ := ho
        have := o1.lt k hu
        exact ⟨k, by omega, this.1, by simp⟩
    have cf' := cf
    obtain ⟨q0, q1, q2, q3, q4, q5, q6⟩ := cf'
    have f0 : ∀ x, (w2.overX (w1.heap.size + 1) D x).cell? ⟨w1.heap.size, 2, none⟩ = some (.slice a2 n2 m2) := fun x => by rw [overX_cell _ _ _ _ _ _ (by omega) (Ne.symm hD1)]; exact q3
    go_wp2_with fail
    refine wp_region_tail (C := fun wZ => ∃ xZ, wZ = World.overX _ (w1.heap.size + 1) (D) xZ) [0,1] [2,3,4,5,6] (6) (by kernel_rfl) (by kernel_rfl) (fun d _ _ _ _ h => by cases d <;> exact h) (ButX.refl _ _ _).drew.ex ?_; simp only [pick, List.getElem?_cons_succ, List.getElem?_cons_zero]; (repeat (go_big_quiet_step (fail))); refine wpQuiet_nil ?_; simp only [tailW]
    go_wp2_with fail
    refine (true_any _).mono ?_
    rintro e w4 ⟨v, rfl, hn, hb4⟩
    obtain ⟨a4, n4, hv⟩ := TrIn_shape hn.any
    obtain rfl : v = .agg #[.int .i64 1, .int .i64 0, .slice a4 0 n4] := hv
    have B4 : Below w2.heap.size w2 w4 := below_next (below_d (Below.refl _ _)) hb4
    have x4 : ButX (w1.heap.size + 1) D w2 w4 := ButX.below B4 (by omega)
    have s4 := B4.size
    go_wp2_with fail
    refine ⟨x4.ex, ?_⟩
    go_wp2_with fail
    refine ⟨(x4.next (below_alloc _ _) (by omega)).ex, ?_⟩
    have hl : t.kids.length ≤ 1048576 := by have := nodes_kids t; have := len_nodes t.kids; omega
    refine wp_append_node rfl (.tmp 25) (.tmp 27) 28 rfl 30 Try.underlying28 rowInfo (by rfl) (by rfl) (by intro x hx; simp at hx; rcases hx with rfl | rfl | rfl <;> rfl) ho (by omega)
      (K2.trans (Keep.below B4)) (Nat.le_of_lt hw1) (hn.mono (by simp)) hl ?_
    intro a5 n5 m5 w5 ho5 hb5 hbD hav
    have x5 : ButX (w1.heap.size + 1) D w2 w5 := x4.trans (ButX.but (hbD D hD3) (by omega))
    have c4' := box3_butx x5 (by omega) (by omega) c4
    have cf' := box3_butx x5 (by omega) (by omega) cf
    have hr5 : Rd B w5 R (p + 1) := (hr2.next B4).keep hb5.size fun b hb => hb5.block b (by omega)
    have hw1' := hw1
    have B5 : But w R w5 := ⟨x5.os.trans B1.os, x5.tape.trans B1.tape, x5.output.trans B1.output, Nat.le_trans B1.size x5.size, fun k hk hd => (x5.block k (by omega) (by omega)).trans (B1.block k hk hd)⟩
    have hn := fun v => (hav w1.heap.size 2 v (Nat.le_refl _) hw1 (by omega)).node hi1 hi2
    have hf := hid (fun v u0 u1 u2 => DrawPost.at (w := w) (K := 2) (M := nodes t + 1) (b := w.heap.size + 1) (hn v) (by omega) (by omega) (by rw [nodes_kids t]; simp only [nodes, nodesL_snoc, nodesL]; omega) (B5.setNew (a := ⟨w1.heap.size, 2, none⟩) (by simp; omega) v) (hr5.set (a := ⟨w1.heap.size, 2, none⟩) (by simp; omega) v) (p := p) (by omega) hB.2 u0 u1 u2)
    have hxx := x5.ex
    clear hr2 hr5 B1 B5 ho ho5 hb5 hbD hav K2 x4 x5 B4 hn hb4 f0 q0 q1 q2 q3 q4 q5 q6 c4 cf
    have cf := cf'
    have c4 := c4'
    obtain ⟨q0, q1, q2, q3, q4, q5, q6⟩ := cf'
    refine ⟨hxx, ?_⟩
    go_wp2_with fail
    refine ⟨hxx, ?_⟩
    go_wp2_with fail
    refine bodyPost_ret (v := .agg #[.int .i64 t.kind, .int .i64 t.val, .slice a5 n5 m5]) (by simp [results, Try.results14, go_sem, c4]) rfl ?_
    exact hf.out _ _ _ _
  have e2 : (i == 2) = false := by simpa using i2
  by_cases i3 : i = 3
  · subst i3
    have hf := hid (fun u0 u1 u2 => DrawPost.at (w := w) (K := 2) (M := nodes t + 1) (b := w.heap.size + 1) (leaf_new (w.heap.size + 1 + 1) w2 (k := 0) (v := 0) (by unfold i64; omega) (by unfold i64; omega)) (by omega) (by omega) (by have := nodes_pos t; simp only [nodes, nodesL]; omega) B1 hr2 (p := p) (by omega) hB.2 u0 u1 u2)
    clear hr2 B1 ho K2
    go_wp2_with fail
    refine bodyPost_ret (v := .agg #[.int .i64 0, .int .i64 0, .slice none 0 0]) (by simp [results, Try.results14, go_sem, c4]) rfl ?_
    exact hf.out _ _ _
  have e3 : (i == 3) = false := by simpa using i3
  have hn := (ho.keep K2).node hi1 hi2
  have hf := hid (fun u0 u1 u2 => DrawPost.at (w := w) (K := 2) (M := nodes t + 1) (b := w.heap.size + 1) hn (by omega) (by omega) (by rw [nodes_kids t]; simp only [nodes]; omega) B1 hr2 (p := p) (by omega) hB.2 u0 u1 u2)
  clear hr2 B1 ho K2 hn
  go_wp2_with fail
  refine bodyPost_ret (v := .agg #[.int .i64 t.kind, .int .i64 t.val, .slice a2 n2 m2]) (by simp [results, Try.results14, go_sem, c4]) rfl ?_
  exact hf.out _ _ _

/-- what the law's argument comes to -/
def Drawn (w : World) (v : Value) (w' : World) : Prop := ∃ t, NewTr w.heap.size t v w' ∧ nodes t ≤ 32



end Formula
end Go.Proofs.Ytkjnmkjdooebmaa
namespace Go.Proofs.Ytkjnmkjdooebmaa
open Go.RowKit
set_option linter.unusedVariables false
set_option linter.unusedSimpArgs false
namespace Lasso

/-- what a call comes to that draws a lasso -/
def LasDrawn (w : World) (v : Value) (w' : World) : Prop := ∃ s l, NewLas w.heap.size s l v w' ∧ s.length ≤ 90 ∧ l.length ≤ 90
/-- .. and a formula -/
def SatDrawn (w : World) (e : Ending) (w' : World) : Prop := ∃ x y s l t, e = .returned (.tuple #[x, y]) ∧ NewLas w.heap.size s l x w' ∧ s.length ≤ 90 ∧ l.length ≤ 90 ∧ NewTr w.heap.size t y w' ∧ nodes t ≤ 32 ∧ Below w.heap.size w w'
set_option maxRecDepth 100000 in
set_option maxHeartbeats 2000000 in
theorem drawSat_any (w : World) (a : Option Addr) (len cap : Nat) (hb : ByteArg w a len cap) : Calls Try.prog 5 #[.slice a len cap] w (SatDrawn w) := by
  go_enter Try.func5, Try.ntmps5
  go_wp2_with fail
  refine (open_any _ a len cap ((hb.next (below_alloc _ _)).next (below_alloc _ _))).mono ?_
  rintro e w1 ⟨v, rfl, ⟨R, B, rfl, hR, hr⟩, hb1⟩
  have Z := hid (boxp_next hb1 (boxp_next (below_alloc _ _) (boxp_at (w := w) (B := w.heap.size) (a := .slice none 0 0) (b := .slice none 0 0) (t := 25) rfl)))
  have Y := hid (box3_next hb1 (box3_at (w := w.alloc _) (B := w.heap.size + 1) (a := .int .i64 0) (b := .int .i64 0) (c := .slice none 0 0) (t := 30) (by simp)))
  have B1 := below_next (below_next (below_alloc w _) (below_alloc _ _)) hb1
  simp at hR
  have z1 := Y.out.1
  clear hb1
  go_wp2_with fail
  refine (Formula.form_any w1 R B 0 hr (by omega)).mono ?_
  rintro e w2 ⟨v, t, p2, rfl, hn, hnt, _, hb2, hr2, hp2⟩
  obtain ⟨a1, n1, rfl⟩ := TrIn_shape hn.any
  have hx := hn.any
  replace Z := hid (boxp_but hb2 (by omega) Z.out)
  replace Y := hid (box3_but hb2 (by omega) Y.out)
  replace B1 := hb2.new B1 (by omega)
  have z2 := hb2.size
  clear hb2 hr hn
  go_wp2_with fail
  refine (Formula.mut_any w2 R B p2 t _ hx (by omega) hr2 (by omega)).mono ?_
  rintro e w3 ⟨v, t', p3, rfl, hn', hnt', hb3, hr3, hp3⟩
  obtain ⟨a2, n2, rfl⟩ := TrIn_shape hn'.any
  replace Z := hid (boxp_but hb3 (by omega) Z.out)
  replace Y := hid (box3_but hb3 (by omega) Y.out)
  replace B1 := hb3.new B1 (by omega)
  have z3 := hb3.size
  have hRl := hr2.lt
  clear hb3 hr2 hx
  go_wp2_with fail
  have h0 := below_alloc w3 (.cells #[.int .i64 t'.kind, .int .i64 t'.val, .slice a2 t'.kids.length n2] 30)
  have F := hid (box3_new w3 (.int .i64 t'.kind) (.int .i64 t'.val) (.slice a2 t'.kids.length n2) 30)
  replace Z := hid (boxp_next h0 Z.out)
  replace Y := hid (box3_next h0 Y.out)
  have HN := hid (hn'.below h0)
  have HB := hid (below_next B1 h0)
  have R3 := hr3.next h0
  have s3 : w3.heap.size < (w3.alloc (.cells #[.int .i64 t'.kind, .int .i64 t'.val, .slice a2 t'.kids.length n2] 30)).heap.size := by simp
  clear h0 hn' B1 hr3
  generalize w3.alloc (.cells #[.int .i64 t'.kind, .int .i64 t'.val, .slice a2 t'.kids.length n2] 30) = w4 at *
  obtain ⟨f0, f1, f2, f3, _⟩ := id F.out
  refine wp_region_ord (C := fun wZ => ∃ xZ, wZ = World.overP _ ([w3.heap.size]) xZ) [0,1,4] (.one 2 (.one 3 (.one 5 (.fre 6 .done)))) [6] (by kernel_rfl) (by kernel_rfl) (fun d _ _ _ _ h => by cases d <;> exact h) (KeepP.refl _ _).drew.ex ?_; simp only [pick, List.getElem?_cons_succ, List.getElem?_cons_zero]; (repeat (go_big_quiet_step (fail))); refine wpQuiet_nil ?_; simp only [ordW, pick, List.getElem?_cons_succ, List.getElem?_cons_zero]
  have h0 := below_d (Below.refl w4.heap.size w4)
  have K := hid (KeepP.below (S := [w3.heap.size]) h0)
  go_wp2_with fail
  refine (lasso_any w4.drew R B p3 (R3.next h0) (by omega)).mono ?_
  rintro e w5 ⟨v, s, l, p5, rfl, hn, hs1, hl1, hl2, hb5, hr5, hp5⟩
  have K5 := hid (K.out.trans (KeepP.but hb5 (by simp; omega)))
  replace Z := hid (boxp_but hb5 (by omega) (boxp_next h0 Z.out))
  replace Y := hid (box3_but hb5 (by omega) (box3_next h0 Y.out))
  replace HN := hid ((HN.out.below h0).keep (Keep.but hb5 (by omega)))
  replace HB := hid (hb5.new (below_next HB.out h0) (by omega))
  obtain ⟨hP, hN⟩ := hn.any
  have s5 := hb5.size
  simp only [World.size_drew] at s5
  clear hb5 h0 K f0 f1 f2 f3 R3 hn F
  go_wp2_with fail
  refine ⟨K5.out.ex, ?_⟩
  go_wp2_with fail
  refine (mutate_any w5 R B p5 s l v hP hN (by omega) (by omega) hl2 hr5 (by omega)).mono ?_
  rintro e w6 ⟨v', s', l', p6, rfl, hn', hs', hl', hb6, hr6, hp6⟩
  have K6 := hid (K5.out.trans (KeepP.but hb6 (by simp; omega)))
  replace Z := hid (boxp_but hb6 (by omega) Z.out)
  replace Y := hid (box3_but hb6 (by omega) Y.out)
  replace HN := hid (HN.out.keep (Keep.but hb6 (by omega)))
  replace HB := hid (hb6.new HB.out (by omega))
  obtain ⟨a3, c3, a4, c4, rfl⟩ := hn'.shape
  clear hb6 hr5 hr6 K5
  obtain ⟨y0, y1, y2, y3, y4, y5, y6⟩ := id Y.out
  obtain ⟨x0, x1, x2, x3, x4⟩ := id Z.out
  go_wp2_with fail
  refine ⟨K6.out.ex, ?_⟩
  go_wp2_with fail
  refine ⟨((K6.out.set (by simp; omega) _).set (by simp; omega) _).ex, ?_⟩
  have T := hid (boxp_set (boxp_set (boxp_set (boxp_set1 (boxp_set0 Z.out (.slice a3 s'.length c3)) (.slice a4 l'.length c4)) (p := ⟨w.heap.size + 1, 0, none⟩) (by simp) (.int .i64 t'.kind)) (p := ⟨w.heap.size + 1, 1, none⟩) (by simp) (.int .i64 t'.val)) (p := ⟨w.heap.size + 1, 2, none⟩) (by simp) (.slice a2 t'.kids.length n2))
  have T3 := hid (fun u0 u1 => box3_set2 (box3_set1 (box3_set0 (box3_but (But.set _ w.heap.size 1 u1) (show w.heap.size + 1 ≠ w.heap.size by omega) (box3_but (But.set w6 w.heap.size 0 u0) (show w.heap.size + 1 ≠ w.heap.size by omega) Y.out)) (.int .i64 t'.kind)) (.int .i64 t'.val)) (.slice a2 t'.kids.length n2))
  have hf := hid (fun u0 u1 u2 u3 u4 => show SatDrawn w (.returned (.tuple #[.agg #[.slice a3 s'.length c3, .slice a4 l'.length c4], .agg #[.int .i64 t'.kind, .int .i64 t'.val, .slice a2 t'.kids.length n2]])) (((((w6.setCell ⟨w.heap.size, 0, none⟩ u0).setCell ⟨w.heap.size, 1, none⟩ u1).setCell ⟨w.heap.size + 1, 0, none⟩ u2).setCell ⟨w.heap.size + 1, 1, none⟩ u3).setCell ⟨w.heap.size + 1, 2, none⟩ u4) from
    ⟨_, _, s', l', t', rfl, (hn'.frame (by simp) (fun b hb hl => by
      rw [Below.heap_setCell _ _ _ _ (by simp; omega), Below.heap_setCell _ _ _ _ (by simp; omega), Below.heap_setCell _ _ _ _ (by simp; omega), Below.heap_setCell _ _ _ _ (by simp; omega), Below.heap_setCell _ _ _ _ (by simp; omega)])).mono (by omega), hs', hl',
      (HN.out.keep (((((Keep.set _ (by simp; omega) _).trans (Keep.set _ (by simp; omega) _)).trans (Keep.set _ (by simp; omega) _)).trans (Keep.set _ (by simp; omega) _)).trans (Keep.set _ (by simp; omega) _))).mono (by omega), by omega,
      ((((HB.out.setCell (by simp) _).setCell (by simp) _).setCell (by simp) _).setCell (by simp) _).setCell (by simp) _⟩)
  clear Z Y HN HB K6 hn' hP hN
  go_wp2_with fail
  obtain ⟨_, t0, t1, _, _⟩ := T.out
  obtain ⟨_, t2, t3, t4, _⟩ := T3.out (.slice a3 s'.length c3) (.slice a4 l'.length c4)
  refine bodyPost_ret (v := .tuple #[.agg #[.slice a3 s'.length c3, .slice a4 l'.length c4], .agg #[.int .i64 t'.kind, .int .i64 t'.val, .slice a2 t'.kids.length n2]]) (by simp [results, Try.results5, go_sem, t0, t1, t2, t3, t4]) rfl ?_
  exact hf.out _ _ _ _ _
end Lasso
end Go.Proofs.Ytkjnmkjdooebmaa
