/- The reference's l1Arity, l1Shape, l1Count, ExprValid, ExprNodes: what each returns, for every tree. Conditions: those of each contract. -/
import Derived.Test.YtffadknollkgiaaRows
import Derived.Test.YtffadknollkgiaaMem
import Derived.Test.YtffadknollkgiaaValidPlain
import Derived.WalkSpells
import Derived.WalkLawsBesides
import Derived.Deep.DeepCutAuto
import Derived.Deep.CutBlock
namespace Go.Proofs.Ytffadknollkgiaa
open Go.RowKit
namespace Expr

def arityV (k : Int) : Int := if k = 1 ∨ k = 2 then 0 else if k = 3 then 1 else if 4 ≤ k ∧ k ≤ 9 then 2 else -1
theorem arityV_ok {k v : Int} {n : Nat} : exprL.okB k v n = (decide ((n : Int) = arityV k) && decide (0 ≤ v ∧ v ≤ exprL.most k)) := by
  rw [Bool.eq_iff_iff, Lang.okB_iff, Bool.and_eq_true, decide_eq_true_eq, decide_eq_true_eq, exprL_K, exprL_ar]
  unfold arityV
  constructor
  · rintro ⟨h1, h2, h3⟩
    refine ⟨?_, h2⟩
    rw [h3]
    by_cases h4 : k = 1 ∨ k = 2
    · rw [if_pos h4, if_pos h4]
    · by_cases h5 : k = 3
      · rw [if_neg h4, if_neg h4, if_pos h5, if_pos h5]
      · rw [if_neg h4, if_neg h4, if_neg h5, if_neg h5, if_pos (by omega)]
  · rintro ⟨h1, h2⟩
    by_cases h4 : k = 1 ∨ k = 2
    · rw [if_pos h4] at h1; exact ⟨by omega, h2, by rw [if_pos h4]; exact h1⟩
    · by_cases h5 : k = 3
      · rw [if_neg h4, if_pos h5] at h1; exact ⟨by omega, h2, by rw [if_neg h4, if_pos h5]; exact h1⟩
      · by_cases h6 : 4 ≤ k ∧ k ≤ 9
        · rw [if_neg h4, if_neg h5, if_pos h6] at h1; exact ⟨by omega, h2, by rw [if_neg h4, if_neg h5]; exact h1⟩
        · rw [if_neg h4, if_neg h5, if_neg h6] at h1; omega
theorem arityV_bd (k : Int) : -1 ≤ arityV k ∧ arityV k ≤ 2 := by unfold arityV; split <;> (try split) <;> (try split) <;> omega

set_option maxHeartbeats 400000 in
theorem arity_any (k : Int) (w : World) : Calls Try.prog 87 #[.int .i64 k] w (Ret (.int .i64 (arityV k)) w) := by
  by_cases h1 : k = 1
  · subst h1
    go_enter Try.func87, Try.ntmps87
    go_wp2_with fail
    go_ret
    exact Ret.mk rfl (Below.refl _ _)
  by_cases h2 : k = 2
  · subst h2
    go_enter Try.func87, Try.ntmps87
    go_wp2_with fail
    go_ret
    exact Ret.mk rfl (Below.refl _ _)
  by_cases h3 : k = 3
  · subst h3
    go_enter Try.func87, Try.ntmps87
    go_wp2_with fail
    go_ret
    exact Ret.mk rfl (Below.refl _ _)
  have e1 : (k == 1) = false := by simpa using h1
  have e2 : (k == 2) = false := by simpa using h2
  have e3 : (k == 3) = false := by simpa using h3
  have E := hid (show arityV k = if 4 ≤ k ∧ k ≤ 9 then 2 else -1 by unfold arityV; rw [if_neg (by omega), if_neg h3])
  clear h1 h2 h3
  by_cases h4 : 4 ≤ k
  · by_cases h9 : k ≤ 9
    · go_enter Try.func87, Try.ntmps87
      go_wp2_with fail
      go_ret
      exact Ret.mk (int_val (by rw [E.out, if_pos ⟨h4, h9⟩])) (Below.refl _ _)
    · go_enter Try.func87, Try.ntmps87
      go_wp2_with fail
      go_ret
      exact Ret.mk (int_val (by rw [E.out, if_neg (by omega)])) (Below.refl _ _)
  · go_enter Try.func87, Try.ntmps87
    go_wp2_with fail
    go_ret
    exact Ret.mk (int_val (by rw [E.out, if_neg (by omega)])) (Below.refl _ _)

def ShT (t : Tr) : Prop := ∀ (w : World) (x : Value) (d : Int), TrIn Any w t x → -1 ≤ d → d ≤ 6 → Calls Try.prog 71 #[x, .int .i64 d] w (Ret (.bool (exprL.shape t d)) w)

set_option maxHeartbeats 1000000 in
theorem shT_of (k v : Int) (kids : List Tr) (h : ∀ t, t ∈ kids → ShT t) : ShT (.mk k v kids) := by
  intro w x d hx hd1 hd2
  rw [TrIn_mk] at hx
  obtain ⟨a, n, c, rfl, hk, hv, rfl, hc, hc2, hks⟩ := hx
  by_cases hd : d < 1
  · have E := hid (show exprL.shape (.mk k v kids) d = false by simp only [Lang.shape]; rw [decide_eq_false (by omega), Bool.false_and])
    have hd' : decide (d < 1) = true := by simpa using hd
    go_enter Try.func71, Try.ntmps71
    go_wp2_with fail
    refine wp_region_over (by kernel_rfl) (by kernel_rfl) ?_; (repeat (go_big_quiet_step ((fail)))); refine wpQuiet_nil ?_; rintro _ ⟨xq, rfl⟩
    go_wp2_with fail
    go_ret
    exact Ret.mk (bool_val E.out.symm) (by repeat (first | exact Below.refl _ _ | assumption | refine below_a ?_ _ | refine below_o ?_ _ | refine below_d ?_ | refine below_n ?_ _ | refine below_s ?_ (by first | (simp; done) | (simp; omega) | omega) _))
  have E0 := hid (show exprL.shape (.mk k v kids) d = (exprL.okB k v kids.length && exprL.shapeL kids (d - 1)) by simp only [Lang.shape]; rw [decide_eq_true (by omega), Bool.true_and])
  have hd' : decide (d < 1) = false := by simpa using hd
  by_cases hn : (kids.length : Int) = arityV k
  · have hn1 : ((kids.length : Int) != arityV k) = false := by simpa using hn
    have HN := hid hn; clear hn
    go_enter Try.func71, Try.ntmps71
    go_wp2_with fail
    refine wp_region_over (by kernel_rfl) (by kernel_rfl) ?_; (repeat (go_big_quiet_step ((go_at_call 87; exact Calls.over (arity_any _ _))))); refine wpQuiet_nil ?_; rintro _ ⟨xq, rfl⟩
    go_upto_block 0 with fail
    go_cut [5] (fun s5 wx => s5 = .int .i64 (exprL.most k) ∧ Below w.heap.size w wx ∧ w.heap.size < wx.heap.size ∧ wx.cell? ⟨w.heap.size, 0, none⟩ = some (.int .i64 k) ∧ wx.cell? ⟨w.heap.size, 1, none⟩ = some (.int .i64 v) ∧ wx.cell? ⟨w.heap.size, 2, none⟩ = some (.slice a kids.length c))
    case first =>
      go_wp2_with fail
      all_goals go_meet
      all_goals refine ⟨int_val ?_, (by repeat (first | exact Below.refl _ _ | assumption | refine below_a ?_ _ | refine below_o ?_ _ | refine below_d ?_ | refine below_n ?_ _ | refine below_s ?_ (by first | (simp; done) | (simp; omega) | omega) _)), by simp [go_sem], by simp [go_sem], by simp [go_sem], by simp [go_sem]⟩
      all_goals first
        | (have e := ‹(k == 1) = true›; simp at e; rw [exprL_most, if_pos e])
        | (have e1 := ‹(k == 1) = false›; have e := ‹(k == 2) = true›; simp at e1 e; rw [exprL_most, if_neg e1, if_pos e])
        | (have e1 := ‹(k == 1) = false›; have e := ‹(k == 2) = false›; simp at e1 e; rw [exprL_most, if_neg e1, if_neg e])
    case rest =>
      obtain ⟨rfl, hb, hsz, q0, q1, q2⟩ := hcut
      by_cases hv0 : v < 0
      · have E := hid (show exprL.shape (.mk k v kids) d = false by rw [E0.out, arityV_ok, decide_eq_false (show ¬(0 ≤ v ∧ v ≤ exprL.most k) by omega)]; simp)
        go_wp2_with fail
        go_ret
        exact Ret.mk (bool_val E.out.symm) hb
      by_cases hv1 : exprL.most k < v
      · have E := hid (show exprL.shape (.mk k v kids) d = false by rw [E0.out, arityV_ok, decide_eq_false (show ¬(0 ≤ v ∧ v ≤ exprL.most k) by omega)]; simp)
        go_wp2_with fail
        go_ret
        exact Ret.mk (bool_val E.out.symm) hb
      have E := hid (show exprL.shape (.mk k v kids) d = exprL.shapeL kids (d - 1) by rw [E0.out, arityV_ok, decide_eq_true HN.out, decide_eq_true (show (0 ≤ v ∧ v ≤ exprL.most k) by omega)]; simp)
      unfold maxLen at hc2
      go_wp2_with fail
      clear q0 q1
      go_loopw [6] (fun i wr => ∃ j : Nat, j ≤ kids.length ∧ i = .int .i64 j ∧ Below w.heap.size w wr ∧ w.heap.size < wr.heap.size ∧ wr.cell? ⟨w.heap.size, 2, none⟩ = some (.slice a kids.length c) ∧ Hid (exprL.shapeL (kids.drop j) (d - 1) = exprL.shapeL kids (d - 1)))
        (fun i _ => kids.length - (intOf i).toNat)
      case atStart => exact ⟨0, Nat.zero_le _, rfl, hb, hsz, q2, hid rfl⟩
      case round =>
        clear hb hsz q2
        obtain ⟨j, hj, rfl, hb, hsz, q2, hr⟩ := hrel
        by_cases hlt : j < kids.length
        · obtain ⟨b, o, c0, c1, c2, t, rfl, gb, g0, g1, g2, hT⟩ := TrsIn_round hks hb hlt
          have HR2 := hr.out
          rw [hT.out.2.2.1] at HR2
          simp only [Lang.shapeL] at HR2
          have HR := hid HR2; clear HR2
          go_wp2_with fail
          refine (h t hT.out.2.1 _ _ (d - 1) hT.out.1 (by omega) (by omega)).mono ?_
          rintro e w2 ⟨rfl, hby⟩
          obtain ⟨y, rfl⟩ := bex hby
          clear hby
          cases hq : exprL.shape t (d - 1) with
          | true =>
            have HR3 := HR.out
            rw [hq, Bool.true_and] at HR3
            have HR4 := hid HR3; clear HR3 hq
            go_wp2_with fail
            go_roundw
            case rel => exact ⟨j + 1, by omega, by go_num, (by repeat (first | exact Below.refl _ _ | assumption | refine below_a ?_ _ | refine below_o ?_ _ | refine below_d ?_ | refine below_n ?_ _ | refine below_s ?_ (by first | (simp; done) | (simp; omega) | omega) _)), by simp [go_sem, hsz], by simp [go_sem, hsz, q2], HR4⟩
            case measure => simp [intOf]; omega
          | false =>
            have HR3 := HR.out
            rw [hq, Bool.false_and] at HR3
            have HR4 := hid HR3; clear HR3 hq
            go_wp2_with fail
            go_ret
            exact Ret.mk (bool_val (HR4.out.trans E.out.symm)) (by repeat (first | exact Below.refl _ _ | assumption | refine below_a ?_ _ | refine below_o ?_ _ | refine below_d ?_ | refine below_n ?_ _ | refine below_s ?_ (by first | (simp; done) | (simp; omega) | omega) _))
        · have HR2 := hr.out
          rw [List.drop_of_length_le (by omega)] at HR2
          have HR := hid HR2; clear HR2
          go_wp2_with fail
          go_ret
          exact Ret.mk (bool_val (HR.out.trans E.out.symm)) hb
  · have hn1 : ((kids.length : Int) != arityV k) = true := by simpa using hn
    have E := hid (show exprL.shape (.mk k v kids) d = false by rw [E0.out, arityV_ok, decide_eq_false hn]; simp)
    clear hn
    go_enter Try.func71, Try.ntmps71
    go_wp2_with fail
    refine wp_region_over (by kernel_rfl) (by kernel_rfl) ?_; (repeat (go_big_quiet_step ((go_at_call 87; exact Calls.over (arity_any _ _))))); refine wpQuiet_nil ?_; rintro _ ⟨xq, rfl⟩
    go_wp2_with fail
    go_ret
    exact Ret.mk (bool_val E.out.symm) (by repeat (first | exact Below.refl _ _ | assumption | refine below_a ?_ _ | refine below_o ?_ _ | refine below_d ?_ | refine below_n ?_ _ | refine below_s ?_ (by first | (simp; done) | (simp; omega) | omega) _))

theorem shape_any : ∀ t, ShT t := fun t => Tr.ind (fun k v kids ih => shT_of k v kids ih) t

end Expr
end Go.Proofs.Ytffadknollkgiaa
