/- The program's Formula.walk: what it returns, for every tree. Conditions: those of each contract. -/
import Derived.Test.YtbeljjalfhogdaaFormulaImplC
namespace Go.Proofs.Ytbeljjalfhogdaa
open Go.RowKit
namespace Formula
set_option maxHeartbeats 1000000 in
theorem operands_any (k : Int) (w : World) : Calls Try.prog 97 #[.int .i64 k] w (RetW (.int .i64 (formL.ar k)) w) := by
  by_cases h1 : k = 1
  · subst h1
    go_enter Try.func97, Try.ntmps97
    go_wp2_with fail
    go_ret
    exact ⟨rfl, rfl⟩
  by_cases h2 : k = 2
  · subst h2
    go_enter Try.func97, Try.ntmps97
    go_wp2_with fail
    go_ret
    exact ⟨rfl, rfl⟩
  by_cases h4 : k = 4
  · subst h4
    go_enter Try.func97, Try.ntmps97
    go_wp2_with fail
    go_ret
    exact ⟨rfl, rfl⟩
  by_cases h5 : k = 5
  · subst h5
    go_enter Try.func97, Try.ntmps97
    go_wp2_with fail
    go_ret
    exact ⟨rfl, rfl⟩
  by_cases h7 : k = 7
  · subst h7
    go_enter Try.func97, Try.ntmps97
    go_wp2_with fail
    go_ret
    exact ⟨rfl, rfl⟩
  by_cases h8 : k = 8
  · subst h8
    go_enter Try.func97, Try.ntmps97
    go_wp2_with fail
    go_ret
    exact ⟨rfl, rfl⟩
  have e1 : (k == 1) = false := by simpa using h1
  have e2 : (k == 2) = false := by simpa using h2
  have e4 : (k == 4) = false := by simpa using h4
  have e5 : (k == 5) = false := by simpa using h5
  have e7 : (k == 7) = false := by simpa using h7
  have e8 : (k == 8) = false := by simpa using h8
  have E := hid (show formL.ar k = 1 by rw [formL_ar, if_neg (by omega), if_neg (by omega)])
  clear h1 h2 h4 h5 h7 h8
  go_enter Try.func97, Try.ntmps97
  go_wp2_with fail
  go_ret
  exact ⟨congrArg (fun x => Ending.returned (.int .i64 x)) E.out.symm, rfl⟩

set_option maxHeartbeats 2000000 in
theorem wk_of (k v : Int) (kids : List Tr) (h : ∀ t, t ∈ kids → WkT t) : WkT (.mk k v kids) := by
  intro w x R d n hx hd1 hd2 hn1 hn2 hR hF
  rw [TrIn_mk] at hx
  obtain ⟨a, n', c, rfl, hk, hv, rfl, hc, hc2, hks⟩ := hx
  have lR : R < w.heap.size := blt hR
  have hE0 := hid (show formL.wk (.mk k v kids) d n = if 6 < d ∨ formL.N < n + 1 ∨ formL.okB k v kids.length = false then (false, n + 1) else formL.wkL kids (d + 1) (n + 1) by simp only [Lang.wk])
  have lR1 : R < w.heap.size + 1 := by omega
  have lR2 : R < w.heap.size + 1 + 1 := by omega
  have lR3 : R < w.heap.size + 1 + 1 + 1 := by omega
  go_enter Try.func89, Try.ntmps89
  go_upto_if 15 with fail
  go_cut [7] (fun s7 wx => s7 = .int .i64 (formL.most k) ∧ Upd w R (.int .i64 (n + 1)) wx ∧ Box3 wx w.heap.size (.int .i64 k) (.int .i64 v) (.slice a kids.length c) ∧ Box1 wx (w.heap.size + 1) (.int .i64 d) ∧ Box1 wx (w.heap.size + 1 + 1) (.pointer (some ⟨R, 0, none⟩)))
  case first =>
    go_wp2_with fail
    all_goals go_meet
    all_goals refine ⟨int_val ?_, Upd.of (by repeat (first | exact Below.refl _ _ | assumption | refine below_a ?_ _ | refine below_o ?_ _ | refine below_d ?_ | refine below_n ?_ _ | refine below_s ?_ (by first | (simp; done) | (simp; omega) | omega) _)), ⟨(by first | (simp; done) | (simp; omega) | omega), by simp [go_sem], by simp [go_sem], by simp [go_sem], by simp [go_sem], by simp [go_sem], by simp [go_sem]⟩, ⟨by simp, by simp [go_sem], by simp [go_sem]⟩, ⟨by simp, by simp [go_sem], by simp [go_sem]⟩⟩
    all_goals first
      | (have e := ‹(k == 2) = true›; simp at e; rw [ formL_most, if_pos e])
      | (have e := ‹(k == 2) = false›; simp at e; rw [ formL_most, if_neg e])
  case rest =>
    obtain ⟨rfl, hu, b3, b1, bp⟩ := hcut
    have bR : Box1 wc R (.int .i64 (n + 1)) := ⟨Nat.lt_of_lt_of_le lR hu.size, hu.cell hR, (hu.frozen (o := 0) lR).trans hF⟩
    have hno : ∀ (hh : ¬((1 ≤ k ∧ k ≤ 10) ∧ (0 ≤ v ∧ v ≤ formL.most k) ∧ (kids.length : Int) = formL.ar k)), formL.wk (.mk k v kids) d n = (false, n + 1) := fun hh => by
      rw [hE0.out, if_pos (.inr (.inr (formL.okB_no hh)))]
    have HNO := hid hno; clear hno
    by_cases c1 : 6 < d
    · have E := hid (show formL.wk (.mk k v kids) d n = (false, n + 1) by rw [hE0.out, if_pos (.inl c1)])
      have c1' : decide (6 < d) = true := by simpa using c1
      clear c1 HNO
      go_wp2_with fail
      refine wp_region_below (by kernel_rfl) (by kernel_rfl) ?_; (repeat (go_big_quiet_step ((fail)))); refine wpQuiet_nil ?_
      intro w1 hb
      go_wp2_with fail
      go_ret
      exact ⟨by rw [E.out]; rfl, by rw [E.out]; exact hu.more hb⟩
    have c1' : decide (6 < d) = false := by simpa using c1
    by_cases c2 : 12 < n + 1
    · have E := hid (show formL.wk (.mk k v kids) d n = (false, n + 1) by rw [hE0.out, if_pos (.inr (.inl c2))])
      have c2' : decide (12 < n + 1) = true := by simpa using c2
      clear c1 c2 HNO
      go_wp2_with fail
      refine wp_region_below (by kernel_rfl) (by kernel_rfl) ?_; (repeat (go_big_quiet_step ((fail)))); refine wpQuiet_nil ?_
      intro w1 hb
      go_wp2_with fail
      go_ret
      exact ⟨by rw [E.out]; rfl, by rw [E.out]; exact hu.more hb⟩
    have c2' : decide (12 < n + 1) = false := by simpa using c2
    by_cases c3 : 1 ≤ k ∧ k ≤ 10
    · by_cases c4 : 0 ≤ v ∧ v ≤ formL.most k
      · by_cases c5 : (kids.length : Int) = formL.ar k
        · have E := hid (show formL.wk (.mk k v kids) d n = formL.wkL kids (d + 1) (n + 1) by
            rw [hE0.out, if_neg]
            rintro (h1 | h1 | h1)
            · exact c1 h1
            · exact c2 h1
            · rw [ formL.okB_iff.2 ⟨c3, c4, c5⟩] at h1; cases h1)
          have e5 : ((kids.length : Int) != formL.ar k) = false := by simpa using c5
          clear c5 HNO
          go_wp2_with fail
          refine wp_region_below (by kernel_rfl) (by kernel_rfl) ?_; (repeat (go_big_quiet_step ((first | (go_at_call 97; exact Calls.over_same (operands_any _ _)) | (go_at_call 59; first | with_reducible exact Calls.over_same (in_yes c3 _) | with_reducible exact Calls.over_same (in_yes c4 _)))))); refine wpQuiet_nil ?_
          intro w1 hb
          replace b3 := box3_next hb b3
          replace b1 := box1_next hb b1
          replace bp := box1_next hb bp
          replace bR := box1_next hb bR
          replace hu := hu.more hb
          go_wp2_with fail
          refine (cf_of kids h _ a c R (w.heap.size + 1) (w.heap.size + 1 + 1) d (n + 1) (TrsIn_upd hu (fun b hb => hb) hks) hc hc2 (by omega) (by omega) (by omega) (by omega) b1.2.1 bp.2.1 bR.2.1 bR.2.2 (by omega) (by omega)).mono ?_
          rintro e w' ⟨rfl, hu2⟩
          go_wp2_with fail
          go_ret
          exact ⟨by rw [E.out]; simp, by rw [E.out]; exact hu.trans hu2⟩
        · have E := hid (HNO.out (fun hh => c5 hh.2.2))
          have e5 : ((kids.length : Int) != formL.ar k) = true := by simpa using c5
          clear c5 HNO
          go_wp2_with fail
          refine wp_region_below (by kernel_rfl) (by kernel_rfl) ?_; (repeat (go_big_quiet_step ((first | (go_at_call 97; exact Calls.over_same (operands_any _ _)) | (go_at_call 59; first | with_reducible exact Calls.over_same (in_yes c3 _) | with_reducible exact Calls.over_same (in_yes c4 _)))))); refine wpQuiet_nil ?_
          intro w1 hb
          go_wp2_with fail
          go_ret
          exact ⟨by rw [E.out]; rfl, by rw [E.out]; exact hu.more hb⟩
      · have E := hid (HNO.out (fun hh => c4 hh.2.1))
        clear HNO
        go_wp2_with fail
        refine wp_region_below (by kernel_rfl) (by kernel_rfl) ?_; (repeat (go_big_quiet_step ((go_at_call 59; first | with_reducible exact Calls.over_same (in_yes c3 _) | with_reducible exact Calls.over_same (in_no c4 _))))); refine wpQuiet_nil ?_
        intro w1 hb
        go_wp2_with fail
        go_ret
        exact ⟨by rw [E.out]; rfl, by rw [E.out]; exact hu.more hb⟩
    · have E := hid (HNO.out (fun hh => c3 hh.1))
      clear HNO
      go_wp2_with fail
      refine wp_region_below (by kernel_rfl) (by kernel_rfl) ?_; (repeat (go_big_quiet_step ((go_at_call 59; exact Calls.over_same (in_no c3 _))))); refine wpQuiet_nil ?_
      intro w1 hb
      go_wp2_with fail
      go_ret
      exact ⟨by rw [E.out]; rfl, by rw [E.out]; exact hu.more hb⟩

theorem wk_any : ∀ t, WkT t := fun t => Tr.ind (fun k v kids ih => wk_of k v kids ih) t

end Formula
end Go.Proofs.Ytbeljjalfhogdaa
