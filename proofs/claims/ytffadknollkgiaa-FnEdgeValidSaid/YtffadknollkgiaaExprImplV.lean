/- The program's Expr.walk: what it returns, for every tree. Conditions: those of each contract. -/
import Derived.Test.YtffadknollkgiaaExprImplC
namespace Go.Proofs.Ytffadknollkgiaa
open Go.RowKit
namespace Expr
set_option maxHeartbeats 2000000 in
theorem wk_of (k v : Int) (kids : List Tr) (h : ∀ t, t ∈ kids → WkT t) : WkT (.mk k v kids) := by
  intro w x R d n hx hd1 hd2 hn1 hn2 hR hF
  rw [TrIn_mk] at hx
  obtain ⟨a, n', c, rfl, hk, hv, rfl, hc, hc2, hks⟩ := hx
  have lR : R < w.heap.size := blt hR
  have hE0 := hid (show exprL.wk (.mk k v kids) d n = if 6 < d ∨ exprL.N < n + 1 ∨ exprL.okB k v kids.length = false then (false, n + 1) else exprL.wkL kids (d + 1) (n + 1) by simp only [Lang.wk])
  have lR1 : R < w.heap.size + 1 := by omega
  have lR2 : R < w.heap.size + 1 + 1 := by omega
  have lR3 : R < w.heap.size + 1 + 1 + 1 := by omega
  go_enter Try.func73, Try.ntmps73
  go_upto_block 0 with fail
  go_cut [7, 8] (fun s7 s8 wx => s7 = .int .i64 (exprL.ar k) ∧ s8 = .int .i64 (exprL.most k) ∧ Upd w R (.int .i64 (n + 1)) wx ∧ w.heap.size + 1 + 1 < wx.heap.size ∧ wx.cell? ⟨w.heap.size, 0, none⟩ = some (.int .i64 k) ∧ wx.cell? ⟨w.heap.size, 1, none⟩ = some (.int .i64 v) ∧ wx.cell? ⟨w.heap.size, 2, none⟩ = some (.slice a kids.length c) ∧
    wx.cell? ⟨w.heap.size + 1, 0, none⟩ = some (.int .i64 d) ∧ wx.cell? ⟨w.heap.size + 1 + 1, 0, none⟩ = some (.pointer (some ⟨R, 0, none⟩)))
  case first =>
    go_wp2_with fail
    all_goals go_meet
    all_goals refine ⟨int_val ?_, int_val ?_, Upd.of (by repeat (first | exact Below.refl _ _ | assumption | refine below_a ?_ _ | refine below_o ?_ _ | refine below_d ?_ | refine below_n ?_ _ | refine below_s ?_ (by first | (simp; done) | (simp; omega) | omega) _)), by simp, by simp [go_sem], by simp [go_sem], by simp [go_sem], by simp [go_sem], by simp [go_sem]⟩
    all_goals first
      | (have e := ‹(k == 1) = true›; simp at e; first | rw [exprL_ar, if_pos (.inl e)] | rw [exprL_most, if_pos e])
      | (have e1 := ‹(k == 1) = false›; have e := ‹(k == 2) = true›; simp at e1 e; first | rw [exprL_ar, if_pos (.inr e)] | rw [exprL_most, if_neg e1, if_pos e])
      | (have e1 := ‹(k == 1) = false›; have e2 := ‹(k == 2) = false›; have e := ‹(k == 3) = true›; simp at e1 e2 e; first | rw [exprL_ar, if_neg (by omega), if_pos e] | rw [exprL_most, if_neg e1, if_neg e2])
      | (have e1 := ‹(k == 1) = false›; have e2 := ‹(k == 2) = false›; have e := ‹(k == 3) = false›; simp at e1 e2 e; first | rw [exprL_ar, if_neg (by omega), if_neg e] | rw [exprL_most, if_neg e1, if_neg e2])
  case rest =>
    obtain ⟨rfl, rfl, hu, hsz, q0, q1, q2, qd, qp⟩ := hcut
    have qR := hu.cell hR
    have qF := (hu.frozen (o := 0) lR).trans hF
    by_cases c1 : 6 < d
    · have E := hid (show exprL.wk (.mk k v kids) d n = (false, n + 1) by rw [hE0.out, if_pos (.inl c1)])
      go_wp2_with fail
      go_ret
      exact ⟨by rw [E.out]; rfl, by rw [E.out]; exact hu⟩
    by_cases c2 : 15 < n + 1
    · have E := hid (show exprL.wk (.mk k v kids) d n = (false, n + 1) by rw [hE0.out, if_pos (.inr (.inl c2))])
      go_wp2_with fail
      go_ret
      exact ⟨by rw [E.out]; rfl, by rw [E.out]; exact hu⟩
    have hno : ∀ (hh : ¬((1 ≤ k ∧ k ≤ 9) ∧ (0 ≤ v ∧ v ≤ exprL.most k) ∧ (kids.length : Int) = exprL.ar k)), exprL.wk (.mk k v kids) d n = (false, n + 1) := fun hh => by
      rw [hE0.out, if_pos (.inr (.inr (exprL.okB_no hh)))]
    have HNO := hid hno; clear hno
    by_cases c3 : 1 ≤ k ∧ k ≤ 9
    · by_cases c4 : 0 ≤ v ∧ v ≤ exprL.most k
      · by_cases c5 : (kids.length : Int) = exprL.ar k
        · have E := hid (show exprL.wk (.mk k v kids) d n = exprL.wkL kids (d + 1) (n + 1) by
            rw [hE0.out, if_neg]
            rintro (h1 | h1 | h1)
            · exact c1 h1
            · exact c2 h1
            · rw [exprL.okB_iff.2 ⟨c3, c4, c5⟩] at h1; cases h1)
          have e5 : ((kids.length : Int) != exprL.ar k) = false := by simpa using c5
          clear c5 HNO
          go_wp2_with fail
          refine (in_yes c3 _).mono ?_
          rintro e w' ⟨rfl, rfl⟩
          go_wp2_with fail
          refine (in_yes c4 _).mono ?_
          rintro e w' ⟨rfl, rfl⟩
          go_wp2_with fail
          refine (cf_of kids h _ a c R (w.heap.size + 1) (w.heap.size + 1 + 1) d (n + 1) (TrsIn_upd hu (fun b hb => hb) hks) hc hc2 (by omega) (by omega) (by omega) (by omega) qd qp qR qF (by omega) (by omega)).mono ?_
          rintro e w' ⟨rfl, hu2⟩
          go_wp2_with fail
          go_ret
          exact ⟨by rw [E.out]; simp, by rw [E.out]; exact hu.trans hu2⟩
        · have E := hid (HNO.out (fun hh => c5 hh.2.2))
          have e5 : ((kids.length : Int) != exprL.ar k) = true := by simpa using c5
          clear c5 HNO
          go_wp2_with fail
          refine (in_yes c3 _).mono ?_
          rintro e w' ⟨rfl, rfl⟩
          go_wp2_with fail
          refine (in_yes c4 _).mono ?_
          rintro e w' ⟨rfl, rfl⟩
          go_wp2_with fail
          go_ret
          exact ⟨by rw [E.out]; rfl, by rw [E.out]; exact hu⟩
      · have E := hid (HNO.out (fun hh => c4 hh.2.1))
        clear HNO
        go_wp2_with fail
        refine (in_yes c3 _).mono ?_
        rintro e w' ⟨rfl, rfl⟩
        go_wp2_with fail
        refine (in_no c4 _).mono ?_
        rintro e w' ⟨rfl, rfl⟩
        go_wp2_with fail
        go_ret
        exact ⟨by rw [E.out]; rfl, by rw [E.out]; exact hu⟩
    · have E := hid (HNO.out (fun hh => c3 hh.1))
      clear HNO
      go_wp2_with fail
      refine (in_no c3 _).mono ?_
      rintro e w' ⟨rfl, rfl⟩
      go_wp2_with fail
      go_ret
      exact ⟨by rw [E.out]; rfl, by rw [E.out]; exact hu⟩

theorem wk_any : ∀ t, WkT t := fun t => Tr.ind (fun k v kids ih => wk_of k v kids ih) t

end Expr
end Go.Proofs.Ytffadknollkgiaa
