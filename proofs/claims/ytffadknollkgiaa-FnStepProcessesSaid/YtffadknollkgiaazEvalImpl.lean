/- What (impl.Expr).eval returns, for every valid expression and three numbers from 0 to 3. Conditions: those of each contract. -/
import Derived.Test.YtffadknollkgiaaJS11
set_option linter.unusedVariables false
set_option linter.unusedSimpArgs false
namespace Go.Proofs.Ytffadknollkgiaa
open Go.RowKit
namespace Expr

set_option maxHeartbeats 1000000 in
theorem ev_leaf (k v : Int) (hk : (k = 1 ∧ 0 ≤ v ∧ v ≤ 3) ∨ (k = 2 ∧ (v = 0 ∨ v = 1 ∨ v = 2))) : EvT 84 (.mk k v []) := by
  intro n w x a l c hs hx hv hc hc2
  rw [TrIn_mk] at hx
  obtain ⟨a', n', c', rfl, _, _, rfl, hc', hc2', hks⟩ := hx
  obtain ⟨b, o, x, y, z, rfl, rfl, hb, g0, g1, g2⟩ := hv.cells
  unfold maxLen at hc2
  clear hs hks hv
  simp only [List.length_nil] at hc' ⊢
  rcases hk with ⟨rfl, hv⟩ | ⟨rfl, rfl | rfl | rfl⟩
  all_goals
    go_enter Try.func84, Try.ntmps84
    go_wp2_with fail
    go_ret
    exact Ret.mk (int_val (by simp [evalT, evalTs, nodeVal, gOf])) (below_alloc _ _)

set_option maxHeartbeats 1000000 in
theorem ev_not (t : Tr) (h : EvT 84 t) : EvT 84 (.mk 3 0 [t]) := by
  intro n w x a l c hs hx hv hc hc2
  obtain ⟨m, rfl, _, _, _, _, _, hkids⟩ := exprL.shape_mk hs
  have E := hid (show evalT (gOf l) (.mk 3 0 [t]) = tr01 (evalT (gOf l) t == 0) from rfl)
  have hkid := hid (hkids t (by simp))
  have hbd := evalT_bd (gOf l) hv.bd m t hkid.out
  rw [TrIn_mk] at hx
  obtain ⟨a', n', c', rfl, _, _, rfl, hc', hc2', hks⟩ := hx
  rw [TrsIn_cons] at hks
  obtain ⟨b, o, c0, c1, c2, rfl, _, g0, g1, g2, hT, _⟩ := hks
  have hb := blt g0
  clear hs hkids
  simp only [List.length_cons, List.length_nil] at hc' ⊢
  go_enter Try.func84, Try.ntmps84
  go_wp2_with fail
  refine (h m _ _ a l c hkid.out (TrIn_alloc hT _) (hv.below (below_alloc _ _)) hc hc2).mono ?_
  rintro e w1 ⟨rfl, hb1⟩
  have b1 := box3_next hb1 (box3_new ..)
  generalize evalT (gOf l) t = A at *
  go_wp2_with fail
  refine (truth01 _ _).mono ?_
  rintro e w2 ⟨rfl, rfl⟩
  go_wp2_with fail
  go_ret
  exact Ret.mk (int_val E.out.symm) (below_next (below_alloc _ _) hb1)

set_option maxHeartbeats 4000000 in
theorem ev_two (k : Int) (hk : k = 4 ∨ k = 5 ∨ k = 6 ∨ k = 7 ∨ k = 8 ∨ k = 9) (t u : Tr) (h : EvT 84 t) (h' : EvT 84 u) : EvT 84 (.mk k 0 [t, u]) := by
  intro n w x a l c hs hx hv hc hc2
  obtain ⟨m, rfl, _, _, _, _, _, hkids⟩ := exprL.shape_mk hs
  have E := hid (show evalT (gOf l) (.mk k 0 [t, u]) = nodeVal (gOf l) k 0 [evalT (gOf l) t, evalT (gOf l) u] from rfl)
  have hkid := hid (hkids t (by simp))
  have hkid' := hid (hkids u (by simp))
  have hbd := evalT_bd (gOf l) hv.bd m t hkid.out
  have hbd' := evalT_bd (gOf l) hv.bd m u hkid'.out
  rw [TrIn_mk] at hx
  obtain ⟨a', n', c', rfl, _, _, rfl, hc', hc2', hks⟩ := hx
  obtain ⟨b, o, c0, c1, c2, d0, d1, d2, rfl, hb, g0, g1, g2, f0, f1, f2, hT, hU⟩ := two_cells hks
  clear hs hkids hks
  have H := hid (fun w x a (hx : TrIn Any w t x) (hv : Vals w a l) => h m w x a l c hkid.out hx hv hc hc2)
  have H' := hid (fun w x a (hx : TrIn Any w u x) (hv : Vals w a l) => h' m w x a l c hkid'.out hx hv hc hc2)
  simp only [List.length_cons, List.length_nil] at hc' ⊢
  generalize evalT (gOf l) t = A at *
  generalize evalT (gOf l) u = B at *
  rcases hk with rfl | rfl | rfl | rfl | rfl | rfl
  all_goals
    go_enter Try.func84, Try.ntmps84
    go_wp2_with fail
    refine (H.out _ _ a (TrIn_alloc hT _) (hv.below (below_alloc _ _))).mono ?_
    rintro e w1 ⟨rfl, hb1⟩
    have b1 := box3_next hb1 (box3_new ..)
    have BB := below_next (below_alloc _ _) hb1
    obtain ⟨k0, k1, k2⟩ := cells_next BB hb f0 f1 f2
    have hbb : b < w1.heap.size := Nat.lt_of_lt_of_le hb BB.size
    clear hb1
    go_wp2_with fail
    refine (H'.out _ _ a (TrIn_below BB hU) (hv.below BB)).mono ?_
    rintro e w2 ⟨rfl, hb2⟩
    replace BB := below_next BB hb2
    replace b1 := box3_next hb2 b1
    clear hb2
  · by_cases hA : A = 0
    · have hA2 : (A != 0) = false := by simpa using hA
      have HA := hid hA2
      go_wp2_with fail
      refine (truth01 _ _).mono ?_
      rintro e w3 ⟨rfl, rfl⟩
      go_wp2_with fail
      go_ret
      exact Ret.mk (int_val (by rw [E.out]; simp only [nodeVal]; rw [HA.out]; simp)) BB
    · have hA2 : (A != 0) = true := by simpa using hA
      have HA := hid hA2
      go_wp2_with fail
      refine (truth01 _ _).mono ?_
      rintro e w3 ⟨rfl, rfl⟩
      go_wp2_with fail
      go_ret
      exact Ret.mk (int_val (by rw [E.out]; simp only [nodeVal]; rw [HA.out]; simp)) BB
  · by_cases hA : A = 0
    · have hA2 : (A != 0) = false := by simpa using hA
      have HA := hid hA2
      go_wp2_with fail
      refine (truth01 _ _).mono ?_
      rintro e w3 ⟨rfl, rfl⟩
      go_wp2_with fail
      go_ret
      exact Ret.mk (int_val (by rw [E.out]; simp only [nodeVal]; rw [HA.out]; simp)) BB
    · have hA2 : (A != 0) = true := by simpa using hA
      have HA := hid hA2
      go_wp2_with fail
      refine (truth01 _ _).mono ?_
      rintro e w3 ⟨rfl, rfl⟩
      go_wp2_with fail
      go_ret
      exact Ret.mk (int_val (by rw [E.out]; simp only [nodeVal]; rw [HA.out]; simp)) BB
  · go_wp2_with fail
    refine (truth01 _ _).mono ?_
    rintro e w3 ⟨rfl, rfl⟩
    go_wp2_with fail
    go_ret
    exact Ret.mk (int_val (by rw [E.out]; simp [nodeVal])) BB
  · go_wp2_with fail
    refine (truth01 _ _).mono ?_
    rintro e w3 ⟨rfl, rfl⟩
    go_wp2_with fail
    go_ret
    exact Ret.mk (int_val (by rw [E.out]; simp [nodeVal])) BB
  · go_wp2_with fail
    go_ret
    exact Ret.mk (int_val (by rw [E.out]; simp [nodeVal])) BB
  · go_wp2_with fail
    go_ret
    exact Ret.mk (int_val (by rw [E.out]; simp [nodeVal]; omega)) BB

theorem ev_any : ∀ t, EvT 84 t := Tr.ind fun k v kids ih => by
  intro n w x a l c hs
  obtain ⟨m, h1, h2, h3, h4, h5, h6, h7⟩ := exprL.shape_mk hs
  rw [exprL_K] at h3
  rw [exprL_most] at h5
  rw [exprL_ar] at h6
  by_cases k0 : k = 1 ∨ k = 2
  · obtain rfl := len0 (by rw [h6, if_pos k0])
    refine ev_leaf k v ?_ n w x a l c hs
    by_cases k2 : k = 1
    · rw [if_pos k2] at h5; left; exact ⟨k2, h4, h5⟩
    · rw [if_neg k2, if_pos (by omega)] at h5; right; exact ⟨by omega, by omega⟩
  rw [if_neg (by omega), if_neg (by omega)] at h5
  obtain rfl : v = 0 := by omega
  by_cases k3 : k = 3
  · obtain ⟨a', rfl⟩ := len1 (by rw [h6, if_neg k0, if_pos k3])
    subst k3
    exact ev_not a' (ih a' (by simp)) n w x a l c hs
  · obtain ⟨t, u, rfl⟩ := len2 (by rw [h6, if_neg k0, if_neg k3])
    exact ev_two k (by omega) t u (ih t (by simp)) (ih u (by simp)) n w x a l c hs

end Expr
end Go.Proofs.Ytffadknollkgiaa
