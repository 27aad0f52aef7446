/- The reference's GraphValid. Conditions: those of the contract. -/
import Derived.Test.YtfemikebklmlpaaGrV
namespace Go.Proofs.Ytfemikebklmlpaa
open Go.RowKit
set_option linter.unusedVariables false
set_option linter.unusedSimpArgs false
namespace Gr

/-- states and rows, one beside the other -/
def gz (n : Nat) : List S2 → List (List Int) → Bool
  | s :: ss, r :: rs => (rowOk n r && stOk s) && gz n ss rs
  | _, _ => true
theorem gz_eq (n : Nat) : ∀ (ss : List S2) (rs : List (List Int)), rs.length = ss.length → gz n ss rs = (ss.all stOk && rs.all (rowOk n))
  | [], [], _ => rfl
  | s :: ss, r :: rs, h => by
    rw [gz, gz_eq n ss rs (by simpa using h), List.all_cons, List.all_cons]
    cases rowOk n r <;> cases stOk s <;> simp
  | [], r :: rs, h => by simp at h
  | s :: ss, [], h => by simp at h
theorem rowOk_len {n : Nat} {r : List Int} (h : r.length < 1 ∨ n < r.length) : rowOk n r = false := by
  cases e : rowOk n r with
  | false => rfl
  | true =>
    unfold rowOk at e
    rw [Bool.and_eq_true] at e
    have := dst_len e.2
    rcases h with h | h
    · rw [List.length_eq_zero_iff.1 (by omega : r.length = 0)] at e; simp at e
    · omega
theorem rowOk_dst {n : Nat} {r : List Int} (h : ¬ r.length < 1) : rowOk n r = dst n [] r := by
  unfold rowOk
  cases r with
  | nil => simp at h
  | cons y t => simp

set_option maxRecDepth 100000 in
set_option maxHeartbeats 4000000 in
theorem specValid_any (g : G2) (w : World) (x : Value) (hx : GrIn Any w g x) : Calls Try.prog 39 #[x] w (Ret (.bool (okG g)) w) := by
  obtain ⟨a, c, b, d, rfl, hc, hc2, hi, hd, hd2, hp⟩ := hx
  have HI := hid hi
  have HP := hid hp
  have E := hid (show okG g = (decide (1 ≤ g.states.length ∧ g.states.length ≤ 60) && decide (g.next.length = g.states.length) && g.states.all stOk && g.next.all (rowOk g.states.length)) from rfl)
  unfold maxLen at hc2 hd2
  generalize okG g = r at *
  obtain ⟨ss, hss⟩ : ∃ ss, ss = g.states := ⟨_, rfl⟩
  obtain ⟨rs, hrs⟩ : ∃ rs, rs = g.next := ⟨_, rfl⟩
  rw [← hss, ← hrs] at E
  rw [← hss] at hc HI
  rw [← hrs] at hd HP
  rw [← hss, ← hrs]
  clear hss hrs hi hp
  by_cases h1 : 1 ≤ ss.length ∧ ss.length ≤ 60
  · by_cases h2 : rs.length = ss.length
    · have E2 := hid (show r = gz ss.length ss rs by rw [E.out, gz_eq _ _ _ h2]; simp [h1, h2])
      have HL := hid h2
      have hn1 : ¬ ((ss.length : Int) < 1) := by omega
      have hn2 : ¬ ((ss.length : Int) > 60) := by omega
      have hn3 : ((rs.length : Int) != (ss.length : Int)) = false := by rw [bne_eq_false_iff_eq]; omega
      have hrl : rs.length ≤ ss.length := by omega
      have hrl2 : ss.length ≤ rs.length := by omega
      clear E h2
      go_enter Try.func39, Try.ntmps39
      go_wp2_with fail
      have P := hid (boxp_at (w := w) (a := .slice a ss.length c) (b := .slice b rs.length d) (t := 26) rfl)
      go_loopw [3] (fun i wr => ∃ k : Nat, k ≤ ss.length ∧ i = .int .i64 k ∧ Hid (Below w.heap.size w wr) ∧ Hid (BoxP wr w.heap.size (.slice a ss.length c) (.slice b rs.length d)) ∧ Hid (gz ss.length (ss.drop k) (rs.drop k) = gz ss.length ss rs)) (fun i _ => ss.length - (intOf i).toNat)
      case atStart => exact ⟨0, Nat.zero_le _, rfl, hid (by repeat (first | exact Below.refl _ _ | assumption | refine below_a ?_ _ | refine below_o ?_ _ | refine below_d ?_ | refine below_n ?_ _ | refine below_s ?_ (by first | (simp; done) | (simp; omega) | omega) _)), P, hid rfl⟩
      case round =>
        obtain ⟨k, hk, rfl, B, PB, HG⟩ := hrel
        obtain ⟨wo, rfl⟩ : ∃ wo : World, wo = wr := ⟨_, rfl⟩
        obtain ⟨p0, p1, p2, p3, p4⟩ := PB.out
        by_cases hlt : k < ss.length
        · have hltr : k < rs.length := by omega
          obtain ⟨b1, o1, a1, c1, a2, c2, rfl, hb1, _, g0, g1, hr1, hr2v⟩ := sts_at (HI.out.below B.out) hlt
          obtain ⟨b2, o2, a3, c3, rfl, hb2, _, g3, k1, k2, hrow⟩ := rows_at (HP.out.below B.out) hltr
          obtain ⟨_, _, e2, v1, v2, v3⟩ := hr2v
          simp at e2
          obtain ⟨rfl, rfl⟩ := e2
          have HROW := hid hrow
          have HVAL := hid (fun (W : World) (M : Below wo.heap.size wo W) => Expr.specVals_any ss[k].vals W a2 c2 (v3.below M) v1 v2)
          have HG2 := HG.out
          rw [List.drop_eq_getElem_cons hlt, List.drop_eq_getElem_cons hltr] at HG2
          simp only [gz] at HG2
          have HGG := hid HG2
          have HST := hid (show stOk ss[k] = Expr.okVals ss[k].vals from rfl)
          unfold maxLen at k2
          clear hr1 hrow HG2 HG P v3
          have hlt2 : (k : Int) < (ss.length : Int) := by omega
          have hltr2 : (k : Int) < (rs.length : Int) := by omega
          generalize ss[k] = t at *
          generalize rs[k] = u at *
          go_wp2_with fail
          by_cases hu1 : u.length < 1
          · have hu2 : (u.length : Int) < 1 := by omega
            have HF := hid (show r = false by rw [E2.out, ← HGG.out, rowOk_len (.inl hu1)]; rfl)
            refine wp_region_over (by kernel_rfl) (by kernel_rfl) ?_; (repeat (go_big_quiet_step ((fail)))); refine wpQuiet_nil ?_; rintro _ ⟨xq, rfl⟩
            go_wp2_with fail
            go_ret
            exact Ret.mk (bool_val HF.out.symm) (below_next B.out (over_below wo xq))
          · have hu2 : ¬ ((u.length : Int) < 1) := by omega
            by_cases hu3 : ss.length < u.length
            · have hu4 : (u.length : Int) > (ss.length : Int) := by omega
              have HF := hid (show r = false by rw [E2.out, ← HGG.out, rowOk_len (.inr hu3)]; rfl)
              refine wp_region_over (by kernel_rfl) (by kernel_rfl) ?_; (repeat (go_big_quiet_step ((fail)))); refine wpQuiet_nil ?_; rintro _ ⟨xq, rfl⟩
              go_wp2_with fail
              go_ret
              exact Ret.mk (bool_val HF.out.symm) (below_next B.out (over_below wo xq))
            · have hu4 : ¬ ((u.length : Int) > (ss.length : Int)) := by omega
              have HDS := hid (rowOk_dst (n := ss.length) hu1)
              generalize Expr.okVals t.vals = q at *
              refine wp_region_over (by kernel_rfl) (by kernel_rfl) ?_; (repeat (go_big_quiet_step ((go_at_call 72; exact Calls.over (HVAL.out _ (over_below wo _)))))); refine wpQuiet_nil ?_; rintro _ ⟨xq, rfl⟩
              have B3 := hid (below_next B.out (over_below wo xq))
              have HO := hid (over_below wo xq)
              obtain ⟨W, hW⟩ : ∃ W, wo.over xq = W := ⟨_, rfl⟩
              rw [hW] at B3 HO ⊢
              have PB3 := hid (boxp_next HO.out PB.out)
              have RW := hid (HROW.out.below HO.out)
              have g3' : W.cell? ⟨b2, o2 + k, none⟩ = some (.slice a3 u.length c3) := by rw [HO.out.cell (p := ⟨b2, o2 + k, none⟩) hb2]; exact g3
              have hb2' : b2 < W.heap.size := Nat.lt_of_lt_of_le hb2 HO.out.size
              clear hW g0 g1 g3 hb1 hb2 p0 p1 p2 p3 p4 HROW HVAL
              cases q with
              | false =>
                have HF := hid (show r = false by rw [E2.out, ← HGG.out, HST.out]; simp)
                go_wp2_with fail
                go_ret
                exact Ret.mk (bool_val HF.out.symm) B3.out
              | true =>
                have HGH := hid (show (dst ss.length [] u && gz ss.length (ss.drop (k + 1)) (rs.drop (k + 1))) = gz ss.length ss rs by rw [← HGG.out, HST.out, HDS.out, Bool.and_true])
                clear HGG HDS HST
                have HPW := hid (HP.out.below B3.out)
                have HG3 := hid g3'
                obtain ⟨p0, p1, p2, p3, p4⟩ := PB3.out
                go_wp2_with fail
                clear p0 p1 p2 p3 p4 g3'
                go_loopw [4] (fun i wr => ∃ j : Nat, j ≤ u.length ∧ i = .int .i64 j ∧ Hid (Below W.heap.size W wr) ∧ Hid (dst ss.length (u.take j) (u.drop j) = dst ss.length [] u)) (fun i _ => u.length - (intOf i).toNat)
                case atStart => exact ⟨0, Nat.zero_le _, rfl, hid (Below.refl _ _), hid rfl⟩
                case round =>
                  obtain ⟨j, hj, rfl, BL, HD⟩ := hrel
                  obtain ⟨wi, rfl⟩ : ∃ wi : World, wi = wr := ⟨_, rfl⟩
                  obtain ⟨p0, p1, p2, p3, p4⟩ := boxp_next BL.out PB3.out
                  have g3 : wi.cell? ⟨b2, o2 + k, none⟩ = some (.slice a3 u.length c3) := by rw [BL.out.cell (p := ⟨b2, o2 + k, none⟩) hb2']; exact HG3.out
                  have hb2 : b2 < wi.heap.size := Nat.lt_of_lt_of_le hb2' BL.out.size
                  by_cases hjl : j < u.length
                  · have hjl2 : (j : Int) < (u.length : Int) := by omega
                    obtain ⟨b4, o4, rfl, hb4, _, g4, _⟩ := ints_at RW.out BL.out hjl
                    have HD2 := HD.out
                    rw [List.drop_eq_getElem_cons hjl] at HD2
                    simp only [dst] at HD2
                    have hts : u.take (j + 1) = u.take j ++ [u[j]] := by rw [List.take_add_one, List.getElem?_eq_getElem hjl]; rfl
                    rw [← hts] at HD2
                    have HDD := hid HD2
                    have hlj : (u.take j).length = j := by rw [List.length_take]; omega
                    have HC := hid (fun (V : World) (M : Below wi.heap.size wi V) => show Calls Try.prog 73 #[.slice (some ⟨b4, o4, none⟩) j c3, .int .i64 u[j]] V (Ret (.bool (hasI (u.take j) u[j])) V) from by
                      have h9 := l4In_any (u.take j) u[j] V (some ⟨b4, o4, none⟩) c3 (ints_take' ((RW.out.below BL.out).below M) j) (by rw [hlj]; omega) (by unfold maxLen; omega)
                      rw [hlj] at h9; exact h9)
                    have hjc : j ≤ c3 := by omega
                    clear HD2 HD hts hlj
                    generalize u[j] = x at *
                    generalize hasI (u.take j) x = q at *
                    go_wp2_with fail
                    by_cases hx1 : x < 0
                    · have HF := hid (show r = false by rw [E2.out, ← HGH.out, ← HDD.out]; simp [show ¬ (0 ≤ x) by omega])
                      refine wp_region_over (by kernel_rfl) (by kernel_rfl) ?_; (repeat (go_big_quiet_step ((fail)))); refine wpQuiet_nil ?_; rintro _ ⟨xq, rfl⟩
                      go_wp2_with fail
                      go_ret
                      exact Ret.mk (bool_val HF.out.symm) (below_next B3.out (below_next BL.out (over_below wi xq)))
                    · by_cases hx2 : x ≥ (ss.length : Int)
                      · have HF := hid (show r = false by rw [E2.out, ← HGH.out, ← HDD.out]; simp [show ¬ (x < (ss.length : Int)) by omega])
                        refine wp_region_over (by kernel_rfl) (by kernel_rfl) ?_; (repeat (go_big_quiet_step ((fail)))); refine wpQuiet_nil ?_; rintro _ ⟨xq, rfl⟩
                        go_wp2_with fail
                        go_ret
                        exact Ret.mk (bool_val HF.out.symm) (below_next B3.out (below_next BL.out (over_below wi xq)))
                      · have HDE := hid (show (!q && dst ss.length (u.take (j + 1)) (u.drop (j + 1))) = dst ss.length [] u by rw [← HDD.out]; simp [show 0 ≤ x by omega, show x < (ss.length : Int) by omega])
                        clear HDD
                        refine wp_region_over (by kernel_rfl) (by kernel_rfl) ?_; (repeat (go_big_quiet_step ((go_at_call 73; exact Calls.over (HC.out _ (over_below wi _)))))); refine wpQuiet_nil ?_; rintro _ ⟨xq, rfl⟩
                        have BL2 := hid (below_next BL.out (over_below wi xq))
                        clear p0 p1 p2 p3 p4 g3 g4 hb2 hb4 HC
                        cases q with
                        | true =>
                          have HF := hid (show r = false by rw [E2.out, ← HGH.out, ← HDE.out]; simp)
                          go_wp2_with fail
                          go_ret
                          exact Ret.mk (bool_val HF.out.symm) (below_next B3.out BL2.out)
                        | false =>
                          have HDF := hid (show dst ss.length (u.take (j + 1)) (u.drop (j + 1)) = dst ss.length [] u by rw [← HDE.out]; simp)
                          clear HDE
                          go_wp2_with fail
                          go_roundw
                          case rel => exact ⟨j + 1, by omega, by go_num, BL2, HDF⟩
                          case measure => simp [intOf]; omega
                  · have HF := hid (show gz ss.length (ss.drop (k + 1)) (rs.drop (k + 1)) = gz ss.length ss rs by
                      rw [← HGH.out, ← HD.out, List.drop_of_length_le (show u.length ≤ j by omega)]; rfl)
                    have hjl2 : ¬ ((j : Int) < (u.length : Int)) := by omega
                    have B4 := hid (below_next B3.out BL.out)
                    have PB4 := hid (boxp_next BL.out PB3.out)
                    clear HGH HD
                    go_wp2_with fail
                    go_roundw
                    case rel => exact ⟨k + 1, by omega, by go_num, B4, PB4, HF⟩
                    case measure => simp [intOf]; omega
        · have HF := hid (show r = true by rw [E2.out, ← HG.out, List.drop_of_length_le (by omega)]; rfl)
          have hlt2 : ¬ ((k : Int) < (rs.length : Int)) := by omega
          clear P
          go_wp2_with fail
          go_ret
          exact Ret.mk (bool_val HF.out.symm) B.out
    · have E2 := hid (show r = false by rw [E.out]; simp [h2])
      have hn1 : ¬ ((ss.length : Int) < 1) := by omega
      have hn2 : ¬ ((ss.length : Int) > 60) := by omega
      have hn3 : ((rs.length : Int) != (ss.length : Int)) = true := by rw [bne_iff_ne]; omega
      clear h2 E
      go_enter Try.func39, Try.ntmps39
      go_wp2_with fail
      go_ret
      exact Ret.mk (bool_val E2.out.symm) (by repeat (first | exact Below.refl _ _ | assumption | refine below_a ?_ _ | refine below_o ?_ _ | refine below_d ?_ | refine below_n ?_ _ | refine below_s ?_ (by first | (simp; done) | (simp; omega) | omega) _))
  · have E2 := hid (show r = false by rw [E.out]; simp [h1])
    clear E
    by_cases h3 : ss.length < 1
    · have hn1 : (ss.length : Int) < 1 := by omega
      clear h1
      go_enter Try.func39, Try.ntmps39
      go_wp2_with fail
      go_ret
      exact Ret.mk (bool_val E2.out.symm) (by repeat (first | exact Below.refl _ _ | assumption | refine below_a ?_ _ | refine below_o ?_ _ | refine below_d ?_ | refine below_n ?_ _ | refine below_s ?_ (by first | (simp; done) | (simp; omega) | omega) _))
    · have hn1 : ¬ ((ss.length : Int) < 1) := by omega
      have hn2 : (ss.length : Int) > 60 := by omega
      clear h1
      go_enter Try.func39, Try.ntmps39
      go_wp2_with fail
      go_ret
      exact Ret.mk (bool_val E2.out.symm) (by repeat (first | exact Below.refl _ _ | assumption | refine below_a ?_ _ | refine below_o ?_ _ | refine below_d ?_ | refine below_n ?_ _ | refine below_s ?_ (by first | (simp; done) | (simp; omega) | omega) _))
end Gr
end Go.Proofs.Ytfemikebklmlpaa
