/- slices.Equal over numbers, impl.StateSame: equality of lists. Conditions: those of each contract. -/
import Derived.Test.YtffadknollkgiaaJS2
import Derived.Test.YtffadknollkgiaaJS1
import Derived.Test.YtffadknollkgiaaJS4
import Derived.Test.YtffadknollkgiaaJS3
set_option linter.unusedVariables false
set_option linter.unusedSimpArgs false
namespace Go.Proofs.Ytffadknollkgiaa
open Go.RowKit
set_option linter.unusedVariables false
set_option linter.unusedSimpArgs false

theorem ne_dec {l m : List Int} {k : Nat} (h1 : k < l.length) (h2 : k < m.length) (h : l[k] ≠ m[k]) : decide (l = m) = false := by
  simp only [decide_eq_false_iff_not]
  intro e
  subst e
  exact h rfl
theorem take_eq {l m : List Int} {k : Nat} (h : l.take k = m.take k) (h1 : k < l.length) (h2 : k < m.length) (h3 : l[k] = m[k]) : l.take (k + 1) = m.take (k + 1) := by
  rw [List.take_add_one, List.take_add_one, h, List.getElem?_eq_getElem h1, List.getElem?_eq_getElem h2, h3]

set_option maxRecDepth 100000 in
set_option maxHeartbeats 1000000 in
theorem eqSl_any (l m : List Int) (w : World) (a a' : Option Addr) (c c' : Nat) (hl : IntsIn Any w a l) (hm : IntsIn Any w a' m) (h1 : l.length ≤ c ∧ c ≤ maxLen) (h2 : m.length ≤ c' ∧ c' ≤ maxLen) :
    Calls Try.prog 58 #[.slice a l.length c, .slice a' m.length c'] w (Ret (.bool (decide (l = m))) w) := by
  have HL := hid hl
  have HM := hid hm
  obtain ⟨c1, c2⟩ := h1
  obtain ⟨c3, c4⟩ := h2
  unfold maxLen at c2 c4
  clear hl hm
  by_cases hne : l.length = m.length
  · have HNE := hid hne
    have hne1 : ((l.length : Int) == (m.length : Int)) = true := by rw [hne]; simp
    have hne2 : ((l.length : Int) != (m.length : Int)) = false := by rw [hne]; simp
    clear hne
    go_enter Try.func58, Try.ntmps58
    go_wp2_with fail
    go_loopw [13] (fun i wr => ∃ k : Nat, k ≤ l.length ∧ i = .int .i64 k ∧ Hid (Below w.heap.size w wr) ∧ Hid (l.take k = m.take k)) (fun i _ => l.length - (intOf i).toNat)
    case atStart => exact ⟨0, Nat.zero_le _, rfl, hid (Below.refl _ _), hid rfl⟩
    case round =>
      obtain ⟨k, hk, rfl, B, HT⟩ := hrel
      by_cases hlt : k < l.length
      · have hlt2 : (k : Int) < (l.length : Int) := by omega
        have hltm : k < m.length := by have := HNE.out; omega
        have hlt3 : (k : Int) < (m.length : Int) := by omega
        obtain ⟨b, o, rfl, _, _, g1, _⟩ := ints_at HL.out B.out hlt
        obtain ⟨b', o', rfl, _, _, g2, _⟩ := ints_at HM.out B.out hltm
        have HD := hid (fun h => ne_dec hlt hltm h)
        have HE := hid (fun h => take_eq HT.out hlt hltm h)
        generalize l[k] = x at *
        generalize m[k] = y at *
        by_cases hxy : x = y
        · subst hxy
          have HE2 := hid (HE.out rfl)
          clear HD HE HT
          go_wp2_with fail
          refine wp_region_over (by kernel_rfl) (by kernel_rfl) ?_; (repeat (go_big_quiet_step ((fail)))); refine wpQuiet_nil ?_; rintro _ ⟨xq, rfl⟩
          have B2 := hid (below_next B.out (over_below wr xq))
          go_wp2_with fail
          go_roundw
          case rel => exact ⟨k + 1, hlt, by go_num, B2, HE2⟩
          case measure => simp [intOf]; omega
        · have hd := HD.out hxy
          rw [hd]
          have hxy2 : (x == y) = false := by simpa using hxy
          clear hd HD HE HT hxy
          go_wp2_with fail
          refine wp_region_over (by kernel_rfl) (by kernel_rfl) ?_; (repeat (go_big_quiet_step ((fail)))); refine wpQuiet_nil ?_; rintro _ ⟨xq, rfl⟩
          have B2 := hid (below_next B.out (over_below wr xq))
          go_wp2_with fail
          go_ret
          exact Ret.mk rfl B2.out
      · obtain rfl : k = l.length := by omega
        have hd : decide (l = m) = true := by
          have h := HT.out
          rw [List.take_length, HNE.out, List.take_length] at h
          simpa using h
        have HD := hid hd
        clear hd HT
        go_wp2_with fail
        go_ret
        exact Ret.mk (by rw [HD.out]; rfl) B.out
  · have hne2 : ((l.length : Int) == (m.length : Int)) = false := by simp; omega
    have hd : decide (l = m) = false := by simp only [decide_eq_false_iff_not]; intro e; exact hne (by rw [e])
    rw [hd]
    clear hd
    go_enter Try.func58, Try.ntmps58
    go_wp2_with fail
    go_ret
    exact Ret.mk rfl (Below.refl _ _)

set_option maxRecDepth 100000 in
set_option maxHeartbeats 1000000 in
theorem stSame_any (l m l' m' : List Int) (w : World) (a b a' b' : Option Addr) (c d c' d' : Nat) (hl : IntsIn Any w a l) (hm : IntsIn Any w b m) (hl' : IntsIn Any w a' l') (hm' : IntsIn Any w b' m') (h1 : l.length ≤ c ∧ c ≤ maxLen) (h2 : m.length ≤ d ∧ d ≤ maxLen) (h1' : l'.length ≤ c' ∧ c' ≤ maxLen) (h2' : m'.length ≤ d' ∧ d' ≤ maxLen) :
    Calls Try.prog 27 #[.agg #[.slice a l.length c, .slice b m.length d], .agg #[.slice a' l'.length c', .slice b' m'.length d']] w (Ret (.bool (decide (l = l') && decide (m = m'))) w) := by
  have H1 := hid (fun (W : World) (M : Below w.heap.size w W) => eqSl_any l l' W a a' c c' (hl.below M) (hl'.below M) h1 h1')
  have H2 := hid (fun (W : World) (M : Below w.heap.size w W) => eqSl_any m m' W b b' d d' (hm.below M) (hm'.below M) h2 h2')
  clear hl hm hl' hm' h1 h2 h1' h2'
  go_enter Try.func27, Try.ntmps27
  go_wp2_with fail
  have h0 := below_next (below_alloc w (.cells #[.slice a l.length c, .slice b m.length d] 50)) (below_alloc _ (.cells #[.slice a' l'.length c', .slice b' m'.length d'] 50))
  refine (H1.out _ h0).mono ?_
  rintro e w1 ⟨rfl, hb⟩
  have P1 := boxp_next hb (boxp_next (below_alloc _ (.cells #[.slice a' l'.length c', .slice b' m'.length d'] 50)) (boxp_at (w := w) (a := .slice a l.length c) (b := .slice b m.length d) (t := 50) rfl))
  have P2 := boxp_next hb (boxp_at (w := w.alloc (.cells #[.slice a l.length c, .slice b m.length d] 50)) (B := w.heap.size + 1) (a := .slice a' l'.length c') (b := .slice b' m'.length d') (t := 50) (by simp))
  have M := hid (below_next h0 hb)
  clear hb h0
  obtain ⟨p0, p1, p2, p3, p4⟩ := P1
  obtain ⟨q0, q1, q2, q3, q4⟩ := P2
  by_cases hd : decide (l = l') = true
  · have HD := hid hd
    rw [hd]
    clear hd
    go_wp2_with fail
    refine (H2.out _ M.out).mono ?_
    rintro e w2 ⟨rfl, hb⟩
    have M2 := hid (below_next M.out hb)
    clear hb p0 p1 p2 p3 p4 q0 q1 q2 q3 q4
    go_wp2_with fail
    go_ret
    exact Ret.mk (show Value.bool (decide (m = m')) = _ by rw [HD.out, Bool.true_and]) M2.out
  · have hd2 : decide (l = l') = false := by simpa using hd
    have HD := hid hd2
    rw [hd2]
    clear hd hd2
    go_wp2_with fail
    go_ret
    exact Ret.mk (show Value.bool false = _ by rw [HD.out, Bool.false_and]) M.out
end Go.Proofs.Ytffadknollkgiaa
