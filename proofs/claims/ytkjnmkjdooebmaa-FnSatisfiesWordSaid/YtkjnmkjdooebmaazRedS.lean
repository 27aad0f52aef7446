/- The reference's l6Period, ReduceLasso, LassoSame, SameWord: what they return. Conditions: those of each contract. -/
import Derived.Test.YtkjnmkjdooebmaaJW10
set_option linter.unusedVariables false
set_option linter.unusedSimpArgs false
namespace Go.Proofs.Ytkjnmkjdooebmaa
open Go.RowKit
set_option linter.unusedVariables false
set_option linter.unusedSimpArgs false
namespace Lasso

theorem per_n {l : List Int} (h : 0 < l.length) : IsPer l (perN l) := by
  obtain ⟨n, hn⟩ := per_ex l h
  rw [hn.n]; exact hn
/-- the first j of the numbers behind k repeat -/
def upTo (l : List Int) (k j : Nat) : Prop := l.length % k = 0 ∧ ∀ i, k ≤ i → i < j → l.getD i 0 = l.getD (i - k) 0
theorem upTo.done {l : List Int} {k j : Nat} (h : upTo l k j) (hj : l.length ≤ j) : perB l k = true := perB_iff.2 ⟨h.1, fun i h1 h2 => h.2 i h1 (by omega)⟩
theorem upTo.step {l : List Int} {k j : Nat} (h : upTo l k j) (e : l.getD j 0 = l.getD (j - k) 0) : upTo l k (j + 1) := ⟨h.1, fun i h1 h2 => by
  by_cases e2 : i = j
  · subst e2; exact e
  · exact h.2 i h1 (by omega)⟩
theorem per_no {l : List Int} {k j : Nat} (h1 : k ≤ j) (h2 : j < l.length) (e : l.getD j 0 ≠ l.getD (j - k) 0) : perB l k = false := by
  cases h : perB l k with
  | false => rfl
  | true => exact absurd ((perB_iff.1 h).2 j h1 h2) e

set_option maxRecDepth 100000 in
set_option maxHeartbeats 4000000 in
theorem specPer_any (l : List Int) (w : World) (a : Option Addr) (c : Nat) (hl : IntsIn Any w a l) (h1 : l.length ≤ c) (h2 : c ≤ maxLen) (h0 : 0 < l.length) : Calls Try.prog 36 #[.slice a l.length c] w (Ret (.int .i64 ((perN l : Nat) : Int)) w) := by
  have HL := hid hl
  obtain ⟨b, o, rfl, hbl, _, _⟩ := ints_at hl (Below.refl _ _) h0
  have HP := hid (fun n (h : IsPer l n) => h.n)
  clear hl
  unfold maxLen at h2
  go_enter Try.func36, Try.ntmps36
  go_wp2_with fail
  go_loopw [3] (fun n wr => ∃ k : Nat, 1 ≤ k ∧ k ≤ l.length ∧ n = .int .i64 k ∧ Hid (Below w.heap.size w wr) ∧ Hid (∀ m, 1 ≤ m → m < k → perB l m = false)) (fun n _ => l.length - (intOf n).toNat)
  case atStart => exact ⟨1, by omega, by omega, rfl, hid (Below.refl _ _), hid (fun m h1 h2 => by omega)⟩
  case round =>
    obtain ⟨k, hk1, hk2, rfl, B, HN⟩ := hrel
    obtain ⟨wo, rfl⟩ : ∃ wo : World, wo = wr := ⟨_, rfl⟩
    by_cases hlt : k < l.length
    · have hlt2 : (k : Int) < (l.length : Int) := by omega
      have hk0 : (0 : Int) < (k : Int) := by omega
      have hm : (l.length : Int) % (k : Int) = ((l.length % k : Nat) : Int) := by simp
      by_cases hmod : l.length % k = 0
      · have hm0 : ((l.length : Int) % (k : Int) == 0) = true := by rw [hm, hmod]; rfl
        have HM := hid hmod
        clear hm hmod
        go_wp2_with fail
        go_loopw [4, 5] (fun ok i w2 => ∃ (t : Bool) (j : Nat), ok = .bool t ∧ i = .int .i64 j ∧ k ≤ j ∧ j ≤ l.length ∧ Hid (Below w.heap.size w w2) ∧ Hid (t = true → upTo l k j) ∧ Hid (t = false → perB l k = false)) (fun _ i _ => l.length - (intOf i).toNat)
        case atStart => exact ⟨true, k, rfl, rfl, Nat.le_refl _, by omega, B, hid (fun _ => ⟨HM.out, fun i h1 h2 => by omega⟩), hid (fun e => by cases e)⟩
        case round =>
          obtain ⟨t, j, rfl, rfl, hj1, hj2, B2, HU, HF⟩ := hrel
          obtain ⟨wi, rfl⟩ : ∃ wi : World, wi = wr := ⟨_, rfl⟩
          cases t with
          | false =>
            have HX := hid (HF.out rfl)
            clear HU HF
            by_cases hjl : j < l.length
            all_goals
              go_wp2_with fail
              go_roundw
              case rel => exact ⟨k + 1, by omega, by omega, by go_num, B2, hid (fun m m1 m2 => by
                by_cases e : m = k
                · rw [e]; exact HX.out
                · exact HN.out m m1 (by omega))⟩
              case measure => simp [intOf]; omega
          | true =>
            by_cases hjl : j < l.length
            · have hjl2 : (j : Int) < (l.length : Int) := by omega
              have hsub : (j : Int) - (k : Int) = ((j - k : Nat) : Int) := by omega
              obtain ⟨_, _, e1, hb1, _, g1, _⟩ := ints_at HL.out B2.out hjl
              obtain ⟨_, _, e2, hb2, _, g2, _⟩ := ints_at HL.out B2.out (show j - k < l.length by omega)
              simp at e1 e2
              obtain ⟨rfl, rfl⟩ := e1
              obtain ⟨rfl, rfl⟩ := e2
              have HU1 := hid (fun (e : l[j] = l[j - k]) => (HU.out rfl).step (by rw [getD_zero l j hjl, getD_zero l (j - k) (by omega), e]))
              have HN1 := hid (fun (e : l[j] ≠ l[j - k]) => per_no hj1 hjl (by rw [getD_zero l j hjl, getD_zero l (j - k) (by omega)]; exact e))
              generalize l[j] = x at *
              generalize l[j - k] = y at *
              have hjk : j - k < l.length := by omega
              generalize j - k = jk at *
              by_cases hxy : x = y
              · have hx2 : (x == y) = true := by simpa using hxy
                have hu := hid (HU1.out hxy)
                clear HU HF HU1 HN1 hxy
                go_wp2_with fail
                refine wp_region_over (by kernel_rfl) (by kernel_rfl) ?_; (repeat (go_big_quiet_step ((fail)))); refine wpQuiet_nil ?_; rintro _ ⟨xq, rfl⟩
                have B3 := hid (below_next B2.out (over_below wi xq))
                clear g1 g2
                go_wp2_with fail
                go_roundw
                case rel => exact ⟨true, j + 1, rfl, by go_num, by omega, by omega, B3, hid (fun _ => hu.out), hid (fun e => by cases e)⟩
                case measure => simp [intOf]; omega
              · have hx2 : (x == y) = false := by simpa using hxy
                have hu := hid (HN1.out hxy)
                clear HU HF HU1 HN1 hxy
                go_wp2_with fail
                refine wp_region_over (by kernel_rfl) (by kernel_rfl) ?_; (repeat (go_big_quiet_step ((fail)))); refine wpQuiet_nil ?_; rintro _ ⟨xq, rfl⟩
                have B3 := hid (below_next B2.out (over_below wi xq))
                clear g1 g2
                go_wp2_with fail
                go_roundw
                case rel => exact ⟨false, j + 1, rfl, by go_num, by omega, by omega, B3, hid (fun e => by cases e), hid (fun _ => hu.out)⟩
                case measure => simp [intOf]; omega
            · obtain rfl : j = l.length := by omega
              have HX := hid ((HU.out rfl).done (Nat.le_refl _))
              clear HU HF
              go_wp2_with fail
              go_ret
              exact Ret.mk (show Value.int .i64 (k : Int) = Value.int .i64 ((perN l : Nat) : Int) from by rw [HP.out k ⟨hk1, hk2, HX.out, HN.out⟩]) B2.out
      · have hm0 : ((l.length : Int) % (k : Int) == 0) = false := by rw [hm]; simp; omega
        have HX := hid (show perB l k = false by
          cases h : perB l k with
          | false => rfl
          | true => exact absurd (perB_iff.1 h).1 hmod)
        clear hm hmod
        go_wp2_with fail
        go_loopw [4, 5] (fun ok i w2 => ok = .bool false ∧ i = .int .i64 k ∧ w2 = wo) (fun _ i _ => 0)
        case atStart => exact ⟨rfl, rfl, rfl⟩
        case round =>
          obtain ⟨rfl, rfl, rfl⟩ := hrel
          go_wp2_with fail
          go_roundw
          case rel => exact ⟨k + 1, by omega, by omega, by go_num, B, hid (fun m m1 m2 => by
            by_cases e : m = k
            · rw [e]; exact HX.out
            · exact HN.out m m1 (by omega))⟩
          case measure => simp [intOf]; omega
    · obtain rfl : k = l.length := by omega
      go_wp2_with fail
      go_ret
      exact Ret.mk (show Value.int .i64 (l.length : Int) = Value.int .i64 ((perN l : Nat) : Int) from by rw [HP.out l.length ⟨hk1, hk2, perB_full l, HN.out⟩]) B.out
end Lasso
end Go.Proofs.Ytkjnmkjdooebmaa
