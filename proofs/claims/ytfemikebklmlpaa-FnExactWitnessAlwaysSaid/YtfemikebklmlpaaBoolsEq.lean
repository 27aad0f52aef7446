/- The laws' eqBoolS: whether two slices of truth values are the same. Conditions: those of each contract. -/
import Derived.Test.YtfemikebklmlpaaRows
import Derived.Test.YtfemikebklmlpaaCells
import Derived.WalkSpells
import Derived.WalkLawsBesides
namespace Go.Proofs.Ytfemikebklmlpaa
open Go.RowKit

/-- a row of truth values, asked one by one -/
theorem bools_drop {l m : List Bool} {k : Nat} (hk : k < l.length) (hk' : k < m.length) (h : (l.drop k == m.drop k) = (l == m)) : (l == m) = ((l[k] == m[k]) && (l.drop (k + 1) == m.drop (k + 1))) := by
  rw [← h, List.drop_eq_getElem_cons hk, List.drop_eq_getElem_cons hk']
  rfl

set_option maxHeartbeats 1000000 in
theorem eqBoolS_any (l m : List Bool) (w : World) (a a' : Option Addr) (c c' : Nat) (hl : BoolsIn Any w a l) (hm : BoolsIn Any w a' m) (hc : l.length ≤ c) (hc2 : c ≤ maxLen) (_ : m.length ≤ c') (_ : c' ≤ maxLen) :
    Calls Try.prog 18 #[.slice a l.length c, .slice a' m.length c'] w (Ret (.bool (l == m)) w) := by
  unfold maxLen at hc2
  by_cases hn : l.length = m.length
  · have hn1 : l.length ≤ m.length := by omega
    have hn2 : m.length ≤ l.length := by omega
    have h3 : ((l.length : Int) != (m.length : Int)) = false := by rw [bne_eq_false_iff_eq]; omega
    clear hn
    go_enter Try.func18, Try.ntmps18
    go_wp2_with fail
    go_loopw [5] (fun i wr => ∃ k : Nat, k ≤ l.length ∧ i = .int .i64 k ∧ Below w.heap.size w wr ∧ Hid ((l.drop k == m.drop k) = (l == m))) (fun i _ => l.length - (intOf i).toNat)
    case atStart => exact ⟨0, Nat.zero_le _, rfl, Below.refl _ _, hid rfl⟩
    case round =>
      obtain ⟨k, hk, rfl, B, hr⟩ := hrel
      by_cases hlt : k < l.length
      · have hltm : k < m.length := by omega
        obtain ⟨b, o, rfl, hb, _, g0⟩ := bools_at hl B hlt
        obtain ⟨b', o', rfl, hb', _, f0⟩ := bools_at hm B hltm
        have HR := hid (bools_drop hlt hltm hr.out)
        have hlt2 : (k : Int) < (l.length : Int) := by omega
        have hlt3 : (k : Int) < (m.length : Int) := by omega
        generalize l[k] = x at *
        generalize m[k] = y at *
        by_cases hxy : x = y
        · have HR2 := HR.out
          rw [show (x == y) = true by simpa using hxy, Bool.true_and] at HR2
          have HR3 := hid HR2; clear HR2
          subst hxy
          cases x
          all_goals
            go_wp2_with fail
            refine wp_region_over (by kernel_rfl) (by kernel_rfl) ?_; (repeat (go_big_quiet_step ((fail)))); refine wpQuiet_nil ?_; rintro _ ⟨xq, rfl⟩
            have B2 := below_next B (over_below wr xq)
            go_wp2_with fail
            go_roundw
            case rel => exact ⟨k + 1, by omega, by go_num, B2, hid HR3.out.symm⟩
            case measure => simp [intOf]; omega
        · have HR2 := HR.out
          rw [show (x == y) = false by simpa using hxy, Bool.false_and] at HR2
          have HR3 := hid HR2; clear HR2
          have hc2 : (x = true ∧ y = false) ∨ (x = false ∧ y = true) := by revert hxy; cases x <;> cases y <;> simp
          clear hxy HR
          rcases hc2 with ⟨rfl, rfl⟩ | ⟨rfl, rfl⟩
          all_goals
            go_wp2_with fail
            refine wp_region_over (by kernel_rfl) (by kernel_rfl) ?_; (repeat (go_big_quiet_step ((fail)))); refine wpQuiet_nil ?_; rintro _ ⟨xq, rfl⟩
            have B2 := below_next B (over_below wr xq)
            go_wp2_with fail
            go_ret
            exact Ret.mk (bool_val HR3.out.symm) B2
      · have HR2 := hr.out
        rw [List.drop_of_length_le (by omega), List.drop_of_length_le (by omega)] at HR2
        have HR := hid HR2; clear HR2
        have hlt2 : ¬ ((k : Int) < (l.length : Int)) := by omega
        go_wp2_with fail
        go_ret
        exact Ret.mk (bool_val HR.out) B
  · have h3 : ((l.length : Int) != (m.length : Int)) = true := by rw [bne_iff_ne]; omega
    have E := hid (show (l == m) = false by rw [beq_eq_false_iff_ne]; intro h; exact hn (by rw [h]))
    clear hn
    go_enter Try.func18, Try.ntmps18
    go_wp2_with fail
    go_ret
    exact Ret.mk (bool_val E.out.symm) (Below.refl _ _)

end Go.Proofs.Ytfemikebklmlpaa
