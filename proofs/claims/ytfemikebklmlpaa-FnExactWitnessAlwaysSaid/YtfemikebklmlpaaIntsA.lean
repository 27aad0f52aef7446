/- The laws' toIntS, eqIntS: a copy of a slice of numbers, and whether two are the same. Conditions: those of each contract. -/
import Derived.Test.YtfemikebklmlpaaRows
import Derived.Test.YtfemikebklmlpaaRowsMade
import Derived.WalkSpells
import Derived.WalkLawsBesides
namespace Go.Proofs.Ytfemikebklmlpaa
open Go.RowKit

/-- what a copy comes to -/
def NewInts (l : List Int) (B : Nat) (v : Value) (w' : World) : Prop := v = .slice (some ⟨B, 0, none⟩) l.length l.length ∧ Row w' B l.length (fun i => .int .i64 (l.getD i 0))

set_option maxHeartbeats 400000 in
theorem toIntS_any (l : List Int) (w : World) (a : Option Addr) (c : Nat) (h : IntsIn Any w a l) (hlen : l.length ≤ 1048576) (hc : l.length ≤ c) (hc2 : c ≤ maxLen) :
    Calls Try.prog 78 #[.slice a l.length c] w (RetP (NewInts l w.heap.size) w) := by
  have hmk := make_ints l.length hlen
  unfold maxLen at hc2
  go_enter Try.func78, Try.ntmps78
  go_wp2_with fail
  go_loopw [4] (fun i wr => ∃ (k : Nat) (g : Nat → Value), k ≤ l.length ∧ i = .int .i64 k ∧ Below w.heap.size w wr ∧ Row wr w.heap.size l.length g ∧ Hid (∀ j, j < k → g j = .int .i64 (l.getD j 0))) (fun i _ => l.length - (intOf i).toNat)
  case atStart => exact ⟨0, _, Nat.zero_le _, rfl, below_alloc _ _, row_new (by rw [zerosI, size_madeCells]) _, hid (by omega)⟩
  case round =>
    obtain ⟨k, g, hk, rfl, B, hrow, hg⟩ := hrel
    by_cases hlt : k < l.length
    · obtain ⟨b, o, rfl, hb, _, g0, hi⟩ := ints_at h B hlt
      have r0 := hrow.2.1 k hlt
      have rz := hrow.2.2
      have rl := hrow.1
      have hstep := hid (hrow.set hlt (.int .i64 l[k]))
      clear hrow
      unfold i64 at hi
      have hlt2 : (k : Int) < (l.length : Int) := by omega
      go_wp2_with fail
      go_roundw
      case rel =>
        refine ⟨k + 1, _, by omega, by go_num, B.setCell (by simp) _, hstep.out, hid fun j hj => ?_⟩
        by_cases e : j = k
        · subst e; simp [List.getD_eq_getElem?_getD, List.getElem?_eq_getElem hlt]
        · rw [if_neg e]; exact hg.out j (by omega)
      case measure => simp [intOf]; omega
    · have hfin := hid (show Row wr w.heap.size l.length (fun i => .int .i64 (l.getD i 0)) from hrow.congr fun i hi => hg.out i (by omega))
      have hlt2 : ¬ ((k : Int) < (l.length : Int)) := by omega
      clear hrow
      go_wp2_with fail
      go_ret
      exact RetP.mk ⟨rfl, hfin.out⟩ B

/-- a row of numbers, asked number by number -/
theorem ints_drop {l m : List Int} {k : Nat} (hk : k < l.length) (hk' : k < m.length) (h : (l.drop k == m.drop k) = (l == m)) : (l == m) = ((l[k] == m[k]) && (l.drop (k + 1) == m.drop (k + 1))) := by
  rw [← h, List.drop_eq_getElem_cons hk, List.drop_eq_getElem_cons hk']
  rfl

set_option maxHeartbeats 1000000 in
theorem eqIntS_any (l m : List Int) (w : World) (a a' : Option Addr) (c c' : Nat) (hl : IntsIn Any w a l) (hm : IntsIn Any w a' m) (hc : l.length ≤ c) (hc2 : c ≤ maxLen) (hc' : m.length ≤ c') (hc2' : c' ≤ maxLen) :
    Calls Try.prog 16 #[.slice a l.length c, .slice a' m.length c'] w (Ret (.bool (l == m)) w) := by
  unfold maxLen at hc2 hc2'
  by_cases hn : l.length = m.length
  · have hn1 : l.length ≤ m.length := by omega
    have hn2 : m.length ≤ l.length := by omega
    have h3 : ((l.length : Int) != (m.length : Int)) = false := by rw [bne_eq_false_iff_eq]; omega
    clear hn
    go_enter Try.func16, Try.ntmps16
    go_wp2_with fail
    go_loopw [5] (fun i wr => ∃ k : Nat, k ≤ l.length ∧ i = .int .i64 k ∧ Below w.heap.size w wr ∧ Hid ((l.drop k == m.drop k) = (l == m))) (fun i _ => l.length - (intOf i).toNat)
    case atStart => exact ⟨0, Nat.zero_le _, rfl, Below.refl _ _, hid rfl⟩
    case round =>
      obtain ⟨k, hk, rfl, B, hr⟩ := hrel
      by_cases hlt : k < l.length
      · have hltm : k < m.length := by omega
        obtain ⟨b, o, rfl, hb, _, g0, hi⟩ := ints_at hl B hlt
        obtain ⟨b', o', rfl, hb', _, f0, hi'⟩ := ints_at hm B hltm
        have HR := hid (ints_drop hlt hltm hr.out)
        have hlt2 : (k : Int) < (l.length : Int) := by omega
        have hlt3 : (k : Int) < (m.length : Int) := by omega
        generalize l[k] = x at *
        generalize m[k] = y at *
        by_cases hxy : x = y
        · have hne : (x != y) = false := by simpa using hxy
          have HR2 := HR.out
          rw [show (x == y) = true by simpa using hxy, Bool.true_and] at HR2
          have HR3 := hid HR2; clear HR2 hxy
          go_wp2_with fail
          refine wp_region_over (by kernel_rfl) (by kernel_rfl) ?_; (repeat (go_big_quiet_step ((fail)))); refine wpQuiet_nil ?_; rintro _ ⟨xq, rfl⟩
          have B2 := below_next B (over_below wr xq)
          go_wp2_with fail
          go_roundw
          case rel => exact ⟨k + 1, by omega, by go_num, B2, hid HR3.out.symm⟩
          case measure => simp [intOf]; omega
        · have hne : (x != y) = true := by simpa using hxy
          have HR2 := HR.out
          rw [show (x == y) = false by simpa using hxy, Bool.false_and] at HR2
          have HR3 := hid HR2; clear HR2 hxy
          go_wp2_with fail
          refine wp_region_over (by kernel_rfl) (by kernel_rfl) ?_; (repeat (go_big_quiet_step ((fail)))); refine wpQuiet_nil ?_; rintro _ ⟨xq, rfl⟩
          have B2 := below_next B (over_below wr xq)
          go_wp2_with fail
          go_ret
          exact Ret.mk (bool_val HR3.out.symm) B2
      · have HR2 := hr.out
        rw [List.drop_of_length_le (by omega), List.drop_of_length_le (by omega)] at HR2
        have HR := hid HR2; clear HR2
        have hlt2 : ¬ ((k : Int) < (l.length : Int)) := by omega
        go_wp2_with fail
        go_ret
        exact Ret.mk (bool_val HR.out) B
  · have h3 : ((l.length : Int) != (m.length : Int)) = true := by rw [bne_iff_ne]; omega
    have E := hid (show (l == m) = false by rw [beq_eq_false_iff_ne]; intro h; exact hn (by rw [h]))
    clear hn
    go_enter Try.func16, Try.ntmps16
    go_wp2_with fail
    go_ret
    exact Ret.mk (bool_val E.out.symm) (Below.refl _ _)

end Go.Proofs.Ytfemikebklmlpaa
