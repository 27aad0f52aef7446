/- Three numbers from 0 to 3: what the reference's l1Vals and the program's valsOk return. Conditions: those of each contract. -/
import Derived.Test.YtfemikebklmlpaaEvalE
import Derived.Test.YtfemikebklmlpaaCells
import Derived.Test.YtfemikebklmlpaaImplIn
namespace Go.Proofs.Ytfemikebklmlpaa
open Go.RowKit
namespace Expr

def inV (n : Int) : Bool := decide (0 ≤ n ∧ n ≤ 3)
/-- three numbers from 0 to 3 -/
def okVals (l : List Int) : Bool := l.all inV && decide (l.length = 3)
theorem okVals_vals {w : World} {a : Option Addr} {l : List Int} (h : okVals l = true) (hl : IntsIn Any w a l) : Vals w a l := by
  rw [okVals, Bool.and_eq_true, decide_eq_true_eq] at h
  exact ⟨hl, h.2, fun n hn => by have := List.all_eq_true.1 h.1 n hn; simpa [inV] using this⟩

set_option maxHeartbeats 1000000 in
theorem specVals_any (l : List Int) (w : World) (a : Option Addr) (c : Nat) (hl : IntsIn Any w a l) (hc : l.length ≤ c) (hc2 : c ≤ maxLen) :
    Calls Try.prog 72 #[.slice a l.length c] w (Ret (.bool (okVals l)) w) := by
  unfold maxLen at hc2
  go_enter Try.func72, Try.ntmps72
  go_wp2_with fail
  go_loopw [3] (fun i wr => ∃ j : Nat, j ≤ l.length ∧ i = .int .i64 j ∧ Below w.heap.size w wr ∧ Hid ((l.drop j).all inV = l.all inV)) (fun i _ => l.length - (intOf i).toNat)
  case atStart => exact ⟨0, Nat.zero_le _, rfl, Below.refl _ _, hid rfl⟩
  case round =>
    obtain ⟨j, hj, rfl, B, hr⟩ := hrel
    by_cases hlt : j < l.length
    · obtain ⟨b, o, rfl, hb, _, g0, hi⟩ := ints_at hl B hlt
      have HR2 := hr.out
      rw [List.drop_eq_getElem_cons hlt, List.all_cons] at HR2
      have HR := hid HR2; clear HR2
      have hlt2 : (j : Int) < (l.length : Int) := by omega
      generalize l[j] = x at *
      by_cases h0 : x < 0
      · have E := hid (show okVals l = false by rw [okVals, ← HR.out]; simp [inV]; omega)
        go_wp2_with fail
        go_ret
        exact Ret.mk (bool_val E.out.symm) B
      · by_cases h3 : x > 3
        · have E := hid (show okVals l = false by rw [okVals, ← HR.out]; simp [inV]; omega)
          go_wp2_with fail
          go_ret
          exact Ret.mk (bool_val E.out.symm) B
        · have HR3 := HR.out
          rw [show inV x = true by simp [inV]; omega, Bool.true_and] at HR3
          have HR4 := hid HR3; clear HR3
          go_wp2_with fail
          go_roundw
          case rel => exact ⟨j + 1, by omega, by go_num, B, HR4⟩
          case measure => simp [intOf]; omega
    · have HR2 := hr.out
      rw [List.drop_of_length_le (by omega), List.all_nil] at HR2
      have hlt2 : ¬ ((j : Int) < (l.length : Int)) := by omega
      have E := hid (show ((l.length : Int) == 3) = okVals l by
        rw [okVals, ← HR2, Bool.true_and, Bool.eq_iff_iff, beq_iff_eq, decide_eq_true_eq]; omega)
      clear HR2
      go_wp2_with fail
      go_ret
      exact Ret.mk (bool_val E.out) B

set_option maxHeartbeats 400000 in
theorem vclo_any (x : Int) (w : World) : Calls Try.prog 92 #[.int .i64 x] w (Ret (.bool (!inV x)) w) := by
  go_enter Try.func92, Try.ntmps92
  go_wp2_with fail
  refine (in_any x 0 3 _).mono ?_
  rintro e w1 ⟨rfl, rfl⟩
  go_wp2_with fail
  go_ret
  exact Ret.mk rfl (Below.refl _ _)

def IxV (bad : Bool) (w : World) (e : Ending) (w' : World) : Prop := ∃ i : Int, e = .returned (.int .i64 i) ∧ decide (0 ≤ i) = bad ∧ Below w.heap.size w w'

set_option maxHeartbeats 1000000 in
theorem vix_any (l : List Int) (w : World) (a : Option Addr) (c : Nat) (hl : IntsIn Any w a l) (hc : l.length ≤ c) (hc2 : c ≤ maxLen) :
    Calls Try.prog 59 #[.slice a l.length c, .func (.func 92) #[] #[]] w (IxV (!l.all inV) w) := by
  unfold maxLen at hc2
  go_enter Try.func59, Try.ntmps59
  go_wp2_with fail
  go_loopw [5, 8] (fun _ i wr => ∃ j : Nat, j ≤ l.length ∧ i = .int .i64 j ∧ Below w.heap.size w wr ∧ Hid ((l.drop j).all inV = l.all inV)) (fun _ i _ => l.length - (intOf i).toNat)
  case atStart => exact ⟨0, Nat.zero_le _, rfl, Below.refl _ _, hid rfl⟩
  case round =>
    obtain ⟨j, hj, rfl, B, hr⟩ := hrel
    by_cases hlt : j < l.length
    · obtain ⟨b, o, rfl, hb, _, g0, hi⟩ := ints_at hl B hlt
      have HR2 := hr.out
      rw [List.drop_eq_getElem_cons hlt, List.all_cons] at HR2
      have HR := hid HR2; clear HR2
      have hlt2 : (j : Int) < (l.length : Int) := by omega
      generalize l[j] = x at *
      go_wp2_with fail
      refine (vclo_any x _).mono ?_
      rintro e w2 ⟨rfl, hb2⟩
      replace B := below_next B hb2
      clear hb2
      cases hq : inV x with
      | true =>
        have HR3 := HR.out
        rw [hq, Bool.true_and] at HR3
        have HR4 := hid HR3; clear HR3 hq
        go_wp2_with fail
        go_roundw
        case rel => exact ⟨j + 1, by omega, by go_num, B, HR4⟩
        case measure => simp [intOf]; omega
      | false =>
        have HR3 := HR.out
        rw [hq, Bool.false_and] at HR3
        have HR4 := hid HR3; clear HR3 hq
        go_wp2_with fail
        go_ret
        exact ⟨j, rfl, by rw [← HR4.out]; simp, B⟩
    · have HR2 := hr.out
      rw [List.drop_of_length_le (by omega), List.all_nil] at HR2
      have HR := hid HR2; clear HR2
      have hlt2 : ¬ ((j : Int) < (l.length : Int)) := by omega
      go_wp2_with fail
      go_ret
      exact ⟨-1, rfl, by rw [← HR.out]; simp, B⟩

set_option maxHeartbeats 400000 in
theorem vcf_any (l : List Int) (w : World) (a : Option Addr) (c : Nat) (hl : IntsIn Any w a l) (hc : l.length ≤ c) (hc2 : c ≤ maxLen) :
    Calls Try.prog 81 #[.slice a l.length c, .func (.func 92) #[] #[]] w (Ret (.bool (!l.all inV)) w) := by
  have HH := hid (vix_any l w a c hl hc hc2)
  go_enter Try.func81, Try.ntmps81
  go_wp2_with fail
  refine HH.out.mono ?_
  rintro e w2 ⟨i, rfl, hi, hb⟩
  have HI := hid hi; clear hi
  go_wp2_with fail
  go_ret
  exact Ret.mk (bool_val HI.out) hb

set_option maxHeartbeats 400000 in
theorem vals_any (l : List Int) (w : World) (a : Option Addr) (c : Nat) (hl : IntsIn Any w a l) (hc : l.length ≤ c) (hc2 : c ≤ maxLen) :
    Calls Try.prog 66 #[.slice a l.length c] w (Ret (.bool (okVals l)) w) := by
  by_cases h3 : l.length = 3
  · have E := hid (show okVals l = l.all inV by rw [okVals, decide_eq_true h3, Bool.and_true])
    have e3 : ((l.length : Int) == 3) = true := by rw [beq_iff_eq]; omega
    have HH := hid (vcf_any l w a c hl hc hc2)
    clear h3
    go_enter Try.func66, Try.ntmps66
    go_wp2_with fail
    refine HH.out.mono ?_
    rintro e w2 ⟨rfl, hb⟩
    go_wp2_with fail
    go_ret
    exact Ret.mk (bool_val (by rw [E.out])) hb
  · have E := hid (show okVals l = false by rw [okVals, decide_eq_false h3, Bool.and_false])
    have e3 : ((l.length : Int) == 3) = false := by rw [beq_eq_false_iff_ne]; omega
    clear h3
    go_enter Try.func66, Try.ntmps66
    go_wp2_with fail
    go_ret
    exact Ret.mk (bool_val E.out.symm) (Below.refl _ _)

end Expr
end Go.Proofs.Ytfemikebklmlpaa
