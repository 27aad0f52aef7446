/- LabelsValid, of the program and of the reference: what they return, for every list of trees. Conditions: those of each contract. -/
import Derived.Test.YtdmieedfddgmjaaExprSpecVB
import Derived.Test.YtdmieedfddgmjaaExprImplN
namespace Go.Proofs.Ytdmieedfddgmjaa
open Go.RowKit
namespace Labels

/-- three labels, all valid -/
def ok (l : List Tr) : Bool := decide (l.length = 3) && l.all exprL.valid

set_option maxHeartbeats 400000 in
theorem clo_any (t : Tr) (w : World) (x : Value) (hx : TrIn Any w t x) : Calls Try.prog 33 #[x] w (Ret (.bool (!exprL.valid t)) w) := by
  have hx0 := hx
  obtain ⟨a, c, rfl⟩ := TrIn_shape hx
  go_enter Try.func33, Try.ntmps33
  go_wp2_with fail
  refine (Expr.valid_any t _ _ (TrIn_alloc hx _)).mono ?_
  rintro e w1 ⟨rfl, hb⟩
  go_wp2_with fail
  go_ret
  exact Ret.mk rfl (below_next (below_alloc _ _) hb)

def IxP (bad : Bool) (w : World) (e : Ending) (w' : World) : Prop := ∃ i : Int, e = .returned (.int .i64 i) ∧ decide (0 ≤ i) = bad ∧ Below w.heap.size w w'

set_option maxHeartbeats 1000000 in
theorem ix_any (l : List Tr) (w : World) (a : Option Addr) (c : Nat) (hl : TrsIn Any w l a) (hc : l.length ≤ c) (hc2 : c ≤ maxLen) :
    Calls Try.prog 49 #[.slice a l.length c, .func (.func 33) #[] #[]] w (IxP (!l.all exprL.valid) w) := by
  unfold maxLen at hc2
  go_enter Try.func49, Try.ntmps49
  go_wp2_with fail
  go_loopw [5, 8] (fun _ i wr => ∃ j : Nat, j ≤ l.length ∧ i = .int .i64 j ∧ Below w.heap.size w wr ∧ Hid ((l.drop j).all exprL.valid = l.all exprL.valid)) (fun _ i _ => l.length - (intOf i).toNat)
  case atStart => exact ⟨0, Nat.zero_le _, rfl, Below.refl _ _, hid rfl⟩
  case round =>
    obtain ⟨j, hj, rfl, B, hr⟩ := hrel
    by_cases hlt : j < l.length
    · obtain ⟨b, o, c0, c1, c2, t, rfl, gb, g0, g1, g2, hT⟩ := TrsIn_round hl B hlt
      have HR2 := hr.out
      rw [hT.out.2.2.1, List.all_cons] at HR2
      have HR := hid HR2; clear HR2
      go_wp2_with fail
      refine (clo_any t wr _ hT.out.1).mono ?_
      rintro e w2 ⟨rfl, hb⟩
      replace B := below_next B hb
      clear hb
      cases hq : exprL.valid t with
      | true =>
        have HR3 := HR.out
        rw [hq, Bool.true_and] at HR3
        have HR4 := hid HR3; clear HR3 hq
        go_wp2_with fail
        go_roundw
        case rel => exact ⟨j + 1, by omega, by go_num, B, HR4⟩
        case measure => simp [intOf]; omega
      | false =>
        have HR3 := HR.out
        rw [hq, Bool.false_and] at HR3
        have HR4 := hid HR3; clear HR3 hq
        go_wp2_with fail
        go_ret
        exact ⟨j, rfl, by rw [← HR4.out]; simp, B⟩
    · have HR2 := hr.out
      rw [List.drop_of_length_le (by omega), List.all_nil] at HR2
      have HR := hid HR2; clear HR2
      go_wp2_with fail
      go_ret
      exact ⟨-1, rfl, by rw [← HR.out]; simp, B⟩

set_option maxHeartbeats 400000 in
theorem cf_any (l : List Tr) (w : World) (a : Option Addr) (c : Nat) (hl : TrsIn Any w l a) (hc : l.length ≤ c) (hc2 : c ≤ maxLen) :
    Calls Try.prog 32 #[.slice a l.length c, .func (.func 33) #[] #[]] w (Ret (.bool (!l.all exprL.valid)) w) := by
  have HH := hid (ix_any l w a c hl hc hc2)
  go_enter Try.func32, Try.ntmps32
  go_wp2_with fail
  refine HH.out.mono ?_
  rintro e w2 ⟨i, rfl, hi, hb⟩
  have HI := hid hi; clear hi
  go_wp2_with fail
  go_ret
  exact Ret.mk (bool_val HI.out) hb

set_option maxHeartbeats 400000 in
theorem impl_any (l : List Tr) (w : World) (a : Option Addr) (c : Nat) (hl : TrsIn Any w l a) (hc : l.length ≤ c) (hc2 : c ≤ maxLen) :
    Calls Try.prog 14 #[.slice a l.length c] w (Ret (.bool (ok l)) w) := by
  by_cases h3 : l.length = 3
  · have E := hid (show ok l = l.all exprL.valid by rw [ok, decide_eq_true h3, Bool.true_and])
    have e3 : ((l.length : Int) == 3) = true := by rw [beq_iff_eq]; omega
    have HH := hid (cf_any l w a c hl hc hc2)
    clear h3
    go_enter Try.func14, Try.ntmps14
    go_wp2_with fail
    refine HH.out.mono ?_
    rintro e w2 ⟨rfl, hb⟩
    go_wp2_with fail
    go_ret
    exact Ret.mk (bool_val (by rw [E.out])) hb
  · have E := hid (show ok l = false by rw [ok, decide_eq_false h3, Bool.false_and])
    have e3 : ((l.length : Int) == 3) = false := by rw [beq_eq_false_iff_ne]; omega
    clear h3
    go_enter Try.func14, Try.ntmps14
    go_wp2_with fail
    go_ret
    exact Ret.mk (bool_val E.out.symm) (Below.refl _ _)

set_option maxHeartbeats 1000000 in
theorem spec_any (l : List Tr) (w : World) (a : Option Addr) (c : Nat) (hl : TrsIn Any w l a) (hc : l.length ≤ c) (hc2 : c ≤ maxLen) :
    Calls Try.prog 15 #[.slice a l.length c] w (Ret (.bool (ok l)) w) := by
  unfold maxLen at hc2
  have hok : ok l = (l.all exprL.valid && decide (l.length = 3)) := by rw [ok, Bool.and_comm]
  have HOK := hid hok; clear hok
  go_enter Try.func15, Try.ntmps15
  go_wp2_with fail
  go_loopw [3] (fun i wr => ∃ j : Nat, j ≤ l.length ∧ i = .int .i64 j ∧ Below w.heap.size w wr ∧ Hid ((l.drop j).all exprL.valid = l.all exprL.valid)) (fun i _ => l.length - (intOf i).toNat)
  case atStart => exact ⟨0, Nat.zero_le _, rfl, Below.refl _ _, hid rfl⟩
  case round =>
    obtain ⟨j, hj, rfl, B, hr⟩ := hrel
    by_cases hlt : j < l.length
    · obtain ⟨b, o, c0, c1, c2, t, rfl, gb, g0, g1, g2, hT⟩ := TrsIn_round hl B hlt
      have HR2 := hr.out
      rw [hT.out.2.2.1, List.all_cons] at HR2
      have HR := hid HR2; clear HR2
      go_wp2_with fail
      refine (Expr.specValid_any t wr _ hT.out.1).mono ?_
      rintro e w2 ⟨rfl, hb⟩
      replace B := below_next B hb
      clear hb
      cases hq : exprL.valid t with
      | true =>
        have HR3 := HR.out
        rw [hq, Bool.true_and] at HR3
        have HR4 := hid HR3; clear HR3 hq
        go_wp2_with fail
        go_roundw
        case rel => exact ⟨j + 1, by omega, by go_num, B, HR4⟩
        case measure => simp [intOf]; omega
      | false =>
        have HR3 := HR.out
        rw [hq, Bool.false_and] at HR3
        have E := hid (show ok l = false by rw [HOK.out, ← HR3, Bool.false_and]); clear HR3 hq
        go_wp2_with fail
        go_ret
        exact Ret.mk (bool_val E.out.symm) B
    · have HR2 := hr.out
      rw [List.drop_of_length_le (by omega), List.all_nil] at HR2
      have E := hid (show ((l.length : Int) == 3) = ok l by
        rw [HOK.out, ← HR2, Bool.true_and, Bool.eq_iff_iff, beq_iff_eq, decide_eq_true_eq]; omega)
      clear HR2
      go_wp2_with fail
      go_ret
      exact Ret.mk (bool_val E.out) B

end Labels
end Go.Proofs.Ytdmieedfddgmjaa
