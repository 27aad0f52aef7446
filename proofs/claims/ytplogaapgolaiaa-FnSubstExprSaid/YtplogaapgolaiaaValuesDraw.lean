/- The reference's l1Values, DrawEvalExpr: some small expression and some numbers. Conditions: those of each contract. -/
import Derived.Test.YtplogaapgolaiaaExprDraws
import Derived.Test.YtplogaapgolaiaaCellsOwn
import Derived.Test.YtplogaapgolaiaaRowsMade
import Derived.Deep.RegionHeld3
namespace Go.Proofs.Ytplogaapgolaiaa
open Go.RowKit
namespace Expr

/-- what a call of l1Values comes to: at most three numbers, in new memory -/
def ValPost (B R p : Nat) (w : World) (e : Ending) (w' : World) : Prop :=
  ∃ (v : Value) (l : List Int) (p' : Nat), e = .returned v ∧ NewV w.heap.size (l.map (Value.int .i64)) v w' ∧ l.length ≤ 3 ∧ (∀ n, n ∈ l → i64 n) ∧ But w R w' ∧ Rd B w' R p' ∧ p' ≤ p + 6
theorem row_vals {w : World} {D : Nat} {x y z : Int} (h : Row w D 3 (fun i => #[Value.int .i64 x, .int .i64 y, .int .i64 z].getD i undef)) : Row w D 3 (fun i => (([x, y, z] : List Int).map (Value.int .i64)).getD i undef) :=
  h.congr fun i hi => by
    match i, hi with
    | 0, _ => rfl
    | 1, _ => rfl
    | 2, _ => rfl
theorem i64_three {x y z : Int} (hx : i64 x) (hy : i64 y) (hz : i64 z) : ∀ n, n ∈ ([x, y, z] : List Int) → i64 n := by
  intro n hn
  simp at hn
  rcases hn with rfl | rfl | rfl <;> assumption

set_option maxRecDepth 100000 in
set_option maxHeartbeats 2000000 in
theorem values_any (w : World) (R B p : Nat) (hr : Rd B w R p) (hp : p + 6 ≤ 1000000) : Calls Try.prog 37 #[.pointer (some ⟨R, 0, none⟩)] w (ValPost B R p w) := by
  have hB := hr.lt
  go_enter Try.func37, Try.ntmps37
  go_wp2_with fail
  refine (pick_any B _ _ R p hr (by omega) (by omega) (by omega)).mono ?_
  rintro e w1 ⟨x, rfl, ⟨hx1, hx2, _⟩, hb1, hr1⟩
  have hx3 := hx2 (by omega)
  clear hx2
  go_wp2_with fail
  refine (pick_any B _ _ R (p + 1) hr1 (by omega) (by omega) (by omega)).mono ?_
  rintro e w2 ⟨y, rfl, ⟨hy1, hy2, _⟩, hb2, hr2⟩
  have hy3 := hy2 (by omega)
  clear hy2
  go_wp2_with fail
  refine (pick_any B _ _ R (p + 1 + 1) hr2 (by omega) (by omega) (by omega)).mono ?_
  rintro e w3 ⟨z, rfl, ⟨hz1, hz2, _⟩, hb3, hr3⟩
  have hz3 := hz2 (by omega)
  clear hz2
  have B3 : But w R w3 := (hb1.trans hb2).trans hb3
  have hw3 : w.heap.size ≤ w3.heap.size := B3.size
  have hRl := hr.lt
  clear hb1 hb2 hb3 hr1 hr2
  have hrow : Row (w3.alloc (.cells #[.int .i64 x, .int .i64 y, .int .i64 z] 3)) w3.heap.size 3 (fun i => #[Value.int .i64 x, .int .i64 y, .int .i64 z].getD i undef) := row_three w3 (.int .i64 x) (.int .i64 y) (.int .i64 z) 3
  have HR := hid hrow
  clear hrow
  go_wp2_with fail
  refine (pick_any B _ _ R (p + 1 + 1 + 1) (hr3.next (below_alloc _ _)) (by omega) (by omega) (by omega)).mono ?_
  rintro e w4 ⟨i, rfl, _, hb4, hr4⟩
  have hrow := HR.out.kept hb4.size (hb4.block _ (by simp) (by omega))
  have B4 : But w R w4 := (B3.next (below_alloc _ _)).trans hb4
  have hrw := hid (row_vals hrow)
  have r0 := hrow.2.1 0 (by omega)
  have r1 := hrow.2.1 1 (by omega)
  have r2 := hrow.2.1 2 (by omega)
  have rz := hrow.2.2
  have rl := hrow.1
  have i3 := hid (i64_three (x := x) (y := y) (z := z) (by unfold i64; omega) (by unfold i64; omega) (by unfold i64; omega))
  clear HR hrow hb4 hr3 B3
  by_cases i0 : i = 0
  · subst i0
    have hf := hid (show ValPost B R p w (.returned (.slice (some ⟨w3.heap.size, 0, none⟩) 2 3)) w4 from ⟨_, [x, y], _, rfl, ⟨_, 3, [w3.heap.size], rfl, by simp, by simp [maxLen], .inr ⟨_, rfl, rfl, (hrw.out.less (by simp)).congr fun i hi => by
        match i, hi with
        | 0, _ => rfl
        | 1, _ => rfl⟩, by simpa using hw3⟩, by simp, fun n hn => i3.out n (by simp at hn ⊢; rcases hn with h | h <;> simp [h]), B4, hr4, by omega⟩)
    clear hr4 B4 hrw r0 r1 r2
    go_wp2_with fail
    go_ret
    exact hf.out
  have e0 : (i == 0) = false := by simpa using i0
  by_cases i1 : i = 1
  · subst i1
    go_wp2_with fail
    refine (pick_any B _ _ R (p + 1 + 1 + 1 + 1) hr4 (by omega) (by omega) (by omega)).mono ?_
    rintro e w5 ⟨q, rfl, ⟨hq1, hq2, _⟩, hb5, hr5⟩
    obtain ⟨q, rfl⟩ := Int.eq_ofNat_of_zero_le hq1
    have hq3 : q < 3 := by have := hq2 (by omega); omega
    clear hq2 hq1
    have hrw5 := hrw.out.kept hb5.size (hb5.block _ rl (by omega))
    have B5 := B4.trans hb5
    clear hb5 hr4 B4 hrw r0 r1 r2
    have rl5 := hrw5.1
    have HR5 := hid hrw5
    clear hrw5 rz rl
    go_wp2_with fail
    refine (num_new [-1, 4, 9223372036854775807] (-1) 9223372036854775807 (by simp) (by decide) (by decide) B w5 _ R (p + 1 + 1 + 1 + 1 + 1) hr5 (by omega)).mono ?_
    rintro e w6 ⟨n, rfl, ⟨hn1, hn2⟩, hb6, hr6⟩
    have hrw6 := (HR5.out.below (below_alloc _ _)).kept hb6.size (hb6.block _ (by simp; omega) (by omega))
    have B6 := (B5.next (below_alloc _ _)).trans hb6
    have s0 := hrw6.2.1 q hq3
    have sz := hrw6.2.2
    have sl := hrw6.1
    have hf := hid (show ValPost B R p w (.returned (.slice (some ⟨w3.heap.size, 0, none⟩) 3 3)) (w6.setCell ⟨w3.heap.size, q, none⟩ (.int .i64 n)) from ⟨_, ([x, y, z] : List Int).set q n, _, rfl, ⟨_, 3, [w3.heap.size], by simp, by simp, by simp [maxLen], .inr ⟨_, rfl, rfl, ((hrw6.set hq3 (.int .i64 n)).less (by simp)).congr fun i hi => by
        simp at hi
        rcases (by omega : q = 0 ∨ q = 1 ∨ q = 2) with rfl | rfl | rfl <;> rcases (by omega : i = 0 ∨ i = 1 ∨ i = 2) with rfl | rfl | rfl <;> simp⟩, by simpa using hw3⟩, by simp, fun k hk => by
          rcases List.mem_or_eq_of_mem_set hk with h | h
          · exact i3.out k h
          · subst h; unfold i64; omega, B6.setNew (by simpa using hw3) _, hr6.set (by simp; omega) _, by omega⟩)
    clear hr6 B6 hrw6 hb6 hr5 B5
    go_wp2_with fail
    go_ret
    exact hf.out
  have e1 : (i == 1) = false := by simpa using i1
  have hf := hid (show ValPost B R p w (.returned (.slice (some ⟨w3.heap.size, 0, none⟩) 3 3)) w4 from ⟨_, [x, y, z], _, rfl, ⟨_, 3, [w3.heap.size], rfl, by simp, by simp [maxLen], .inr ⟨_, rfl, rfl, hrw.out⟩, by simpa using hw3⟩, by simp, i3.out, B4, hr4, by omega⟩)
  clear hr4 B4 hrw r0 r1 r2
  go_wp2_with fail
  go_ret
  exact hf.out

end Expr
end Go.Proofs.Ytplogaapgolaiaa
