/- The program's Expr.walk: what its callees come to, given what it comes to at smaller trees. Conditions: those of each contract. -/
import Derived.Test.YtffadknollkgiaaImplIn
namespace Go.Proofs.Ytffadknollkgiaa
open Go.RowKit
namespace Expr
/-- what a call of walk comes to: the counter, in block R, is m behind it -/
def WkPost (v : Value) (R : Nat) (m : Int) (w : World) (e : Ending) (w' : World) : Prop := e = .returned v ∧ Upd w R (.int .i64 m) w'

def WkT (t : Tr) : Prop := ∀ (w : World) (x : Value) (R : Nat) (d n : Int), TrIn (· ≠ R) w t x → 1 ≤ d → d ≤ 7 → 0 ≤ n → n ≤ 15 →
    w.cell? ⟨R, 0, none⟩ = some (.int .i64 n) → w.frozen? ⟨R, 0, none⟩ = false →
    Calls Try.prog 73 #[x, .int .i64 d, .pointer (some ⟨R, 0, none⟩)] w (WkPost (.bool (exprL.wk t d n).1) R (exprL.wk t d n).2 w)

/-- the closure that ContainsFunc is handed: it walks a node one deeper, and tells whether that failed -/
def clo (D E : Nat) : Value := .func (.func 89) #[] #[.pointer (some ⟨D, 0, none⟩), .pointer (some ⟨E, 0, none⟩)]

set_option maxHeartbeats 400000 in
theorem clo_of (t : Tr) (h : WkT t) (w : World) (x : Value) (R D E : Nat) (d n : Int) (hx : TrIn (· ≠ R) w t x) (hd1 : 0 ≤ d) (hd2 : d ≤ 6) (hn1 : 0 ≤ n) (hn2 : n ≤ 15)
    (hD : w.cell? ⟨D, 0, none⟩ = some (.int .i64 d)) (hE : w.cell? ⟨E, 0, none⟩ = some (.pointer (some ⟨R, 0, none⟩))) (hR : w.cell? ⟨R, 0, none⟩ = some (.int .i64 n)) (hF : w.frozen? ⟨R, 0, none⟩ = false) :
    Calls Try.prog 89 #[x, .pointer (some ⟨D, 0, none⟩), .pointer (some ⟨E, 0, none⟩)] w (WkPost (.bool (!(exprL.wk t (d + 1) n).1)) R (exprL.wk t (d + 1) n).2 w) := by
  obtain ⟨a, c, rfl⟩ := TrIn_shape hx
  have lD := blt hD
  have lE := blt hE
  have lR : R < w.heap.size := blt hR
  go_enter Try.func89, Try.ntmps89
  go_wp2_with fail
  refine (h _ _ R (d + 1) n (TrIn_alloc hx _) (by omega) (by omega) hn1 hn2 (by simp [go_sem, lR, hR]) (by simp [go_sem, lR, hF])).mono ?_
  rintro e w2 ⟨rfl, hu⟩
  go_wp2_with fail
  go_ret
  exact ⟨rfl, upd_past hu (below_alloc _ _) lR⟩

/-- what a call of IndexFunc comes to: an index, not negative exactly where some node failed -/
def IxPost (bad : Bool) (R : Nat) (m : Int) (w : World) (e : Ending) (w' : World) : Prop := ∃ i : Int, e = .returned (.int .i64 i) ∧ decide (0 ≤ i) = bad ∧ Upd w R (.int .i64 m) w'

set_option maxHeartbeats 1000000 in
theorem ix_of (l : List Tr) (h : ∀ t, t ∈ l → WkT t) (w : World) (a : Option Addr) (c R D E : Nat) (d n : Int) (hl : TrsIn (· ≠ R) w l a) (hc : l.length ≤ c) (hc2 : c ≤ maxLen) (hd1 : 0 ≤ d) (hd2 : d ≤ 6) (hn1 : 0 ≤ n) (hn2 : n ≤ 15)
    (hD : w.cell? ⟨D, 0, none⟩ = some (.int .i64 d)) (hE : w.cell? ⟨E, 0, none⟩ = some (.pointer (some ⟨R, 0, none⟩))) (hR : w.cell? ⟨R, 0, none⟩ = some (.int .i64 n)) (hF : w.frozen? ⟨R, 0, none⟩ = false) (hDR : D ≠ R) (hER : E ≠ R) :
    Calls Try.prog 96 #[.slice a l.length c, clo D E] w (IxPost (!(exprL.wkL l (d + 1) n).1) R (exprL.wkL l (d + 1) n).2 w) := by
  unfold maxLen at hc2
  have lD := blt hD
  have lE := blt hE
  have lR : R < w.heap.size := blt hR
  unfold clo
  go_enter Try.func96, Try.ntmps96
  go_wp2_with fail
  go_loopw [5, 8] (fun _ i wr => ∃ (j : Nat) (m : Int), j ≤ l.length ∧ i = .int .i64 j ∧ 0 ≤ m ∧ m ≤ 15 ∧ Upd w R (.int .i64 m) wr ∧ Hid (exprL.wkL (l.drop j) (d + 1) m = exprL.wkL l (d + 1) n)) (fun _ i _ => l.length - (intOf i).toNat)
  case atStart => exact ⟨0, n, Nat.zero_le _, rfl, hn1, hn2, Upd.self hR, hid rfl⟩
  case round =>
    obtain ⟨j, m, hj, rfl, hm1, hm2, hu, hr⟩ := hrel
    have hl' := TrsIn_upd hu (fun b hb => hb) hl
    have qD := (hu.other (o := 0) lD hDR).trans hD
    have qE := (hu.other (o := 0) lE hER).trans hE
    have qR := hu.cell hR
    have qF := (hu.frozen (o := 0) lR).trans hF
    by_cases hlt : j < l.length
    · obtain ⟨b, o, c0, c1, c2, t, rfl, gb, g0, g1, g2, hT⟩ := TrsIn_round hl' (Below.refl _ _) hlt
      have HR2 := hr.out
      rw [hT.out.2.2.1] at HR2
      simp only [Lang.wkL] at HR2
      have HR := hid HR2; clear HR2
      have hbd := exprL.wk_bd t (d + 1) m hm2
      rw [exprL_N] at hbd
      go_wp2_with fail
      refine (clo_of t (h t hT.out.2.1) wr _ R D E d m hT.out.1 hd1 hd2 hm1 hm2 qD qE qR qF).mono ?_
      rintro e w2 ⟨rfl, hu2⟩
      have hu3 := hu.trans hu2
      cases hq : (exprL.wk t (d + 1) m).1 with
      | true =>
        have HR3 := HR.out
        rw [hq, if_pos rfl] at HR3
        have HR4 := hid HR3; clear HR3
        have hb2 := hbd.2.2 hq
        clear hq
        go_wp2_with fail
        go_roundw
        case rel => exact ⟨j + 1, (exprL.wk t (d + 1) m).2, by omega, by go_num, by omega, hb2, hu3, HR4⟩
        case measure => simp [intOf]; omega
      | false =>
        have HR3 := HR.out
        rw [hq, if_neg (by simp)] at HR3
        have HR4 := hid HR3; clear HR3 hq
        go_wp2_with fail
        go_ret
        exact ⟨j, rfl, by rw [← HR4.out]; simp, by rw [← HR4.out]; exact hu3⟩
    · have HR2 := hr.out
      rw [List.drop_of_length_le (by omega)] at HR2
      simp only [Lang.wkL] at HR2
      have HR := hid HR2; clear HR2
      go_wp2_with fail
      go_ret
      exact ⟨-1, rfl, by rw [← HR.out]; simp, by rw [← HR.out]; exact hu⟩

set_option maxHeartbeats 400000 in
theorem cf_of (l : List Tr) (h : ∀ t, t ∈ l → WkT t) (w : World) (a : Option Addr) (c R D E : Nat) (d n : Int) (hl : TrsIn (· ≠ R) w l a) (hc : l.length ≤ c) (hc2 : c ≤ maxLen) (hd1 : 0 ≤ d) (hd2 : d ≤ 6) (hn1 : 0 ≤ n) (hn2 : n ≤ 15)
    (hD : w.cell? ⟨D, 0, none⟩ = some (.int .i64 d)) (hE : w.cell? ⟨E, 0, none⟩ = some (.pointer (some ⟨R, 0, none⟩))) (hR : w.cell? ⟨R, 0, none⟩ = some (.int .i64 n)) (hF : w.frozen? ⟨R, 0, none⟩ = false) (hDR : D ≠ R) (hER : E ≠ R) :
    Calls Try.prog 88 #[.slice a l.length c, clo D E] w (WkPost (.bool (!(exprL.wkL l (d + 1) n).1)) R (exprL.wkL l (d + 1) n).2 w) := by
  have H := ix_of l h w a c R D E d n hl hc hc2 hd1 hd2 hn1 hn2 hD hE hR hF hDR hER
  have HH := hid H; clear H hD hE hR hF
  unfold clo at HH ⊢
  go_enter Try.func88, Try.ntmps88
  go_wp2_with fail
  refine HH.out.mono ?_
  rintro e w2 ⟨i, rfl, hi, hu⟩
  have HI := hid hi; clear hi
  go_wp2_with fail
  go_ret
  exact ⟨congrArg (fun x => Ending.returned (.bool x)) HI.out, hu⟩


end Expr
end Go.Proofs.Ytffadknollkgiaa
