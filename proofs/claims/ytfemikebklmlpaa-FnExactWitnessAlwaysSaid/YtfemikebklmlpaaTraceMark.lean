/- The laws' markTrace, heldTrace: what each comes to. Conditions: those of each contract. -/
import Derived.Test.YtfemikebklmlpaaIntsMark
import Derived.Test.YtfemikebklmlpaaPairReg
namespace Go.Proofs.Ytfemikebklmlpaa
open Go.RowKit
set_option linter.unusedVariables false
namespace TraceM

def MarkPost (n m : Nat) (k : Int) (a a' : Option Addr) (bs bs' : List Nat) (w : World) (e : Ending) (w' : World) : Prop := e = .returned (.int .i64 (k + n + m)) ∧ OwnV (markV mkI n k) a bs w' ∧ OwnV (markV mkI m (k + n)) a' bs' w' ∧ Only (bs ++ bs') w w'
set_option maxHeartbeats 1000000 in
theorem mark_any (l m : List Value) (w : World) (a a' : Option Addr) (c c' : Nat) (k : Int) (bs bs' : List Nat) (hr : OwnV l a bs w) (hr' : OwnV m a' bs' w) (hd : ∀ b, b ∈ bs → b ∉ bs') (hc : l.length ≤ c) (hc2 : c ≤ maxLen) (hc' : m.length ≤ c') (hc2' : c' ≤ maxLen) (hk : 0 ≤ k) (hk2 : k + l.length + m.length ≤ 4611686018427387904) :
    Calls Try.prog 26 #[.agg #[.slice a l.length c, .slice a' m.length c'], .int .i64 k] w (MarkPost l.length m.length k a a' bs bs' w) := by
  have H1 := hid (fun (W : World) (h : OwnV l a bs W) => IntS.mark_any l W a c k bs h hc hc2 hk (by omega))
  have H2 := hid (fun (W : World) (h : OwnV m a' bs' W) => IntS.mark_any m W a' c' (k + l.length) bs' h hc' hc2' (by omega) (by omega))
  have O1 := hid hr
  have O2 := hid hr'
  have L1 := hid hr.lt
  have L2 := hid hr'.lt
  have D := hid hd
  clear hr hr' hd
  go_enter Try.func26, Try.ntmps26
  go_wp2_with fail
  refine (H1.out _ (O1.out.below (below_alloc _ _))).mono ?_
  rintro _ w1 ⟨rfl, o1, hO⟩
  have X1 := hid (boxp_keep hO.size (hO.block w.heap.size (by simp) (fun h => by have := L1.out _ h; omega)) (boxp_at (w := w) (a := .slice a l.length c) (b := .slice a' m.length c') (t := 50) rfl))
  have N1 := hid o1
  have N2 := hid ((O2.out.below (below_alloc w (.cells #[.slice a l.length c, .slice a' m.length c'] 50))).only hO (fun b h1 h2 => D.out b h2 h1))
  have F1 := hid ((Only.below (S := bs ++ bs') (below_alloc w (.cells #[.slice a l.length c, .slice a' m.length c'] 50))).trans (hO.mono fun b h => List.mem_append_left _ h))
  clear hO o1 O1 O2
  obtain ⟨p0, p1, p2, _⟩ := id X1.out
  go_wp2_with fail
  refine (H2.out _ N2.out).mono ?_
  rintro _ w2 ⟨rfl, o2, hO⟩
  have M2 := hid o2
  have M1 := hid (N1.out.only hO D.out)
  have F2 := hid (F1.out.trans (hO.mono fun b h => List.mem_append_right _ h))
  clear hO o2
  go_wp2_with fail
  go_ret
  exact ⟨rfl, M1.out, M2.out, F2.out⟩

set_option maxHeartbeats 1000000 in
theorem held_any (n m : Nat) (w : World) (a a' : Option Addr) (c c' : Nat) (k : Int) (hr : RowIn Any w a (markV mkI n k)) (hr' : RowIn Any w a' (markV mkI m (k + n))) (hc : n ≤ c) (hc2 : c ≤ maxLen) (hc' : m ≤ c') (hc2' : c' ≤ maxLen) (hk : 0 ≤ k) (hk2 : k + n + m ≤ 4611686018427387904) :
    Calls Try.prog 27 #[.agg #[.slice a n c, .slice a' m c'], .int .i64 k] w (Ret (.int .i64 (k + n + m)) w) := by
  have H1 := hid (fun (W : World) (M : Below w.heap.size w W) => IntS.held_any n W a c k (hr.below M) hc hc2 hk (by omega))
  have H2 := hid (fun (W : World) (M : Below w.heap.size w W) => IntS.held_any m W a' c' (k + n) (hr'.below M) hc' hc2' (by omega) (by omega))
  have k1 : ¬ (k + (n : Int) < 0) := by omega
  have k2 : ¬ (k + (n : Int) + m < 0) := by omega
  clear hr hr'
  go_enter Try.func27, Try.ntmps27
  go_wp2_with fail
  refine (H1.out _ (by repeat (first | exact Below.refl _ _ | assumption | refine below_a ?_ _ | refine below_o ?_ _ | refine below_d ?_ | refine below_n ?_ _ | refine below_s ?_ (by first | (simp; done) | (simp; omega) | omega) _))).mono ?_
  rintro _ w1 ⟨rfl, hb⟩
  have X1 := hid (boxp_next hb (boxp_at (w := w) (a := .slice a n c) (b := .slice a' m c') (t := 50) rfl))
  have B1 := hid (below_next (show Below w.heap.size w _ from below_alloc _ _) hb)
  clear hb
  obtain ⟨p0, p1, p2, _⟩ := id X1.out
  go_wp2_with fail
  refine (H2.out _ B1.out).mono ?_
  rintro _ w2 ⟨rfl, hb⟩
  have B2 := hid (below_next B1.out hb)
  clear hb
  go_wp2_with fail
  go_ret
  exact Ret.mk rfl B2.out
end TraceM
end Go.Proofs.Ytfemikebklmlpaa
