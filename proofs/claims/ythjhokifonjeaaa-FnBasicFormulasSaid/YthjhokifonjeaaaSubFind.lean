/- The reference's l5Find: the first place of a tree in a row. Conditions: those of each contract. -/
import Derived.Test.YthjhokifonjeaaaFormulaSame
import Derived.Test.YthjhokifonjeaaaMore
namespace Go.Proofs.Ythjhokifonjeaaa
open Go.RowKit
namespace Formula

/-- the first place of a tree in a row, from k on; -1 if there is none -/
def findT : List Tr → Tr → Int → Int
  | [], _, _ => -1
  | t :: ts, u, k => if eqT t u = true then k else findT ts u (k + 1)

set_option maxHeartbeats 1000000 in
theorem specFind_any (l : List Tr) (u : Tr) (w : World) (a : Option Addr) (c : Nat) (y : Value) (hl : TrsIn Any w l a) (hu : TrIn Any w u y) (hc : l.length ≤ c) (hc2 : c ≤ maxLen) : Calls Try.prog 81 #[.slice a l.length c, y] w (Ret (.int .i64 (findT l u 0)) w) := by
  obtain ⟨a', c', rfl⟩ := TrIn_shape hu
  have HC := hid hc2
  unfold maxLen at hc2
  go_enter Try.func81, Try.ntmps81
  go_wp2_with fail
  go_loopw [5] (fun i wr => ∃ k : Nat, k ≤ l.length ∧ i = .int .i64 k ∧ Below w.heap.size w wr ∧ Box3 wr w.heap.size (.int .i64 u.kind) (.int .i64 u.val) (.slice a' u.kids.length c') ∧ Hid (findT (l.drop k) u k = findT l u 0)) (fun i _ => l.length - (intOf i).toNat)
  case atStart => exact ⟨0, Nat.zero_le _, rfl, below_alloc _ _, box3_new .., hid rfl⟩
  case round =>
    obtain ⟨k, hk, rfl, hb, b3, hr⟩ := hrel
    by_cases hlt : k < l.length
    · obtain ⟨b, o, c0, c1, c2, t, rfl, gb, g0, g1, g2, hT⟩ := TrsIn_round hl hb hlt
      have hr2 : Hid ((if eqT t u = true then (k : Int) else findT (l.drop (k + 1)) u ((k : Int) + 1)) = findT l u 0) := by
        have := hr.out
        rw [hT.out.2.2.1] at this
        exact this
      have hlt2 : (k : Int) < (l.length : Int) := by omega
      have hU := hid (TrIn_below hb hu)
      have HB := hid hb
      have HB3 := hid b3
      obtain ⟨p0, p1, p2, p3, _⟩ := id b3
      clear hb b3
      go_wp2_with fail
      refine wp_region_over (by kernel_rfl) (by kernel_rfl) ?_; (repeat (go_big_quiet_step ((go_at_call 103; exact Calls.over (specSame_any t _ u _ _ (TrIn_over hT.out.1 _) (TrIn_over hU.out _)))))); refine wpQuiet_nil ?_; rintro _ ⟨xq, rfl⟩
      have hbo := hid (below_next HB.out (over_below _ xq))
      have hb3 := hid (box3_next (over_below _ xq) HB3.out)
      clear p0 p1 p2 p3 g0 g1 g2
      cases hq : eqT t u with
      | true =>
        have HR := hid (show findT l u 0 = (k : Int) by rw [← hr2.out, hq, if_pos rfl])
        clear hq
        go_wp2_with fail
        go_ret
        exact Ret.mk (int_val HR.out.symm) hbo.out
      | false =>
        have HR := hid (show findT (l.drop (k + 1)) u ((k + 1 : Nat) : Int) = findT l u 0 by rw [← hr2.out, hq, if_neg (by simp)]; rfl)
        clear hq
        go_wp2_with fail
        go_roundw
        case rel => exact ⟨k + 1, by omega, by go_num, hbo.out, hb3.out, HR⟩
        case measure => simp [intOf]; omega
    · have hr2 : findT l u 0 = -1 := by
        have := hr.out
        rw [List.drop_of_length_le (by omega)] at this
        exact this.symm
      have HR := hid hr2; clear hr2
      go_wp2_with fail
      go_ret
      exact Ret.mk (int_val HR.out.symm) hb

/-- the closure that IndexFunc is handed -/
def atClo (D : Nat) : Value := .func (.func 101) #[] #[.pointer (some ⟨D, 0, none⟩)]

theorem atClo_any (t u : Tr) (w : World) (x : Value) (D : Nat) (a' : Option Addr) (c' : Nat) (hx : TrIn Any w t x) (hu : TrIn Any w u (.agg #[.int .i64 u.kind, .int .i64 u.val, .slice a' u.kids.length c'])) (hD : Box3 w D (.int .i64 u.kind) (.int .i64 u.val) (.slice a' u.kids.length c')) :
    Calls Try.prog 101 #[x, .pointer (some ⟨D, 0, none⟩)] w (Ret (.bool (eqT t u)) w) := by
  obtain ⟨a, c, rfl⟩ := TrIn_shape hx
  obtain ⟨p0, p1, p2, p3, _⟩ := hD
  have HX := hid (TrIn_alloc hx (.cells #[.int .i64 t.kind, .int .i64 t.val, .slice a t.kids.length c] 25))
  have HU := hid (TrIn_alloc hu (.cells #[.int .i64 t.kind, .int .i64 t.val, .slice a t.kids.length c] 25))
  clear hx hu
  go_enter Try.func101, Try.ntmps101
  go_wp2_with fail
  refine (same_any t _ u _ _ HX.out HU.out).mono ?_
  rintro e w2 ⟨rfl, hb⟩
  go_wp2_with fail
  go_ret
  exact Ret.mk rfl (below_next (below_alloc _ _) hb)

set_option maxHeartbeats 1000000 in
theorem index_any (l : List Tr) (u : Tr) (w : World) (a : Option Addr) (c D : Nat) (a' : Option Addr) (c' : Nat) (hl : TrsIn Any w l a) (hc : l.length ≤ c) (hc2 : c ≤ maxLen) (hu : TrIn Any w u (.agg #[.int .i64 u.kind, .int .i64 u.val, .slice a' u.kids.length c'])) (hD : Box3 w D (.int .i64 u.kind) (.int .i64 u.val) (.slice a' u.kids.length c')) :
    Calls Try.prog 100 #[.slice a l.length c, atClo D] w (Ret (.int .i64 (findT l u 0)) w) := by
  unfold maxLen at hc2
  unfold atClo
  have HU := hid hu
  have HD := hid hD
  clear hu hD
  go_enter Try.func100, Try.ntmps100
  go_wp2_with fail
  go_loopw [5, 8] (fun _ i wr => ∃ k : Nat, k ≤ l.length ∧ i = .int .i64 k ∧ Below w.heap.size w wr ∧ Hid (findT (l.drop k) u k = findT l u 0)) (fun _ i _ => l.length - (intOf i).toNat)
  case atStart => exact ⟨0, Nat.zero_le _, rfl, Below.refl _ _, hid rfl⟩
  case round =>
    obtain ⟨k, hk, rfl, hb, hr⟩ := hrel
    by_cases hlt : k < l.length
    · obtain ⟨b, o, c0, c1, c2, t, rfl, gb, g0, g1, g2, hT⟩ := TrsIn_round hl hb hlt
      have hr2 : Hid ((if eqT t u = true then (k : Int) else findT (l.drop (k + 1)) u ((k : Int) + 1)) = findT l u 0) := by
        have := hr.out
        rw [hT.out.2.2.1] at this
        exact this
      have HB := hid hb
      clear hb
      go_wp2_with fail
      refine (atClo_any t u _ _ D a' c' hT.out.1 (TrIn_below HB.out HU.out) (box3_next HB.out HD.out)).mono ?_
      rintro e w2 ⟨rfl, hb2⟩
      have hbo := hid (below_next HB.out hb2)
      clear hb2
      cases hq : eqT t u with
      | true =>
        have HR := hid (show findT l u 0 = (k : Int) by rw [← hr2.out, hq, if_pos rfl])
        clear hq
        go_wp2_with fail
        go_ret
        exact Ret.mk (int_val HR.out.symm) hbo.out
      | false =>
        have HR := hid (show findT (l.drop (k + 1)) u ((k + 1 : Nat) : Int) = findT l u 0 by rw [← hr2.out, hq, if_neg (by simp)]; rfl)
        clear hq
        go_wp2_with fail
        go_roundw
        case rel => exact ⟨k + 1, by omega, by go_num, hbo.out, HR⟩
        case measure => simp [intOf]; omega
    · have hr2 : findT l u 0 = -1 := by
        have := hr.out
        rw [List.drop_of_length_le (by omega)] at this
        exact this.symm
      have HR := hid hr2; clear hr2
      go_wp2_with fail
      go_ret
      exact Ret.mk (int_val HR.out.symm) hb

theorem at_any (l : List Tr) (u : Tr) (w : World) (a : Option Addr) (c : Nat) (y : Value) (hl : TrsIn Any w l a) (hu : TrIn Any w u y) (hc : l.length ≤ c) (hc2 : c ≤ maxLen) : Calls Try.prog 78 #[.slice a l.length c, y] w (Ret (.int .i64 (findT l u 0)) w) := by
  obtain ⟨a', c', rfl⟩ := TrIn_shape hu
  go_enter Try.func78, Try.ntmps78
  go_wp2_with fail
  refine (index_any l u _ a c w.heap.size a' c' (TrsIn_alloc hl _) hc hc2 (TrIn_alloc hu _) (box3_new ..)).mono ?_
  rintro e w2 ⟨rfl, hb⟩
  go_wp2_with fail
  go_ret
  exact Ret.mk rfl (below_next (below_alloc _ _) hb)
end Formula
end Go.Proofs.Ythjhokifonjeaaa
