/- FnExactLabelsValid returns true for every list of expressions. Conditions: none. -/
import Derived.Test.YtagbindamcfnoaaExprA
import Derived.Test.YtagbindamcfnoaaLabels
namespace Go.Proofs.Ytagbindamcfnoaa
open Go.RowKit

theorem smallL_len {l : List Tr} (h : 0 ≤ szL l (1048576 - l.length)) : l.length ≤ 1048576 ∧ SmallL l := by
  by_cases hn : (1048576 : Int) - l.length < 0
  · rw [szL_neg _ _ hn] at h; omega
  · exact ⟨by omega, smallL_of_sz l (1048576 - l.length) (by omega) h⟩
theorem own_row {w : World} {l : List Tr} {R : Nat} {f : Nat → Value} {bs : List Nat} (hr : Row w R (l.length * 3) f) (ho : TrsOwn w f l 0 bs) : TrsIn Any w l (some ⟨R, 0, none⟩) :=
  TrOwn_in.2 l f 0 bs ho (fun _ _ => trivial) R trivial (by simpa using hr)

set_option maxHeartbeats 400000 in
theorem walk_FnExactLabelsValid (l : List Tr) (w : World) (a : Option Addr) (c : Nat) (hl : TrsIn Any w l a) (hc : l.length ≤ c) (hc2 : c ≤ maxLen) : Calls Try.prog 9 #[.slice a l.length c] w (Ret (.bool true) w) := by
  have hbd := szL_bd l (1048576 - l.length) (by omega)
  by_cases hs : szL l (1048576 - l.length) < 0
  · go_enter Try.func9, Try.ntmps9
    go_wp2_with fail
    refine (Expr.szL_any l w a c 1048576 hl (by omega) (by omega) hc hc2).mono ?_
    rintro e w1 ⟨rfl, hb⟩
    go_wp2_with fail
    go_ret
    exact Ret.mk rfl hb
  · obtain ⟨hlen, hsm⟩ := smallL_len (l := l) (by omega)
    go_enter Try.func9, Try.ntmps9
    go_wp2_with fail
    refine (Expr.szL_any l w a c 1048576 hl (by omega) (by omega) hc hc2).mono ?_
    rintro e w1 ⟨rfl, B⟩
    go_wp2_with fail
    refine (Expr.toL_any l hlen _ a c (TrsIn_below B hl) hsm hc hc2).mono ?_
    rintro e w2 ⟨v1, rfl, ⟨c1, f1, bs1, rfl, k1, m1, r1, o1, _⟩, hb⟩
    replace B := below_next B hb
    go_wp2_with fail
    refine (Labels.spec_any l _ _ c1 (own_row r1 o1) k1 m1).mono ?_
    rintro e w3 ⟨rfl, hb⟩
    replace B := below_next B hb
    clear r1 o1
    go_wp2_with fail
    refine (Expr.toL_any l hlen _ a c (TrsIn_below B hl) hsm hc hc2).mono ?_
    rintro e w4 ⟨v2, rfl, ⟨c2, f2, bs2, rfl, k2, m2, r2, o2, _⟩, hb⟩
    replace B := below_next B hb
    have t2 := own_row r2 o2
    clear r2 o2
    go_wp2_with fail
    refine (Labels.impl_any l _ _ c2 t2 k2 m2).mono ?_
    rintro e w5 ⟨rfl, hb⟩
    replace B := below_next B hb
    replace t2 := TrsIn_below hb t2
    go_wp2_with fail
    refine (Expr.toL_any l hlen _ a c (TrsIn_below B hl) hsm hc hc2).mono ?_
    rintro e w6 ⟨v3, rfl, ⟨c3, f3, bs3, rfl, k3, m3, r3, o3, _⟩, hb⟩
    replace B := below_next B hb
    replace t2 := TrsIn_below hb t2
    go_wp2_with fail
    refine (Expr.eqL_any l _ l _ _ c2 c3 t2 (own_row r3 o3) k2 m2 k3 m3).mono ?_
    rintro e w7 ⟨rfl, hb⟩
    replace B := below_next B hb
    rw [eqL_refl]
    clear r3 o3
    go_wp2_with fail
    go_ret
    exact Ret.mk rfl B

end Go.Proofs.Ytagbindamcfnoaa
