/- ExprSame, of the program and of the reference: what it returns, for all trees. Conditions: none. -/
import Derived.Test.YtffadknollkgiaaRows
import Derived.Test.YtffadknollkgiaaTrPlain
import Derived.Test.YtffadknollkgiaaGrow
import Derived.WalkSpells
import Derived.WalkLawsBesides
namespace Go.Proofs.Ytffadknollkgiaa
open Go.RowKit
namespace Expr

def SaT (t : Tr) : Prop := ∀ (w : World) (u : Tr) (x y : Value), TrIn Any w t x → TrIn Any w u y → Calls Try.prog 43 #[x, y] w (Ret (.bool (eqT t u)) w)

set_option maxHeartbeats 400000 in
theorem ef_of (l : List Tr) (h : ∀ t, t ∈ l → SaT t) (w : World) (m : List Tr) (a a' : Option Addr) (c c' : Nat) (hl : TrsIn Any w l a) (hm : TrsIn Any w m a') (hc : l.length ≤ c) (hc2 : c ≤ maxLen) (_ : m.length ≤ c') (_ : c' ≤ maxLen) :
    Calls Try.prog 70 #[.slice a l.length c, .slice a' m.length c', .func (.func 43) #[] #[]] w (Ret (.bool (eqL l m)) w) := by
  unfold maxLen at hc2
  by_cases hn : l.length = m.length
  · have hn1 : l.length ≤ m.length := by omega
    have hn2 : m.length ≤ l.length := by omega
    have h3 : ((l.length : Int) != (m.length : Int)) = false := by rw [bne_eq_false_iff_eq]; omega
    clear hn
    go_enter Try.func70, Try.ntmps70
    go_wp2_with fail
    go_loopw [17] (fun i wr => ∃ k : Nat, k ≤ l.length ∧ i = .int .i64 k ∧ Below w.heap.size w wr ∧ Hid (eqL (l.drop k) (m.drop k) = eqL l m)) (fun i _ => l.length - (intOf i).toNat)
    case atStart => exact ⟨0, Nat.zero_le _, rfl, Below.refl _ _, hid rfl⟩
    case round =>
      obtain ⟨k, hk, rfl, hb, hr⟩ := hrel
      by_cases hlt : k < l.length
      · obtain ⟨b, o, c0, c1, c2, t, rfl, gb, g0, g1, g2, hT⟩ := TrsIn_round hl hb hlt
        obtain ⟨b', o', d0, d1, d2, u, rfl, fb, f0, f1, f2, hU⟩ := TrsIn_round hm hb (show k < m.length by omega)
        have hr2 := eqL_drop hT.out.2.2.1 hU.out.2.2.1 hr.out
        have HR2 := hid hr2; clear hr2
        obtain ⟨a4, n4, hsh⟩ := TrIn_shape hT.out.1
        simp only [Value.agg.injEq, Array.mk.injEq, List.cons.injEq, and_true] at hsh
        obtain ⟨rfl, rfl, rfl⟩ := hsh
        obtain ⟨a5, n5, hsh⟩ := TrIn_shape hU.out.1
        simp only [Value.agg.injEq, Array.mk.injEq, List.cons.injEq, and_true] at hsh
        obtain ⟨rfl, rfl, rfl⟩ := hsh
        have hlt2 : (k : Int) < (l.length : Int) := by omega
        have hlt3 : (k : Int) < (m.length : Int) := by omega
        have HB := hid hb
        go_wp2_with fail
        refine (h t hT.out.2.1 _ u _ _ (TrIn_alloc (TrIn_alloc hT.out.1 _) _) (TrIn_alloc (TrIn_alloc hU.out.1 _) _)).mono ?_
        rintro e w2 ⟨rfl, hb2⟩
        have hbd := below_next HB.out (below_next (below_next (below_alloc _ _) (below_alloc _ _)) hb2)
        clear hb2
        cases hq : eqT t u with
        | true =>
          have HR3 := HR2.out
          rw [hq, Bool.true_and] at HR3
          have HR4 := hid HR3; clear HR3 hq
          go_wp2_with fail
          go_roundw
          case rel => exact ⟨k + 1, by omega, by go_num, hbd, hid HR4.out.symm⟩
          case measure => simp [intOf]; omega
        | false =>
          have HR3 := HR2.out
          rw [hq, Bool.false_and] at HR3
          have HR4 := hid HR3; clear HR3 hq
          go_wp2_with fail
          go_ret
          exact Ret.mk (bool_val HR4.out.symm) hbd
      · have hr2 := hr.out
        rw [List.drop_of_length_le (by omega), List.drop_of_length_le (by omega)] at hr2
        have HR2 := hid hr2; clear hr2
        go_wp2_with fail
        go_ret
        exact Ret.mk (bool_val HR2.out) hb
  · have e1 := eqL_len l m hn
    have E1 := hid e1; clear e1
    have h3 : ((l.length : Int) != (m.length : Int)) = true := by rw [bne_iff_ne]; omega
    go_enter Try.func70, Try.ntmps70
    go_wp2_with fail
    go_ret
    exact Ret.mk (bool_val E1.out.symm) (Below.refl _ _)

set_option maxHeartbeats 400000 in
theorem sa_of (k v : Int) (kids : List Tr) (h : ∀ t, t ∈ kids → SaT t) : SaT (.mk k v kids) := by
  intro w u x y hx hy
  cases u with
  | mk k' v' kids' =>
  rw [TrIn_mk] at hx hy
  obtain ⟨a, n, c, rfl, hk, hv, rfl, hc, hc2, hks⟩ := hx
  obtain ⟨a', n', c', rfl, hk', hv', rfl, hc', hc2', hks'⟩ := hy
  by_cases h1 : k = k'
  · by_cases h2 : v = v'
    · subst h1 h2
      have e1 : eqT (.mk k v kids) (.mk k v kids') = eqL kids kids' := by simp [eqT]
      have E1 := hid e1; clear e1
      have hkk : (k == k) = true := by simp
      have hvv : (v == v) = true := by simp
      go_enter Try.func43, Try.ntmps43
      go_wp2_with fail
      refine (ef_of kids h _ kids' a a' c c' (TrsIn_alloc (TrsIn_alloc hks _) _) (TrsIn_alloc (TrsIn_alloc hks' _) _) hc hc2 hc' hc2').mono ?_
      rintro e w' ⟨rfl, hby⟩
      have B := below_next (show Below w.heap.size w _ from (by repeat (first | exact Below.refl _ _ | assumption | refine below_a ?_ _ | refine below_o ?_ _ | refine below_d ?_ | refine below_n ?_ _ | refine below_s ?_ (by first | (simp; done) | (simp; omega) | omega) _))) hby
      clear hby
      generalize eqL kids kids' = qq at *
      go_wp2_with fail
      go_ret
      exact Ret.mk (bool_val E1.out.symm) B
    · have e1 : eqT (.mk k v kids) (.mk k' v' kids') = false := by simp [eqT, h2]
      have E1 := hid e1; clear e1
      have h3 : (v == v') = false := by simpa using h2
      subst h1
      have hkk : (k == k) = true := by simp
      go_enter Try.func43, Try.ntmps43
      go_wp2_with fail
      go_ret
      exact Ret.mk (bool_val E1.out.symm) (by repeat (first | exact Below.refl _ _ | assumption | refine below_a ?_ _ | refine below_o ?_ _ | refine below_d ?_ | refine below_n ?_ _ | refine below_s ?_ (by first | (simp; done) | (simp; omega) | omega) _))
  · have e1 : eqT (.mk k v kids) (.mk k' v' kids') = false := by simp [eqT, h1]
    have E1 := hid e1; clear e1
    have h3 : (k == k') = false := by simpa using h1
    go_enter Try.func43, Try.ntmps43
    go_wp2_with fail
    go_ret
    exact Ret.mk (bool_val E1.out.symm) (by repeat (first | exact Below.refl _ _ | assumption | refine below_a ?_ _ | refine below_o ?_ _ | refine below_d ?_ | refine below_n ?_ _ | refine below_s ?_ (by first | (simp; done) | (simp; omega) | omega) _))

theorem same_any : ∀ t, SaT t := Tr.ind fun k v kids ih => sa_of k v kids ih


end Expr
end Go.Proofs.Ytffadknollkgiaa
