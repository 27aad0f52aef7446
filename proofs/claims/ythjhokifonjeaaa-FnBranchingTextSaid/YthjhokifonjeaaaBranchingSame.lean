/- BranchingSame, of the program and of the reference: what it returns, for all trees. Conditions: none. -/
import Derived.Test.YthjhokifonjeaaaRows
import Derived.Test.YthjhokifonjeaaaTrPlain
import Derived.Test.YthjhokifonjeaaaGrow
import Derived.WalkSpells
import Derived.WalkLawsBesides
namespace Go.Proofs.Ythjhokifonjeaaa
open Go.RowKit
namespace Branching

def SaT (t : Tr) : Prop := ∀ (w : World) (u : Tr) (x y : Value), TrIn Any w t x → TrIn Any w u y → Calls Try.prog 31 #[x, y] w (Ret (.bool (eqT t u)) w)

set_option maxHeartbeats 400000 in
theorem ef_of (l : List Tr) (h : ∀ t, t ∈ l → SaT t) (w : World) (m : List Tr) (a a' : Option Addr) (c c' : Nat) (hl : TrsIn Any w l a) (hm : TrsIn Any w m a') (hc : l.length ≤ c) (hc2 : c ≤ maxLen) (_ : m.length ≤ c') (_ : c' ≤ maxLen) :
    Calls Try.prog 60 #[.slice a l.length c, .slice a' m.length c', .func (.func 31) #[] #[]] w (Ret (.bool (eqL l m)) w) := by
  unfold maxLen at hc2
  by_cases hn : l.length = m.length
  · have hn1 : l.length ≤ m.length := by omega
    have hn2 : m.length ≤ l.length := by omega
    have h3 : ((l.length : Int) != (m.length : Int)) = false := by rw [bne_eq_false_iff_eq]; omega
    clear hn
    go_enter Try.func60, Try.ntmps60
    go_wp2_with fail
    go_loopw [17] (fun i wr => ∃ k : Nat, k ≤ l.length ∧ i = .int .i64 k ∧ Below w.heap.size w wr ∧ Hid (eqL (l.drop k) (m.drop k) = eqL l m)) (fun i _ => l.length - (intOf i).toNat)
    case atStart => exact ⟨0, Nat.zero_le _, rfl, Below.refl _ _, hid rfl⟩
    case round =>
      obtain ⟨k, hk, rfl, hb, hr⟩ := hrel
      by_cases hlt : k < l.length
      · obtain ⟨b, o, c0, c1, c2, t, rfl, gb, g0, g1, g2, hT⟩ := TrsIn_round hl hb hlt
        obtain ⟨b', o', d0, d1, d2, u, rfl, fb, f0, f1, f2, hU⟩ := TrsIn_round hm hb (show k < m.length by omega)
        have hr2 := eqL_drop hT.out.2.2.1 hU.out.2.2.1 hr.out
        have HR2 := hid hr2; clear hr2
        obtain ⟨a4, n4, hsh⟩ := TrIn_shape hT.out.1
        simp only [Value.agg.injEq, Array.mk.injEq, List.cons.injEq, and_true] at hsh
        obtain ⟨rfl, rfl, rfl⟩ := hsh
        obtain ⟨a5, n5, hsh⟩ := TrIn_shape hU.out.1
        simp only [Value.agg.injEq, Array.mk.injEq, List.cons.injEq, and_true] at hsh
        obtain ⟨rfl, rfl, rfl⟩ := hsh
        have hlt2 : (k : Int) < (l.length : Int) := by omega
        have hlt3 : (k : Int) < (m.length : Int) := by omega
        have HB := hid hb
        go_wp2_with fail
        refine (h t hT.out.2.1 _ u _ _ (TrIn_alloc (TrIn_alloc hT.out.1 _) _) (TrIn_alloc (TrIn_alloc hU.out.1 _) _)).mono ?_
        rintro e w2 ⟨rfl, hb2⟩
        have hbd := below_next HB.out (below_next (below_next (below_alloc _ _) (below_alloc _ _)) hb2)
        clear hb2
        cases hq : eqT t u with
        | true =>
          have HR3 := HR2.out
          rw [hq, Bool.true_and] at HR3
          have HR4 := hid HR3; clear HR3 hq
          go_wp2_with fail
          go_roundw
          case rel => exact ⟨k + 1, by omega, by go_num, hbd, hid HR4.out.symm⟩
          case measure => simp [intOf]; omega
        | false =>
          have HR3 := HR2.out
          rw [hq, Bool.false_and] at HR3
          have HR4 := hid HR3; clear HR3 hq
          go_wp2_with fail
          go_ret
          exact Ret.mk (bool_val HR4.out.symm) hbd
      · have hr2 := hr.out
        rw [List.drop_of_length_le (by omega), List.drop_of_length_le (by omega)] at hr2
        have HR2 := hid hr2; clear hr2
        go_wp2_with fail
        go_ret
        exact Ret.mk (bool_val HR2.out) hb
  · have e1 := eqL_len l m hn
    have E1 := hid e1; clear e1
    have h3 : ((l.length : Int) != (m.length : Int)) = true := by rw [bne_iff_ne]; omega
    go_enter Try.func60, Try.ntmps60
    go_wp2_with fail
    go_ret
    exact Ret.mk (bool_val E1.out.symm) (Below.refl _ _)

set_option maxHeartbeats 400000 in
theorem sa_of (k v : Int) (kids : List Tr) (h : ∀ t, t ∈ kids → SaT t) : SaT (.mk k v kids) := by
  intro w u x y hx hy
  cases u with
  | mk k' v' kids' =>
  rw [TrIn_mk] at hx hy
  obtain ⟨a, n, c, rfl, hk, hv, rfl, hc, hc2, hks⟩ := hx
  obtain ⟨a', n', c', rfl, hk', hv', rfl, hc', hc2', hks'⟩ := hy
  by_cases h1 : k = k'
  · by_cases h2 : v = v'
    · subst h1 h2
      have e1 : eqT (.mk k v kids) (.mk k v kids') = eqL kids kids' := by simp [eqT]
      have E1 := hid e1; clear e1
      have hkk : (k == k) = true := by simp
      have hvv : (v == v) = true := by simp
      go_enter Try.func31, Try.ntmps31
      go_wp2_with fail
      refine (ef_of kids h _ kids' a a' c c' (TrsIn_alloc (TrsIn_alloc hks _) _) (TrsIn_alloc (TrsIn_alloc hks' _) _) hc hc2 hc' hc2').mono ?_
      rintro e w' ⟨rfl, hby⟩
      have B := below_next (show Below w.heap.size w _ from (by repeat (first | exact Below.refl _ _ | assumption | refine below_a ?_ _ | refine below_o ?_ _ | refine below_d ?_ | refine below_n ?_ _ | refine below_s ?_ (by first | (simp; done) | (simp; omega) | omega) _))) hby
      clear hby
      generalize eqL kids kids' = qq at *
      go_wp2_with fail
      go_ret
      exact Ret.mk (bool_val E1.out.symm) B
    · have e1 : eqT (.mk k v kids) (.mk k' v' kids') = false := by simp [eqT, h2]
      have E1 := hid e1; clear e1
      have h3 : (v == v') = false := by simpa using h2
      subst h1
      have hkk : (k == k) = true := by simp
      go_enter Try.func31, Try.ntmps31
      go_wp2_with fail
      go_ret
      exact Ret.mk (bool_val E1.out.symm) (by repeat (first | exact Below.refl _ _ | assumption | refine below_a ?_ _ | refine below_o ?_ _ | refine below_d ?_ | refine below_n ?_ _ | refine below_s ?_ (by first | (simp; done) | (simp; omega) | omega) _))
  · have e1 : eqT (.mk k v kids) (.mk k' v' kids') = false := by simp [eqT, h1]
    have E1 := hid e1; clear e1
    have h3 : (k == k') = false := by simpa using h1
    go_enter Try.func31, Try.ntmps31
    go_wp2_with fail
    go_ret
    exact Ret.mk (bool_val E1.out.symm) (by repeat (first | exact Below.refl _ _ | assumption | refine below_a ?_ _ | refine below_o ?_ _ | refine below_d ?_ | refine below_n ?_ _ | refine below_s ?_ (by first | (simp; done) | (simp; omega) | omega) _))

theorem same_any : ∀ t, SaT t := Tr.ind fun k v kids ih => sa_of k v kids ih

def SsT (t : Tr) : Prop := ∀ (w : World) (u : Tr) (x y : Value), TrIn Any w t x → TrIn Any w u y → Calls Try.prog 32 #[x, y] w (Ret (.bool (eqT t u)) w)

set_option maxRecDepth 100000 in
set_option maxHeartbeats 1000000 in
theorem ss_of (k v : Int) (kids : List Tr) (h : ∀ t, t ∈ kids → SsT t) : SsT (.mk k v kids) := by
  intro w u x y hx hy
  cases u with
  | mk k' v' kids' =>
  rw [TrIn_mk] at hx hy
  obtain ⟨a, n, c, rfl, hk, hv, rfl, hc, hc2, hks⟩ := hx
  obtain ⟨a', n', c', rfl, hk', hv', rfl, hc', hc2', hks'⟩ := hy
  unfold maxLen at hc2 hc2'
  by_cases h1 : k = k'
  · by_cases h2 : v = v'
    · by_cases hn : kids.length = kids'.length
      · subst h1 h2
        have E1 := hid (show eqT (.mk k v kids) (.mk k v kids') = eqL kids kids' by simp [eqT])
        have hkk : (k != k) = false := by simp
        have hvv : (v != v) = false := by simp
        have hll : ((kids.length : Int) != (kids'.length : Int)) = false := by rw [bne_eq_false_iff_eq]; omega
        have hn1 : kids.length ≤ kids'.length := by omega
        have hn2 : kids'.length ≤ kids.length := by omega
        clear hn
        go_enter Try.func32, Try.ntmps32
        go_wp2_with fail
        go_loopw [5] (fun i wr => ∃ j : Nat, j ≤ kids.length ∧ i = .int .i64 j ∧ Below w.heap.size w wr ∧ (Box3 wr w.heap.size (.int .i64 k) (.int .i64 v) (.slice a kids.length c) ∧ Box3 wr (w.heap.size + 1) (.int .i64 k) (.int .i64 v) (.slice a' kids'.length c')) ∧ Hid (eqL (kids.drop j) (kids'.drop j) = eqL kids kids')) (fun i _ => kids.length - (intOf i).toNat)
        case atStart => exact ⟨0, Nat.zero_le _, rfl, (by repeat (first | exact Below.refl _ _ | assumption | refine below_a ?_ _ | refine below_o ?_ _ | refine below_d ?_ | refine below_n ?_ _ | refine below_s ?_ (by first | (simp; done) | (simp; omega) | omega) _)), ⟨box3_next (below_alloc _ _) (box3_new ..), box3_at (by simp)⟩, hid rfl⟩
        case round =>
          obtain ⟨j, hj, rfl, B, ⟨b0, b1⟩, hr⟩ := hrel
          have bb0 := b0
          have bb1 := b1
          obtain ⟨p0, p1, p2, p3, p4⟩ := b0
          obtain ⟨q0, q1, q2, q3, q4⟩ := b1
          by_cases hlt : j < kids.length
          · obtain ⟨b, o, c0, c1, c2, t, rfl, gb, g0, g1, g2, hT⟩ := TrsIn_round hks B hlt
            obtain ⟨b', o', d0, d1, d2, u, rfl, fb, f0, f1, f2, hU⟩ := TrsIn_round hks' B (show j < kids'.length by omega)
            have HR2 := hid (eqL_drop hT.out.2.2.1 hU.out.2.2.1 hr.out)
            have hlt2 : (j : Int) < (kids.length : Int) := by omega
            have hlt3 : (j : Int) < (kids'.length : Int) := by omega
            go_wp2_with fail
            refine wp_region_over (by kernel_rfl) (by kernel_rfl) ?_; (repeat (go_big_quiet_step ((go_at_call 32; exact Calls.over (h t hT.out.2.1 _ u _ _ (TrIn_over hT.out.1 _) (TrIn_over hU.out.1 _)))))); refine wpQuiet_nil ?_; rintro _ ⟨xq, rfl⟩
            have hbd : Below w.heap.size w (wr.over xq) := below_next B (over_below wr xq)
            replace bb0 := box3_next (over_below wr xq) bb0
            replace bb1 := box3_next (over_below wr xq) bb1
            cases hq : eqT t u with
            | true =>
              have HR3 := HR2.out
              rw [hq, Bool.true_and] at HR3
              have HR4 := hid HR3; clear HR3 hq
              go_wp2_with fail
              go_roundw
              case rel => exact ⟨j + 1, by omega, by go_num, hbd, ⟨bb0, bb1⟩, hid HR4.out.symm⟩
              case measure => simp [intOf]; omega
            | false =>
              have HR3 := HR2.out
              rw [hq, Bool.false_and] at HR3
              have HR4 := hid HR3; clear HR3 hq
              go_wp2_with fail
              go_ret
              exact Ret.mk (bool_val (E1.out.trans HR4.out).symm) hbd
          · have hr2 := hr.out
            rw [List.drop_of_length_le (by omega), List.drop_of_length_le (by omega)] at hr2
            have HR2 := hid (E1.out.trans hr2.symm); clear hr2
            have hlt2 : ¬ ((j : Int) < (kids.length : Int)) := by omega
            go_wp2_with fail
            go_ret
            exact Ret.mk (bool_val HR2.out.symm) B
      · have E1 := hid (show eqT (.mk k v kids) (.mk k' v' kids') = false by simp [eqT, eqL_len kids kids' hn])
        have hll : ((kids.length : Int) != (kids'.length : Int)) = true := by rw [bne_iff_ne]; omega
        subst h1 h2
        have hkk : (k != k) = false := by simp
        have hvv : (v != v) = false := by simp
        go_enter Try.func32, Try.ntmps32
        go_wp2_with fail
        go_ret
        exact Ret.mk (bool_val E1.out.symm) (by repeat (first | exact Below.refl _ _ | assumption | refine below_a ?_ _ | refine below_o ?_ _ | refine below_d ?_ | refine below_n ?_ _ | refine below_s ?_ (by first | (simp; done) | (simp; omega) | omega) _))
    · have E1 := hid (show eqT (.mk k v kids) (.mk k' v' kids') = false by simp [eqT, h2])
      have h3 : (v != v') = true := by simpa using h2
      subst h1
      have hkk : (k != k) = false := by simp
      go_enter Try.func32, Try.ntmps32
      go_wp2_with fail
      go_ret
      exact Ret.mk (bool_val E1.out.symm) (by repeat (first | exact Below.refl _ _ | assumption | refine below_a ?_ _ | refine below_o ?_ _ | refine below_d ?_ | refine below_n ?_ _ | refine below_s ?_ (by first | (simp; done) | (simp; omega) | omega) _))
  · have E1 := hid (show eqT (.mk k v kids) (.mk k' v' kids') = false by simp [eqT, h1])
    have h3 : (k != k') = true := by simpa using h1
    go_enter Try.func32, Try.ntmps32
    go_wp2_with fail
    go_ret
    exact Ret.mk (bool_val E1.out.symm) (by repeat (first | exact Below.refl _ _ | assumption | refine below_a ?_ _ | refine below_o ?_ _ | refine below_d ?_ | refine below_n ?_ _ | refine below_s ?_ (by first | (simp; done) | (simp; omega) | omega) _))
theorem specSame_any : ∀ t, SsT t := Tr.ind fun k v kids ih => ss_of k v kids ih

end Branching
end Go.Proofs.Ythjhokifonjeaaa
