/- Joined texts (ExprSame, StSame, SySame, SySame2, GrIn, FindS, SySpec): contracts and plain laws. Conditions: those of each theorem. -/
import Derived.Test.YtgopfjnpjkpelaaDoorRows
import Derived.Test.YtgopfjnpjkpelaaDoorJY0
import Derived.Test.YtgopfjnpjkpelaaDoorJY1
import Derived.Test.YtgopfjnpjkpelaaDoorJY2
import Derived.Test.YtgopfjnpjkpelaaDoorJY4
import Derived.Test.YtgopfjnpjkpelaaDoorJY3
import Derived.Test.YtgopfjnpjkpelaaDoorJY10
import Derived.WalkSpells
import Derived.WalkLawsBesides
set_option linter.unusedVariables false
set_option linter.unusedSimpArgs false
namespace Go.Proofs.YtgopfjnpjkpelaaDoor
open Go.RowKit
namespace Expr

def SaT (t : Tr) : Prop := ∀ (w : World) (u : Tr) (x y : Value), TrIn Any w t x → TrIn Any w u y → Calls Tryd.prog 29 #[x, y] w (Ret (.bool (eqT t u)) w)

set_option maxHeartbeats 400000 in
theorem ef_of (l : List Tr) (h : ∀ t, t ∈ l → SaT t) (w : World) (m : List Tr) (a a' : Option Addr) (c c' : Nat) (hl : TrsIn Any w l a) (hm : TrsIn Any w m a') (hc : l.length ≤ c) (hc2 : c ≤ maxLen) (_ : m.length ≤ c') (_ : c' ≤ maxLen) :
    Calls Tryd.prog 42 #[.slice a l.length c, .slice a' m.length c', .func (.func 29) #[] #[]] w (Ret (.bool (eqL l m)) w) := by
  unfold maxLen at hc2
  by_cases hn : l.length = m.length
  · have hn1 : l.length ≤ m.length := by omega
    have hn2 : m.length ≤ l.length := by omega
    have h3 : ((l.length : Int) != (m.length : Int)) = false := by rw [bne_eq_false_iff_eq]; omega
    clear hn
    go_enter Tryd.func42, Tryd.ntmps42
    go_wp2_with fail
    go_loopw [17] (fun i wr => ∃ k : Nat, k ≤ l.length ∧ i = .int .i64 k ∧ Below w.heap.size w wr ∧ Hid (eqL (l.drop k) (m.drop k) = eqL l m)) (fun i _ => l.length - (intOf i).toNat)
    case atStart => exact ⟨0, Nat.zero_le _, rfl, Below.refl _ _, hid rfl⟩
    case round =>
      obtain ⟨k, hk, rfl, hb, hr⟩ := hrel
      by_cases hlt : k < l.length
      · obtain ⟨b, o, c0, c1, c2, t, rfl, gb, g0, g1, g2, hT⟩ := TrsIn_round hl hb hlt
        obtain ⟨b', o', d0, d1, d2, u, rfl, fb, f0, f1, f2, hU⟩ := TrsIn_round hm hb (show k < m.length by omega)
        have hr2 := eqL_drop hT.out.2.2.1 hU.out.2.2.1 hr.out
        have HR2 := hid hr2; clear hr2
        obtain ⟨a4, n4, hsh⟩ := TrIn_shape hT.out.1
        simp only [Value.agg.injEq, Array.mk.injEq, List.cons.injEq, and_true] at hsh
        obtain ⟨rfl, rfl, rfl⟩ := hsh
        obtain ⟨a5, n5, hsh⟩ := TrIn_shape hU.out.1
        simp only [Value.agg.injEq, Array.mk.injEq, List.cons.injEq, and_true] at hsh
        obtain ⟨rfl, rfl, rfl⟩ := hsh
        have hlt2 : (k : Int) < (l.length : Int) := by omega
        have hlt3 : (k : Int) < (m.length : Int) := by omega
        have HB := hid hb
        go_wp2_with fail
        refine (h t hT.out.2.1 _ u _ _ (TrIn_alloc (TrIn_alloc hT.out.1 _) _) (TrIn_alloc (TrIn_alloc hU.out.1 _) _)).mono ?_
        rintro e w2 ⟨rfl, hb2⟩
        have hbd := below_next HB.out (below_next (below_next (below_alloc _ _) (below_alloc _ _)) hb2)
        clear hb2
        cases hq : eqT t u with
        | true =>
          have HR3 := HR2.out
          rw [hq, Bool.true_and] at HR3
          have HR4 := hid HR3; clear HR3 hq
          go_wp2_with fail
          go_roundw
          case rel => exact ⟨k + 1, by omega, by go_num, hbd, hid HR4.out.symm⟩
          case measure => simp [intOf]; omega
        | false =>
          have HR3 := HR2.out
          rw [hq, Bool.false_and] at HR3
          have HR4 := hid HR3; clear HR3 hq
          go_wp2_with fail
          go_ret
          exact Ret.mk (bool_val HR4.out.symm) hbd
      · have hr2 := hr.out
        rw [List.drop_of_length_le (by omega), List.drop_of_length_le (by omega)] at hr2
        have HR2 := hid hr2; clear hr2
        go_wp2_with fail
        go_ret
        exact Ret.mk (bool_val HR2.out) hb
  · have e1 := eqL_len l m hn
    have E1 := hid e1; clear e1
    have h3 : ((l.length : Int) != (m.length : Int)) = true := by rw [bne_iff_ne]; omega
    go_enter Tryd.func42, Tryd.ntmps42
    go_wp2_with fail
    go_ret
    exact Ret.mk (bool_val E1.out.symm) (Below.refl _ _)

set_option maxHeartbeats 400000 in
theorem sa_of (k v : Int) (kids : List Tr) (h : ∀ t, t ∈ kids → SaT t) : SaT (.mk k v kids) := by
  intro w u x y hx hy
  cases u with
  | mk k' v' kids' =>
  rw [TrIn_mk] at hx hy
  obtain ⟨a, n, c, rfl, hk, hv, rfl, hc, hc2, hks⟩ := hx
  obtain ⟨a', n', c', rfl, hk', hv', rfl, hc', hc2', hks'⟩ := hy
  by_cases h1 : k = k'
  · by_cases h2 : v = v'
    · subst h1 h2
      have e1 : eqT (.mk k v kids) (.mk k v kids') = eqL kids kids' := by simp [eqT]
      have E1 := hid e1; clear e1
      have hkk : (k == k) = true := by simp
      have hvv : (v == v) = true := by simp
      go_enter Tryd.func29, Tryd.ntmps29
      go_wp2_with fail
      refine (ef_of kids h _ kids' a a' c c' (TrsIn_alloc (TrsIn_alloc hks _) _) (TrsIn_alloc (TrsIn_alloc hks' _) _) hc hc2 hc' hc2').mono ?_
      rintro e w' ⟨rfl, hby⟩
      have B := below_next (show Below w.heap.size w _ from (by repeat (first | exact Below.refl _ _ | assumption | refine below_a ?_ _ | refine below_o ?_ _ | refine below_d ?_ | refine below_n ?_ _ | refine below_s ?_ (by first | (simp; done) | (simp; omega) | omega) _))) hby
      clear hby
      generalize eqL kids kids' = qq at *
      go_wp2_with fail
      go_ret
      exact Ret.mk (bool_val E1.out.symm) B
    · have e1 : eqT (.mk k v kids) (.mk k' v' kids') = false := by simp [eqT, h2]
      have E1 := hid e1; clear e1
      have h3 : (v == v') = false := by simpa using h2
      subst h1
      have hkk : (k == k) = true := by simp
      go_enter Tryd.func29, Tryd.ntmps29
      go_wp2_with fail
      go_ret
      exact Ret.mk (bool_val E1.out.symm) (by repeat (first | exact Below.refl _ _ | assumption | refine below_a ?_ _ | refine below_o ?_ _ | refine below_d ?_ | refine below_n ?_ _ | refine below_s ?_ (by first | (simp; done) | (simp; omega) | omega) _))
  · have e1 : eqT (.mk k v kids) (.mk k' v' kids') = false := by simp [eqT, h1]
    have E1 := hid e1; clear e1
    have h3 : (k == k') = false := by simpa using h1
    go_enter Tryd.func29, Tryd.ntmps29
    go_wp2_with fail
    go_ret
    exact Ret.mk (bool_val E1.out.symm) (by repeat (first | exact Below.refl _ _ | assumption | refine below_a ?_ _ | refine below_o ?_ _ | refine below_d ?_ | refine below_n ?_ _ | refine below_s ?_ (by first | (simp; done) | (simp; omega) | omega) _))

theorem same_any : ∀ t, SaT t := Tr.ind fun k v kids ih => sa_of k v kids ih

def SsT (t : Tr) : Prop := ∀ (w : World) (u : Tr) (x y : Value), TrIn Any w t x → TrIn Any w u y → Calls Tryd.prog 30 #[x, y] w (Ret (.bool (eqT t u)) w)

set_option maxRecDepth 100000 in
set_option maxHeartbeats 1000000 in
theorem ss_of (k v : Int) (kids : List Tr) (h : ∀ t, t ∈ kids → SsT t) : SsT (.mk k v kids) := by
  intro w u x y hx hy
  cases u with
  | mk k' v' kids' =>
  rw [TrIn_mk] at hx hy
  obtain ⟨a, n, c, rfl, hk, hv, rfl, hc, hc2, hks⟩ := hx
  obtain ⟨a', n', c', rfl, hk', hv', rfl, hc', hc2', hks'⟩ := hy
  unfold maxLen at hc2 hc2'
  by_cases h1 : k = k'
  · by_cases h2 : v = v'
    · by_cases hn : kids.length = kids'.length
      · subst h1 h2
        have E1 := hid (show eqT (.mk k v kids) (.mk k v kids') = eqL kids kids' by simp [eqT])
        have hkk : (k != k) = false := by simp
        have hvv : (v != v) = false := by simp
        have hll : ((kids.length : Int) != (kids'.length : Int)) = false := by rw [bne_eq_false_iff_eq]; omega
        have hn1 : kids.length ≤ kids'.length := by omega
        have hn2 : kids'.length ≤ kids.length := by omega
        clear hn
        go_enter Tryd.func30, Tryd.ntmps30
        go_wp2_with fail
        go_loopw [5] (fun i wr => ∃ j : Nat, j ≤ kids.length ∧ i = .int .i64 j ∧ Below w.heap.size w wr ∧ (Box3 wr w.heap.size (.int .i64 k) (.int .i64 v) (.slice a kids.length c) ∧ Box3 wr (w.heap.size + 1) (.int .i64 k) (.int .i64 v) (.slice a' kids'.length c')) ∧ Hid (eqL (kids.drop j) (kids'.drop j) = eqL kids kids')) (fun i _ => kids.length - (intOf i).toNat)
        case atStart => exact ⟨0, Nat.zero_le _, rfl, (by repeat (first | exact Below.refl _ _ | assumption | refine below_a ?_ _ | refine below_o ?_ _ | refine below_d ?_ | refine below_n ?_ _ | refine below_s ?_ (by first | (simp; done) | (simp; omega) | omega) _)), ⟨box3_next (below_alloc _ _) (box3_new ..), box3_at (by simp)⟩, hid rfl⟩
        case round =>
          obtain ⟨j, hj, rfl, B, ⟨b0, b1⟩, hr⟩ := hrel
          have bb0 := b0
          have bb1 := b1
          obtain ⟨p0, p1, p2, p3, p4⟩ := b0
          obtain ⟨q0, q1, q2, q3, q4⟩ := b1
          by_cases hlt : j < kids.length
          · obtain ⟨b, o, c0, c1, c2, t, rfl, gb, g0, g1, g2, hT⟩ := TrsIn_round hks B hlt
            obtain ⟨b', o', d0, d1, d2, u, rfl, fb, f0, f1, f2, hU⟩ := TrsIn_round hks' B (show j < kids'.length by omega)
            have HR2 := hid (eqL_drop hT.out.2.2.1 hU.out.2.2.1 hr.out)
            have hlt2 : (j : Int) < (kids.length : Int) := by omega
            have hlt3 : (j : Int) < (kids'.length : Int) := by omega
            go_wp2_with fail
            refine wp_region_over (by kernel_rfl) (by kernel_rfl) ?_; (repeat (go_big_quiet_step ((go_at_call 30; exact Calls.over (h t hT.out.2.1 _ u _ _ (TrIn_over hT.out.1 _) (TrIn_over hU.out.1 _)))))); refine wpQuiet_nil ?_; rintro _ ⟨xq, rfl⟩
            have hbd : Below w.heap.size w (wr.over xq) := below_next B (over_below wr xq)
            replace bb0 := box3_next (over_below wr xq) bb0
            replace bb1 := box3_next (over_below wr xq) bb1
            cases hq : eqT t u with
            | true =>
              have HR3 := HR2.out
              rw [hq, Bool.true_and] at HR3
              have HR4 := hid HR3; clear HR3 hq
              go_wp2_with fail
              go_roundw
              case rel => exact ⟨j + 1, by omega, by go_num, hbd, ⟨bb0, bb1⟩, hid HR4.out.symm⟩
              case measure => simp [intOf]; omega
            | false =>
              have HR3 := HR2.out
              rw [hq, Bool.false_and] at HR3
              have HR4 := hid HR3; clear HR3 hq
              go_wp2_with fail
              go_ret
              exact Ret.mk (bool_val (E1.out.trans HR4.out).symm) hbd
          · have hr2 := hr.out
            rw [List.drop_of_length_le (by omega), List.drop_of_length_le (by omega)] at hr2
            have HR2 := hid (E1.out.trans hr2.symm); clear hr2
            have hlt2 : ¬ ((j : Int) < (kids.length : Int)) := by omega
            go_wp2_with fail
            go_ret
            exact Ret.mk (bool_val HR2.out.symm) B
      · have E1 := hid (show eqT (.mk k v kids) (.mk k' v' kids') = false by simp [eqT, eqL_len kids kids' hn])
        have hll : ((kids.length : Int) != (kids'.length : Int)) = true := by rw [bne_iff_ne]; omega
        subst h1 h2
        have hkk : (k != k) = false := by simp
        have hvv : (v != v) = false := by simp
        go_enter Tryd.func30, Tryd.ntmps30
        go_wp2_with fail
        go_ret
        exact Ret.mk (bool_val E1.out.symm) (by repeat (first | exact Below.refl _ _ | assumption | refine below_a ?_ _ | refine below_o ?_ _ | refine below_d ?_ | refine below_n ?_ _ | refine below_s ?_ (by first | (simp; done) | (simp; omega) | omega) _))
    · have E1 := hid (show eqT (.mk k v kids) (.mk k' v' kids') = false by simp [eqT, h2])
      have h3 : (v != v') = true := by simpa using h2
      subst h1
      have hkk : (k != k) = false := by simp
      go_enter Tryd.func30, Tryd.ntmps30
      go_wp2_with fail
      go_ret
      exact Ret.mk (bool_val E1.out.symm) (by repeat (first | exact Below.refl _ _ | assumption | refine below_a ?_ _ | refine below_o ?_ _ | refine below_d ?_ | refine below_n ?_ _ | refine below_s ?_ (by first | (simp; done) | (simp; omega) | omega) _))
  · have E1 := hid (show eqT (.mk k v kids) (.mk k' v' kids') = false by simp [eqT, h1])
    have h3 : (k != k') = true := by simpa using h1
    go_enter Tryd.func30, Tryd.ntmps30
    go_wp2_with fail
    go_ret
    exact Ret.mk (bool_val E1.out.symm) (by repeat (first | exact Below.refl _ _ | assumption | refine below_a ?_ _ | refine below_o ?_ _ | refine below_d ?_ | refine below_n ?_ _ | refine below_s ?_ (by first | (simp; done) | (simp; omega) | omega) _))
theorem specSame_any : ∀ t, SsT t := Tr.ind fun k v kids ih => ss_of k v kids ih

end Expr
end Go.Proofs.YtgopfjnpjkpelaaDoor
namespace Go.Proofs.YtgopfjnpjkpelaaDoor
open Go.RowKit
set_option linter.unusedVariables false
set_option linter.unusedSimpArgs false

theorem ne_dec {l m : List Int} {k : Nat} (h1 : k < l.length) (h2 : k < m.length) (h : l[k] ≠ m[k]) : decide (l = m) = false := by
  simp only [decide_eq_false_iff_not]
  intro e
  subst e
  exact h rfl
theorem take_eq {l m : List Int} {k : Nat} (h : l.take k = m.take k) (h1 : k < l.length) (h2 : k < m.length) (h3 : l[k] = m[k]) : l.take (k + 1) = m.take (k + 1) := by
  rw [List.take_add_one, List.take_add_one, h, List.getElem?_eq_getElem h1, List.getElem?_eq_getElem h2, h3]

set_option maxRecDepth 100000 in
set_option maxHeartbeats 1000000 in
theorem eqSl_any (l m : List Int) (w : World) (a a' : Option Addr) (c c' : Nat) (hl : IntsIn Any w a l) (hm : IntsIn Any w a' m) (h1 : l.length ≤ c ∧ c ≤ maxLen) (h2 : m.length ≤ c' ∧ c' ≤ maxLen) :
    Calls Tryd.prog 12 #[.slice a l.length c, .slice a' m.length c'] w (Ret (.bool (decide (l = m))) w) := by
  have HL := hid hl
  have HM := hid hm
  obtain ⟨c1, c2⟩ := h1
  obtain ⟨c3, c4⟩ := h2
  unfold maxLen at c2 c4
  clear hl hm
  by_cases hne : l.length = m.length
  · have HNE := hid hne
    have hne1 : ((l.length : Int) == (m.length : Int)) = true := by rw [hne]; simp
    have hne2 : ((l.length : Int) != (m.length : Int)) = false := by rw [hne]; simp
    clear hne
    go_enter Tryd.func12, Tryd.ntmps12
    go_wp2_with fail
    go_loopw [13] (fun i wr => ∃ k : Nat, k ≤ l.length ∧ i = .int .i64 k ∧ Hid (Below w.heap.size w wr) ∧ Hid (l.take k = m.take k)) (fun i _ => l.length - (intOf i).toNat)
    case atStart => exact ⟨0, Nat.zero_le _, rfl, hid (Below.refl _ _), hid rfl⟩
    case round =>
      obtain ⟨k, hk, rfl, B, HT⟩ := hrel
      by_cases hlt : k < l.length
      · have hlt2 : (k : Int) < (l.length : Int) := by omega
        have hltm : k < m.length := by have := HNE.out; omega
        have hlt3 : (k : Int) < (m.length : Int) := by omega
        obtain ⟨b, o, rfl, _, _, g1, _⟩ := ints_at HL.out B.out hlt
        obtain ⟨b', o', rfl, _, _, g2, _⟩ := ints_at HM.out B.out hltm
        have HD := hid (fun h => ne_dec hlt hltm h)
        have HE := hid (fun h => take_eq HT.out hlt hltm h)
        generalize l[k] = x at *
        generalize m[k] = y at *
        by_cases hxy : x = y
        · subst hxy
          have HE2 := hid (HE.out rfl)
          clear HD HE HT
          go_wp2_with fail
          refine wp_region_over (by kernel_rfl) (by kernel_rfl) ?_; (repeat (go_big_quiet_step ((fail)))); refine wpQuiet_nil ?_; rintro _ ⟨xq, rfl⟩
          have B2 := hid (below_next B.out (over_below wr xq))
          go_wp2_with fail
          go_roundw
          case rel => exact ⟨k + 1, hlt, by go_num, B2, HE2⟩
          case measure => simp [intOf]; omega
        · have hd := HD.out hxy
          rw [hd]
          have hxy2 : (x == y) = false := by simpa using hxy
          clear hd HD HE HT hxy
          go_wp2_with fail
          refine wp_region_over (by kernel_rfl) (by kernel_rfl) ?_; (repeat (go_big_quiet_step ((fail)))); refine wpQuiet_nil ?_; rintro _ ⟨xq, rfl⟩
          have B2 := hid (below_next B.out (over_below wr xq))
          go_wp2_with fail
          go_ret
          exact Ret.mk rfl B2.out
      · obtain rfl : k = l.length := by omega
        have hd : decide (l = m) = true := by
          have h := HT.out
          rw [List.take_length, HNE.out, List.take_length] at h
          simpa using h
        have HD := hid hd
        clear hd HT
        go_wp2_with fail
        go_ret
        exact Ret.mk (by rw [HD.out]; rfl) B.out
  · have hne2 : ((l.length : Int) == (m.length : Int)) = false := by simp; omega
    have hd : decide (l = m) = false := by simp only [decide_eq_false_iff_not]; intro e; exact hne (by rw [e])
    rw [hd]
    clear hd
    go_enter Tryd.func12, Tryd.ntmps12
    go_wp2_with fail
    go_ret
    exact Ret.mk rfl (Below.refl _ _)

end Go.Proofs.YtgopfjnpjkpelaaDoor
namespace Go.Proofs.YtgopfjnpjkpelaaDoor
open Go.RowKit
set_option linter.unusedVariables false
set_option linter.unusedSimpArgs false
namespace Edge
set_option maxHeartbeats 4000000 in
theorem same_any (e f : Ed) (w : World) (x y : Value) (hx : EdIn Any w e x) (hy : EdIn Any w f y) : Calls Tryd.prog 16 #[x, y] w (Ret (.bool (eqE e f)) w) := by
  obtain ⟨a, c, a', c', rfl, _, _, _, _, hg, hv⟩ := hx
  obtain ⟨b, d, b', d', rfl, _, _, _, _, hg', hv'⟩ := hy
  have HG := hid (fun w' (M : Below w.heap.size w w') => Expr.same_any e.guard w' f.guard _ _ (TrIn_below M hg) (TrIn_below M hg'))
  have HV := hid (fun w' (M : Below w.heap.size w w') => Expr.same_any e.val w' f.val _ _ (TrIn_below M hv) (TrIn_below M hv'))
  have E := hid (show eqE e f = (decide (e.src = f.src) && (decide (e.dst = f.dst) && (eqT e.guard f.guard && (decide (e.var = f.var) && (eqT e.val f.val && decide (e.sync = f.sync)))))) from rfl)
  generalize eqT e.guard f.guard = g at *
  generalize eqT e.val f.val = v at *
  clear hg hv hg' hv'
  by_cases h1 : e.src = f.src
  · by_cases h2 : e.dst = f.dst
    · cases g with
      | false =>
        refine calls_q (q := false) (by rw [E.out]; simp) ?_
        go_enter Tryd.func16, Tryd.ntmps16
        go_wp2_with fail
        refine (HG.out _ (by exact below_next (below_alloc _ _) (below_alloc _ _))).mono ?_
        rintro y w1 ⟨rfl, hb⟩
        go_wp2_with fail
        go_ret
        exact Ret.mk rfl (below_next (below_next (below_alloc _ _) (below_alloc _ _)) hb)
      | true =>
        by_cases h4 : e.var = f.var
        · cases v with
          | false =>
            refine calls_q (q := false) (by rw [E.out]; simp) ?_
            go_enter Tryd.func16, Tryd.ntmps16
            go_wp2_with fail
            refine (HG.out _ (by exact below_next (below_alloc _ _) (below_alloc _ _))).mono ?_
            rintro y w1 ⟨rfl, hb⟩
            obtain ⟨z, ⟨q0, q1, q2, q3, q4, q5, q6, q7, q8, q9⟩, _⟩ := box10_next hb (box10_next (below_alloc _ _) (box10_new w _ _ _ _ _ _ _ _ _ _ _))
            obtain ⟨z', ⟨r0, r1, r2, r3, r4, r5, r6, r7, r8, r9⟩, _⟩ := box10_next hb (box10_at (B := w.heap.size + 1) (by simp) _ _ _ _ _ _ _ _ _ _ _)
            have B := below_next (below_next (below_alloc _ _) (below_alloc _ _)) hb
            clear hb
            go_wp2_with fail
            refine (HV.out _ B).mono ?_
            rintro y w2 ⟨rfl, hb⟩
            go_wp2_with fail
            go_ret
            exact Ret.mk rfl (below_next B hb)
          | true =>
            have E2 := hid (show eqE e f = decide (e.sync = f.sync) by rw [E.out]; simp [h1, h2, h4])
            by_cases h6 : e.sync = f.sync
            all_goals
              refine calls_q (q := decide (e.sync = f.sync)) E2.out ?_
              go_enter Tryd.func16, Tryd.ntmps16
              go_wp2_with fail
              refine (HG.out _ (by exact below_next (below_alloc _ _) (below_alloc _ _))).mono ?_
              rintro y w1 ⟨rfl, hb⟩
              have bx := box10_next hb (box10_next (below_alloc _ _) (box10_new w _ _ _ _ _ _ _ _ _ _ _))
              have by' := box10_next hb (box10_at (B := w.heap.size + 1) (by simp) _ _ _ _ _ _ _ _ _ _ _)
              have B := below_next (below_next (below_alloc _ _) (below_alloc _ _)) hb
              clear hb
              obtain ⟨z, ⟨q0, q1, q2, q3, q4, q5, q6, q7, q8, q9⟩, _⟩ := id bx
              obtain ⟨z', ⟨r0, r1, r2, r3, r4, r5, r6, r7, r8, r9⟩, _⟩ := id by'
              go_wp2_with fail
              refine (HV.out _ B).mono ?_
              rintro y w2 ⟨rfl, hb⟩
              obtain ⟨z, ⟨q0, q1, q2, q3, q4, q5, q6, q7, q8, q9⟩, _⟩ := box10_next hb bx
              obtain ⟨z', ⟨r0, r1, r2, r3, r4, r5, r6, r7, r8, r9⟩, _⟩ := box10_next hb by'
              replace B := below_next B hb
              clear hb bx by'
              go_wp2_with fail
              go_ret
              exact Ret.mk (bool_val (by simp [h6])) B
        · refine calls_q (q := false) (by rw [E.out]; simp [h4]) ?_
          go_enter Tryd.func16, Tryd.ntmps16
          go_wp2_with fail
          refine (HG.out _ (by exact below_next (below_alloc _ _) (below_alloc _ _))).mono ?_
          rintro y w1 ⟨rfl, hb⟩
          obtain ⟨z, ⟨q0, q1, q2, q3, q4, q5, q6, q7, q8, q9⟩, _⟩ := box10_next hb (box10_next (below_alloc _ _) (box10_new w _ _ _ _ _ _ _ _ _ _ _))
          obtain ⟨z', ⟨r0, r1, r2, r3, r4, r5, r6, r7, r8, r9⟩, _⟩ := box10_next hb (box10_at (B := w.heap.size + 1) (by simp) _ _ _ _ _ _ _ _ _ _ _)
          have B := below_next (below_next (below_alloc _ _) (below_alloc _ _)) hb
          clear hb
          go_wp2_with fail
          go_ret
          exact Ret.mk rfl B
    · refine calls_q (q := false) (by rw [E.out]; simp [h2]) ?_
      go_enter Tryd.func16, Tryd.ntmps16
      go_wp2_with fail
      go_ret
      exact Ret.mk rfl (below_next (below_alloc _ _) (below_alloc _ _))
  · refine calls_q (q := false) (by rw [E.out]; simp [h1]) ?_
    go_enter Tryd.func16, Tryd.ntmps16
    go_wp2_with fail
    go_ret
    exact Ret.mk rfl (below_next (below_alloc _ _) (below_alloc _ _))

end Edge
namespace Sys
set_option maxRecDepth 100000 in
set_option maxHeartbeats 2000000 in
theorem efE_any (l m : List Ed) (w : World) (a a' : Option Addr) (c c' : Nat) (hl : EdsIn Any w l a) (hm : EdsIn Any w m a') (hc : l.length ≤ c) (hc2 : c ≤ maxLen) (hc' : m.length ≤ c') (hc2' : c' ≤ maxLen) :
    Calls Tryd.prog 15 #[.slice a l.length c, .slice a' m.length c', .func (.func 16) #[] #[]] w (Ret (.bool (eqEs l m)) w) := by
  unfold maxLen at hc2 hc2'
  by_cases hn : l.length = m.length
  · have hn1 : l.length ≤ m.length := by omega
    have hn2 : m.length ≤ l.length := by omega
    have h3 : ((l.length : Int) != (m.length : Int)) = false := by rw [bne_eq_false_iff_eq]; omega
    clear hn
    go_enter Tryd.func15, Tryd.ntmps15
    go_wp2_with fail
    go_loopw [17] (fun i wr => ∃ k : Nat, k ≤ l.length ∧ i = .int .i64 k ∧ Below w.heap.size w wr ∧ Hid (eqG Edge.eqE (l.drop k) (m.drop k) = eqEs l m)) (fun i _ => l.length - (intOf i).toNat)
    case atStart => exact ⟨0, Nat.zero_le _, rfl, Below.refl _ _, hid rfl⟩
    case round =>
      obtain ⟨k, hk, rfl, B, hr⟩ := hrel
      obtain ⟨wi, rfl⟩ : ∃ wi : World, wi = wr := ⟨_, rfl⟩
      by_cases hlt : k < l.length
      · have hltm : k < m.length := by omega
        obtain ⟨b, o, rfl, _, hb, a1, c1, a2, c2, ⟨g0, g1, g2, g3, g4, g5, g6, g7, g8, g9⟩, hT⟩ := SeqIn.at (EdsIn.below hl B) hlt
        obtain ⟨b', o', rfl, _, hb', a1', c1', a2', c2', ⟨f0, f1, f2, f3, f4, f5, f6, f7, f8, f9⟩, hU⟩ := SeqIn.at (EdsIn.below hm B) hltm
        have HR2 := hid (show eqEs l m = (Edge.eqE l[k] m[k] && eqG Edge.eqE (l.drop (k + 1)) (m.drop (k + 1))) from eqG_drop hlt hltm hr.out)
        have HT := hid hT
        have HU := hid hU
        have HB := hid B
        clear hT hU hr B
        have hlt2 : (k : Int) < (l.length : Int) := by omega
        have hlt3 : (k : Int) < (m.length : Int) := by omega
        generalize l[k] = t at *
        generalize m[k] = u at *
        go_wp2_with fail
        refine (Edge.same_any t u _ _ _ (EdIn_below (below_next (below_alloc _ _) (below_alloc _ _)) HT.out) (EdIn_below (below_next (below_alloc _ _) (below_alloc _ _)) HU.out)).mono ?_
        rintro e w2 ⟨rfl, hb2⟩
        have hbd := below_next HB.out (below_next (below_next (below_alloc _ _) (below_alloc _ _)) hb2)
        clear hb2 g0 g1 g2 g3 g4 g5 g6 g7 g8 g9 f0 f1 f2 f3 f4 f5 f6 f7 f8 f9
        cases hq : Edge.eqE t u with
        | true =>
          have HR3 := HR2.out
          rw [hq, Bool.true_and] at HR3
          have HR4 := hid HR3.symm; clear HR3 hq
          go_wp2_with fail
          go_roundw
          case rel => exact ⟨k + 1, by omega, by go_num, hbd, HR4⟩
          case measure => simp [intOf]; omega
        | false =>
          have HR3 := HR2.out
          rw [hq, Bool.false_and] at HR3
          have HR4 := hid HR3; clear HR3 hq
          go_wp2_with fail
          go_ret
          exact Ret.mk (bool_val HR4.out.symm) hbd
      · have hr2 := hr.out
        rw [List.drop_of_length_le (by omega), List.drop_of_length_le (by omega)] at hr2
        have HR2 := hid (show true = eqEs l m from hr2); clear hr2
        have hlt2 : ¬ ((k : Int) < (l.length : Int)) := by omega
        go_wp2_with fail
        go_ret
        exact Ret.mk (bool_val HR2.out) B
  · have E1 := hid (eqG_len Edge.eqE l m hn)
    have h3 : ((l.length : Int) != (m.length : Int)) = true := by rw [bne_iff_ne]; omega
    go_enter Tryd.func15, Tryd.ntmps15
    go_wp2_with fail
    go_ret
    exact Ret.mk (bool_val E1.out.symm) (Below.refl _ _)
end Sys
end Go.Proofs.YtgopfjnpjkpelaaDoor
namespace Go.Proofs.YtgopfjnpjkpelaaDoor
open Go.RowKit
set_option linter.unusedVariables false
set_option linter.unusedSimpArgs false
namespace Sys
set_option maxHeartbeats 1000000 in
theorem sameP_any (p q : Pr) (w : World) (x y : Value) (hx : PrIn Any w p x) (hy : PrIn Any w q y) : Calls Tryd.prog 14 #[x, y] w (Ret (.bool (eqP p q)) w) := by
  obtain ⟨a, c, rfl, _, hc, hc2, he⟩ := hx
  obtain ⟨a', c', rfl, _, hc', hc2', he'⟩ := hy
  have HE := hid (fun (w' : World) (M : Below w.heap.size w w') => efE_any p.edges q.edges w' a a' c c' (he.below M) (he'.below M) hc hc2 hc' hc2')
  have E := hid (show eqP p q = (decide (p.locs = q.locs) && eqEs p.edges q.edges) from rfl)
  generalize eqEs p.edges q.edges = g at *
  by_cases k1 : p.locs = q.locs
  · have e1 : (p.locs == q.locs) = true := by simpa using k1
    have E2 := hid (show eqP p q = g by rw [E.out, decide_eq_true k1, Bool.true_and])
    clear k1
    go_enter Tryd.func14, Tryd.ntmps14
    go_wp2_with fail
    refine (HE.out _ (by repeat (first | exact Below.refl _ _ | assumption | refine below_a ?_ _ | refine below_o ?_ _ | refine below_d ?_ | refine below_n ?_ _ | refine below_s ?_ (by first | (simp; done) | (simp; omega) | omega) _))).mono ?_
    rintro y w1 ⟨rfl, hb⟩
    have B := below_next (show Below w.heap.size w _ from below_next (below_alloc _ _) (below_alloc _ _)) hb
    cases g
    all_goals
      go_wp2_with fail
      go_ret
      exact Ret.mk (bool_val E2.out.symm) B
  · have e1 : (p.locs == q.locs) = false := by simpa using k1
    have E2 := hid (show eqP p q = false by rw [E.out, decide_eq_false k1, Bool.false_and])
    clear k1
    go_enter Tryd.func14, Tryd.ntmps14
    go_wp2_with fail
    go_ret
    exact Ret.mk (bool_val E2.out.symm) (by repeat (first | exact Below.refl _ _ | assumption | refine below_a ?_ _ | refine below_o ?_ _ | refine below_d ?_ | refine below_n ?_ _ | refine below_s ?_ (by first | (simp; done) | (simp; omega) | omega) _))

set_option maxRecDepth 100000 in
set_option maxHeartbeats 2000000 in
theorem efP_any (l m : List Pr) (w : World) (a a' : Option Addr) (c c' : Nat) (hl : PrsIn Any w l a) (hm : PrsIn Any w m a') (hc : l.length ≤ c) (hc2 : c ≤ maxLen) (hc' : m.length ≤ c') (hc2' : c' ≤ maxLen) :
    Calls Tryd.prog 13 #[.slice a l.length c, .slice a' m.length c', .func (.func 14) #[] #[]] w (Ret (.bool (eqPs l m)) w) := by
  unfold maxLen at hc2 hc2'
  by_cases hn : l.length = m.length
  · have hn1 : l.length ≤ m.length := by omega
    have hn2 : m.length ≤ l.length := by omega
    have h3 : ((l.length : Int) != (m.length : Int)) = false := by rw [bne_eq_false_iff_eq]; omega
    clear hn
    go_enter Tryd.func13, Tryd.ntmps13
    go_wp2_with fail
    go_loopw [17] (fun i wr => ∃ k : Nat, k ≤ l.length ∧ i = .int .i64 k ∧ Below w.heap.size w wr ∧ Hid (eqG eqP (l.drop k) (m.drop k) = eqPs l m)) (fun i _ => l.length - (intOf i).toNat)
    case atStart => exact ⟨0, Nat.zero_le _, rfl, Below.refl _ _, hid rfl⟩
    case round =>
      obtain ⟨k, hk, rfl, B, hr⟩ := hrel
      obtain ⟨wi, rfl⟩ : ∃ wi : World, wi = wr := ⟨_, rfl⟩
      by_cases hlt : k < l.length
      · have hltm : k < m.length := by omega
        obtain ⟨b, o, rfl, _, hb, a1, c1, ⟨g0, g1⟩, hT⟩ := SeqIn.at (PrsIn.below hl B) hlt
        obtain ⟨b', o', rfl, _, hb', a1', c1', ⟨f0, f1⟩, hU⟩ := SeqIn.at (PrsIn.below hm B) hltm
        have HR2 := hid (show eqPs l m = (eqP l[k] m[k] && eqG eqP (l.drop (k + 1)) (m.drop (k + 1))) from eqG_drop hlt hltm hr.out)
        have HT := hid hT
        have HU := hid hU
        have HB := hid B
        clear hT hU hr B
        have hlt2 : (k : Int) < (l.length : Int) := by omega
        have hlt3 : (k : Int) < (m.length : Int) := by omega
        generalize l[k] = t at *
        generalize m[k] = u at *
        go_wp2_with fail
        refine (sameP_any t u _ _ _ (PrIn.below HT.out (below_next (below_alloc _ _) (below_alloc _ _))) (PrIn.below HU.out (below_next (below_alloc _ _) (below_alloc _ _)))).mono ?_
        rintro e w2 ⟨rfl, hb2⟩
        have hbd := below_next HB.out (below_next (below_next (below_alloc _ _) (below_alloc _ _)) hb2)
        clear hb2 g0 g1 f0 f1
        cases hq : eqP t u with
        | true =>
          have HR3 := HR2.out
          rw [hq, Bool.true_and] at HR3
          have HR4 := hid HR3.symm; clear HR3 hq
          go_wp2_with fail
          go_roundw
          case rel => exact ⟨k + 1, by omega, by go_num, hbd, HR4⟩
          case measure => simp [intOf]; omega
        | false =>
          have HR3 := HR2.out
          rw [hq, Bool.false_and] at HR3
          have HR4 := hid HR3; clear HR3 hq
          go_wp2_with fail
          go_ret
          exact Ret.mk (bool_val HR4.out.symm) hbd
      · have hr2 := hr.out
        rw [List.drop_of_length_le (by omega), List.drop_of_length_le (by omega)] at hr2
        have HR2 := hid (show true = eqPs l m from hr2); clear hr2
        have hlt2 : ¬ ((k : Int) < (l.length : Int)) := by omega
        go_wp2_with fail
        go_ret
        exact Ret.mk (bool_val HR2.out) B
  · have E1 := hid (eqG_len eqP l m hn)
    have h3 : ((l.length : Int) != (m.length : Int)) = true := by rw [bne_iff_ne]; omega
    go_enter Tryd.func13, Tryd.ntmps13
    go_wp2_with fail
    go_ret
    exact Ret.mk (bool_val E1.out.symm) (Below.refl _ _)
set_option maxHeartbeats 1000000 in
theorem sameS_any (s t : Sy) (w : World) (x y : Value) (hx : SyIn Any w s x) (hy : SyIn Any w t y) : Calls Tryd.prog 5 #[x, y] w (Ret (.bool (eqS s t)) w) := by
  obtain ⟨a, c, b, d, rfl, hc, hc2, hi, hd, hd2, hp⟩ := hx
  obtain ⟨a', c', b', d', rfl, hc', hc2', hi', hd', hd2', hp'⟩ := hy
  have HG := hid (fun (w' : World) (M : Below w.heap.size w w') => eqSl_any s.init t.init w' a a' c c' (hi.below M) (hi'.below M) ⟨hc, hc2⟩ ⟨hc', hc2'⟩)
  have HV := hid (fun (w' : World) (M : Below w.heap.size w w') => efP_any s.procs t.procs w' b b' d d' (hp.below M) (hp'.below M) hd hd2 hd' hd2')
  have E := hid (show eqS s t = (decide (s.init = t.init) && eqPs s.procs t.procs) from by
    show ((s.init == t.init) && eqPs s.procs t.procs) = _
    rw [show (s.init == t.init) = decide (s.init = t.init) by rw [Bool.eq_iff_iff]; simp])
  generalize decide (s.init = t.init) = g at *
  generalize eqPs s.procs t.procs = v at *
  go_enter Tryd.func5, Tryd.ntmps5
  go_wp2_with fail
  refine (HG.out _ (by repeat (first | exact Below.refl _ _ | assumption | refine below_a ?_ _ | refine below_o ?_ _ | refine below_d ?_ | refine below_n ?_ _ | refine below_s ?_ (by first | (simp; done) | (simp; omega) | omega) _))).mono ?_
  rintro y w1 ⟨rfl, hb⟩
  obtain ⟨z, q0, q1, q2, q3⟩ := boxp_next hb (boxp_next (below_alloc _ _) (boxp_at (w := w) (B := w.heap.size) (a := .slice a s.init.length c) (b := .slice b s.procs.length d) (t := 26) rfl))
  obtain ⟨z', r0, r1, r2, r3⟩ := boxp_next hb (boxp_at (w := w.alloc (.cells #[.slice a s.init.length c, .slice b s.procs.length d] 26)) (B := w.heap.size + 1) (a := .slice a' t.init.length c') (b := .slice b' t.procs.length d') (t := 26) (by simp))
  have B := below_next (show Below w.heap.size w _ from below_next (below_alloc _ _) (below_alloc _ _)) hb
  clear hb
  cases g
  · have E2 := hid (show eqS s t = false by rw [E.out]; rfl)
    go_wp2_with fail
    go_ret
    exact Ret.mk (bool_val E2.out.symm) B
  · have E2 := hid (show eqS s t = v by rw [E.out]; rfl)
    go_wp2_with fail
    refine (HV.out _ B).mono ?_
    rintro y w2 ⟨rfl, hb⟩
    go_wp2_with fail
    go_ret
    exact Ret.mk (bool_val E2.out.symm) (below_next B hb)
end Sys
end Go.Proofs.YtgopfjnpjkpelaaDoor
namespace Go.Proofs.YtgopfjnpjkpelaaDoor
open Go.RowKit
set_option linter.unusedVariables false

theorem ints_frame {p q : Nat → Prop} {w w' : World} {a : Option Addr} {l : List Int} (h : IntsIn p w a l) (hs : w.heap.size ≤ w'.heap.size) (hp : ∀ b, p b → b < w.heap.size → q b ∧ w'.heap[b]? = w.heap[b]?) : IntsIn q w' a l := ⟨h.1.frame hs hp, h.2⟩
namespace Gr
/-- a state -/
structure S2 where
  locs : List Int
  vals : List Int
/-- a graph -/
structure G2 where
  states : List S2
  next : List (List Int)

/-- a slice of numbers as a value -/
def RIn (p : Nat → Prop) (w : World) (t : List Int) (x : Value) : Prop := ∃ a c, x = .slice a t.length c ∧ t.length ≤ c ∧ c ≤ maxLen ∧ IntsIn p w a t
theorem RIn.frame {p q : Nat → Prop} {w w' : World} {t : List Int} {x : Value} (h : RIn p w t x) (hs : w.heap.size ≤ w'.heap.size) (hp : ∀ b, p b → b < w.heap.size → q b ∧ w'.heap[b]? = w.heap[b]?) : RIn q w' t x := by
  obtain ⟨a, c, h0, h1, h2, h3⟩ := h
  exact ⟨a, c, h0, h1, h2, ints_frame h3 hs hp⟩
theorem RIn.below {p : Nat → Prop} {w w' : World} {t : List Int} {x : Value} (h : RIn p w t x) (hb : Below w.heap.size w w') : RIn p w' t x := h.frame hb.size fun b hp hl => ⟨hp, hb.block b hl⟩
/-- a state's two cells at a place -/
def StAt (p : Nat → Prop) (w : World) (t : S2) (b o : Nat) : Prop := ∃ a c a' c', (w.cell? ⟨b, o, none⟩ = some (.slice a t.locs.length c) ∧ w.cell? ⟨b, o + 1, none⟩ = some (.slice a' t.vals.length c')) ∧ RIn p w t.locs (.slice a t.locs.length c) ∧ RIn p w t.vals (.slice a' t.vals.length c')
theorem StAt.cells {p q : Nat → Prop} {w w' : World} {t : S2} {b o : Nat} (h : StAt p w t b o) (hs : w.heap.size ≤ w'.heap.size) (hc : ∀ i, i < 2 → w'.cell? ⟨b, o + i, none⟩ = w.cell? ⟨b, o + i, none⟩) (hp : ∀ b, p b → b < w.heap.size → q b ∧ w'.heap[b]? = w.heap[b]?) : StAt q w' t b o := by
  obtain ⟨a, c, a', c', ⟨h0, h1⟩, h2, h3⟩ := h
  exact ⟨a, c, a', c', ⟨(hc 0 (by omega)).trans h0, (hc 1 (by omega)).trans h1⟩, h2.frame hs hp, h3.frame hs hp⟩
theorem StAt.frame {p q : Nat → Prop} {w w' : World} {t : S2} {b o : Nat} (h : StAt p w t b o) (hs : w.heap.size ≤ w'.heap.size) (he : w'.heap[b]? = w.heap[b]?) (hp : ∀ b, p b → b < w.heap.size → q b ∧ w'.heap[b]? = w.heap[b]?) : StAt q w' t b o :=
  h.cells hs (fun i _ => World.cell?_of_block (w := w) (a := ⟨b, o + i, none⟩) he) hp
def StsIn (p : Nat → Prop) (w : World) (l : List S2) (a : Option Addr) : Prop := SeqIn (StAt p w) 2 p w l a
theorem StsIn.frame {p q : Nat → Prop} {w w' : World} {l : List S2} {a : Option Addr} (h : StsIn p w l a) (hs : w.heap.size ≤ w'.heap.size) (hp : ∀ b, p b → b < w.heap.size → q b ∧ w'.heap[b]? = w.heap[b]?) : StsIn q w' l a :=
  SeqIn.frame h hs (fun b h1 h2 => (hp b h1 h2).1) fun t b o _ h1 h2 h3 => h3.frame hs (hp b h1 h2).2 hp
theorem StsIn.below {p : Nat → Prop} {w w' : World} {l : List S2} {a : Option Addr} (h : StsIn p w l a) (hb : Below w.heap.size w w') : StsIn p w' l a := h.frame hb.size fun b hp hl => ⟨hp, hb.block b hl⟩
/-- a row's cell at a place -/
def RoAt (p : Nat → Prop) (w : World) (t : List Int) (b o : Nat) : Prop := ∃ a c, w.cell? ⟨b, o, none⟩ = some (.slice a t.length c) ∧ RIn p w t (.slice a t.length c)
theorem RoAt.cells {p q : Nat → Prop} {w w' : World} {t : List Int} {b o : Nat} (h : RoAt p w t b o) (hs : w.heap.size ≤ w'.heap.size) (hc : w'.cell? ⟨b, o, none⟩ = w.cell? ⟨b, o, none⟩) (hp : ∀ b, p b → b < w.heap.size → q b ∧ w'.heap[b]? = w.heap[b]?) : RoAt q w' t b o := by
  obtain ⟨a, c, h0, h2⟩ := h
  exact ⟨a, c, hc.trans h0, h2.frame hs hp⟩
theorem RoAt.frame {p q : Nat → Prop} {w w' : World} {t : List Int} {b o : Nat} (h : RoAt p w t b o) (hs : w.heap.size ≤ w'.heap.size) (he : w'.heap[b]? = w.heap[b]?) (hp : ∀ b, p b → b < w.heap.size → q b ∧ w'.heap[b]? = w.heap[b]?) : RoAt q w' t b o :=
  h.cells hs (World.cell?_of_block (w := w) (a := ⟨b, o, none⟩) he) hp
def RowsIn (p : Nat → Prop) (w : World) (l : List (List Int)) (a : Option Addr) : Prop := SeqIn (RoAt p w) 1 p w l a
theorem RowsIn.frame {p q : Nat → Prop} {w w' : World} {l : List (List Int)} {a : Option Addr} (h : RowsIn p w l a) (hs : w.heap.size ≤ w'.heap.size) (hp : ∀ b, p b → b < w.heap.size → q b ∧ w'.heap[b]? = w.heap[b]?) : RowsIn q w' l a :=
  SeqIn.frame h hs (fun b h1 h2 => (hp b h1 h2).1) fun t b o _ h1 h2 h3 => h3.frame hs (hp b h1 h2).2 hp
theorem RowsIn.below {p : Nat → Prop} {w w' : World} {l : List (List Int)} {a : Option Addr} (h : RowsIn p w l a) (hb : Below w.heap.size w w') : RowsIn p w' l a := h.frame hb.size fun b hp hl => ⟨hp, hb.block b hl⟩
/-- A GRAPH IN MEMORY -/
def GrIn (p : Nat → Prop) (w : World) (g : G2) (x : Value) : Prop := ∃ a c b d, x = .agg #[.slice a g.states.length c, .slice b g.next.length d] ∧ g.states.length ≤ c ∧ c ≤ maxLen ∧ StsIn p w g.states a ∧ g.next.length ≤ d ∧ d ≤ maxLen ∧ RowsIn p w g.next b
theorem GrIn.frame {p q : Nat → Prop} {w w' : World} {g : G2} {x : Value} (h : GrIn p w g x) (hs : w.heap.size ≤ w'.heap.size) (hp : ∀ b, p b → b < w.heap.size → q b ∧ w'.heap[b]? = w.heap[b]?) : GrIn q w' g x := by
  obtain ⟨a, c, b, d, h0, h1, h2, h3, h4, h5, h6⟩ := h
  exact ⟨a, c, b, d, h0, h1, h2, h3.frame hs hp, h4, h5, h6.frame hs hp⟩
theorem GrIn.below {p : Nat → Prop} {w w' : World} {g : G2} {x : Value} (h : GrIn p w g x) (hb : Below w.heap.size w w') : GrIn p w' g x := h.frame hb.size fun b hp hl => ⟨hp, hb.block b hl⟩
theorem GrIn.any {p : Nat → Prop} {w : World} {g : G2} {x : Value} (h : GrIn p w g x) : GrIn Any w g x := h.frame (Nat.le_refl _) fun _ _ _ => ⟨trivial, rfl⟩
theorem GrIn.shape {p : Nat → Prop} {w : World} {g : G2} {x : Value} (h : GrIn p w g x) : ∃ a c b d, x = .agg #[.slice a g.states.length c, .slice b g.next.length d] := by
  obtain ⟨a, c, b, d, h, _⟩ := h; exact ⟨a, c, b, d, h⟩
theorem sts_at {p : Nat → Prop} {w : World} {l : List S2} {a : Option Addr} {k : Nat} (h : StsIn p w l a) (hk : k < l.length) :
    ∃ b o a1 c1 a2 c2, a = some ⟨b, o, none⟩ ∧ b < w.heap.size ∧ p b ∧ w.cell? ⟨b, o + k * 2, none⟩ = some (.slice a1 l[k].locs.length c1) ∧ w.cell? ⟨b, o + k * 2 + 1, none⟩ = some (.slice a2 l[k].vals.length c2) ∧ RIn p w l[k].locs (.slice a1 l[k].locs.length c1) ∧ RIn p w l[k].vals (.slice a2 l[k].vals.length c2) := by
  obtain ⟨b, o, h1, h2, h3, a1, c1, a2, c2, ⟨g0, g1⟩, g2, g3⟩ := SeqIn.at h hk
  exact ⟨b, o, a1, c1, a2, c2, h1, h3, h2, g0, g1, g2, g3⟩
theorem rows_at {p : Nat → Prop} {w : World} {l : List (List Int)} {a : Option Addr} {k : Nat} (h : RowsIn p w l a) (hk : k < l.length) :
    ∃ b o a1 c1, a = some ⟨b, o, none⟩ ∧ b < w.heap.size ∧ p b ∧ w.cell? ⟨b, o + k, none⟩ = some (.slice a1 l[k].length c1) ∧ l[k].length ≤ c1 ∧ c1 ≤ maxLen ∧ IntsIn p w a1 l[k] := by
  obtain ⟨b, o, h1, h2, h3, a1, c1, g0, a2, c2, e, g1, g2, g3⟩ := SeqIn.at h hk
  simp at e
  obtain ⟨rfl, rfl⟩ := e
  rw [Nat.mul_one] at g0
  exact ⟨b, o, a1, c1, h1, h3, h2, g0, g1, g2, g3⟩
end Gr
end Go.Proofs.YtgopfjnpjkpelaaDoor
namespace Go.Proofs.YtgopfjnpjkpelaaDoor
open Go.RowKit
set_option linter.unusedVariables false
set_option linter.unusedSimpArgs false
namespace Gr

theorem ne_dec {l m : List Int} {k : Nat} (h1 : k < l.length) (h2 : k < m.length) (h : l[k] ≠ m[k]) : decide (l = m) = false := by
  simp only [decide_eq_false_iff_not]
  intro e
  subst e
  exact h rfl
theorem take_eq {l m : List Int} {k : Nat} (h : l.take k = m.take k) (h1 : k < l.length) (h2 : k < m.length) (h3 : l[k] = m[k]) : l.take (k + 1) = m.take (k + 1) := by
  rw [List.take_add_one, List.take_add_one, h, List.getElem?_eq_getElem h1, List.getElem?_eq_getElem h2, h3]

set_option maxRecDepth 100000 in
set_option maxHeartbeats 1000000 in
theorem l2Ints_any (l m : List Int) (w : World) (a a' : Option Addr) (c c' : Nat) (hl : IntsIn Any w a l) (hm : IntsIn Any w a' m) (h1 : l.length ≤ c ∧ c ≤ maxLen) (h2 : m.length ≤ c' ∧ c' ≤ maxLen) :
    Calls Tryd.prog 17 #[.slice a l.length c, .slice a' m.length c'] w (Ret (.bool (decide (l = m))) w) := by
  have HL := hid hl
  have HM := hid hm
  obtain ⟨c1, c2⟩ := h1
  obtain ⟨c3, c4⟩ := h2
  unfold maxLen at c2 c4
  clear hl hm
  by_cases hne : l.length = m.length
  · have HNE := hid hne
    have hne1 : ((l.length : Int) == (m.length : Int)) = true := by rw [hne]; simp
    have hne2 : ((l.length : Int) != (m.length : Int)) = false := by rw [hne]; simp
    clear hne
    go_enter Tryd.func17, Tryd.ntmps17
    go_wp2_with fail
    go_loopw [5] (fun i wr => ∃ k : Nat, k ≤ l.length ∧ i = .int .i64 k ∧ Hid (Below w.heap.size w wr) ∧ Hid (l.take k = m.take k)) (fun i _ => l.length - (intOf i).toNat)
    case atStart => exact ⟨0, Nat.zero_le _, rfl, hid (Below.refl _ _), hid rfl⟩
    case round =>
      obtain ⟨k, hk, rfl, B, HT⟩ := hrel
      by_cases hlt : k < l.length
      · have hlt2 : (k : Int) < (l.length : Int) := by omega
        have hltm : k < m.length := by have := HNE.out; omega
        have hlt3 : (k : Int) < (m.length : Int) := by omega
        obtain ⟨b, o, rfl, _, _, g1, _⟩ := ints_at HL.out B.out hlt
        obtain ⟨b', o', rfl, _, _, g2, _⟩ := ints_at HM.out B.out hltm
        have HD := hid (fun h => ne_dec hlt hltm h)
        have HE := hid (fun h => take_eq HT.out hlt hltm h)
        generalize l[k] = x at *
        generalize m[k] = y at *
        by_cases hxy : x = y
        · subst hxy
          have HE2 := hid (HE.out rfl)
          clear HD HE HT
          go_wp2_with fail
          refine wp_region_over (by kernel_rfl) (by kernel_rfl) ?_; (repeat (go_big_quiet_step ((fail)))); refine wpQuiet_nil ?_; rintro _ ⟨xq, rfl⟩
          have B2 := hid (below_next B.out (over_below wr xq))
          go_wp2_with fail
          go_roundw
          case rel => exact ⟨k + 1, hlt, by go_num, B2, HE2⟩
          case measure => simp [intOf]; omega
        · have hd := HD.out hxy
          rw [hd]
          have hxy2 : (x == y) = false := by simpa using hxy
          have hxy3 : (x != y) = true := by simpa using hxy
          clear hd HD HE HT hxy
          go_wp2_with fail
          refine wp_region_over (by kernel_rfl) (by kernel_rfl) ?_; (repeat (go_big_quiet_step ((fail)))); refine wpQuiet_nil ?_; rintro _ ⟨xq, rfl⟩
          have B2 := hid (below_next B.out (over_below wr xq))
          go_wp2_with fail
          go_ret
          exact Ret.mk rfl B2.out
      · obtain rfl : k = l.length := by omega
        have hd : decide (l = m) = true := by
          have h := HT.out
          rw [List.take_length, HNE.out, List.take_length] at h
          simpa using h
        have HD := hid hd
        clear hd HT
        go_wp2_with fail
        go_ret
        exact Ret.mk (by rw [HD.out]; rfl) B.out
  · have hne2 : ((l.length : Int) == (m.length : Int)) = false := by simp; omega
    have hne3 : ((l.length : Int) != (m.length : Int)) = true := by simp; omega
    have hd : decide (l = m) = false := by simp only [decide_eq_false_iff_not]; intro e; exact hne (by rw [e])
    rw [hd]
    clear hd
    go_enter Tryd.func17, Tryd.ntmps17
    go_wp2_with fail
    go_ret
    exact Ret.mk rfl (Below.refl _ _)

end Gr
end Go.Proofs.YtgopfjnpjkpelaaDoor
namespace Go.Proofs.YtgopfjnpjkpelaaDoor
open Go.RowKit
set_option linter.unusedVariables false
set_option linter.unusedSimpArgs false
namespace Edge
set_option maxHeartbeats 4000000 in
theorem l2_any (e f : Ed) (w : World) (x y : Value) (hx : EdIn Any w e x) (hy : EdIn Any w f y) : Calls Tryd.prog 18 #[x, y] w (Ret (.bool (eqE e f)) w) := by
  obtain ⟨a, c, a', c', rfl, _, _, _, _, hg, hv⟩ := hx
  obtain ⟨b, d, b', d', rfl, _, _, _, _, hg', hv'⟩ := hy
  have HG := hid (fun w' (M : Below w.heap.size w w') => Expr.specSame_any e.guard w' f.guard _ _ (TrIn_below M hg) (TrIn_below M hg'))
  have HV := hid (fun w' (M : Below w.heap.size w w') => Expr.specSame_any e.val w' f.val _ _ (TrIn_below M hv) (TrIn_below M hv'))
  have E := hid (show eqE e f = (decide (e.src = f.src) && (decide (e.dst = f.dst) && (eqT e.guard f.guard && (decide (e.var = f.var) && (eqT e.val f.val && decide (e.sync = f.sync)))))) from rfl)
  generalize eqT e.guard f.guard = g at *
  generalize eqT e.val f.val = v at *
  clear hg hv hg' hv'
  by_cases h1 : e.src = f.src
  · have k1 : (e.src == f.src) = true := by simpa using h1
    by_cases h2 : e.dst = f.dst
    · have k2 : (e.dst == f.dst) = true := by simpa using h2
      by_cases h4 : e.var = f.var
      · have k4 : (e.var == f.var) = true := by simpa using h4
        by_cases h6 : e.sync = f.sync
        · have k6 : (e.sync == f.sync) = true := by simpa using h6
          have E2 := hid (show eqE e f = (g && v) by rw [E.out]; simp [h1, h2, h4, h6])
          refine calls_q E2.out ?_
          clear E E2 h1 h2 h4 h6
          go_enter Tryd.func18, Tryd.ntmps18
          go_wp2_with fail
          refine (HG.out _ (by exact below_next (below_alloc _ _) (below_alloc _ _))).mono ?_
          rintro y w1 ⟨rfl, hb⟩
          obtain ⟨z, ⟨q0, q1, q2, q3, q4, q5, q6, q7, q8, q9⟩, _⟩ := box10_next hb (box10_next (below_alloc _ _) (box10_new w _ _ _ _ _ _ _ _ _ _ _))
          obtain ⟨z', ⟨r0, r1, r2, r3, r4, r5, r6, r7, r8, r9⟩, _⟩ := box10_next hb (box10_at (B := w.heap.size + 1) (by simp) _ _ _ _ _ _ _ _ _ _ _)
          have B := below_next (below_next (below_alloc _ _) (below_alloc _ _)) hb
          clear hb
          cases g with
          | false =>
            go_wp2_with fail
            go_ret
            exact Ret.mk rfl B
          | true =>
            go_wp2_with fail
            refine (HV.out _ B).mono ?_
            rintro y w2 ⟨rfl, hb⟩
            go_wp2_with fail
            go_ret
            exact Ret.mk (by simp) (below_next B hb)
        · have k6 : (e.sync == f.sync) = false := by simpa using h6
          refine calls_q (q := false) (by rw [E.out]; simp [h6]) ?_
          go_enter Tryd.func18, Tryd.ntmps18
          go_wp2_with fail
          go_ret
          exact Ret.mk rfl (below_next (below_alloc _ _) (below_alloc _ _))
      · have k4 : (e.var == f.var) = false := by simpa using h4
        refine calls_q (q := false) (by rw [E.out]; simp [h4]) ?_
        go_enter Tryd.func18, Tryd.ntmps18
        go_wp2_with fail
        go_ret
        exact Ret.mk rfl (below_next (below_alloc _ _) (below_alloc _ _))
    · have k2 : (e.dst == f.dst) = false := by simpa using h2
      refine calls_q (q := false) (by rw [E.out]; simp [h2]) ?_
      go_enter Tryd.func18, Tryd.ntmps18
      go_wp2_with fail
      go_ret
      exact Ret.mk rfl (below_next (below_alloc _ _) (below_alloc _ _))
  · have k1 : (e.src == f.src) = false := by simpa using h1
    refine calls_q (q := false) (by rw [E.out]; simp [h1]) ?_
    go_enter Tryd.func18, Tryd.ntmps18
    go_wp2_with fail
    go_ret
    exact Ret.mk rfl (below_next (below_alloc _ _) (below_alloc _ _))
end Edge
end Go.Proofs.YtgopfjnpjkpelaaDoor
