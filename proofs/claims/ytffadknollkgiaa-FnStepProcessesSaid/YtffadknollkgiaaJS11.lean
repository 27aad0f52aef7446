/- Joined texts (ExprSame, EdgeSpecV, EdgeImplV, EvalE, ValsV, SysV): contracts and plain laws. Conditions: those of each theorem. -/
import Derived.Test.YtffadknollkgiaaRows
import Derived.Test.YtffadknollkgiaaJS0
import Derived.Test.YtffadknollkgiaaJS1
import Derived.Test.YtffadknollkgiaaJS5
import Derived.Test.YtffadknollkgiaaJS6
import Derived.Test.YtffadknollkgiaaJS4
import Derived.Test.YtffadknollkgiaaJS2
import Derived.Test.YtffadknollkgiaaJS10
import Derived.WalkSpells
import Derived.WalkLawsBesides
set_option linter.unusedVariables false
set_option linter.unusedSimpArgs false
namespace Go.Proofs.Ytffadknollkgiaa
open Go.RowKit
namespace Expr

def SaT (t : Tr) : Prop := ∀ (w : World) (u : Tr) (x y : Value), TrIn Any w t x → TrIn Any w u y → Calls Try.prog 43 #[x, y] w (Ret (.bool (eqT t u)) w)

set_option maxHeartbeats 400000 in
theorem ef_of (l : List Tr) (h : ∀ t, t ∈ l → SaT t) (w : World) (m : List Tr) (a a' : Option Addr) (c c' : Nat) (hl : TrsIn Any w l a) (hm : TrsIn Any w m a') (hc : l.length ≤ c) (hc2 : c ≤ maxLen) (_ : m.length ≤ c') (_ : c' ≤ maxLen) :
    Calls Try.prog 70 #[.slice a l.length c, .slice a' m.length c', .func (.func 43) #[] #[]] w (Ret (.bool (eqL l m)) w) := by
  unfold maxLen at hc2
  by_cases hn : l.length = m.length
  · have hn1 : l.length ≤ m.length := by omega
    have hn2 : m.length ≤ l.length := by omega
    have h3 : ((l.length : Int) != (m.length : Int)) = false := by rw [bne_eq_false_iff_eq]; omega
    clear hn
    go_enter Try.func70, Try.ntmps70
    go_wp2_with fail
    go_loopw [17] (fun i wr => ∃ k : Nat, k ≤ l.length ∧ i = .int .i64 k ∧ Below w.heap.size w wr ∧ Hid (eqL (l.drop k) (m.drop k) = eqL l m)) (fun i _ => l.length - (intOf i).toNat)
    case atStart => exact ⟨0, Nat.zero_le _, rfl, Below.refl _ _, hid rfl⟩
    case round =>
      obtain ⟨k, hk, rfl, hb, hr⟩ := hrel
      by_cases hlt : k < l.length
      · obtain ⟨b, o, c0, c1, c2, t, rfl, gb, g0, g1, g2, hT⟩ := TrsIn_round hl hb hlt
        obtain ⟨b', o', d0, d1, d2, u, rfl, fb, f0, f1, f2, hU⟩ := TrsIn_round hm hb (show k < m.length by omega)
        have hr2 := eqL_drop hT.out.2.2.1 hU.out.2.2.1 hr.out
        have HR2 := hid hr2; clear hr2
        obtain ⟨a4, n4, hsh⟩ := TrIn_shape hT.out.1
        simp only [Value.agg.injEq, Array.mk.injEq, List.cons.injEq, and_true] at hsh
        obtain ⟨rfl, rfl, rfl⟩ := hsh
        obtain ⟨a5, n5, hsh⟩ := TrIn_shape hU.out.1
        simp only [Value.agg.injEq, Array.mk.injEq, List.cons.injEq, and_true] at hsh
        obtain ⟨rfl, rfl, rfl⟩ := hsh
        have hlt2 : (k : Int) < (l.length : Int) := by omega
        have hlt3 : (k : Int) < (m.length : Int) := by omega
        have HB := hid hb
        go_wp2_with fail
        refine (h t hT.out.2.1 _ u _ _ (TrIn_alloc (TrIn_alloc hT.out.1 _) _) (TrIn_alloc (TrIn_alloc hU.out.1 _) _)).mono ?_
        rintro e w2 ⟨rfl, hb2⟩
        have hbd := below_next HB.out (below_next (below_next (below_alloc _ _) (below_alloc _ _)) hb2)
        clear hb2
        cases hq : eqT t u with
        | true =>
          have HR3 := HR2.out
          rw [hq, Bool.true_and] at HR3
          have HR4 := hid HR3; clear HR3 hq
          go_wp2_with fail
          go_roundw
          case rel => exact ⟨k + 1, by omega, by go_num, hbd, hid HR4.out.symm⟩
          case measure => simp [intOf]; omega
        | false =>
          have HR3 := HR2.out
          rw [hq, Bool.false_and] at HR3
          have HR4 := hid HR3; clear HR3 hq
          go_wp2_with fail
          go_ret
          exact Ret.mk (bool_val HR4.out.symm) hbd
      · have hr2 := hr.out
        rw [List.drop_of_length_le (by omega), List.drop_of_length_le (by omega)] at hr2
        have HR2 := hid hr2; clear hr2
        go_wp2_with fail
        go_ret
        exact Ret.mk (bool_val HR2.out) hb
  · have e1 := eqL_len l m hn
    have E1 := hid e1; clear e1
    have h3 : ((l.length : Int) != (m.length : Int)) = true := by rw [bne_iff_ne]; omega
    go_enter Try.func70, Try.ntmps70
    go_wp2_with fail
    go_ret
    exact Ret.mk (bool_val E1.out.symm) (Below.refl _ _)

set_option maxHeartbeats 400000 in
theorem sa_of (k v : Int) (kids : List Tr) (h : ∀ t, t ∈ kids → SaT t) : SaT (.mk k v kids) := by
  intro w u x y hx hy
  cases u with
  | mk k' v' kids' =>
  rw [TrIn_mk] at hx hy
  obtain ⟨a, n, c, rfl, hk, hv, rfl, hc, hc2, hks⟩ := hx
  obtain ⟨a', n', c', rfl, hk', hv', rfl, hc', hc2', hks'⟩ := hy
  by_cases h1 : k = k'
  · by_cases h2 : v = v'
    · subst h1 h2
      have e1 : eqT (.mk k v kids) (.mk k v kids') = eqL kids kids' := by simp [eqT]
      have E1 := hid e1; clear e1
      have hkk : (k == k) = true := by simp
      have hvv : (v == v) = true := by simp
      go_enter Try.func43, Try.ntmps43
      go_wp2_with fail
      refine (ef_of kids h _ kids' a a' c c' (TrsIn_alloc (TrsIn_alloc hks _) _) (TrsIn_alloc (TrsIn_alloc hks' _) _) hc hc2 hc' hc2').mono ?_
      rintro e w' ⟨rfl, hby⟩
      have B := below_next (show Below w.heap.size w _ from (by repeat (first | exact Below.refl _ _ | assumption | refine below_a ?_ _ | refine below_o ?_ _ | refine below_d ?_ | refine below_n ?_ _ | refine below_s ?_ (by first | (simp; done) | (simp; omega) | omega) _))) hby
      clear hby
      generalize eqL kids kids' = qq at *
      go_wp2_with fail
      go_ret
      exact Ret.mk (bool_val E1.out.symm) B
    · have e1 : eqT (.mk k v kids) (.mk k' v' kids') = false := by simp [eqT, h2]
      have E1 := hid e1; clear e1
      have h3 : (v == v') = false := by simpa using h2
      subst h1
      have hkk : (k == k) = true := by simp
      go_enter Try.func43, Try.ntmps43
      go_wp2_with fail
      go_ret
      exact Ret.mk (bool_val E1.out.symm) (by repeat (first | exact Below.refl _ _ | assumption | refine below_a ?_ _ | refine below_o ?_ _ | refine below_d ?_ | refine below_n ?_ _ | refine below_s ?_ (by first | (simp; done) | (simp; omega) | omega) _))
  · have e1 : eqT (.mk k v kids) (.mk k' v' kids') = false := by simp [eqT, h1]
    have E1 := hid e1; clear e1
    have h3 : (k == k') = false := by simpa using h1
    go_enter Try.func43, Try.ntmps43
    go_wp2_with fail
    go_ret
    exact Ret.mk (bool_val E1.out.symm) (by repeat (first | exact Below.refl _ _ | assumption | refine below_a ?_ _ | refine below_o ?_ _ | refine below_d ?_ | refine below_n ?_ _ | refine below_s ?_ (by first | (simp; done) | (simp; omega) | omega) _))

theorem same_any : ∀ t, SaT t := Tr.ind fun k v kids ih => sa_of k v kids ih


end Expr
end Go.Proofs.Ytffadknollkgiaa
namespace Go.Proofs.Ytffadknollkgiaa
open Go.RowKit
namespace Edge

/-- the empty expression -/
def none0 : Tr := .mk 0 0 []
theorem none0_in (p : Nat → Prop) (w : World) : TrIn p w none0 (.agg #[.int .i64 0, .int .i64 0, .slice none 0 0]) :=
  (TrIn_mk ..).2 ⟨none, 0, 0, rfl, by unfold i64; omega, by unfold i64; omega, rfl, Nat.le_refl _, Nat.zero_le _, TrsIn_nil _ _ _⟩
def isNone (t : Tr) : Bool := decide (t.kind = 0) && (decide (t.val = 0) && decide (t.kids.length = 0))
theorem isNone_eq (t : Tr) : eqT t none0 = isNone t := by
  rw [Bool.eq_iff_iff, eqT_true]
  simp only [isNone, Bool.and_eq_true, decide_eq_true_eq]
  cases t with
  | mk k v kids => cases kids <;> simp [none0, Tr.kind, Tr.val, Tr.kids]

theorem none_any (t : Tr) (w : World) (x : Value) (hx : TrIn Any w t x) : Calls Try.prog 45 #[x] w (Ret (.bool (isNone t)) w) := by
  obtain ⟨a, c, rfl⟩ := TrIn_shape hx
  by_cases h1 : t.kind = 0
  · by_cases h2 : t.val = 0
    · have E := hid (show isNone t = decide ((t.kids.length : Int) = 0) by simp [isNone, h1, h2])
      go_enter Try.func45, Try.ntmps45
      go_wp2_with fail
      go_ret
      exact Ret.mk (bool_val (by rw [E.out, Bool.eq_iff_iff]; simp)) (by repeat (first | exact Below.refl _ _ | assumption | refine below_a ?_ _ | refine below_o ?_ _ | refine below_d ?_ | refine below_n ?_ _ | refine below_s ?_ (by first | (simp; done) | (simp; omega) | omega) _))
    · have E := hid (show isNone t = false by simp [isNone, h2])
      go_enter Try.func45, Try.ntmps45
      go_wp2_with fail
      go_ret
      exact Ret.mk (bool_val (by rw [E.out])) (by repeat (first | exact Below.refl _ _ | assumption | refine below_a ?_ _ | refine below_o ?_ _ | refine below_d ?_ | refine below_n ?_ _ | refine below_s ?_ (by first | (simp; done) | (simp; omega) | omega) _))
  · have E := hid (show isNone t = false by simp [isNone, h1])
    go_enter Try.func45, Try.ntmps45
    go_wp2_with fail
    go_ret
    exact Ret.mk (bool_val (by rw [E.out])) (by repeat (first | exact Below.refl _ _ | assumption | refine below_a ?_ _ | refine below_o ?_ _ | refine below_d ?_ | refine below_n ?_ _ | refine below_s ?_ (by first | (simp; done) | (simp; omega) | omega) _))

def okV (e : Ed) (g v : Bool) : Bool := g && (decide (-2 ≤ e.sync ∧ e.sync ≤ 2) && (decide (-1 ≤ e.var ∧ e.var ≤ 2) && (if e.var < 0 then isNone e.val else v)))
/-- is an edge valid among so many locations -/
def okB (e : Ed) (n : Int) : Bool := decide ((0 ≤ e.src ∧ e.src < n) ∧ (0 ≤ e.dst ∧ e.dst < n) ∧ n ≤ 4) && okV e (exprL.valid e.guard) (exprL.valid e.val)

set_option maxHeartbeats 4000000 in
theorem specEdge_any (e : Ed) (n : Int) (w : World) (x : Value) (hx : EdIn Any w e x) : Calls Try.prog 12 #[x, .int .i64 n] w (Ret (.bool (okB e n)) w) := by
  obtain ⟨a, c, a', c', rfl, _, _, _, _, hg, hv⟩ := hx
  have HG := hid (fun w' (M : Below w.heap.size w w') => Expr.specValid_any e.guard w' _ (TrIn_below M hg))
  have HV := hid (fun w' (M : Below w.heap.size w w') => Expr.specValid_any e.val w' _ (TrIn_below M hv))
  have HN := hid (fun w' (M : Below w.heap.size w w') => none_any e.val w' _ (TrIn_below M hv))
  clear hg hv
  by_cases h0 : (0 ≤ e.src ∧ e.src < n) ∧ (0 ≤ e.dst ∧ e.dst < n) ∧ n ≤ 4
  · obtain ⟨⟨h1, h2⟩, ⟨h3, h4⟩, h5⟩ := h0
    have E0 := hid (show okB e n = okV e (exprL.valid e.guard) (exprL.valid e.val) by simp [okB, h1, h2, h3, h4, h5])
    generalize exprL.valid e.guard = g at *
    generalize exprL.valid e.val = v at *
    cases g with
    | false =>
      have E := hid (show okB e n = false by rw [E0.out]; rfl)
      go_enter Try.func12, Try.ntmps12
      go_wp2_with fail
      refine (HG.out _ (below_alloc _ _)).mono ?_
      rintro y w1 ⟨rfl, hb⟩
      obtain ⟨z, ⟨k0, k1, k2, k3, k4, k5, k6, k7, k8, k9⟩, _⟩ := box10_next hb (box10_new ..)
      have B := below_next (below_alloc _ _) hb
      clear hb
      go_wp2_with fail
      go_ret
      exact Ret.mk (bool_val (by rw [E.out])) B
    | true =>
      by_cases h6 : -2 ≤ e.sync ∧ e.sync ≤ 2
      · by_cases h7 : -1 ≤ e.var ∧ e.var ≤ 2
        · obtain ⟨h6, h6'⟩ := h6
          obtain ⟨h7, h7'⟩ := h7
          by_cases h8 : e.var < 0
          · have E := hid (show okB e n = isNone e.val by rw [E0.out]; simp [okV, h6, h6', h7, h7', h8])
            have h9 : ¬ (e.var ≥ 0) := by omega
            generalize isNone e.val = q at *
            cases q
            all_goals
              go_enter Try.func12, Try.ntmps12
              go_wp2_with fail
              refine (HG.out _ (below_alloc _ _)).mono ?_
              rintro y w1 ⟨rfl, hb⟩
              have bx := box10_next hb (box10_new ..)
              have B := below_next (below_alloc _ _) hb
              clear hb
              obtain ⟨z, ⟨k0, k1, k2, k3, k4, k5, k6, k7, k8, k9⟩, _⟩ := id bx
              go_wp2_with fail
              refine (HN.out _ B).mono ?_
              rintro y w2 ⟨rfl, hb⟩
              obtain ⟨z, ⟨k0, k1, k2, k3, k4, k5, k6, k7, k8, k9⟩, _⟩ := box10_next hb bx
              replace B := below_next B hb
              clear hb bx
              go_wp2_with fail
              go_ret
              exact Ret.mk (bool_val (by rw [E.out])) B
          · have E := hid (show okB e n = v by rw [E0.out]; simp [okV, h6, h6', h7, h7', h8])
            have h9 : e.var ≥ 0 := by omega
            go_enter Try.func12, Try.ntmps12
            go_wp2_with fail
            refine (HG.out _ (below_alloc _ _)).mono ?_
            rintro y w1 ⟨rfl, hb⟩
            have bx := box10_next hb (box10_new ..)
            have B := below_next (below_alloc _ _) hb
            clear hb
            obtain ⟨z, ⟨k0, k1, k2, k3, k4, k5, k6, k7, k8, k9⟩, _⟩ := id bx
            go_wp2_with fail
            refine (HV.out _ B).mono ?_
            rintro y w2 ⟨rfl, hb⟩
            obtain ⟨z, ⟨k0, k1, k2, k3, k4, k5, k6, k7, k8, k9⟩, _⟩ := box10_next hb bx
            replace B := below_next B hb
            clear hb bx
            go_wp2_with fail
            go_ret
            exact Ret.mk (bool_val (by rw [E.out])) B
        · have E := hid (show okB e n = false by rw [E0.out]; simp [okV]; omega)
          obtain ⟨h6, h6'⟩ := h6
          have h7' : e.var < -1 ∨ (¬ e.var < -1 ∧ e.var ≥ 3) := by omega
          clear h7
          rcases h7' with h7 | ⟨h7, h8⟩
          all_goals
            go_enter Try.func12, Try.ntmps12
            go_wp2_with fail
            refine (HG.out _ (below_alloc _ _)).mono ?_
            rintro y w1 ⟨rfl, hb⟩
            obtain ⟨z, ⟨k0, k1, k2, k3, k4, k5, k6, k7, k8, k9⟩, _⟩ := box10_next hb (box10_new ..)
            have B := below_next (below_alloc _ _) hb
            clear hb
            go_wp2_with fail
            go_ret
            exact Ret.mk (bool_val (by rw [E.out])) B
      · have E := hid (show okB e n = false by rw [E0.out]; simp [okV]; omega)
        have h6' : e.sync < -2 ∨ (¬ e.sync < -2 ∧ e.sync > 2) := by omega
        clear h6
        rcases h6' with h7 | ⟨h7, h8⟩
        all_goals
          go_enter Try.func12, Try.ntmps12
          go_wp2_with fail
          refine (HG.out _ (below_alloc _ _)).mono ?_
          rintro y w1 ⟨rfl, hb⟩
          obtain ⟨z, ⟨k0, k1, k2, k3, k4, k5, k6, k7, k8, k9⟩, _⟩ := box10_next hb (box10_new ..)
          have B := below_next (below_alloc _ _) hb
          clear hb
          go_wp2_with fail
          go_ret
          exact Ret.mk (bool_val (by rw [E.out])) B
  · have E := hid (show okB e n = false by simp only [okB, decide_eq_false h0, Bool.false_and])
    have h1 : e.src < 0 ∨ (¬ e.src < 0 ∧ e.src ≥ n) ∨ (¬ e.src < 0 ∧ ¬ e.src ≥ n ∧ e.dst < 0) ∨ (¬ e.src < 0 ∧ ¬ e.src ≥ n ∧ ¬ e.dst < 0 ∧ e.dst ≥ n) ∨ (¬ e.src < 0 ∧ ¬ e.src ≥ n ∧ ¬ e.dst < 0 ∧ ¬ e.dst ≥ n ∧ n > 4) := by omega
    clear h0
    rcases h1 with h1 | ⟨h1, h2⟩ | ⟨h1, h2, h3⟩ | ⟨h1, h2, h3, h4⟩ | ⟨h1, h2, h3, h4, h5⟩
    all_goals
      go_enter Try.func12, Try.ntmps12
      go_wp2_with fail
      go_ret
      exact Ret.mk (bool_val (by rw [E.out])) (below_alloc _ _)
end Edge
end Go.Proofs.Ytffadknollkgiaa
namespace Go.Proofs.Ytffadknollkgiaa
open Go.RowKit
namespace Edge

set_option maxHeartbeats 4000000 in
theorem edge_any (e : Ed) (n : Int) (w : World) (x : Value) (hx : EdIn Any w e x) : Calls Try.prog 11 #[x, .int .i64 n] w (Ret (.bool (okB e n)) w) := by
  obtain ⟨a, c, a', c', rfl, _, _, _, _, hg, hv⟩ := hx
  have HG := hid (fun w' (M : Below w.heap.size w w') => Expr.valid_any e.guard w' _ (TrIn_below M hg))
  have HV := hid (fun w' (M : Below w.heap.size w w') => Expr.valid_any e.val w' _ (TrIn_below M hv))
  have HS := hid (fun w' (M : Below w.heap.size w w') => (show Calls Try.prog 43 #[.agg #[.int .i64 e.val.kind, .int .i64 e.val.val, .slice a' e.val.kids.length c'], .agg #[.int .i64 0, .int .i64 0, .slice none 0 0]] w' (Ret (.bool (isNone e.val)) w') by
    have := Expr.same_any e.val w' none0 _ _ (TrIn_below M hv) (none0_in Any w')
    rw [isNone_eq] at this
    exact this))
  clear hg hv
  by_cases h1 : 1 ≤ n ∧ n ≤ 4
  · have H1 := hid h1
    obtain ⟨n1, n2⟩ := h1
    by_cases h2 : 0 ≤ e.src ∧ e.src ≤ n - 1
    · by_cases h3 : 0 ≤ e.dst ∧ e.dst ≤ n - 1
      · have E0 := hid (show okB e n = okV e (exprL.valid e.guard) (exprL.valid e.val) by simp only [okB]; rw [decide_eq_true (by omega), Bool.true_and])
        have H2 := hid h2
        have H3 := hid h3
        clear h2 h3
        generalize exprL.valid e.guard = g at *
        generalize exprL.valid e.val = v at *
        cases g with
        | false =>
          have E := hid (show okB e n = false by rw [E0.out]; rfl)
          go_enter Try.func11, Try.ntmps11
          go_wp2_with fail
          refine (in_yes H1.out _).mono ?_
          rintro y _ ⟨rfl, rfl⟩
          go_wp2_with fail
          refine (in_yes H2.out _).mono ?_
          rintro y _ ⟨rfl, rfl⟩
          go_wp2_with fail
          refine (in_yes H3.out _).mono ?_
          rintro y _ ⟨rfl, rfl⟩
          go_wp2_with fail
          refine (HG.out _ (below_alloc _ _)).mono ?_
          rintro y w1 ⟨rfl, hb⟩
          have bx := box10_next hb (box10_new ..)
          have B := below_next (below_alloc _ _) hb
          clear hb
          obtain ⟨z, ⟨k0, k1, k2, k3, k4, k5, k6, k7, k8, k9⟩, _⟩ := id bx
          go_wp2_with fail
          go_ret
          exact Ret.mk (bool_val (by rw [E.out])) B
        | true =>
          by_cases h5 : -1 ≤ e.var ∧ e.var ≤ 2
          · have H5 := hid h5
            by_cases h8 : e.var < 0
            · have h9 : ¬ (e.var ≥ 0) := by omega
              have E2 := hid (show okB e n = (decide (-2 ≤ e.sync ∧ e.sync ≤ 2) && isNone e.val) by rw [E0.out]; simp [okV, h5, h8])
              clear h5
              generalize isNone e.val = q at *
              cases q with
              | false =>
                have E := hid (show okB e n = false by rw [E2.out]; simp)
                go_enter Try.func11, Try.ntmps11
                go_wp2_with fail
                refine (in_yes H1.out _).mono ?_
                rintro y _ ⟨rfl, rfl⟩
                go_wp2_with fail
                refine (in_yes H2.out _).mono ?_
                rintro y _ ⟨rfl, rfl⟩
                go_wp2_with fail
                refine (in_yes H3.out _).mono ?_
                rintro y _ ⟨rfl, rfl⟩
                go_wp2_with fail
                refine (HG.out _ (below_alloc _ _)).mono ?_
                rintro y w1 ⟨rfl, hb⟩
                have bx := box10_next hb (box10_new ..)
                have B := below_next (below_alloc _ _) hb
                clear hb
                obtain ⟨z, ⟨k0, k1, k2, k3, k4, k5, k6, k7, k8, k9⟩, _⟩ := id bx
                go_wp2_with fail
                refine (in_yes H5.out _).mono ?_
                rintro y _ ⟨rfl, rfl⟩
                go_wp2_with fail
                refine (HS.out _ B).mono ?_
                rintro y w2 ⟨rfl, hb⟩
                obtain ⟨z, ⟨k0, k1, k2, k3, k4, k5, k6, k7, k8, k9⟩, _⟩ := box10_next hb bx
                replace B := below_next B hb
                clear hb bx
                go_wp2_with fail
                go_ret
                exact Ret.mk (bool_val (by rw [E.out])) B
              | true =>
                by_cases h7 : -2 ≤ e.sync ∧ e.sync ≤ 2
                · have E := hid (show okB e n = true by rw [E2.out]; simp [h7])
                  have H7 := hid h7
                  clear h7
                  go_enter Try.func11, Try.ntmps11
                  go_wp2_with fail
                  refine (in_yes H1.out _).mono ?_
                  rintro y _ ⟨rfl, rfl⟩
                  go_wp2_with fail
                  refine (in_yes H2.out _).mono ?_
                  rintro y _ ⟨rfl, rfl⟩
                  go_wp2_with fail
                  refine (in_yes H3.out _).mono ?_
                  rintro y _ ⟨rfl, rfl⟩
                  go_wp2_with fail
                  refine (HG.out _ (below_alloc _ _)).mono ?_
                  rintro y w1 ⟨rfl, hb⟩
                  have bx := box10_next hb (box10_new ..)
                  have B := below_next (below_alloc _ _) hb
                  clear hb
                  obtain ⟨z, ⟨k0, k1, k2, k3, k4, k5, k6, k7, k8, k9⟩, _⟩ := id bx
                  go_wp2_with fail
                  refine (in_yes H5.out _).mono ?_
                  rintro y _ ⟨rfl, rfl⟩
                  go_wp2_with fail
                  refine (HS.out _ B).mono ?_
                  rintro y w2 ⟨rfl, hb⟩
                  obtain ⟨z, ⟨k0, k1, k2, k3, k4, k5, k6, k7, k8, k9⟩, _⟩ := box10_next hb bx
                  replace B := below_next B hb
                  clear hb bx
                  go_wp2_with fail
                  refine (in_yes H7.out _).mono ?_
                  rintro y _ ⟨rfl, rfl⟩
                  go_wp2_with fail
                  go_ret
                  exact Ret.mk (bool_val (by rw [E.out])) B
                · have E := hid (show okB e n = false by rw [E2.out]; simp [h7])
                  have H7 := hid h7
                  clear h7
                  go_enter Try.func11, Try.ntmps11
                  go_wp2_with fail
                  refine (in_yes H1.out _).mono ?_
                  rintro y _ ⟨rfl, rfl⟩
                  go_wp2_with fail
                  refine (in_yes H2.out _).mono ?_
                  rintro y _ ⟨rfl, rfl⟩
                  go_wp2_with fail
                  refine (in_yes H3.out _).mono ?_
                  rintro y _ ⟨rfl, rfl⟩
                  go_wp2_with fail
                  refine (HG.out _ (below_alloc _ _)).mono ?_
                  rintro y w1 ⟨rfl, hb⟩
                  have bx := box10_next hb (box10_new ..)
                  have B := below_next (below_alloc _ _) hb
                  clear hb
                  obtain ⟨z, ⟨k0, k1, k2, k3, k4, k5, k6, k7, k8, k9⟩, _⟩ := id bx
                  go_wp2_with fail
                  refine (in_yes H5.out _).mono ?_
                  rintro y _ ⟨rfl, rfl⟩
                  go_wp2_with fail
                  refine (HS.out _ B).mono ?_
                  rintro y w2 ⟨rfl, hb⟩
                  obtain ⟨z, ⟨k0, k1, k2, k3, k4, k5, k6, k7, k8, k9⟩, _⟩ := box10_next hb bx
                  replace B := below_next B hb
                  clear hb bx
                  go_wp2_with fail
                  refine (in_no H7.out _).mono ?_
                  rintro y _ ⟨rfl, rfl⟩
                  go_wp2_with fail
                  go_ret
                  exact Ret.mk (bool_val (by rw [E.out])) B
            · have h9 : e.var ≥ 0 := by omega
              have E2 := hid (show okB e n = (decide (-2 ≤ e.sync ∧ e.sync ≤ 2) && v) by rw [E0.out]; simp [okV, h5, h8])
              clear h5
              cases v with
              | false =>
                have E := hid (show okB e n = false by rw [E2.out]; simp)
                go_enter Try.func11, Try.ntmps11
                go_wp2_with fail
                refine (in_yes H1.out _).mono ?_
                rintro y _ ⟨rfl, rfl⟩
                go_wp2_with fail
                refine (in_yes H2.out _).mono ?_
                rintro y _ ⟨rfl, rfl⟩
                go_wp2_with fail
                refine (in_yes H3.out _).mono ?_
                rintro y _ ⟨rfl, rfl⟩
                go_wp2_with fail
                refine (HG.out _ (below_alloc _ _)).mono ?_
                rintro y w1 ⟨rfl, hb⟩
                have bx := box10_next hb (box10_new ..)
                have B := below_next (below_alloc _ _) hb
                clear hb
                obtain ⟨z, ⟨k0, k1, k2, k3, k4, k5, k6, k7, k8, k9⟩, _⟩ := id bx
                go_wp2_with fail
                refine (in_yes H5.out _).mono ?_
                rintro y _ ⟨rfl, rfl⟩
                go_wp2_with fail
                refine (HV.out _ B).mono ?_
                rintro y w2 ⟨rfl, hb⟩
                obtain ⟨z, ⟨k0, k1, k2, k3, k4, k5, k6, k7, k8, k9⟩, _⟩ := box10_next hb bx
                replace B := below_next B hb
                clear hb bx
                go_wp2_with fail
                go_ret
                exact Ret.mk (bool_val (by rw [E.out])) B
              | true =>
                by_cases h7 : -2 ≤ e.sync ∧ e.sync ≤ 2
                · have E := hid (show okB e n = true by rw [E2.out]; simp [h7])
                  have H7 := hid h7
                  clear h7
                  go_enter Try.func11, Try.ntmps11
                  go_wp2_with fail
                  refine (in_yes H1.out _).mono ?_
                  rintro y _ ⟨rfl, rfl⟩
                  go_wp2_with fail
                  refine (in_yes H2.out _).mono ?_
                  rintro y _ ⟨rfl, rfl⟩
                  go_wp2_with fail
                  refine (in_yes H3.out _).mono ?_
                  rintro y _ ⟨rfl, rfl⟩
                  go_wp2_with fail
                  refine (HG.out _ (below_alloc _ _)).mono ?_
                  rintro y w1 ⟨rfl, hb⟩
                  have bx := box10_next hb (box10_new ..)
                  have B := below_next (below_alloc _ _) hb
                  clear hb
                  obtain ⟨z, ⟨k0, k1, k2, k3, k4, k5, k6, k7, k8, k9⟩, _⟩ := id bx
                  go_wp2_with fail
                  refine (in_yes H5.out _).mono ?_
                  rintro y _ ⟨rfl, rfl⟩
                  go_wp2_with fail
                  refine (HV.out _ B).mono ?_
                  rintro y w2 ⟨rfl, hb⟩
                  obtain ⟨z, ⟨k0, k1, k2, k3, k4, k5, k6, k7, k8, k9⟩, _⟩ := box10_next hb bx
                  replace B := below_next B hb
                  clear hb bx
                  go_wp2_with fail
                  refine (in_yes H7.out _).mono ?_
                  rintro y _ ⟨rfl, rfl⟩
                  go_wp2_with fail
                  go_ret
                  exact Ret.mk (bool_val (by rw [E.out])) B
                · have E := hid (show okB e n = false by rw [E2.out]; simp [h7])
                  have H7 := hid h7
                  clear h7
                  go_enter Try.func11, Try.ntmps11
                  go_wp2_with fail
                  refine (in_yes H1.out _).mono ?_
                  rintro y _ ⟨rfl, rfl⟩
                  go_wp2_with fail
                  refine (in_yes H2.out _).mono ?_
                  rintro y _ ⟨rfl, rfl⟩
                  go_wp2_with fail
                  refine (in_yes H3.out _).mono ?_
                  rintro y _ ⟨rfl, rfl⟩
                  go_wp2_with fail
                  refine (HG.out _ (below_alloc _ _)).mono ?_
                  rintro y w1 ⟨rfl, hb⟩
                  have bx := box10_next hb (box10_new ..)
                  have B := below_next (below_alloc _ _) hb
                  clear hb
                  obtain ⟨z, ⟨k0, k1, k2, k3, k4, k5, k6, k7, k8, k9⟩, _⟩ := id bx
                  go_wp2_with fail
                  refine (in_yes H5.out _).mono ?_
                  rintro y _ ⟨rfl, rfl⟩
                  go_wp2_with fail
                  refine (HV.out _ B).mono ?_
                  rintro y w2 ⟨rfl, hb⟩
                  obtain ⟨z, ⟨k0, k1, k2, k3, k4, k5, k6, k7, k8, k9⟩, _⟩ := box10_next hb bx
                  replace B := below_next B hb
                  clear hb bx
                  go_wp2_with fail
                  refine (in_no H7.out _).mono ?_
                  rintro y _ ⟨rfl, rfl⟩
                  go_wp2_with fail
                  go_ret
                  exact Ret.mk (bool_val (by rw [E.out])) B
          · have E := hid (show okB e n = false by rw [E0.out]; simp [okV]; omega)
            have H5 := hid h5
            clear h5
            go_enter Try.func11, Try.ntmps11
            go_wp2_with fail
            refine (in_yes H1.out _).mono ?_
            rintro y _ ⟨rfl, rfl⟩
            go_wp2_with fail
            refine (in_yes H2.out _).mono ?_
            rintro y _ ⟨rfl, rfl⟩
            go_wp2_with fail
            refine (in_yes H3.out _).mono ?_
            rintro y _ ⟨rfl, rfl⟩
            go_wp2_with fail
            refine (HG.out _ (below_alloc _ _)).mono ?_
            rintro y w1 ⟨rfl, hb⟩
            have bx := box10_next hb (box10_new ..)
            have B := below_next (below_alloc _ _) hb
            clear hb
            obtain ⟨z, ⟨k0, k1, k2, k3, k4, k5, k6, k7, k8, k9⟩, _⟩ := id bx
            go_wp2_with fail
            refine (in_no H5.out _).mono ?_
            rintro y _ ⟨rfl, rfl⟩
            go_wp2_with fail
            go_ret
            exact Ret.mk (bool_val (by rw [E.out])) B
      · have E := hid (show okB e n = false by simp only [okB]; rw [decide_eq_false (by omega), Bool.false_and])
        have H2 := hid h2
        have H3 := hid h3
        clear h2 h3
        go_enter Try.func11, Try.ntmps11
        go_wp2_with fail
        refine (in_yes H1.out _).mono ?_
        rintro y _ ⟨rfl, rfl⟩
        go_wp2_with fail
        refine (in_yes H2.out _).mono ?_
        rintro y _ ⟨rfl, rfl⟩
        go_wp2_with fail
        refine (in_no H3.out _).mono ?_
        rintro y _ ⟨rfl, rfl⟩
        go_wp2_with fail
        go_ret
        exact Ret.mk (bool_val (by rw [E.out])) (by repeat (first | exact Below.refl _ _ | assumption | refine below_a ?_ _ | refine below_o ?_ _ | refine below_d ?_ | refine below_n ?_ _ | refine below_s ?_ (by first | (simp; done) | (simp; omega) | omega) _))
    · have E := hid (show okB e n = false by simp only [okB]; rw [decide_eq_false (by omega), Bool.false_and])
      have H2 := hid h2
      clear h2
      go_enter Try.func11, Try.ntmps11
      go_wp2_with fail
      refine (in_yes H1.out _).mono ?_
      rintro y _ ⟨rfl, rfl⟩
      go_wp2_with fail
      refine (in_no H2.out _).mono ?_
      rintro y _ ⟨rfl, rfl⟩
      go_wp2_with fail
      go_ret
      exact Ret.mk (bool_val (by rw [E.out])) (by repeat (first | exact Below.refl _ _ | assumption | refine below_a ?_ _ | refine below_o ?_ _ | refine below_d ?_ | refine below_n ?_ _ | refine below_s ?_ (by first | (simp; done) | (simp; omega) | omega) _))
  · have E := hid (show okB e n = false by simp only [okB]; rw [decide_eq_false (by omega), Bool.false_and])
    have H1 := hid h1
    clear h1
    go_enter Try.func11, Try.ntmps11
    go_wp2_with fail
    refine (in_no H1.out _).mono ?_
    rintro y _ ⟨rfl, rfl⟩
    go_wp2_with fail
    go_ret
    exact Ret.mk (bool_val (by rw [E.out])) (by repeat (first | exact Below.refl _ _ | assumption | refine below_a ?_ _ | refine below_o ?_ _ | refine below_d ?_ | refine below_n ?_ _ | refine below_s ?_ (by first | (simp; done) | (simp; omega) | omega) _))

end Edge
end Go.Proofs.Ytffadknollkgiaa
namespace Go.Proofs.Ytffadknollkgiaa
open Go.RowKit
namespace Expr

/-- three numbers from 0 to 3 lie there -/
def Vals (w : World) (a : Option Addr) (l : List Int) : Prop := IntsIn Any w a l ∧ l.length = 3 ∧ ∀ n, n ∈ l → 0 ≤ n ∧ n ≤ 3
theorem Vals.below {w w' : World} {a : Option Addr} {l : List Int} (h : Vals w a l) (hb : Below w.heap.size w w') : Vals w' a l := ⟨h.1.below hb, h.2⟩
theorem Vals.cells {w : World} {a : Option Addr} {l : List Int} (h : Vals w a l) : ∃ b o x y z, l = [x, y, z] ∧ a = some ⟨b, o, none⟩ ∧ b < w.heap.size ∧ w.cell? ⟨b, o, none⟩ = some (.int .i64 x) ∧ w.cell? ⟨b, o + 1, none⟩ = some (.int .i64 y) ∧ w.cell? ⟨b, o + 2, none⟩ = some (.int .i64 z) := by
  obtain ⟨h1, h2, h3⟩ := h
  obtain ⟨x, y, z, rfl⟩ : ∃ x y z, l = [x, y, z] := by
    match l, h2 with
    | [x, y, z], _ => exact ⟨x, y, z, rfl⟩
  obtain ⟨b, o, rfl, hb, _, e0, _⟩ := ints_at (k := 0) h1 (Below.refl _ _) (by simp)
  obtain ⟨b', o', hbo, _, _, e1, _⟩ := ints_at (k := 1) h1 (Below.refl _ _) (by simp)
  obtain ⟨b2, o2, hbo2, _, _, e2, _⟩ := ints_at (k := 2) h1 (Below.refl _ _) (by simp)
  simp only [Option.some.injEq, Addr.mk.injEq, and_true] at hbo hbo2
  obtain ⟨rfl, rfl⟩ := hbo
  obtain ⟨rfl, rfl⟩ := hbo2
  exact ⟨b, o, x, y, z, rfl, rfl, hb, e0, e1, e2⟩
def gOf (l : List Int) (v : Int) : Int := l.getD v.toNat 0
theorem Vals.bd {w : World} {a : Option Addr} {l : List Int} (h : Vals w a l) : ∀ v, 0 ≤ v → v ≤ 2 → 0 ≤ gOf l v ∧ gOf l v ≤ 3 := by
  obtain ⟨b, o, x, y, z, rfl, _⟩ := h.cells
  intro v h1 h2
  have := h.2.2
  have hv : v = 0 ∨ v = 1 ∨ v = 2 := by omega
  rcases hv with rfl | rfl | rfl
  · exact this x (by simp)
  · exact this y (by simp)
  · exact this z (by simp)

def EvT (F : Nat) (t : Tr) : Prop := ∀ (n : Nat) (w : World) (x : Value) (a : Option Addr) (l : List Int) (c : Nat), exprL.shape t n = true → TrIn Any w t x → Vals w a l → 3 ≤ c → c ≤ maxLen → Calls Try.prog F #[x, .slice a 3 c] w (Ret (.int .i64 (evalT (gOf l) t)) w)

theorem bool01 (b : Bool) (w : World) : Calls Try.prog 98 #[.bool b] w (RetW (.int .i64 (tr01 b)) w) := by
  cases b
  all_goals
    go_enter Try.func98, Try.ntmps98
    go_wp2_with fail
    go_ret
    exact ⟨rfl, rfl⟩
theorem truth01 (b : Bool) (w : World) : Calls Try.prog 95 #[.bool b] w (RetW (.int .i64 (tr01 b)) w) := by
  cases b
  all_goals
    go_enter Try.func95, Try.ntmps95
    go_wp2_with fail
    go_ret
    exact ⟨rfl, rfl⟩

theorem two_cells {w : World} {t u : Tr} {a : Option Addr} (h : TrsIn Any w [t, u] a) : ∃ b o c0 c1 c2 d0 d1 d2, a = some ⟨b, o, none⟩ ∧ b < w.heap.size ∧ w.cell? ⟨b, o, none⟩ = some c0 ∧ w.cell? ⟨b, o + 1, none⟩ = some c1 ∧ w.cell? ⟨b, o + 2, none⟩ = some c2 ∧
    w.cell? ⟨b, o + 3, none⟩ = some d0 ∧ w.cell? ⟨b, o + 3 + 1, none⟩ = some d1 ∧ w.cell? ⟨b, o + 3 + 2, none⟩ = some d2 ∧ TrIn Any w t (.agg #[c0, c1, c2]) ∧ TrIn Any w u (.agg #[d0, d1, d2]) := by
  rw [TrsIn_cons] at h
  obtain ⟨b, o, c0, c1, c2, rfl, _, g0, g1, g2, hT, h⟩ := h
  rw [TrsIn_cons] at h
  obtain ⟨b', o', d0, d1, d2, hbo, _, f0, f1, f2, hU, _⟩ := h
  simp only [Option.some.injEq, Addr.mk.injEq, and_true] at hbo
  obtain ⟨rfl, rfl⟩ := hbo
  exact ⟨b, o, c0, c1, c2, d0, d1, d2, rfl, blt g0, g0, g1, g2, f0, f1, f2, hT, hU⟩


end Expr
end Go.Proofs.Ytffadknollkgiaa
namespace Go.Proofs.Ytffadknollkgiaa
open Go.RowKit
namespace Expr

def inV (n : Int) : Bool := decide (0 ≤ n ∧ n ≤ 3)
/-- three numbers from 0 to 3 -/
def okVals (l : List Int) : Bool := l.all inV && decide (l.length = 3)
theorem okVals_vals {w : World} {a : Option Addr} {l : List Int} (h : okVals l = true) (hl : IntsIn Any w a l) : Vals w a l := by
  rw [okVals, Bool.and_eq_true, decide_eq_true_eq] at h
  exact ⟨hl, h.2, fun n hn => by have := List.all_eq_true.1 h.1 n hn; simpa [inV] using this⟩

set_option maxHeartbeats 1000000 in
theorem specVals_any (l : List Int) (w : World) (a : Option Addr) (c : Nat) (hl : IntsIn Any w a l) (hc : l.length ≤ c) (hc2 : c ≤ maxLen) :
    Calls Try.prog 52 #[.slice a l.length c] w (Ret (.bool (okVals l)) w) := by
  unfold maxLen at hc2
  go_enter Try.func52, Try.ntmps52
  go_wp2_with fail
  go_loopw [3] (fun i wr => ∃ j : Nat, j ≤ l.length ∧ i = .int .i64 j ∧ Below w.heap.size w wr ∧ Hid ((l.drop j).all inV = l.all inV)) (fun i _ => l.length - (intOf i).toNat)
  case atStart => exact ⟨0, Nat.zero_le _, rfl, Below.refl _ _, hid rfl⟩
  case round =>
    obtain ⟨j, hj, rfl, B, hr⟩ := hrel
    by_cases hlt : j < l.length
    · obtain ⟨b, o, rfl, hb, _, g0, hi⟩ := ints_at hl B hlt
      have HR2 := hr.out
      rw [List.drop_eq_getElem_cons hlt, List.all_cons] at HR2
      have HR := hid HR2; clear HR2
      have hlt2 : (j : Int) < (l.length : Int) := by omega
      generalize l[j] = x at *
      by_cases h0 : x < 0
      · have E := hid (show okVals l = false by rw [okVals, ← HR.out]; simp [inV]; omega)
        go_wp2_with fail
        go_ret
        exact Ret.mk (bool_val E.out.symm) B
      · by_cases h3 : x > 3
        · have E := hid (show okVals l = false by rw [okVals, ← HR.out]; simp [inV]; omega)
          go_wp2_with fail
          go_ret
          exact Ret.mk (bool_val E.out.symm) B
        · have HR3 := HR.out
          rw [show inV x = true by simp [inV]; omega, Bool.true_and] at HR3
          have HR4 := hid HR3; clear HR3
          go_wp2_with fail
          go_roundw
          case rel => exact ⟨j + 1, by omega, by go_num, B, HR4⟩
          case measure => simp [intOf]; omega
    · have HR2 := hr.out
      rw [List.drop_of_length_le (by omega), List.all_nil] at HR2
      have hlt2 : ¬ ((j : Int) < (l.length : Int)) := by omega
      have E := hid (show ((l.length : Int) == 3) = okVals l by
        rw [okVals, ← HR2, Bool.true_and, Bool.eq_iff_iff, beq_iff_eq, decide_eq_true_eq]; omega)
      clear HR2
      go_wp2_with fail
      go_ret
      exact Ret.mk (bool_val E.out) B

set_option maxHeartbeats 400000 in
theorem vclo_any (x : Int) (w : World) : Calls Try.prog 75 #[.int .i64 x] w (Ret (.bool (!inV x)) w) := by
  go_enter Try.func75, Try.ntmps75
  go_wp2_with fail
  refine (in_any x 0 3 _).mono ?_
  rintro e w1 ⟨rfl, rfl⟩
  go_wp2_with fail
  go_ret
  exact Ret.mk rfl (Below.refl _ _)

def IxV (bad : Bool) (w : World) (e : Ending) (w' : World) : Prop := ∃ i : Int, e = .returned (.int .i64 i) ∧ decide (0 ≤ i) = bad ∧ Below w.heap.size w w'

set_option maxHeartbeats 1000000 in
theorem vix_any (l : List Int) (w : World) (a : Option Addr) (c : Nat) (hl : IntsIn Any w a l) (hc : l.length ≤ c) (hc2 : c ≤ maxLen) :
    Calls Try.prog 90 #[.slice a l.length c, .func (.func 75) #[] #[]] w (IxV (!l.all inV) w) := by
  unfold maxLen at hc2
  go_enter Try.func90, Try.ntmps90
  go_wp2_with fail
  go_loopw [5, 8] (fun _ i wr => ∃ j : Nat, j ≤ l.length ∧ i = .int .i64 j ∧ Below w.heap.size w wr ∧ Hid ((l.drop j).all inV = l.all inV)) (fun _ i _ => l.length - (intOf i).toNat)
  case atStart => exact ⟨0, Nat.zero_le _, rfl, Below.refl _ _, hid rfl⟩
  case round =>
    obtain ⟨j, hj, rfl, B, hr⟩ := hrel
    by_cases hlt : j < l.length
    · obtain ⟨b, o, rfl, hb, _, g0, hi⟩ := ints_at hl B hlt
      have HR2 := hr.out
      rw [List.drop_eq_getElem_cons hlt, List.all_cons] at HR2
      have HR := hid HR2; clear HR2
      have hlt2 : (j : Int) < (l.length : Int) := by omega
      generalize l[j] = x at *
      go_wp2_with fail
      refine (vclo_any x _).mono ?_
      rintro e w2 ⟨rfl, hb2⟩
      replace B := below_next B hb2
      clear hb2
      cases hq : inV x with
      | true =>
        have HR3 := HR.out
        rw [hq, Bool.true_and] at HR3
        have HR4 := hid HR3; clear HR3 hq
        go_wp2_with fail
        go_roundw
        case rel => exact ⟨j + 1, by omega, by go_num, B, HR4⟩
        case measure => simp [intOf]; omega
      | false =>
        have HR3 := HR.out
        rw [hq, Bool.false_and] at HR3
        have HR4 := hid HR3; clear HR3 hq
        go_wp2_with fail
        go_ret
        exact ⟨j, rfl, by rw [← HR4.out]; simp, B⟩
    · have HR2 := hr.out
      rw [List.drop_of_length_le (by omega), List.all_nil] at HR2
      have HR := hid HR2; clear HR2
      have hlt2 : ¬ ((j : Int) < (l.length : Int)) := by omega
      go_wp2_with fail
      go_ret
      exact ⟨-1, rfl, by rw [← HR.out]; simp, B⟩

set_option maxHeartbeats 400000 in
theorem vcf_any (l : List Int) (w : World) (a : Option Addr) (c : Nat) (hl : IntsIn Any w a l) (hc : l.length ≤ c) (hc2 : c ≤ maxLen) :
    Calls Try.prog 74 #[.slice a l.length c, .func (.func 75) #[] #[]] w (Ret (.bool (!l.all inV)) w) := by
  have HH := hid (vix_any l w a c hl hc hc2)
  go_enter Try.func74, Try.ntmps74
  go_wp2_with fail
  refine HH.out.mono ?_
  rintro e w2 ⟨i, rfl, hi, hb⟩
  have HI := hid hi; clear hi
  go_wp2_with fail
  go_ret
  exact Ret.mk (bool_val HI.out) hb

set_option maxHeartbeats 400000 in
theorem vals_any (l : List Int) (w : World) (a : Option Addr) (c : Nat) (hl : IntsIn Any w a l) (hc : l.length ≤ c) (hc2 : c ≤ maxLen) :
    Calls Try.prog 48 #[.slice a l.length c] w (Ret (.bool (okVals l)) w) := by
  by_cases h3 : l.length = 3
  · have E := hid (show okVals l = l.all inV by rw [okVals, decide_eq_true h3, Bool.and_true])
    have e3 : ((l.length : Int) == 3) = true := by rw [beq_iff_eq]; omega
    have HH := hid (vcf_any l w a c hl hc hc2)
    clear h3
    go_enter Try.func48, Try.ntmps48
    go_wp2_with fail
    refine HH.out.mono ?_
    rintro e w2 ⟨rfl, hb⟩
    go_wp2_with fail
    go_ret
    exact Ret.mk (bool_val (by rw [E.out])) hb
  · have E := hid (show okVals l = false by rw [okVals, decide_eq_false h3, Bool.and_false])
    have e3 : ((l.length : Int) == 3) = false := by rw [beq_eq_false_iff_ne]; omega
    clear h3
    go_enter Try.func48, Try.ntmps48
    go_wp2_with fail
    go_ret
    exact Ret.mk (bool_val E.out.symm) (Below.refl _ _)

end Expr
end Go.Proofs.Ytffadknollkgiaa
namespace Go.Proofs.Ytffadknollkgiaa
open Go.RowKit
set_option linter.unusedVariables false
namespace Sys

/-- a valid process; a valid system -/
def okP (q : Pr) : Bool := q.edges.all (fun e => Edge.okB e q.locs) && (decide (1 ≤ q.locs) && (decide (q.locs ≤ 4) && decide (q.edges.length ≤ 6)))
def okSy (s : Sy) : Bool := s.procs.all okP && (Expr.okVals s.init && (decide (1 ≤ s.procs.length) && decide (s.procs.length ≤ 3)))

set_option maxRecDepth 100000 in
set_option maxHeartbeats 2000000 in
theorem specP_any (q : Pr) (w : World) (x : Value) (hx : PrIn Any w q x) : Calls Try.prog 51 #[x] w (Ret (.bool (okP q)) w) := by
  obtain ⟨a, c, rfl, hi, hc, hc2, he⟩ := hx
  have HE := hid he
  unfold i64 at hi
  unfold maxLen at hc2
  have E := hid (show okP q = (q.edges.all (fun e => Edge.okB e q.locs) && (decide (1 ≤ q.locs) && (decide (q.locs ≤ 4) && decide (q.edges.length ≤ 6)))) from rfl)
  generalize okP q = r at *
  clear he
  go_enter Try.func51, Try.ntmps51
  go_wp2_with fail
  go_loopw [3] (fun i wr => ∃ j : Nat, j ≤ q.edges.length ∧ i = .int .i64 j ∧ Hid (Below w.heap.size w wr) ∧ Box2 wr w.heap.size (.int .i64 q.locs) (.slice a q.edges.length c) ∧ Hid ((q.edges.drop j).all (fun e => Edge.okB e q.locs) = q.edges.all (fun e => Edge.okB e q.locs))) (fun i _ => q.edges.length - (intOf i).toNat)
  case atStart => exact ⟨0, Nat.zero_le _, rfl, hid (below_alloc _ _), box2_at rfl, hid rfl⟩
  case round =>
    obtain ⟨j, hj, rfl, B, bx, hr⟩ := hrel
    have BX := hid bx
    obtain ⟨p0, p1, p2, p3, p4⟩ := bx
    by_cases hlt : j < q.edges.length
    · obtain ⟨b, o, rfl, _, hb, a1, c1, a2, c2, ⟨g0, g1, g2, g3, g4, g5, g6, g7, g8, g9⟩, hT⟩ := SeqIn.at (EdsIn.below HE.out B.out) hlt
      have HT := hid hT
      have HR2 := hr.out
      rw [List.drop_eq_getElem_cons hlt, List.all_cons] at HR2
      have HR := hid HR2
      clear HR2 hr hT
      have hlt2 : (j : Int) < (q.edges.length : Int) := by omega
      generalize q.edges[j] = e at *
      have HC := hid (fun (W : World) (M : Below wr.heap.size wr W) => Edge.specEdge_any e q.locs W _ (EdIn_below M HT.out))
      cases hq : Edge.okB e q.locs with
      | true =>
        have HR3 := HR.out
        rw [hq, Bool.true_and] at HR3
        have HR4 := hid HR3
        rw [hq] at HC
        clear HR3 hq HR
        go_wp2_with fail
        refine wp_region_over (by kernel_rfl) (by kernel_rfl) ?_; (repeat (go_big_quiet_step ((go_at_call 12; exact Calls.over (HC.out _ (over_below _ _)))))); refine wpQuiet_nil ?_; rintro _ ⟨xq, rfl⟩
        have B2 := hid (below_next B.out (over_below wr xq))
        replace BX := hid (box2_next (over_below wr xq) BX.out)
        clear p0 p1 p2 p3 p4 g0 g1 g2 g3 g4 g5 g6 g7 g8 g9
        go_wp2_with fail
        go_roundw
        case rel => exact ⟨j + 1, by omega, by go_num, B2, BX.out, HR4⟩
        case measure => simp [intOf]; omega
      | false =>
        have HR3 := HR.out
        rw [hq, Bool.false_and] at HR3
        have E2 := hid (show r = false by rw [E.out, ← HR3]; rfl)
        rw [hq] at HC
        clear HR3 hq HR
        go_wp2_with fail
        refine wp_region_over (by kernel_rfl) (by kernel_rfl) ?_; (repeat (go_big_quiet_step ((go_at_call 12; exact Calls.over (HC.out _ (over_below _ _)))))); refine wpQuiet_nil ?_; rintro _ ⟨xq, rfl⟩
        have B2 := hid (below_next B.out (over_below wr xq))
        clear p0 p1 p2 p3 p4 g0 g1 g2 g3 g4 g5 g6 g7 g8 g9
        go_wp2_with fail
        go_ret
        exact Ret.mk (bool_val E2.out.symm) B2.out
    · have HR2 := hr.out
      rw [List.drop_of_length_le (by omega), List.all_nil] at HR2
      have hlt2 : ¬ ((j : Int) < (q.edges.length : Int)) := by omega
      have E2 := hid (show r = (decide (1 ≤ q.locs) && (decide (q.locs ≤ 4) && decide (q.edges.length ≤ 6))) by rw [E.out, ← HR2, Bool.true_and])
      clear HR2 hr E
      by_cases k1 : q.locs ≥ 1
      · by_cases k2 : q.locs ≤ 4
        · have E3 := hid (show r = decide ((q.edges.length : Int) ≤ 6) by rw [E2.out, decide_eq_true (show 1 ≤ q.locs from k1), decide_eq_true k2]; simp; omega)
          go_wp2_with fail
          go_ret
          exact Ret.mk (bool_val E3.out.symm) B.out
        · have E3 := hid (show r = false by rw [E2.out, decide_eq_false k2]; simp)
          go_wp2_with fail
          go_ret
          exact Ret.mk (bool_val E3.out.symm) B.out
      · have E3 := hid (show r = false by rw [E2.out, decide_eq_false (show ¬ 1 ≤ q.locs from k1)]; simp)
        go_wp2_with fail
        go_ret
        exact Ret.mk (bool_val E3.out.symm) B.out

set_option maxRecDepth 100000 in
set_option maxHeartbeats 2000000 in
theorem specValid_any (s : Sy) (w : World) (x : Value) (hx : SyIn Any w s x) : Calls Try.prog 16 #[x] w (Ret (.bool (okSy s)) w) := by
  obtain ⟨a, c, b, d, rfl, hc, hc2, hi, hd, hd2, hp⟩ := hx
  have HP := hid hp
  have HV := hid (fun (W : World) (M : Below w.heap.size w W) => Expr.specVals_any s.init W a c (hi.below M) hc hc2)
  unfold maxLen at hd2
  have E := hid (show okSy s = (s.procs.all okP && (Expr.okVals s.init && (decide (1 ≤ s.procs.length) && decide (s.procs.length ≤ 3)))) from rfl)
  generalize okSy s = r at *
  generalize Expr.okVals s.init = ov at *
  clear hp hi
  go_enter Try.func16, Try.ntmps16
  go_wp2_with fail
  go_loopw [3] (fun i wr => ∃ j : Nat, j ≤ s.procs.length ∧ i = .int .i64 j ∧ Hid (Below w.heap.size w wr) ∧ Box2 wr w.heap.size (.slice a s.init.length c) (.slice b s.procs.length d) ∧ Hid ((s.procs.drop j).all okP = s.procs.all okP)) (fun i _ => s.procs.length - (intOf i).toNat)
  case atStart => exact ⟨0, Nat.zero_le _, rfl, hid (below_alloc _ _), box2_at rfl, hid rfl⟩
  case round =>
    obtain ⟨j, hj, rfl, B, bx, hr⟩ := hrel
    have BX := hid bx
    obtain ⟨p0, p1, p2, p3, p4⟩ := bx
    by_cases hlt : j < s.procs.length
    · obtain ⟨b', o, rfl, _, hb, a1, c1, ⟨g0, g1⟩, hT⟩ := SeqIn.at (PrsIn.below HP.out B.out) hlt
      have HT := hid hT
      have HR2 := hr.out
      rw [List.drop_eq_getElem_cons hlt, List.all_cons] at HR2
      have HR := hid HR2
      clear HR2 hr hT
      have hlt2 : (j : Int) < (s.procs.length : Int) := by omega
      generalize s.procs[j] = q at *
      have HC := hid (specP_any q wr _ HT.out)
      cases hq : okP q with
      | true =>
        have HR3 := HR.out
        rw [hq, Bool.true_and] at HR3
        have HR4 := hid HR3
        rw [hq] at HC
        clear HR3 hq HR
        go_wp2_with fail
        refine HC.out.mono ?_
        rintro y w2 ⟨rfl, hb2⟩
        have B2 := hid (below_next B.out hb2)
        replace BX := hid (box2_next hb2 BX.out)
        clear p0 p1 p2 p3 p4 g0 g1 hb2
        go_wp2_with fail
        go_roundw
        case rel => exact ⟨j + 1, by omega, by go_num, B2, BX.out, HR4⟩
        case measure => simp [intOf]; omega
      | false =>
        have HR3 := HR.out
        rw [hq, Bool.false_and] at HR3
        have E2 := hid (show r = false by rw [E.out, ← HR3]; rfl)
        rw [hq] at HC
        clear HR3 hq HR
        go_wp2_with fail
        refine HC.out.mono ?_
        rintro y w2 ⟨rfl, hb2⟩
        have B2 := hid (below_next B.out hb2)
        clear p0 p1 p2 p3 p4 g0 g1 hb2
        go_wp2_with fail
        go_ret
        exact Ret.mk (bool_val E2.out.symm) B2.out
    · have HR2 := hr.out
      rw [List.drop_of_length_le (by omega), List.all_nil] at HR2
      have hlt2 : ¬ ((j : Int) < (s.procs.length : Int)) := by omega
      have E2 := hid (show r = (ov && (decide (1 ≤ s.procs.length) && decide (s.procs.length ≤ 3))) by rw [E.out, ← HR2, Bool.true_and])
      clear HR2 hr E
      go_wp2_with fail
      refine (HV.out _ B.out).mono ?_
      rintro y w2 ⟨rfl, hb2⟩
      have B2 := hid (below_next B.out hb2)
      obtain ⟨p0', p1', p2', p3', p4'⟩ := box2_next hb2 BX.out
      clear p0 p1 p2 p3 p4 hb2
      cases ov
      · have E3 := hid (show r = false by rw [E2.out]; rfl)
        go_wp2_with fail
        go_ret
        exact Ret.mk (bool_val E3.out.symm) B2.out
      · by_cases k1 : (s.procs.length : Int) ≥ 1
        · have E3 := hid (show r = decide ((s.procs.length : Int) ≤ 3) by rw [E2.out, decide_eq_true (show 1 ≤ s.procs.length by omega)]; simp; omega)
          go_wp2_with fail
          go_ret
          exact Ret.mk (bool_val E3.out.symm) B2.out
        · have E3 := hid (show r = false by rw [E2.out, decide_eq_false (show ¬ 1 ≤ s.procs.length by omega)]; simp)
          go_wp2_with fail
          go_ret
          exact Ret.mk (bool_val E3.out.symm) B2.out
end Sys
end Go.Proofs.Ytffadknollkgiaa
