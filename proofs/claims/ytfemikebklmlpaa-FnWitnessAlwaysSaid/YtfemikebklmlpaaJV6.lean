/- Joined texts (EvalPlain, EvalE, ValsV, SysV, SysVI, StatePair, StateV, ReachP, EvalSpec, EvalImpl): contracts and plain laws. Conditions: those of each theorem. -/
import Derived.Test.YtfemikebklmlpaaJV5
import Derived.Test.YtfemikebklmlpaaRows
import Derived.Test.YtfemikebklmlpaaJV0
import Derived.Test.YtfemikebklmlpaaJV4
import Derived.Test.YtfemikebklmlpaaJV1
import Derived.WalkSpells
import Derived.WalkLawsBesides
set_option linter.unusedVariables false
set_option linter.unusedSimpArgs false
namespace Go.Proofs.Ytfemikebklmlpaa

def tr01 (b : Bool) : Int := if b then 1 else 0
/-- a node's value, of the values below -/
def nodeVal (g : Int → Int) (k v : Int) : List Int → Int
  | [] => if k = 1 then v else g v
  | [a] => tr01 (a == 0)
  | a :: b :: _ => if k = 4 then tr01 (a != 0 && b != 0) else if k = 5 then tr01 (a != 0 || b != 0) else if k = 6 then tr01 (a == b) else if k = 7 then tr01 (decide (a < b)) else if k = 8 then (a + b) % 4 else (a - b + 4) % 4
mutual
def evalT (g : Int → Int) : Tr → Int | .mk k v kids => nodeVal g k v (evalTs g kids)
def evalTs (g : Int → Int) : List Tr → List Int | [] => [] | t :: ts => evalT g t :: evalTs g ts
end

theorem tr01_bd (b : Bool) : 0 ≤ tr01 b ∧ tr01 b ≤ 3 := by cases b <;> simp [tr01]
theorem evalT_bd (g : Int → Int) (hg : ∀ v, 0 ≤ v → v ≤ 2 → 0 ≤ g v ∧ g v ≤ 3) : ∀ (n : Nat) (t : Tr), exprL.shape t n = true → 0 ≤ evalT g t ∧ evalT g t ≤ 3 := by
  intro n t h
  cases t with
  | mk k v kids =>
  obtain ⟨m, h1, h2, h3, h4, h5, h6, h7⟩ := exprL.shape_mk h
  rw [exprL_K] at h3
  rw [exprL_most] at h5
  rw [exprL_ar] at h6
  by_cases hk : k = 1
  · subst hk
    obtain rfl := len0 (by simpa using h6)
    simp at h5
    simp [evalT, evalTs, nodeVal, h4, h5]
  by_cases hk2 : k = 2
  · subst hk2
    obtain rfl := len0 (by simpa using h6)
    simp at h5
    simp [evalT, evalTs, nodeVal]
    exact hg v h4 h5
  by_cases hk3 : k = 3
  · subst hk3
    obtain ⟨a, rfl⟩ := len1 (by simpa using h6)
    simp only [evalT, evalTs, nodeVal]
    exact tr01_bd _
  · obtain ⟨a, b, rfl⟩ := len2 (by rw [h6, if_neg (by omega), if_neg (by omega)])
    simp only [evalT, evalTs, nodeVal]
    repeat' split
    all_goals (first | exact tr01_bd _ | omega)

/-! ### variables -/
mutual
/-- does a variable occur -/
def occT (x : Int) : Tr → Bool | .mk k v kids => (k == 2 && v == x) || occL x kids
def occL (x : Int) : List Tr → Bool | [] => false | t :: ts => occT x t || occL x ts
end

/-! ### an expression put for a variable -/
mutual
def subT (x : Int) (y : Tr) : Tr → Tr | .mk k v kids => if k = 2 ∧ v = x then y else .mk k v (subL x y kids)
def subL (x : Int) (y : Tr) : List Tr → List Tr | [] => [] | t :: ts => subT x y t :: subL x y ts
end
theorem subL_map (x : Int) (y : Tr) : ∀ l, subL x y l = l.map (subT x y) | [] => by simp [subL] | t :: ts => by simp [subL, subL_map x y ts]
theorem subL_len (x : Int) (y : Tr) (l : List Tr) : (subL x y l).length = l.length := by rw [subL_map]; simp

end Go.Proofs.Ytfemikebklmlpaa
namespace Go.Proofs.Ytfemikebklmlpaa
open Go.RowKit
namespace Expr

/-- three numbers from 0 to 3 lie there -/
def Vals (w : World) (a : Option Addr) (l : List Int) : Prop := IntsIn Any w a l ∧ l.length = 3 ∧ ∀ n, n ∈ l → 0 ≤ n ∧ n ≤ 3
theorem Vals.below {w w' : World} {a : Option Addr} {l : List Int} (h : Vals w a l) (hb : Below w.heap.size w w') : Vals w' a l := ⟨h.1.below hb, h.2⟩
theorem Vals.cells {w : World} {a : Option Addr} {l : List Int} (h : Vals w a l) : ∃ b o x y z, l = [x, y, z] ∧ a = some ⟨b, o, none⟩ ∧ b < w.heap.size ∧ w.cell? ⟨b, o, none⟩ = some (.int .i64 x) ∧ w.cell? ⟨b, o + 1, none⟩ = some (.int .i64 y) ∧ w.cell? ⟨b, o + 2, none⟩ = some (.int .i64 z) := by
  obtain ⟨h1, h2, h3⟩ := h
  obtain ⟨x, y, z, rfl⟩ : ∃ x y z, l = [x, y, z] := by
    match l, h2 with
    | [x, y, z], _ => exact ⟨x, y, z, rfl⟩
  obtain ⟨b, o, rfl, hb, _, e0, _⟩ := ints_at (k := 0) h1 (Below.refl _ _) (by simp)
  obtain ⟨b', o', hbo, _, _, e1, _⟩ := ints_at (k := 1) h1 (Below.refl _ _) (by simp)
  obtain ⟨b2, o2, hbo2, _, _, e2, _⟩ := ints_at (k := 2) h1 (Below.refl _ _) (by simp)
  simp only [Option.some.injEq, Addr.mk.injEq, and_true] at hbo hbo2
  obtain ⟨rfl, rfl⟩ := hbo
  obtain ⟨rfl, rfl⟩ := hbo2
  exact ⟨b, o, x, y, z, rfl, rfl, hb, e0, e1, e2⟩
def gOf (l : List Int) (v : Int) : Int := l.getD v.toNat 0
theorem Vals.bd {w : World} {a : Option Addr} {l : List Int} (h : Vals w a l) : ∀ v, 0 ≤ v → v ≤ 2 → 0 ≤ gOf l v ∧ gOf l v ≤ 3 := by
  obtain ⟨b, o, x, y, z, rfl, _⟩ := h.cells
  intro v h1 h2
  have := h.2.2
  have hv : v = 0 ∨ v = 1 ∨ v = 2 := by omega
  rcases hv with rfl | rfl | rfl
  · exact this x (by simp)
  · exact this y (by simp)
  · exact this z (by simp)

def EvT (F : Nat) (t : Tr) : Prop := ∀ (n : Nat) (w : World) (x : Value) (a : Option Addr) (l : List Int) (c : Nat), exprL.shape t n = true → TrIn Any w t x → Vals w a l → 3 ≤ c → c ≤ maxLen → Calls Try.prog F #[x, .slice a 3 c] w (Ret (.int .i64 (evalT (gOf l) t)) w)

theorem bool01 (b : Bool) (w : World) : Calls Try.prog 107 #[.bool b] w (RetW (.int .i64 (tr01 b)) w) := by
  cases b
  all_goals
    go_enter Try.func107, Try.ntmps107
    go_wp2_with fail
    go_ret
    exact ⟨rfl, rfl⟩
theorem two_cells {w : World} {t u : Tr} {a : Option Addr} (h : TrsIn Any w [t, u] a) : ∃ b o c0 c1 c2 d0 d1 d2, a = some ⟨b, o, none⟩ ∧ b < w.heap.size ∧ w.cell? ⟨b, o, none⟩ = some c0 ∧ w.cell? ⟨b, o + 1, none⟩ = some c1 ∧ w.cell? ⟨b, o + 2, none⟩ = some c2 ∧
    w.cell? ⟨b, o + 3, none⟩ = some d0 ∧ w.cell? ⟨b, o + 3 + 1, none⟩ = some d1 ∧ w.cell? ⟨b, o + 3 + 2, none⟩ = some d2 ∧ TrIn Any w t (.agg #[c0, c1, c2]) ∧ TrIn Any w u (.agg #[d0, d1, d2]) := by
  rw [TrsIn_cons] at h
  obtain ⟨b, o, c0, c1, c2, rfl, _, g0, g1, g2, hT, h⟩ := h
  rw [TrsIn_cons] at h
  obtain ⟨b', o', d0, d1, d2, hbo, _, f0, f1, f2, hU, _⟩ := h
  simp only [Option.some.injEq, Addr.mk.injEq, and_true] at hbo
  obtain ⟨rfl, rfl⟩ := hbo
  exact ⟨b, o, c0, c1, c2, d0, d1, d2, rfl, blt g0, g0, g1, g2, f0, f1, f2, hT, hU⟩


end Expr
end Go.Proofs.Ytfemikebklmlpaa
namespace Go.Proofs.Ytfemikebklmlpaa
open Go.RowKit
namespace Expr

def inV (n : Int) : Bool := decide (0 ≤ n ∧ n ≤ 3)
/-- three numbers from 0 to 3 -/
def okVals (l : List Int) : Bool := l.all inV && decide (l.length = 3)
theorem okVals_vals {w : World} {a : Option Addr} {l : List Int} (h : okVals l = true) (hl : IntsIn Any w a l) : Vals w a l := by
  rw [okVals, Bool.and_eq_true, decide_eq_true_eq] at h
  exact ⟨hl, h.2, fun n hn => by have := List.all_eq_true.1 h.1 n hn; simpa [inV] using this⟩

set_option maxHeartbeats 1000000 in
theorem specVals_any (l : List Int) (w : World) (a : Option Addr) (c : Nat) (hl : IntsIn Any w a l) (hc : l.length ≤ c) (hc2 : c ≤ maxLen) :
    Calls Try.prog 72 #[.slice a l.length c] w (Ret (.bool (okVals l)) w) := by
  unfold maxLen at hc2
  go_enter Try.func72, Try.ntmps72
  go_wp2_with fail
  go_loopw [3] (fun i wr => ∃ j : Nat, j ≤ l.length ∧ i = .int .i64 j ∧ Below w.heap.size w wr ∧ Hid ((l.drop j).all inV = l.all inV)) (fun i _ => l.length - (intOf i).toNat)
  case atStart => exact ⟨0, Nat.zero_le _, rfl, Below.refl _ _, hid rfl⟩
  case round =>
    obtain ⟨j, hj, rfl, B, hr⟩ := hrel
    by_cases hlt : j < l.length
    · obtain ⟨b, o, rfl, hb, _, g0, hi⟩ := ints_at hl B hlt
      have HR2 := hr.out
      rw [List.drop_eq_getElem_cons hlt, List.all_cons] at HR2
      have HR := hid HR2; clear HR2
      have hlt2 : (j : Int) < (l.length : Int) := by omega
      generalize l[j] = x at *
      by_cases h0 : x < 0
      · have E := hid (show okVals l = false by rw [okVals, ← HR.out]; simp [inV]; omega)
        go_wp2_with fail
        go_ret
        exact Ret.mk (bool_val E.out.symm) B
      · by_cases h3 : x > 3
        · have E := hid (show okVals l = false by rw [okVals, ← HR.out]; simp [inV]; omega)
          go_wp2_with fail
          go_ret
          exact Ret.mk (bool_val E.out.symm) B
        · have HR3 := HR.out
          rw [show inV x = true by simp [inV]; omega, Bool.true_and] at HR3
          have HR4 := hid HR3; clear HR3
          go_wp2_with fail
          go_roundw
          case rel => exact ⟨j + 1, by omega, by go_num, B, HR4⟩
          case measure => simp [intOf]; omega
    · have HR2 := hr.out
      rw [List.drop_of_length_le (by omega), List.all_nil] at HR2
      have hlt2 : ¬ ((j : Int) < (l.length : Int)) := by omega
      have E := hid (show ((l.length : Int) == 3) = okVals l by
        rw [okVals, ← HR2, Bool.true_and, Bool.eq_iff_iff, beq_iff_eq, decide_eq_true_eq]; omega)
      clear HR2
      go_wp2_with fail
      go_ret
      exact Ret.mk (bool_val E.out) B

set_option maxHeartbeats 400000 in
theorem vclo_any (x : Int) (w : World) : Calls Try.prog 92 #[.int .i64 x] w (Ret (.bool (!inV x)) w) := by
  go_enter Try.func92, Try.ntmps92
  go_wp2_with fail
  refine (in_any x 0 3 _).mono ?_
  rintro e w1 ⟨rfl, rfl⟩
  go_wp2_with fail
  go_ret
  exact Ret.mk rfl (Below.refl _ _)

def IxV (bad : Bool) (w : World) (e : Ending) (w' : World) : Prop := ∃ i : Int, e = .returned (.int .i64 i) ∧ decide (0 ≤ i) = bad ∧ Below w.heap.size w w'

set_option maxHeartbeats 1000000 in
theorem vix_any (l : List Int) (w : World) (a : Option Addr) (c : Nat) (hl : IntsIn Any w a l) (hc : l.length ≤ c) (hc2 : c ≤ maxLen) :
    Calls Try.prog 59 #[.slice a l.length c, .func (.func 92) #[] #[]] w (IxV (!l.all inV) w) := by
  unfold maxLen at hc2
  go_enter Try.func59, Try.ntmps59
  go_wp2_with fail
  go_loopw [5, 8] (fun _ i wr => ∃ j : Nat, j ≤ l.length ∧ i = .int .i64 j ∧ Below w.heap.size w wr ∧ Hid ((l.drop j).all inV = l.all inV)) (fun _ i _ => l.length - (intOf i).toNat)
  case atStart => exact ⟨0, Nat.zero_le _, rfl, Below.refl _ _, hid rfl⟩
  case round =>
    obtain ⟨j, hj, rfl, B, hr⟩ := hrel
    by_cases hlt : j < l.length
    · obtain ⟨b, o, rfl, hb, _, g0, hi⟩ := ints_at hl B hlt
      have HR2 := hr.out
      rw [List.drop_eq_getElem_cons hlt, List.all_cons] at HR2
      have HR := hid HR2; clear HR2
      have hlt2 : (j : Int) < (l.length : Int) := by omega
      generalize l[j] = x at *
      go_wp2_with fail
      refine (vclo_any x _).mono ?_
      rintro e w2 ⟨rfl, hb2⟩
      replace B := below_next B hb2
      clear hb2
      cases hq : inV x with
      | true =>
        have HR3 := HR.out
        rw [hq, Bool.true_and] at HR3
        have HR4 := hid HR3; clear HR3 hq
        go_wp2_with fail
        go_roundw
        case rel => exact ⟨j + 1, by omega, by go_num, B, HR4⟩
        case measure => simp [intOf]; omega
      | false =>
        have HR3 := HR.out
        rw [hq, Bool.false_and] at HR3
        have HR4 := hid HR3; clear HR3 hq
        go_wp2_with fail
        go_ret
        exact ⟨j, rfl, by rw [← HR4.out]; simp, B⟩
    · have HR2 := hr.out
      rw [List.drop_of_length_le (by omega), List.all_nil] at HR2
      have HR := hid HR2; clear HR2
      have hlt2 : ¬ ((j : Int) < (l.length : Int)) := by omega
      go_wp2_with fail
      go_ret
      exact ⟨-1, rfl, by rw [← HR.out]; simp, B⟩

set_option maxHeartbeats 400000 in
theorem vcf_any (l : List Int) (w : World) (a : Option Addr) (c : Nat) (hl : IntsIn Any w a l) (hc : l.length ≤ c) (hc2 : c ≤ maxLen) :
    Calls Try.prog 81 #[.slice a l.length c, .func (.func 92) #[] #[]] w (Ret (.bool (!l.all inV)) w) := by
  have HH := hid (vix_any l w a c hl hc hc2)
  go_enter Try.func81, Try.ntmps81
  go_wp2_with fail
  refine HH.out.mono ?_
  rintro e w2 ⟨i, rfl, hi, hb⟩
  have HI := hid hi; clear hi
  go_wp2_with fail
  go_ret
  exact Ret.mk (bool_val HI.out) hb

set_option maxHeartbeats 400000 in
theorem vals_any (l : List Int) (w : World) (a : Option Addr) (c : Nat) (hl : IntsIn Any w a l) (hc : l.length ≤ c) (hc2 : c ≤ maxLen) :
    Calls Try.prog 66 #[.slice a l.length c] w (Ret (.bool (okVals l)) w) := by
  by_cases h3 : l.length = 3
  · have E := hid (show okVals l = l.all inV by rw [okVals, decide_eq_true h3, Bool.and_true])
    have e3 : ((l.length : Int) == 3) = true := by rw [beq_iff_eq]; omega
    have HH := hid (vcf_any l w a c hl hc hc2)
    clear h3
    go_enter Try.func66, Try.ntmps66
    go_wp2_with fail
    refine HH.out.mono ?_
    rintro e w2 ⟨rfl, hb⟩
    go_wp2_with fail
    go_ret
    exact Ret.mk (bool_val (by rw [E.out])) hb
  · have E := hid (show okVals l = false by rw [okVals, decide_eq_false h3, Bool.and_false])
    have e3 : ((l.length : Int) == 3) = false := by rw [beq_eq_false_iff_ne]; omega
    clear h3
    go_enter Try.func66, Try.ntmps66
    go_wp2_with fail
    go_ret
    exact Ret.mk (bool_val E.out.symm) (Below.refl _ _)

end Expr
end Go.Proofs.Ytfemikebklmlpaa
namespace Go.Proofs.Ytfemikebklmlpaa
open Go.RowKit
set_option linter.unusedVariables false
namespace Sys

/-- a valid process; a valid system -/
def okP (q : Pr) : Bool := q.edges.all (fun e => Edge.okB e q.locs) && (decide (1 ≤ q.locs) && (decide (q.locs ≤ 4) && decide (q.edges.length ≤ 6)))
def okSy (s : Sy) : Bool := s.procs.all okP && (Expr.okVals s.init && (decide (1 ≤ s.procs.length) && decide (s.procs.length ≤ 3)))

set_option maxRecDepth 100000 in
set_option maxHeartbeats 2000000 in
theorem specP_any (q : Pr) (w : World) (x : Value) (hx : PrIn Any w q x) : Calls Try.prog 101 #[x] w (Ret (.bool (okP q)) w) := by
  obtain ⟨a, c, rfl, hi, hc, hc2, he⟩ := hx
  have HE := hid he
  unfold i64 at hi
  unfold maxLen at hc2
  have E := hid (show okP q = (q.edges.all (fun e => Edge.okB e q.locs) && (decide (1 ≤ q.locs) && (decide (q.locs ≤ 4) && decide (q.edges.length ≤ 6)))) from rfl)
  generalize okP q = r at *
  clear he
  go_enter Try.func101, Try.ntmps101
  go_wp2_with fail
  go_loopw [3] (fun i wr => ∃ j : Nat, j ≤ q.edges.length ∧ i = .int .i64 j ∧ Hid (Below w.heap.size w wr) ∧ Box2 wr w.heap.size (.int .i64 q.locs) (.slice a q.edges.length c) ∧ Hid ((q.edges.drop j).all (fun e => Edge.okB e q.locs) = q.edges.all (fun e => Edge.okB e q.locs))) (fun i _ => q.edges.length - (intOf i).toNat)
  case atStart => exact ⟨0, Nat.zero_le _, rfl, hid (below_alloc _ _), box2_at rfl, hid rfl⟩
  case round =>
    obtain ⟨j, hj, rfl, B, bx, hr⟩ := hrel
    have BX := hid bx
    obtain ⟨p0, p1, p2, p3, p4⟩ := bx
    by_cases hlt : j < q.edges.length
    · obtain ⟨b, o, rfl, _, hb, a1, c1, a2, c2, ⟨g0, g1, g2, g3, g4, g5, g6, g7, g8, g9⟩, hT⟩ := SeqIn.at (EdsIn.below HE.out B.out) hlt
      have HT := hid hT
      have HR2 := hr.out
      rw [List.drop_eq_getElem_cons hlt, List.all_cons] at HR2
      have HR := hid HR2
      clear HR2 hr hT
      have hlt2 : (j : Int) < (q.edges.length : Int) := by omega
      generalize q.edges[j] = e at *
      have HC := hid (fun (W : World) (M : Below wr.heap.size wr W) => Edge.specEdge_any e q.locs W _ (EdIn_below M HT.out))
      cases hq : Edge.okB e q.locs with
      | true =>
        have HR3 := HR.out
        rw [hq, Bool.true_and] at HR3
        have HR4 := hid HR3
        rw [hq] at HC
        clear HR3 hq HR
        go_wp2_with fail
        refine wp_region_over (by kernel_rfl) (by kernel_rfl) ?_; (repeat (go_big_quiet_step ((go_at_call 106; exact Calls.over (HC.out _ (over_below _ _)))))); refine wpQuiet_nil ?_; rintro _ ⟨xq, rfl⟩
        have B2 := hid (below_next B.out (over_below wr xq))
        replace BX := hid (box2_next (over_below wr xq) BX.out)
        clear p0 p1 p2 p3 p4 g0 g1 g2 g3 g4 g5 g6 g7 g8 g9
        go_wp2_with fail
        go_roundw
        case rel => exact ⟨j + 1, by omega, by go_num, B2, BX.out, HR4⟩
        case measure => simp [intOf]; omega
      | false =>
        have HR3 := HR.out
        rw [hq, Bool.false_and] at HR3
        have E2 := hid (show r = false by rw [E.out, ← HR3]; rfl)
        rw [hq] at HC
        clear HR3 hq HR
        go_wp2_with fail
        refine wp_region_over (by kernel_rfl) (by kernel_rfl) ?_; (repeat (go_big_quiet_step ((go_at_call 106; exact Calls.over (HC.out _ (over_below _ _)))))); refine wpQuiet_nil ?_; rintro _ ⟨xq, rfl⟩
        have B2 := hid (below_next B.out (over_below wr xq))
        clear p0 p1 p2 p3 p4 g0 g1 g2 g3 g4 g5 g6 g7 g8 g9
        go_wp2_with fail
        go_ret
        exact Ret.mk (bool_val E2.out.symm) B2.out
    · have HR2 := hr.out
      rw [List.drop_of_length_le (by omega), List.all_nil] at HR2
      have hlt2 : ¬ ((j : Int) < (q.edges.length : Int)) := by omega
      have E2 := hid (show r = (decide (1 ≤ q.locs) && (decide (q.locs ≤ 4) && decide (q.edges.length ≤ 6))) by rw [E.out, ← HR2, Bool.true_and])
      clear HR2 hr E
      by_cases k1 : q.locs ≥ 1
      · by_cases k2 : q.locs ≤ 4
        · have E3 := hid (show r = decide ((q.edges.length : Int) ≤ 6) by rw [E2.out, decide_eq_true (show 1 ≤ q.locs from k1), decide_eq_true k2]; simp; omega)
          go_wp2_with fail
          go_ret
          exact Ret.mk (bool_val E3.out.symm) B.out
        · have E3 := hid (show r = false by rw [E2.out, decide_eq_false k2]; simp)
          go_wp2_with fail
          go_ret
          exact Ret.mk (bool_val E3.out.symm) B.out
      · have E3 := hid (show r = false by rw [E2.out, decide_eq_false (show ¬ 1 ≤ q.locs from k1)]; simp)
        go_wp2_with fail
        go_ret
        exact Ret.mk (bool_val E3.out.symm) B.out

set_option maxRecDepth 100000 in
set_option maxHeartbeats 2000000 in
theorem specValid_any (s : Sy) (w : World) (x : Value) (hx : SyIn Any w s x) : Calls Try.prog 94 #[x] w (Ret (.bool (okSy s)) w) := by
  obtain ⟨a, c, b, d, rfl, hc, hc2, hi, hd, hd2, hp⟩ := hx
  have HP := hid hp
  have HV := hid (fun (W : World) (M : Below w.heap.size w W) => Expr.specVals_any s.init W a c (hi.below M) hc hc2)
  unfold maxLen at hd2
  have E := hid (show okSy s = (s.procs.all okP && (Expr.okVals s.init && (decide (1 ≤ s.procs.length) && decide (s.procs.length ≤ 3)))) from rfl)
  generalize okSy s = r at *
  generalize Expr.okVals s.init = ov at *
  clear hp hi
  go_enter Try.func94, Try.ntmps94
  go_wp2_with fail
  go_loopw [3] (fun i wr => ∃ j : Nat, j ≤ s.procs.length ∧ i = .int .i64 j ∧ Hid (Below w.heap.size w wr) ∧ Box2 wr w.heap.size (.slice a s.init.length c) (.slice b s.procs.length d) ∧ Hid ((s.procs.drop j).all okP = s.procs.all okP)) (fun i _ => s.procs.length - (intOf i).toNat)
  case atStart => exact ⟨0, Nat.zero_le _, rfl, hid (below_alloc _ _), box2_at rfl, hid rfl⟩
  case round =>
    obtain ⟨j, hj, rfl, B, bx, hr⟩ := hrel
    have BX := hid bx
    obtain ⟨p0, p1, p2, p3, p4⟩ := bx
    by_cases hlt : j < s.procs.length
    · obtain ⟨b', o, rfl, _, hb, a1, c1, ⟨g0, g1⟩, hT⟩ := SeqIn.at (PrsIn.below HP.out B.out) hlt
      have HT := hid hT
      have HR2 := hr.out
      rw [List.drop_eq_getElem_cons hlt, List.all_cons] at HR2
      have HR := hid HR2
      clear HR2 hr hT
      have hlt2 : (j : Int) < (s.procs.length : Int) := by omega
      generalize s.procs[j] = q at *
      have HC := hid (specP_any q wr _ HT.out)
      cases hq : okP q with
      | true =>
        have HR3 := HR.out
        rw [hq, Bool.true_and] at HR3
        have HR4 := hid HR3
        rw [hq] at HC
        clear HR3 hq HR
        go_wp2_with fail
        refine HC.out.mono ?_
        rintro y w2 ⟨rfl, hb2⟩
        have B2 := hid (below_next B.out hb2)
        replace BX := hid (box2_next hb2 BX.out)
        clear p0 p1 p2 p3 p4 g0 g1 hb2
        go_wp2_with fail
        go_roundw
        case rel => exact ⟨j + 1, by omega, by go_num, B2, BX.out, HR4⟩
        case measure => simp [intOf]; omega
      | false =>
        have HR3 := HR.out
        rw [hq, Bool.false_and] at HR3
        have E2 := hid (show r = false by rw [E.out, ← HR3]; rfl)
        rw [hq] at HC
        clear HR3 hq HR
        go_wp2_with fail
        refine HC.out.mono ?_
        rintro y w2 ⟨rfl, hb2⟩
        have B2 := hid (below_next B.out hb2)
        clear p0 p1 p2 p3 p4 g0 g1 hb2
        go_wp2_with fail
        go_ret
        exact Ret.mk (bool_val E2.out.symm) B2.out
    · have HR2 := hr.out
      rw [List.drop_of_length_le (by omega), List.all_nil] at HR2
      have hlt2 : ¬ ((j : Int) < (s.procs.length : Int)) := by omega
      have E2 := hid (show r = (ov && (decide (1 ≤ s.procs.length) && decide (s.procs.length ≤ 3))) by rw [E.out, ← HR2, Bool.true_and])
      clear HR2 hr E
      go_wp2_with fail
      refine (HV.out _ B.out).mono ?_
      rintro y w2 ⟨rfl, hb2⟩
      have B2 := hid (below_next B.out hb2)
      obtain ⟨p0', p1', p2', p3', p4'⟩ := box2_next hb2 BX.out
      clear p0 p1 p2 p3 p4 hb2
      cases ov
      · have E3 := hid (show r = false by rw [E2.out]; rfl)
        go_wp2_with fail
        go_ret
        exact Ret.mk (bool_val E3.out.symm) B2.out
      · by_cases k1 : (s.procs.length : Int) ≥ 1
        · have E3 := hid (show r = decide ((s.procs.length : Int) ≤ 3) by rw [E2.out, decide_eq_true (show 1 ≤ s.procs.length by omega)]; simp; omega)
          go_wp2_with fail
          go_ret
          exact Ret.mk (bool_val E3.out.symm) B2.out
        · have E3 := hid (show r = false by rw [E2.out, decide_eq_false (show ¬ 1 ≤ s.procs.length by omega)]; simp)
          go_wp2_with fail
          go_ret
          exact Ret.mk (bool_val E3.out.symm) B2.out
end Sys
end Go.Proofs.Ytfemikebklmlpaa
namespace Go.Proofs.Ytfemikebklmlpaa
open Go.RowKit
set_option linter.unusedVariables false
namespace Sys

def IxE (bad : Bool) (w : World) (e : Ending) (w' : World) : Prop := ∃ i : Int, e = .returned (.int .i64 i) ∧ decide (0 ≤ i) = bad ∧ Below w.heap.size w w'

end Sys
end Go.Proofs.Ytfemikebklmlpaa
namespace Go.Proofs.Ytfemikebklmlpaa
open Go.RowKit
def szI (l : List Int) (left : Int) : Int := if left - l.length < 0 then -1 else left - l.length
theorem szI_bd {l : List Int} {left : Int} (h2 : left ≤ 1048576) : -1 ≤ szI l left ∧ szI l left ≤ 1048576 := by unfold szI; split <;> omega
theorem szI_len {l : List Int} {left : Int} (h2 : left ≤ 1048576) (h : 0 ≤ szI l left) : l.length ≤ 1048576 := by unfold szI at h; split at h <;> omega
set_option maxHeartbeats 400000 in
theorem szIntS_any (l : List Int) (w : World) (a : Option Addr) (c : Nat) (left : Int) (hl : l.length ≤ maxLen) (h1 : left ≤ 1048576) (h2 : -1 ≤ left) : Calls Try.prog 76 #[.slice a l.length c, .int .i64 left] w (Ret (.int .i64 (szI l left)) w) := by
  unfold maxLen at hl
  by_cases h : left - l.length < 0
  · have E := hid (show szI l left = -1 by rw [szI, if_pos h])
    have f1 : IntKind.i64.wrap (left - (l.length : Int)) = left - l.length := IntWalk.i64_in _ (by omega)
    go_enter Try.func76, Try.ntmps76
    go_wp2_with fail
    go_ret
    exact Ret.mk (int_val (by rw [E.out])) (Below.refl _ _)
  · have E := hid (show szI l left = left - l.length by rw [szI, if_neg h])
    have f1 : IntKind.i64.wrap (left - (l.length : Int)) = left - l.length := IntWalk.i64_in _ (by omega)
    go_enter Try.func76, Try.ntmps76
    go_wp2_with fail
    go_ret
    exact Ret.mk (int_val (by rw [E.out])) (Below.refl _ _)
namespace State
/-- a variable of two cells -/
abbrev PBox (w : World) (B : Nat) (a b : Value) : Prop := B < w.heap.size ∧ w.cell? ⟨B, 0, none⟩ = some a ∧ w.cell? ⟨B, 1, none⟩ = some b ∧ w.frozen? ⟨B, 0, none⟩ = false ∧ w.frozen? ⟨B, 1, none⟩ = false
theorem pbox_next {w w' : World} (h : Below w.heap.size w w') {B : Nat} {a b : Value} (hb : PBox w B a b) : PBox w' B a b :=
  ⟨Nat.lt_of_lt_of_le hb.1 h.size, by rw [h.cell (p := ⟨B, 0, none⟩) hb.1]; exact hb.2.1, by rw [h.cell (p := ⟨B, 1, none⟩) hb.1]; exact hb.2.2.1,
    by rw [h.frozen (p := ⟨B, 0, none⟩) hb.1]; exact hb.2.2.2.1, by rw [h.frozen (p := ⟨B, 1, none⟩) hb.1]; exact hb.2.2.2.2⟩
theorem pbox_at {w : World} {B : Nat} {a b : Value} {t : TypeId} (h : B = w.heap.size) : PBox (w.alloc (.cells #[a, b] t)) B a b := by subst h; exact ⟨by simp, by simp, by simp, by simp, by simp⟩

theorem pbox_set0 {w : World} {B : Nat} {a b : Value} (h : PBox w B a b) (v : Value) : PBox (w.setCell ⟨B, 0, none⟩ v) B v b :=
  ⟨by simpa using h.1, World.cell?_setCell_same _ _ _ h.2.1, by rw [World.cell?_setCell_other _ _ _ _ (by simp)]; exact h.2.2.1, by simpa using h.2.2.2.1, by simpa using h.2.2.2.2⟩
theorem pbox_set1 {w : World} {B : Nat} {a b : Value} (h : PBox w B a b) (v : Value) : PBox (w.setCell ⟨B, 1, none⟩ v) B a v :=
  ⟨by simpa using h.1, by rw [World.cell?_setCell_other _ _ _ _ (by simp)]; exact h.2.1, World.cell?_setCell_same _ _ _ h.2.2.1, by simpa using h.2.2.2.1, by simpa using h.2.2.2.2⟩
theorem pbox_but {w w' : World} {D : Nat} (h : But w D w') {B : Nat} {a b : Value} (hd : B ≠ D) (hb : PBox w B a b) : PBox w' B a b :=
  ⟨Nat.lt_of_lt_of_le hb.1 h.size, by rw [h.cell hb.1 hd]; exact hb.2.1, by rw [h.cell hb.1 hd]; exact hb.2.2.1, by rw [h.frozen hb.1 hd]; exact hb.2.2.2.1, by rw [h.frozen hb.1 hd]; exact hb.2.2.2.2⟩
theorem pbox_set {w : World} {B D : Nat} {a b : Value} (h : PBox w B a b) (hd : B ≠ D) (i : Nat) (v : Value) : PBox (w.setCell ⟨D, i, none⟩ v) B a b := pbox_but (But.set w D i v) hd h

/-- two rows of numbers -/
def PairIn (p : Nat → Prop) (w : World) (l m : List Int) (v : Value) : Prop := ∃ a b c d, v = .agg #[.slice a l.length c, .slice b m.length d] ∧ IntsIn p w a l ∧ IntsIn p w b m ∧ l.length ≤ c ∧ c ≤ maxLen ∧ m.length ≤ d ∧ d ≤ maxLen
theorem PairIn.below {p : Nat → Prop} {w w' : World} {l m : List Int} {v : Value} (h : PairIn p w l m v) (hb : Below w.heap.size w w') : PairIn p w' l m v := by
  obtain ⟨a, b, c, d, rfl, h1, h2, h3⟩ := h
  exact ⟨a, b, c, d, rfl, h1.below hb, h2.below hb, h3⟩
/-- two rows of one's own -/
def NewPair (B : Nat) (l m : List Int) (v : Value) (w : World) : Prop := ∃ R1 R2, v = .agg #[.slice (some ⟨R1, 0, none⟩) l.length l.length, .slice (some ⟨R2, 0, none⟩) m.length m.length] ∧ B ≤ R1 ∧ R1 < R2 ∧ Row w R1 l.length (fun i => .int .i64 (l.getD i 0)) ∧ Row w R2 m.length (fun i => .int .i64 (m.getD i 0))
theorem NewPair.any {B : Nat} {l m : List Int} {v : Value} {w : World} (h : NewPair B l m v w) (hl : ∀ n, n ∈ l → i64 n) (hm : ∀ n, n ∈ m → i64 n) (h1 : l.length ≤ maxLen) (h2 : m.length ≤ maxLen) : PairIn Any w l m v := by
  obtain ⟨R1, R2, rfl, _, _, r1, r2⟩ := h
  exact ⟨_, _, _, _, rfl, r1.ints hl trivial, r2.ints hm trivial, Nat.le_refl _, h1, Nat.le_refl _, h2⟩

def szP (l m : List Int) (left : Int) : Int := if szI l left < 0 then -1 else szI m (szI l left)
theorem szP_bd {l m : List Int} {left : Int} (h2 : left ≤ 1048576) : -1 ≤ szP l m left ∧ szP l m left ≤ 1048576 := by
  have h3 := szI_bd (l := l) h2
  unfold szP
  split
  · omega
  · exact szI_bd h3.2
theorem szP_len {l m : List Int} {left : Int} (h2 : left ≤ 1048576) (h : 0 ≤ szP l m left) : l.length ≤ 1048576 ∧ m.length ≤ 1048576 := by
  have h3 := szI_bd (l := l) h2
  unfold szP at h
  split at h
  · omega
  · exact ⟨szI_len h2 (by omega), szI_len h3.2 h⟩
set_option maxHeartbeats 1000000 in
theorem sz_any (l m : List Int) (w : World) (x : Value) (left : Int) (hx : PairIn Any w l m x) (h1 : left ≤ 1048576) (h2 : -1 ≤ left) : Calls Try.prog 75 #[x, .int .i64 left] w (Ret (.int .i64 (szP l m left)) w) := by
  obtain ⟨a, b, c, d, rfl, _, _, hc, hc2, hd, hd2⟩ := hx
  have hl := Nat.le_trans hc hc2
  have hm := Nat.le_trans hd hd2
  have h3 := szI_bd (l := l) h1
  have HG := hid (fun w' => szIntS_any l w' a c left hl h1 h2)
  have HV := hid (fun w' => szIntS_any m w' b d (szI l left) hm h3.2 h3.1)
  have h4 := szI_bd (l := m) h3.2
  have E := hid (show szP l m left = if szI l left < 0 then -1 else szI m (szI l left) from rfl)
  generalize szI l left = g at *
  generalize szI m g = v at *
  by_cases k1 : g < 0
  · have E2 := hid (show szP l m left = -1 by rw [E.out, if_pos k1])
    go_enter Try.func75, Try.ntmps75
    go_wp2_with fail
    refine (HG.out _).mono ?_
    rintro y w1 ⟨rfl, hb⟩
    go_wp2_with fail
    go_ret
    exact Ret.mk (int_val (by rw [E2.out])) (below_next (below_alloc _ _) hb)
  · have E2 := hid (show szP l m left = v by rw [E.out, if_neg k1])
    go_enter Try.func75, Try.ntmps75
    go_wp2_with fail
    refine (HG.out _).mono ?_
    rintro y w1 ⟨rfl, hb⟩
    obtain ⟨z, q0, q1, q2, q3⟩ := pbox_next hb (pbox_at rfl)
    have B := below_next (below_alloc _ _) hb
    clear hb
    go_wp2_with fail
    refine (HV.out _).mono ?_
    rintro y w2 ⟨rfl, hb⟩
    by_cases k2 : v < 0
    · go_wp2_with fail
      go_ret
      exact Ret.mk (int_val (by rw [E2.out]; omega)) (below_next B hb)
    · go_wp2_with fail
      go_ret
      exact Ret.mk (int_val (by rw [E2.out])) (below_next B hb)

set_option maxHeartbeats 2000000 in
theorem to_any (l m : List Int) (w : World) (x : Value) (hx : PairIn Any w l m x) (hl : l.length ≤ 1048576) (hm : m.length ≤ 1048576) : Calls Try.prog 77 #[x] w (RetP (NewPair w.heap.size l m) w) := by
  obtain ⟨a, b, c, d, rfl, h1, h2, hc, hc2, hd, hd2⟩ := hx
  have HG := hid (fun w' (M : Below w.heap.size w w') => toIntS_any l w' a c (h1.below M) hl hc hc2)
  have HV := hid (fun w' (M : Below w.heap.size w w') => toIntS_any m w' b d (h2.below M) hm hd hd2)
  go_enter Try.func77, Try.ntmps77
  go_wp2_with fail
  refine (HG.out _ (by repeat (first | exact Below.refl _ _ | assumption | refine below_a ?_ _ | refine below_o ?_ _ | refine below_d ?_ | refine below_n ?_ _ | refine below_s ?_ (by first | (simp; done) | (simp; omega) | omega) _))).mono ?_
  rintro y w1 ⟨v1, rfl, ⟨rfl, r1⟩, hb⟩
  have b1 := pbox_next hb (pbox_next (below_alloc _ _) (pbox_next (below_alloc _ _) (pbox_at (w := w) (a := .slice a l.length c) (b := .slice b m.length d) rfl)))
  have b2 := pbox_next hb (pbox_next (below_alloc _ _) (pbox_at (B := w.heap.size + 1) (by simp)))
  have b3 := pbox_next hb (pbox_at (B := w.heap.size + 1 + 1) (by simp))
  have B := below_next (show Below w.heap.size w _ from below_next (below_next (below_alloc _ _) (below_alloc _ _)) (below_alloc _ _)) hb
  clear hb
  simp only [World.size_alloc] at r1
  obtain ⟨x0, x1, x2, x3, x4⟩ := id b1
  obtain ⟨y0, y1, y2, y3, y4⟩ := id b3
  go_wp2_with fail
  have b1' := pbox_set b1 (show w.heap.size ≠ w.heap.size + 1 + 1 by omega) 0 (.slice (some ⟨w.heap.size + 1 + 1 + 1, 0, none⟩) l.length l.length)
  have b2' := pbox_set b2 (show w.heap.size + 1 ≠ w.heap.size + 1 + 1 by omega) 0 (.slice (some ⟨w.heap.size + 1 + 1 + 1, 0, none⟩) l.length l.length)
  have b3' := pbox_set0 b3 (.slice (some ⟨w.heap.size + 1 + 1 + 1, 0, none⟩) l.length l.length)
  have r1' := r1.setOther (a := ⟨w.heap.size + 1 + 1, 0, none⟩) (by simp) (.slice (some ⟨w.heap.size + 1 + 1 + 1, 0, none⟩) l.length l.length)
  have B' : Below w.heap.size w (w1.setCell ⟨w.heap.size + 1 + 1, 0, none⟩ (.slice (some ⟨w.heap.size + 1 + 1 + 1, 0, none⟩) l.length l.length)) := B.setCell (by simp; omega) _
  clear b1 b2 b3 r1 B x0 x1 x2 x3 x4 y0 y1 y2 y3 y4
  refine (HV.out _ B').mono ?_
  rintro y w2 ⟨v2, rfl, ⟨rfl, r2⟩, hb⟩
  have b2 := pbox_next hb b2'
  have b3 := pbox_next hb b3'
  have r1 := r1'.below hb
  have B := below_next B' hb
  have hlt := r1'.1
  clear b1' b2' b3' r1' B' hb
  simp only [World.size_setCell] at r2 hlt
  obtain ⟨x0, x1, x2, x3, x4⟩ := id b2
  obtain ⟨y0, y1, y2, y3, y4⟩ := id b3
  go_wp2_with fail
  have T := pbox_set1 (pbox_set0 (pbox_set b2 (show w.heap.size + 1 ≠ w.heap.size + 1 + 1 by omega) 1 (.slice (some ⟨w1.heap.size, 0, none⟩) m.length m.length)) (.slice (some ⟨w.heap.size + 1 + 1 + 1, 0, none⟩) l.length l.length)) (.slice (some ⟨w1.heap.size, 0, none⟩) m.length m.length)
  obtain ⟨_, t0, t1, _, _⟩ := T
  refine bodyPost_ret (v := .agg #[.slice (some ⟨w.heap.size + 1 + 1 + 1, 0, none⟩) l.length l.length, .slice (some ⟨w1.heap.size, 0, none⟩) m.length m.length]) (by simp [results, Try.results77, go_sem, t0, t1]) rfl ?_
  exact RetP.mk ⟨_, _, rfl, by omega, by omega, ((r1.setOther (by simp <;> omega) _).setOther (by simp <;> omega) _).setOther (by simp <;> omega) _, ((r2.setOther (by simp; omega) _).setOther (by simp; omega) _).setOther (by simp; omega) _⟩ (((B.setCell (by simp; omega) _).setCell (by simp) _).setCell (by simp) _)

set_option maxHeartbeats 1000000 in
theorem eq_any (l m l' m' : List Int) (w : World) (x y : Value) (hx : PairIn Any w l m x) (hy : PairIn Any w l' m' y) : Calls Try.prog 79 #[x, y] w (Ret (.bool (l == l' && m == m')) w) := by
  obtain ⟨a, b, c, d, rfl, h1, h2, hc, hc2, hd, hd2⟩ := hx
  obtain ⟨a', b', c', d', rfl, h1', h2', hc', hc2', hd', hd2'⟩ := hy
  have HG := hid (fun w' (M : Below w.heap.size w w') => eqIntS_any l l' w' a a' c c' (h1.below M) (h1'.below M) hc hc2 hc' hc2')
  have HV := hid (fun w' (M : Below w.heap.size w w') => eqIntS_any m m' w' b b' d d' (h2.below M) (h2'.below M) hd hd2 hd' hd2')
  generalize (l == l') = g at *
  generalize (m == m') = v at *
  go_enter Try.func79, Try.ntmps79
  go_wp2_with fail
  refine (HG.out _ (by repeat (first | exact Below.refl _ _ | assumption | refine below_a ?_ _ | refine below_o ?_ _ | refine below_d ?_ | refine below_n ?_ _ | refine below_s ?_ (by first | (simp; done) | (simp; omega) | omega) _))).mono ?_
  rintro y w1 ⟨rfl, hb⟩
  obtain ⟨z, q0, q1, q2, q3⟩ := pbox_next hb (pbox_next (below_alloc _ _) (pbox_at rfl))
  obtain ⟨z', r0, r1, r2, r3⟩ := pbox_next hb (pbox_at (B := w.heap.size + 1) (by simp))
  have B := below_next (below_next (below_alloc _ _) (below_alloc _ _)) hb
  clear hb
  cases g
  · go_wp2_with fail
    go_ret
    exact Ret.mk rfl B
  · go_wp2_with fail
    refine (HV.out _ B).mono ?_
    rintro y w2 ⟨rfl, hb⟩
    cases v
    · go_wp2_with fail
      go_ret
      exact Ret.mk rfl (below_next B hb)
    · go_wp2_with fail
      go_ret
      exact Ret.mk rfl (below_next B hb)
end State
end Go.Proofs.Ytfemikebklmlpaa
namespace Go.Proofs.Ytfemikebklmlpaa
open Go.RowKit
set_option linter.unusedVariables false
namespace State

/-- is each location one of its process -/
def locsOk : List Int → List Pr → Bool
  | l :: ls, q :: qs => decide (0 ≤ l ∧ l < q.locs) && locsOk ls qs
  | _, _ => true
/-- has a system a state -/
def hasB (s : Sy) (ls vs : List Int) : Bool := decide (ls.length = s.procs.length) && (Expr.okVals vs && locsOk ls s.procs)
def okSt (s : Sy) (ls vs : List Int) : Bool := Sys.okSy s && hasB s ls vs
theorem locsOk_drop {ls : List Int} {qs : List Pr} {j : Nat} (h1 : j < ls.length) (h2 : j < qs.length) : locsOk (ls.drop j) (qs.drop j) = (decide (0 ≤ ls[j] ∧ ls[j] < qs[j].locs) && locsOk (ls.drop (j + 1)) (qs.drop (j + 1))) := by
  rw [List.drop_eq_getElem_cons h1, List.drop_eq_getElem_cons h2]; rfl

theorem okSy_locs {s : Sy} (h : Sys.okSy s = true) : ∀ q, q ∈ s.procs → 1 ≤ q.locs := fun q hq => by
  rw [Sys.okSy, Bool.and_eq_true, List.all_eq_true] at h
  have := h.1 q hq
  rw [Sys.okP] at this
  simp only [Bool.and_eq_true, decide_eq_true_eq] at this
  exact this.2.1

end State
end Go.Proofs.Ytfemikebklmlpaa
namespace Go.Proofs.Ytfemikebklmlpaa
namespace Sys

noncomputable def decP (p : Prop) : Bool := @decide p (Classical.propDecidable p)
theorem decP_iff {p : Prop} : decP p = true ↔ p := @decide_eq_true_iff p (Classical.propDecidable p)
/-- a location that is reached -/
inductive Rch (es : List Ed) : Nat → Prop where
  | zero : Rch es 0
  | step (e : Ed) (he : e ∈ es) (h : Rch es e.src.toNat) : Rch es e.dst.toNat
noncomputable def rchB (es : List Ed) (k : Nat) : Bool := decP (Rch es k)
/-- closed under the edges -/
def Clo (es : List Ed) (o : Nat → Bool) : Prop := ∀ e, e ∈ es → o e.src.toNat = true → o e.dst.toNat = true
theorem clo_done {es : List Ed} {o : Nat → Bool} (h0 : o 0 = true) (hs : ∀ k, o k = true → Rch es k) (hc : Clo es o) (k : Nat) : o k = rchB es k := by
  rw [Bool.eq_iff_iff, rchB, decP_iff]
  refine ⟨hs k, fun h => ?_⟩
  induction h with
  | zero => exact h0
  | step e he _ ih => exact hc e he ih
def updB (o : Nat → Bool) (k : Nat) (v : Bool) : Nat → Bool := fun j => if j = k then v else o j
theorem updB_same (o : Nat → Bool) (k : Nat) : updB o k (o k) = o := by
  funext j; unfold updB; split
  · rename_i e; rw [e]
  · rfl
/-- how many edges lead into the set -/
def cntE (es : List Ed) (o : Nat → Bool) : Nat := es.countP fun e => o e.dst.toNat
theorem cntE_le (es : List Ed) (o : Nat → Bool) : cntE es o ≤ es.length := List.countP_le_length
theorem cntE_mono {es : List Ed} {o o' : Nat → Bool} (h : ∀ k, o k = true → o' k = true) : cntE es o ≤ cntE es o' := List.countP_mono_left fun e _ he => h _ he
theorem cntE_lt {es : List Ed} {o o' : Nat → Bool} (h : ∀ k, o k = true → o' k = true) {e : Ed} (he : e ∈ es) (h1 : o e.dst.toNat = false) (h2 : o' e.dst.toNat = true) : cntE es o < cntE es o' := by
  induction es with
  | nil => cases he
  | cons x xs ih =>
    have hm : cntE xs o ≤ cntE xs o' := cntE_mono h
    simp only [cntE, List.countP_cons] at hm ⊢
    cases he with
    | head => rw [h1, h2]; simp; omega
    | tail _ he =>
      have := ih he
      simp only [cntE] at this
      by_cases hx : o x.dst.toNat = true
      · rw [hx, h _ hx]; simp; omega
      · rw [Bool.eq_false_iff.2 hx]; simp; omega
theorem cntE_all {es : List Ed} {o : Nat → Bool} (h : es.length ≤ cntE es o) : Clo es o := by
  have h2 : cntE es o = es.length := Nat.le_antisymm (cntE_le es o) h
  unfold cntE at h2
  rw [List.countP_eq_length] at h2
  exact fun e he _ => h2 e he

/-- one sweep of the program over the edges, behind the first j of them -/
structure RRel (es : List Ed) (o0 : Nat → Bool) (j : Nat) (o : Nat → Bool) : Prop where
  sub : ∀ k, o0 k = true → o k = true
  snd : ∀ k, o k = true → Rch es k
  pr : (o = o0 ∧ ∀ e, e ∈ es.take j → o e.src.toNat = true → o e.dst.toNat = true) ∨ cntE es o0 < cntE es o
theorem RRel.start {es : List Ed} {o : Nat → Bool} (h : ∀ k, o k = true → Rch es k) : RRel es o 0 o := ⟨fun _ h => h, h, .inl ⟨rfl, by simp⟩⟩
theorem RRel.step {es : List Ed} {o0 o : Nat → Bool} {j : Nat} (h : RRel es o0 j o) (hj : j < es.length) : RRel es o0 (j + 1) (updB o es[j].dst.toNat (o es[j].dst.toNat || o es[j].src.toNat)) := by
  have hm : es[j] ∈ es := List.getElem_mem hj
  have htk : es.take (j + 1) = es.take j ++ [es[j]] := by rw [List.take_add_one, List.getElem?_eq_getElem hj]; rfl
  by_cases h1 : o es[j].dst.toNat = true
  · rw [h1, Bool.true_or]
    have e0 : updB o es[j].dst.toNat true = o := by rw [← h1]; exact updB_same _ _
    rw [e0]
    refine ⟨h.sub, h.snd, ?_⟩
    rcases h.pr with ⟨h2, h3⟩ | h2
    · refine .inl ⟨h2, fun e he hs => ?_⟩
      rw [htk] at he
      rcases List.mem_append.1 he with he | he
      · exact h3 e he hs
      · obtain rfl : e = es[j] := by simpa using he
        exact h1
    · exact .inr h2
  · have h1' : o es[j].dst.toNat = false := Bool.eq_false_iff.2 h1
    by_cases h2 : o es[j].src.toNat = true
    · rw [h1', h2, Bool.or_true]
      have hup : ∀ k, o k = true → updB o es[j].dst.toNat true k = true := fun k hk => by unfold updB; split; rfl; exact hk
      refine ⟨fun k hk => hup k (h.sub k hk), fun k hk => ?_, .inr ?_⟩
      · unfold updB at hk
        split at hk
        · rename_i e; rw [e]; exact .step _ hm (h.snd _ h2)
        · exact h.snd k hk
      · have := cntE_lt hup hm h1' (by simp [updB])
        have h4 := cntE_mono (es := es) h.sub
        omega
    · have h2' : o es[j].src.toNat = false := Bool.eq_false_iff.2 h2
      rw [h2', Bool.or_false, updB_same]
      refine ⟨h.sub, h.snd, ?_⟩
      rcases h.pr with ⟨h3, h4⟩ | h3
      · refine .inl ⟨h3, fun e he hs => ?_⟩
        rw [htk] at he
        rcases List.mem_append.1 he with he | he
        · exact h4 e he hs
        · obtain rfl : e = es[j] := by simpa using he
          exact absurd hs h2
      · exact .inr h3
/-- behind r sweeps -/
structure RRound (es : List Ed) (r : Nat) (o : Nat → Bool) : Prop where
  zero : o 0 = true
  snd : ∀ k, o k = true → Rch es k
  pr : Clo es o ∨ r ≤ cntE es o
theorem RRound.next {es : List Ed} {r : Nat} {o0 o : Nat → Bool} (h0 : RRound es r o0) (h : RRel es o0 es.length o) : RRound es (r + 1) o := by
  refine ⟨h.sub 0 h0.zero, h.snd, ?_⟩
  rcases h.pr with ⟨h1, h2⟩ | h1
  · exact .inl fun e he => h2 e (by rw [List.take_of_length_le (Nat.le_refl _)]; exact he)
  · rcases h0.pr with hc | hc
    · -- closed before: nothing can have been added
      exfalso
      have hsub : ∀ k, o k = true → o0 k = true := fun k hk => by
        have := h.snd k hk
        have e := clo_done h0.zero h0.snd hc k
        rw [e, rchB, decP_iff]; exact this
      have := cntE_mono (es := es) hsub
      omega
    · exact .inr (by omega)
theorem RRound.done {es : List Ed} {o : Nat → Bool} (h : RRound es es.length o) (k : Nat) : o k = rchB es k :=
  clo_done h.zero h.snd (by rcases h.pr with h | h; exact h; exact cntE_all h) k

/-- which locations of a process of n are reached -/
noncomputable def rchL (q : Pr) : List Bool := (List.range q.locs.toNat).map fun (i : Nat) => rchB q.edges i
theorem rchL_len (q : Pr) : (rchL q).length = q.locs.toNat := by simp [rchL]
theorem rchL_at {q : Pr} {i : Nat} (h : i < q.locs.toNat) : (rchL q)[i]? = some (rchB q.edges i) := by simp [rchL, h]
/-- what SystemReach returns -/
noncomputable def reachV (s : Sy) (n : Int) : List Bool := if okSy s = true ∧ 0 ≤ n ∧ n < s.procs.length then rchL (s.procs.getD n.toNat ⟨0, []⟩) else []
theorem okP_locs {q : Pr} (h : okP q = true) : 1 ≤ q.locs ∧ q.locs ≤ 4 ∧ q.edges.length ≤ 6 ∧ ∀ e, e ∈ q.edges → 0 ≤ e.src ∧ e.src < q.locs ∧ 0 ≤ e.dst ∧ e.dst < q.locs := by
  rw [okP] at h
  simp only [Bool.and_eq_true, decide_eq_true_eq, List.all_eq_true] at h
  obtain ⟨h1, h2, h3, h4⟩ := h
  refine ⟨h2, h3, h4, fun e he => ?_⟩
  have := h1 e he
  rw [Edge.okB] at this
  simp only [Bool.and_eq_true, decide_eq_true_eq] at this
  omega
theorem okSy_procs {s : Sy} (h : okSy s = true) : s.procs.length ≤ 3 ∧ ∀ q, q ∈ s.procs → okP q = true := by
  rw [okSy] at h
  simp only [Bool.and_eq_true, decide_eq_true_eq, List.all_eq_true] at h
  exact ⟨h.2.2.2, h.1⟩
theorem reachV_len (s : Sy) (n : Int) : (reachV s n).length ≤ 1000 := by
  unfold reachV
  split
  · rename_i h
    obtain ⟨h1, h2, h3⟩ := h
    have hn : n.toNat < s.procs.length := by omega
    have hg : s.procs.getD n.toNat ⟨0, []⟩ = s.procs[n.toNat] := by rw [List.getD_eq_getElem?_getD, List.getElem?_eq_getElem hn]; rfl
    have := okP_locs ((okSy_procs h1).2 _ (List.getElem_mem hn))
    rw [rchL_len, hg]; omega
  · simp
end Sys
end Go.Proofs.Ytfemikebklmlpaa
namespace Go.Proofs.Ytfemikebklmlpaa
open Go.RowKit
namespace Expr

set_option maxHeartbeats 1000000 in
theorem sv_leaf (k v : Int) (hk : (k = 1 ∧ 0 ≤ v ∧ v ≤ 3) ∨ (k = 2 ∧ (v = 0 ∨ v = 1 ∨ v = 2))) : EvT 102 (.mk k v []) := by
  intro n w x a l c hs hx hv hc hc2
  rw [TrIn_mk] at hx
  obtain ⟨a', n', c', rfl, _, _, rfl, hc', hc2', hks⟩ := hx
  obtain ⟨b, o, x, y, z, rfl, rfl, hb, g0, g1, g2⟩ := hv.cells
  unfold maxLen at hc2
  clear hs hks hv
  simp only [List.length_nil] at hc' ⊢
  rcases hk with ⟨rfl, hv⟩ | ⟨rfl, rfl | rfl | rfl⟩
  all_goals
    go_enter Try.func102, Try.ntmps102
    go_wp2_with fail
    go_ret
    exact Ret.mk (int_val (by simp [evalT, evalTs, nodeVal, gOf])) (below_alloc _ _)

set_option maxHeartbeats 1000000 in
theorem sv_not (t : Tr) (h : EvT 102 t) : EvT 102 (.mk 3 0 [t]) := by
  intro n w x a l c hs hx hv hc hc2
  obtain ⟨m, rfl, _, _, _, _, _, hkids⟩ := exprL.shape_mk hs
  have E := hid (show evalT (gOf l) (.mk 3 0 [t]) = tr01 (evalT (gOf l) t == 0) from rfl)
  have hkid := hid (hkids t (by simp))
  have hbd := evalT_bd (gOf l) hv.bd m t hkid.out
  rw [TrIn_mk] at hx
  obtain ⟨a', n', c', rfl, _, _, rfl, hc', hc2', hks⟩ := hx
  rw [TrsIn_cons] at hks
  obtain ⟨b, o, c0, c1, c2, rfl, _, g0, g1, g2, hT, _⟩ := hks
  have hb := blt g0
  clear hs hkids
  simp only [List.length_cons, List.length_nil] at hc' ⊢
  go_enter Try.func102, Try.ntmps102
  go_wp2_with fail
  refine (h m _ _ a l c hkid.out (TrIn_alloc hT _) (hv.below (below_alloc _ _)) hc hc2).mono ?_
  rintro e w1 ⟨rfl, hb1⟩
  have b1 := box3_next hb1 (box3_new ..)
  generalize evalT (gOf l) t = A at *
  go_wp2_with fail
  refine (bool01 _ _).mono ?_
  rintro e w2 ⟨rfl, rfl⟩
  go_wp2_with fail
  go_ret
  exact Ret.mk (int_val E.out.symm) (below_next (below_alloc _ _) hb1)

set_option maxHeartbeats 4000000 in
theorem sv_two (k : Int) (hk : k = 4 ∨ k = 5 ∨ k = 6 ∨ k = 7 ∨ k = 8 ∨ k = 9) (t u : Tr) (h : EvT 102 t) (h' : EvT 102 u) : EvT 102 (.mk k 0 [t, u]) := by
  intro n w x a l c hs hx hv hc hc2
  obtain ⟨m, rfl, _, _, _, _, _, hkids⟩ := exprL.shape_mk hs
  have E := hid (show evalT (gOf l) (.mk k 0 [t, u]) = nodeVal (gOf l) k 0 [evalT (gOf l) t, evalT (gOf l) u] from rfl)
  have hkid := hid (hkids t (by simp))
  have hkid' := hid (hkids u (by simp))
  have hbd := evalT_bd (gOf l) hv.bd m t hkid.out
  have hbd' := evalT_bd (gOf l) hv.bd m u hkid'.out
  rw [TrIn_mk] at hx
  obtain ⟨a', n', c', rfl, _, _, rfl, hc', hc2', hks⟩ := hx
  obtain ⟨b, o, c0, c1, c2, d0, d1, d2, rfl, hb, g0, g1, g2, f0, f1, f2, hT, hU⟩ := two_cells hks
  clear hs hkids hks
  have H := hid (fun w x a (hx : TrIn Any w t x) (hv : Vals w a l) => h m w x a l c hkid.out hx hv hc hc2)
  have H' := hid (fun w x a (hx : TrIn Any w u x) (hv : Vals w a l) => h' m w x a l c hkid'.out hx hv hc hc2)
  simp only [List.length_cons, List.length_nil] at hc' ⊢
  generalize evalT (gOf l) t = A at *
  generalize evalT (gOf l) u = B at *
  rcases hk with rfl | rfl | rfl | rfl | rfl | rfl
  all_goals
    go_enter Try.func102, Try.ntmps102
    go_wp2_with fail
    refine (H.out _ _ a (TrIn_alloc hT _) (hv.below (below_alloc _ _))).mono ?_
    rintro e w1 ⟨rfl, hb1⟩
    have b1 := box3_next hb1 (box3_new ..)
    have BB := below_next (below_alloc _ _) hb1
    obtain ⟨k0, k1, k2⟩ := cells_next BB hb f0 f1 f2
    have hbb : b < w1.heap.size := Nat.lt_of_lt_of_le hb BB.size
    clear hb1
    go_wp2_with fail
    refine (H'.out _ _ a (TrIn_below BB hU) (hv.below BB)).mono ?_
    rintro e w2 ⟨rfl, hb2⟩
    replace BB := below_next BB hb2
    replace b1 := box3_next hb2 b1
    clear hb2
  · by_cases hA : A = 0
    · have hA2 : (A != 0) = false := by simpa using hA
      have HA := hid hA2
      go_wp2_with fail
      refine (bool01 _ _).mono ?_
      rintro e w3 ⟨rfl, rfl⟩
      go_wp2_with fail
      go_ret
      exact Ret.mk (int_val (by rw [E.out]; simp only [nodeVal]; rw [HA.out]; simp)) BB
    · have hA2 : (A != 0) = true := by simpa using hA
      have HA := hid hA2
      go_wp2_with fail
      refine (bool01 _ _).mono ?_
      rintro e w3 ⟨rfl, rfl⟩
      go_wp2_with fail
      go_ret
      exact Ret.mk (int_val (by rw [E.out]; simp only [nodeVal]; rw [HA.out]; simp)) BB
  · by_cases hA : A = 0
    · have hA2 : (A != 0) = false := by simpa using hA
      have HA := hid hA2
      go_wp2_with fail
      refine (bool01 _ _).mono ?_
      rintro e w3 ⟨rfl, rfl⟩
      go_wp2_with fail
      go_ret
      exact Ret.mk (int_val (by rw [E.out]; simp only [nodeVal]; rw [HA.out]; simp)) BB
    · have hA2 : (A != 0) = true := by simpa using hA
      have HA := hid hA2
      go_wp2_with fail
      refine (bool01 _ _).mono ?_
      rintro e w3 ⟨rfl, rfl⟩
      go_wp2_with fail
      go_ret
      exact Ret.mk (int_val (by rw [E.out]; simp only [nodeVal]; rw [HA.out]; simp)) BB
  · go_wp2_with fail
    refine (bool01 _ _).mono ?_
    rintro e w3 ⟨rfl, rfl⟩
    go_wp2_with fail
    go_ret
    exact Ret.mk (int_val (by rw [E.out]; simp [nodeVal])) BB
  · go_wp2_with fail
    refine (bool01 _ _).mono ?_
    rintro e w3 ⟨rfl, rfl⟩
    go_wp2_with fail
    go_ret
    exact Ret.mk (int_val (by rw [E.out]; simp [nodeVal])) BB
  · go_wp2_with fail
    go_ret
    exact Ret.mk (int_val (by rw [E.out]; simp [nodeVal])) BB
  · go_wp2_with fail
    go_ret
    exact Ret.mk (int_val (by rw [E.out]; simp [nodeVal]; omega)) BB

theorem sv_any : ∀ t, EvT 102 t := Tr.ind fun k v kids ih => by
  intro n w x a l c hs
  obtain ⟨m, h1, h2, h3, h4, h5, h6, h7⟩ := exprL.shape_mk hs
  rw [exprL_K] at h3
  rw [exprL_most] at h5
  rw [exprL_ar] at h6
  by_cases k0 : k = 1 ∨ k = 2
  · obtain rfl := len0 (by rw [h6, if_pos k0])
    refine sv_leaf k v ?_ n w x a l c hs
    by_cases k2 : k = 1
    · rw [if_pos k2] at h5; left; exact ⟨k2, h4, h5⟩
    · rw [if_neg k2, if_pos (by omega)] at h5; right; exact ⟨by omega, by omega⟩
  rw [if_neg (by omega), if_neg (by omega)] at h5
  obtain rfl : v = 0 := by omega
  by_cases k3 : k = 3
  · obtain ⟨a', rfl⟩ := len1 (by rw [h6, if_neg k0, if_pos k3])
    subst k3
    exact sv_not a' (ih a' (by simp)) n w x a l c hs
  · obtain ⟨t, u, rfl⟩ := len2 (by rw [h6, if_neg k0, if_neg k3])
    exact sv_two k (by omega) t u (ih t (by simp)) (ih u (by simp)) n w x a l c hs

end Expr
end Go.Proofs.Ytfemikebklmlpaa
namespace Go.Proofs.Ytfemikebklmlpaa
open Go.RowKit
namespace Expr

end Expr
end Go.Proofs.Ytfemikebklmlpaa
