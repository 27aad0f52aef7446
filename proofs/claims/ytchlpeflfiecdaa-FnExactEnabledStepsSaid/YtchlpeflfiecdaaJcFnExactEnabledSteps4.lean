/- Joined texts (ExprImplV, ExprImplN, ExprSame, More, EdgeSpecV, EdgeImplV): contracts and plain laws. Conditions: those of each theorem. -/
import Derived.Test.YtchlpeflfiecdaaJcFnExactEnabledSteps3
import Derived.Test.YtchlpeflfiecdaaRows
import Derived.Test.YtchlpeflfiecdaaJcFnExactEnabledSteps0
import Derived.Test.YtchlpeflfiecdaaJcFnExactEnabledSteps1
import Derived.WalkSpells
import Derived.WalkLawsBesides
namespace Go.Proofs.Ytchlpeflfiecdaa
open Go.RowKit
namespace Expr
set_option maxHeartbeats 2000000 in
theorem wk_of (k v : Int) (kids : List Tr) (h : ∀ t, t ∈ kids → WkT t) : WkT (.mk k v kids) := by
  intro w x R d n hx hd1 hd2 hn1 hn2 hR hF
  rw [TrIn_mk] at hx
  obtain ⟨a, n', c, rfl, hk, hv, rfl, hc, hc2, hks⟩ := hx
  have lR : R < w.heap.size := blt hR
  have hE0 := hid (show exprL.wk (.mk k v kids) d n = if 6 < d ∨ exprL.N < n + 1 ∨ exprL.okB k v kids.length = false then (false, n + 1) else exprL.wkL kids (d + 1) (n + 1) by simp only [Lang.wk])
  have lR1 : R < w.heap.size + 1 := by omega
  have lR2 : R < w.heap.size + 1 + 1 := by omega
  have lR3 : R < w.heap.size + 1 + 1 + 1 := by omega
  go_enter Try.func99, Try.ntmps99
  go_upto_block 0 with fail
  go_cut [7, 8] (fun s7 s8 wx => s7 = .int .i64 (exprL.ar k) ∧ s8 = .int .i64 (exprL.most k) ∧ Upd w R (.int .i64 (n + 1)) wx ∧ w.heap.size + 1 + 1 < wx.heap.size ∧ wx.cell? ⟨w.heap.size, 0, none⟩ = some (.int .i64 k) ∧ wx.cell? ⟨w.heap.size, 1, none⟩ = some (.int .i64 v) ∧ wx.cell? ⟨w.heap.size, 2, none⟩ = some (.slice a kids.length c) ∧
    wx.cell? ⟨w.heap.size + 1, 0, none⟩ = some (.int .i64 d) ∧ wx.cell? ⟨w.heap.size + 1 + 1, 0, none⟩ = some (.pointer (some ⟨R, 0, none⟩)))
  case first =>
    go_wp2_with fail
    all_goals go_meet
    all_goals refine ⟨int_val ?_, int_val ?_, Upd.of (by repeat (first | exact Below.refl _ _ | assumption | refine below_a ?_ _ | refine below_o ?_ _ | refine below_d ?_ | refine below_n ?_ _ | refine below_s ?_ (by first | (simp; done) | (simp; omega) | omega) _)), by simp, by simp [go_sem], by simp [go_sem], by simp [go_sem], by simp [go_sem], by simp [go_sem]⟩
    all_goals first
      | (have e := ‹(k == 1) = true›; simp at e; first | rw [exprL_ar, if_pos (.inl e)] | rw [exprL_most, if_pos e])
      | (have e1 := ‹(k == 1) = false›; have e := ‹(k == 2) = true›; simp at e1 e; first | rw [exprL_ar, if_pos (.inr e)] | rw [exprL_most, if_neg e1, if_pos e])
      | (have e1 := ‹(k == 1) = false›; have e2 := ‹(k == 2) = false›; have e := ‹(k == 3) = true›; simp at e1 e2 e; first | rw [exprL_ar, if_neg (by omega), if_pos e] | rw [exprL_most, if_neg e1, if_neg e2])
      | (have e1 := ‹(k == 1) = false›; have e2 := ‹(k == 2) = false›; have e := ‹(k == 3) = false›; simp at e1 e2 e; first | rw [exprL_ar, if_neg (by omega), if_neg e] | rw [exprL_most, if_neg e1, if_neg e2])
  case rest =>
    obtain ⟨rfl, rfl, hu, hsz, q0, q1, q2, qd, qp⟩ := hcut
    have qR := hu.cell hR
    have qF := (hu.frozen (o := 0) lR).trans hF
    by_cases c1 : 6 < d
    · have E := hid (show exprL.wk (.mk k v kids) d n = (false, n + 1) by rw [hE0.out, if_pos (.inl c1)])
      go_wp2_with fail
      go_ret
      exact ⟨by rw [E.out]; rfl, by rw [E.out]; exact hu⟩
    by_cases c2 : 15 < n + 1
    · have E := hid (show exprL.wk (.mk k v kids) d n = (false, n + 1) by rw [hE0.out, if_pos (.inr (.inl c2))])
      go_wp2_with fail
      go_ret
      exact ⟨by rw [E.out]; rfl, by rw [E.out]; exact hu⟩
    have hno : ∀ (hh : ¬((1 ≤ k ∧ k ≤ 9) ∧ (0 ≤ v ∧ v ≤ exprL.most k) ∧ (kids.length : Int) = exprL.ar k)), exprL.wk (.mk k v kids) d n = (false, n + 1) := fun hh => by
      rw [hE0.out, if_pos (.inr (.inr (exprL.okB_no hh)))]
    have HNO := hid hno; clear hno
    by_cases c3 : 1 ≤ k ∧ k ≤ 9
    · by_cases c4 : 0 ≤ v ∧ v ≤ exprL.most k
      · by_cases c5 : (kids.length : Int) = exprL.ar k
        · have E := hid (show exprL.wk (.mk k v kids) d n = exprL.wkL kids (d + 1) (n + 1) by
            rw [hE0.out, if_neg]
            rintro (h1 | h1 | h1)
            · exact c1 h1
            · exact c2 h1
            · rw [exprL.okB_iff.2 ⟨c3, c4, c5⟩] at h1; cases h1)
          have e5 : ((kids.length : Int) != exprL.ar k) = false := by simpa using c5
          clear c5 HNO
          go_wp2_with fail
          refine (in_yes c3 _).mono ?_
          rintro e w' ⟨rfl, rfl⟩
          go_wp2_with fail
          refine (in_yes c4 _).mono ?_
          rintro e w' ⟨rfl, rfl⟩
          go_wp2_with fail
          refine (cf_of kids h _ a c R (w.heap.size + 1) (w.heap.size + 1 + 1) d (n + 1) (TrsIn_upd hu (fun b hb => hb) hks) hc hc2 (by omega) (by omega) (by omega) (by omega) qd qp qR qF (by omega) (by omega)).mono ?_
          rintro e w' ⟨rfl, hu2⟩
          go_wp2_with fail
          go_ret
          exact ⟨by rw [E.out]; simp, by rw [E.out]; exact hu.trans hu2⟩
        · have E := hid (HNO.out (fun hh => c5 hh.2.2))
          have e5 : ((kids.length : Int) != exprL.ar k) = true := by simpa using c5
          clear c5 HNO
          go_wp2_with fail
          refine (in_yes c3 _).mono ?_
          rintro e w' ⟨rfl, rfl⟩
          go_wp2_with fail
          refine (in_yes c4 _).mono ?_
          rintro e w' ⟨rfl, rfl⟩
          go_wp2_with fail
          go_ret
          exact ⟨by rw [E.out]; rfl, by rw [E.out]; exact hu⟩
      · have E := hid (HNO.out (fun hh => c4 hh.2.1))
        clear HNO
        go_wp2_with fail
        refine (in_yes c3 _).mono ?_
        rintro e w' ⟨rfl, rfl⟩
        go_wp2_with fail
        refine (in_no c4 _).mono ?_
        rintro e w' ⟨rfl, rfl⟩
        go_wp2_with fail
        go_ret
        exact ⟨by rw [E.out]; rfl, by rw [E.out]; exact hu⟩
    · have E := hid (HNO.out (fun hh => c3 hh.1))
      clear HNO
      go_wp2_with fail
      refine (in_no c3 _).mono ?_
      rintro e w' ⟨rfl, rfl⟩
      go_wp2_with fail
      go_ret
      exact ⟨by rw [E.out]; rfl, by rw [E.out]; exact hu⟩

theorem wk_any : ∀ t, WkT t := fun t => Tr.ind (fun k v kids ih => wk_of k v kids ih) t

end Expr
end Go.Proofs.Ytchlpeflfiecdaa
namespace Go.Proofs.Ytchlpeflfiecdaa
open Go.RowKit
namespace Expr
set_option maxHeartbeats 400000 in
theorem nodes_any (t : Tr) (w : World) (x : Value) (hx : TrIn Any w t x) : Calls Try.prog 83 #[x] w (Ret (.int .i64 (exprL.size t)) w) := by
  have hx0 := hx
  obtain ⟨a, c, rfl⟩ := TrIn_shape hx
  have E := hid (exprL.size_wk t)
  go_enter Try.func83, Try.ntmps83
  go_wp2_with fail
  refine (wk_any t _ _ (w.heap.size + 1) 1 0 (TrIn_alloc (TrIn_alloc (TrIn_mono (fun b hb => by omega) (TrIn_old hx)) _) _) (by omega) (by omega) (by omega) (by omega) (by simp [go_sem]) (by simp [go_sem])).mono ?_
  rintro e w' ⟨rfl, hu⟩
  have qR := hu.cell (u := .int .i64 0) (by simp [go_sem])
  cases hq : (exprL.wk t 1 0).1 with
  | true =>
    have E2 := E.out
    rw [hq, if_pos rfl] at E2
    have E3 := hid E2; clear E2 hq
    go_wp2_with fail
    go_ret
    exact Ret.mk (int_val E3.out.symm) (hu.new (by repeat (first | exact Below.refl _ _ | assumption | refine below_a ?_ _ | refine below_o ?_ _ | refine below_d ?_ | refine below_n ?_ _ | refine below_s ?_ (by first | (simp; done) | (simp; omega) | omega) _)) (by omega))
  | false =>
    have E2 := E.out
    rw [hq, if_neg (by simp)] at E2
    have E3 := hid E2; clear E2 hq
    go_wp2_with fail
    go_ret
    exact Ret.mk (int_val E3.out.symm) (hu.new (by repeat (first | exact Below.refl _ _ | assumption | refine below_a ?_ _ | refine below_o ?_ _ | refine below_d ?_ | refine below_n ?_ _ | refine below_s ?_ (by first | (simp; done) | (simp; omega) | omega) _)) (by omega))

set_option maxHeartbeats 400000 in
theorem valid_any (t : Tr) (w : World) (x : Value) (hx : TrIn Any w t x) : Calls Try.prog 54 #[x] w (Ret (.bool (exprL.valid t)) w) := by
  have hx0 := hx
  obtain ⟨a, c, rfl⟩ := TrIn_shape hx
  have E := hid (exprL.valid_size t)
  go_enter Try.func54, Try.ntmps54
  go_wp2_with fail
  refine (nodes_any t _ _ (TrIn_alloc hx _)).mono ?_
  rintro e w' ⟨rfl, hby⟩
  obtain ⟨y, rfl⟩ := bex hby
  clear hby
  go_wp2_with fail
  go_ret
  exact Ret.mk (bool_val E.out.symm) (by repeat (first | exact Below.refl _ _ | assumption | refine below_a ?_ _ | refine below_o ?_ _ | refine below_d ?_ | refine below_n ?_ _ | refine below_s ?_ (by first | (simp; done) | (simp; omega) | omega) _))

end Expr
end Go.Proofs.Ytchlpeflfiecdaa
namespace Go.Proofs.Ytchlpeflfiecdaa
open Go.RowKit
namespace Expr

def SaT (t : Tr) : Prop := ∀ (w : World) (u : Tr) (x y : Value), TrIn Any w t x → TrIn Any w u y → Calls Try.prog 55 #[x, y] w (Ret (.bool (eqT t u)) w)

set_option maxHeartbeats 400000 in
theorem ef_of (l : List Tr) (h : ∀ t, t ∈ l → SaT t) (w : World) (m : List Tr) (a a' : Option Addr) (c c' : Nat) (hl : TrsIn Any w l a) (hm : TrsIn Any w m a') (hc : l.length ≤ c) (hc2 : c ≤ maxLen) (_ : m.length ≤ c') (_ : c' ≤ maxLen) :
    Calls Try.prog 84 #[.slice a l.length c, .slice a' m.length c', .func (.func 55) #[] #[]] w (Ret (.bool (eqL l m)) w) := by
  unfold maxLen at hc2
  by_cases hn : l.length = m.length
  · have hn1 : l.length ≤ m.length := by omega
    have hn2 : m.length ≤ l.length := by omega
    have h3 : ((l.length : Int) != (m.length : Int)) = false := by rw [bne_eq_false_iff_eq]; omega
    clear hn
    go_enter Try.func84, Try.ntmps84
    go_wp2_with fail
    go_loopw [17] (fun i wr => ∃ k : Nat, k ≤ l.length ∧ i = .int .i64 k ∧ Below w.heap.size w wr ∧ Hid (eqL (l.drop k) (m.drop k) = eqL l m)) (fun i _ => l.length - (intOf i).toNat)
    case atStart => exact ⟨0, Nat.zero_le _, rfl, Below.refl _ _, hid rfl⟩
    case round =>
      obtain ⟨k, hk, rfl, hb, hr⟩ := hrel
      by_cases hlt : k < l.length
      · obtain ⟨b, o, c0, c1, c2, t, rfl, gb, g0, g1, g2, hT⟩ := TrsIn_round hl hb hlt
        obtain ⟨b', o', d0, d1, d2, u, rfl, fb, f0, f1, f2, hU⟩ := TrsIn_round hm hb (show k < m.length by omega)
        have hr2 := eqL_drop hT.out.2.2.1 hU.out.2.2.1 hr.out
        have HR2 := hid hr2; clear hr2
        obtain ⟨a4, n4, hsh⟩ := TrIn_shape hT.out.1
        simp only [Value.agg.injEq, Array.mk.injEq, List.cons.injEq, and_true] at hsh
        obtain ⟨rfl, rfl, rfl⟩ := hsh
        obtain ⟨a5, n5, hsh⟩ := TrIn_shape hU.out.1
        simp only [Value.agg.injEq, Array.mk.injEq, List.cons.injEq, and_true] at hsh
        obtain ⟨rfl, rfl, rfl⟩ := hsh
        have hlt2 : (k : Int) < (l.length : Int) := by omega
        have hlt3 : (k : Int) < (m.length : Int) := by omega
        have HB := hid hb
        go_wp2_with fail
        refine (h t hT.out.2.1 _ u _ _ (TrIn_alloc (TrIn_alloc hT.out.1 _) _) (TrIn_alloc (TrIn_alloc hU.out.1 _) _)).mono ?_
        rintro e w2 ⟨rfl, hb2⟩
        have hbd := below_next HB.out (below_next (below_next (below_alloc _ _) (below_alloc _ _)) hb2)
        clear hb2
        cases hq : eqT t u with
        | true =>
          have HR3 := HR2.out
          rw [hq, Bool.true_and] at HR3
          have HR4 := hid HR3; clear HR3 hq
          go_wp2_with fail
          go_roundw
          case rel => exact ⟨k + 1, by omega, by go_num, hbd, hid HR4.out.symm⟩
          case measure => simp [intOf]; omega
        | false =>
          have HR3 := HR2.out
          rw [hq, Bool.false_and] at HR3
          have HR4 := hid HR3; clear HR3 hq
          go_wp2_with fail
          go_ret
          exact Ret.mk (bool_val HR4.out.symm) hbd
      · have hr2 := hr.out
        rw [List.drop_of_length_le (by omega), List.drop_of_length_le (by omega)] at hr2
        have HR2 := hid hr2; clear hr2
        go_wp2_with fail
        go_ret
        exact Ret.mk (bool_val HR2.out) hb
  · have e1 := eqL_len l m hn
    have E1 := hid e1; clear e1
    have h3 : ((l.length : Int) != (m.length : Int)) = true := by rw [bne_iff_ne]; omega
    go_enter Try.func84, Try.ntmps84
    go_wp2_with fail
    go_ret
    exact Ret.mk (bool_val E1.out.symm) (Below.refl _ _)

set_option maxHeartbeats 400000 in
theorem sa_of (k v : Int) (kids : List Tr) (h : ∀ t, t ∈ kids → SaT t) : SaT (.mk k v kids) := by
  intro w u x y hx hy
  cases u with
  | mk k' v' kids' =>
  rw [TrIn_mk] at hx hy
  obtain ⟨a, n, c, rfl, hk, hv, rfl, hc, hc2, hks⟩ := hx
  obtain ⟨a', n', c', rfl, hk', hv', rfl, hc', hc2', hks'⟩ := hy
  by_cases h1 : k = k'
  · by_cases h2 : v = v'
    · subst h1 h2
      have e1 : eqT (.mk k v kids) (.mk k v kids') = eqL kids kids' := by simp [eqT]
      have E1 := hid e1; clear e1
      have hkk : (k == k) = true := by simp
      have hvv : (v == v) = true := by simp
      go_enter Try.func55, Try.ntmps55
      go_wp2_with fail
      refine (ef_of kids h _ kids' a a' c c' (TrsIn_alloc (TrsIn_alloc hks _) _) (TrsIn_alloc (TrsIn_alloc hks' _) _) hc hc2 hc' hc2').mono ?_
      rintro e w' ⟨rfl, hby⟩
      have B := below_next (show Below w.heap.size w _ from (by repeat (first | exact Below.refl _ _ | assumption | refine below_a ?_ _ | refine below_o ?_ _ | refine below_d ?_ | refine below_n ?_ _ | refine below_s ?_ (by first | (simp; done) | (simp; omega) | omega) _))) hby
      clear hby
      generalize eqL kids kids' = qq at *
      go_wp2_with fail
      go_ret
      exact Ret.mk (bool_val E1.out.symm) B
    · have e1 : eqT (.mk k v kids) (.mk k' v' kids') = false := by simp [eqT, h2]
      have E1 := hid e1; clear e1
      have h3 : (v == v') = false := by simpa using h2
      subst h1
      have hkk : (k == k) = true := by simp
      go_enter Try.func55, Try.ntmps55
      go_wp2_with fail
      go_ret
      exact Ret.mk (bool_val E1.out.symm) (by repeat (first | exact Below.refl _ _ | assumption | refine below_a ?_ _ | refine below_o ?_ _ | refine below_d ?_ | refine below_n ?_ _ | refine below_s ?_ (by first | (simp; done) | (simp; omega) | omega) _))
  · have e1 : eqT (.mk k v kids) (.mk k' v' kids') = false := by simp [eqT, h1]
    have E1 := hid e1; clear e1
    have h3 : (k == k') = false := by simpa using h1
    go_enter Try.func55, Try.ntmps55
    go_wp2_with fail
    go_ret
    exact Ret.mk (bool_val E1.out.symm) (by repeat (first | exact Below.refl _ _ | assumption | refine below_a ?_ _ | refine below_o ?_ _ | refine below_d ?_ | refine below_n ?_ _ | refine below_s ?_ (by first | (simp; done) | (simp; omega) | omega) _))

theorem same_any : ∀ t, SaT t := Tr.ind fun k v kids ih => sa_of k v kids ih


end Expr
end Go.Proofs.Ytchlpeflfiecdaa
namespace Go.Proofs.Ytchlpeflfiecdaa
open Go.RowKit

/-- of the world where the walk stands only this is kept -/
theorem wp_gen {P : Program} {C : Code} {Q : Exit → Act → World → Prop} {a : Act} {w0 : World} (R : World → Prop) (h0 : R w0) (h : ∀ W, R W → C.wp P Q a W) : C.wp P Q a w0 := h _ h0
/-- three cells of an old node, in a later world -/
theorem cells_next {w W : World} (B : Below w.heap.size w W) {b o : Nat} {c0 c1 c2 : Value} (hb : b < w.heap.size) (g0 : w.cell? ⟨b, o, none⟩ = some c0) (g1 : w.cell? ⟨b, o + 1, none⟩ = some c1) (g2 : w.cell? ⟨b, o + 2, none⟩ = some c2) :
    W.cell? ⟨b, o, none⟩ = some c0 ∧ W.cell? ⟨b, o + 1, none⟩ = some c1 ∧ W.cell? ⟨b, o + 2, none⟩ = some c2 :=
  ⟨(B.cell (p := ⟨b, o, none⟩) hb).trans g0, (B.cell (p := ⟨b, o + 1, none⟩) hb).trans g1, (B.cell (p := ⟨b, o + 2, none⟩) hb).trans g2⟩

end Go.Proofs.Ytchlpeflfiecdaa
namespace Go.Proofs.Ytchlpeflfiecdaa
open Go.RowKit
namespace Edge

/-- the empty expression -/
def none0 : Tr := .mk 0 0 []
theorem none0_in (p : Nat → Prop) (w : World) : TrIn p w none0 (.agg #[.int .i64 0, .int .i64 0, .slice none 0 0]) :=
  (TrIn_mk ..).2 ⟨none, 0, 0, rfl, by unfold i64; omega, by unfold i64; omega, rfl, Nat.le_refl _, Nat.zero_le _, TrsIn_nil _ _ _⟩
def isNone (t : Tr) : Bool := decide (t.kind = 0) && (decide (t.val = 0) && decide (t.kids.length = 0))
theorem isNone_eq (t : Tr) : eqT t none0 = isNone t := by
  rw [Bool.eq_iff_iff, eqT_true]
  simp only [isNone, Bool.and_eq_true, decide_eq_true_eq]
  cases t with
  | mk k v kids => cases kids <;> simp [none0, Tr.kind, Tr.val, Tr.kids]

theorem none_any (t : Tr) (w : World) (x : Value) (hx : TrIn Any w t x) : Calls Try.prog 51 #[x] w (Ret (.bool (isNone t)) w) := by
  obtain ⟨a, c, rfl⟩ := TrIn_shape hx
  by_cases h1 : t.kind = 0
  · by_cases h2 : t.val = 0
    · have E := hid (show isNone t = decide ((t.kids.length : Int) = 0) by simp [isNone, h1, h2])
      go_enter Try.func51, Try.ntmps51
      go_wp2_with fail
      go_ret
      exact Ret.mk (bool_val (by rw [E.out, Bool.eq_iff_iff]; simp)) (by repeat (first | exact Below.refl _ _ | assumption | refine below_a ?_ _ | refine below_o ?_ _ | refine below_d ?_ | refine below_n ?_ _ | refine below_s ?_ (by first | (simp; done) | (simp; omega) | omega) _))
    · have E := hid (show isNone t = false by simp [isNone, h2])
      go_enter Try.func51, Try.ntmps51
      go_wp2_with fail
      go_ret
      exact Ret.mk (bool_val (by rw [E.out])) (by repeat (first | exact Below.refl _ _ | assumption | refine below_a ?_ _ | refine below_o ?_ _ | refine below_d ?_ | refine below_n ?_ _ | refine below_s ?_ (by first | (simp; done) | (simp; omega) | omega) _))
  · have E := hid (show isNone t = false by simp [isNone, h1])
    go_enter Try.func51, Try.ntmps51
    go_wp2_with fail
    go_ret
    exact Ret.mk (bool_val (by rw [E.out])) (by repeat (first | exact Below.refl _ _ | assumption | refine below_a ?_ _ | refine below_o ?_ _ | refine below_d ?_ | refine below_n ?_ _ | refine below_s ?_ (by first | (simp; done) | (simp; omega) | omega) _))

def okV (e : Ed) (g v : Bool) : Bool := g && (decide (-2 ≤ e.sync ∧ e.sync ≤ 2) && (decide (-1 ≤ e.var ∧ e.var ≤ 2) && (if e.var < 0 then isNone e.val else v)))
/-- is an edge valid among so many locations -/
def okB (e : Ed) (n : Int) : Bool := decide ((0 ≤ e.src ∧ e.src < n) ∧ (0 ≤ e.dst ∧ e.dst < n) ∧ n ≤ 4) && okV e (exprL.valid e.guard) (exprL.valid e.val)

set_option maxHeartbeats 4000000 in
theorem specEdge_any (e : Ed) (n : Int) (w : World) (x : Value) (hx : EdIn Any w e x) : Calls Try.prog 13 #[x, .int .i64 n] w (Ret (.bool (okB e n)) w) := by
  obtain ⟨a, c, a', c', rfl, _, _, _, _, hg, hv⟩ := hx
  have HG := hid (fun w' (M : Below w.heap.size w w') => Expr.specValid_any e.guard w' _ (TrIn_below M hg))
  have HV := hid (fun w' (M : Below w.heap.size w w') => Expr.specValid_any e.val w' _ (TrIn_below M hv))
  have HN := hid (fun w' (M : Below w.heap.size w w') => none_any e.val w' _ (TrIn_below M hv))
  clear hg hv
  by_cases h0 : (0 ≤ e.src ∧ e.src < n) ∧ (0 ≤ e.dst ∧ e.dst < n) ∧ n ≤ 4
  · obtain ⟨⟨h1, h2⟩, ⟨h3, h4⟩, h5⟩ := h0
    have E0 := hid (show okB e n = okV e (exprL.valid e.guard) (exprL.valid e.val) by simp [okB, h1, h2, h3, h4, h5])
    generalize exprL.valid e.guard = g at *
    generalize exprL.valid e.val = v at *
    cases g with
    | false =>
      have E := hid (show okB e n = false by rw [E0.out]; rfl)
      go_enter Try.func13, Try.ntmps13
      go_wp2_with fail
      refine (HG.out _ (below_alloc _ _)).mono ?_
      rintro y w1 ⟨rfl, hb⟩
      obtain ⟨z, ⟨k0, k1, k2, k3, k4, k5, k6, k7, k8, k9⟩, _⟩ := box10_next hb (box10_new ..)
      have B := below_next (below_alloc _ _) hb
      clear hb
      go_wp2_with fail
      go_ret
      exact Ret.mk (bool_val (by rw [E.out])) B
    | true =>
      by_cases h6 : -2 ≤ e.sync ∧ e.sync ≤ 2
      · by_cases h7 : -1 ≤ e.var ∧ e.var ≤ 2
        · obtain ⟨h6, h6'⟩ := h6
          obtain ⟨h7, h7'⟩ := h7
          by_cases h8 : e.var < 0
          · have E := hid (show okB e n = isNone e.val by rw [E0.out]; simp [okV, h6, h6', h7, h7', h8])
            have h9 : ¬ (e.var ≥ 0) := by omega
            generalize isNone e.val = q at *
            cases q
            all_goals
              go_enter Try.func13, Try.ntmps13
              go_wp2_with fail
              refine (HG.out _ (below_alloc _ _)).mono ?_
              rintro y w1 ⟨rfl, hb⟩
              have bx := box10_next hb (box10_new ..)
              have B := below_next (below_alloc _ _) hb
              clear hb
              obtain ⟨z, ⟨k0, k1, k2, k3, k4, k5, k6, k7, k8, k9⟩, _⟩ := id bx
              go_wp2_with fail
              refine (HN.out _ B).mono ?_
              rintro y w2 ⟨rfl, hb⟩
              obtain ⟨z, ⟨k0, k1, k2, k3, k4, k5, k6, k7, k8, k9⟩, _⟩ := box10_next hb bx
              replace B := below_next B hb
              clear hb bx
              go_wp2_with fail
              go_ret
              exact Ret.mk (bool_val (by rw [E.out])) B
          · have E := hid (show okB e n = v by rw [E0.out]; simp [okV, h6, h6', h7, h7', h8])
            have h9 : e.var ≥ 0 := by omega
            go_enter Try.func13, Try.ntmps13
            go_wp2_with fail
            refine (HG.out _ (below_alloc _ _)).mono ?_
            rintro y w1 ⟨rfl, hb⟩
            have bx := box10_next hb (box10_new ..)
            have B := below_next (below_alloc _ _) hb
            clear hb
            obtain ⟨z, ⟨k0, k1, k2, k3, k4, k5, k6, k7, k8, k9⟩, _⟩ := id bx
            go_wp2_with fail
            refine (HV.out _ B).mono ?_
            rintro y w2 ⟨rfl, hb⟩
            obtain ⟨z, ⟨k0, k1, k2, k3, k4, k5, k6, k7, k8, k9⟩, _⟩ := box10_next hb bx
            replace B := below_next B hb
            clear hb bx
            go_wp2_with fail
            go_ret
            exact Ret.mk (bool_val (by rw [E.out])) B
        · have E := hid (show okB e n = false by rw [E0.out]; simp [okV]; omega)
          obtain ⟨h6, h6'⟩ := h6
          have h7' : e.var < -1 ∨ (¬ e.var < -1 ∧ e.var ≥ 3) := by omega
          clear h7
          rcases h7' with h7 | ⟨h7, h8⟩
          all_goals
            go_enter Try.func13, Try.ntmps13
            go_wp2_with fail
            refine (HG.out _ (below_alloc _ _)).mono ?_
            rintro y w1 ⟨rfl, hb⟩
            obtain ⟨z, ⟨k0, k1, k2, k3, k4, k5, k6, k7, k8, k9⟩, _⟩ := box10_next hb (box10_new ..)
            have B := below_next (below_alloc _ _) hb
            clear hb
            go_wp2_with fail
            go_ret
            exact Ret.mk (bool_val (by rw [E.out])) B
      · have E := hid (show okB e n = false by rw [E0.out]; simp [okV]; omega)
        have h6' : e.sync < -2 ∨ (¬ e.sync < -2 ∧ e.sync > 2) := by omega
        clear h6
        rcases h6' with h7 | ⟨h7, h8⟩
        all_goals
          go_enter Try.func13, Try.ntmps13
          go_wp2_with fail
          refine (HG.out _ (below_alloc _ _)).mono ?_
          rintro y w1 ⟨rfl, hb⟩
          obtain ⟨z, ⟨k0, k1, k2, k3, k4, k5, k6, k7, k8, k9⟩, _⟩ := box10_next hb (box10_new ..)
          have B := below_next (below_alloc _ _) hb
          clear hb
          go_wp2_with fail
          go_ret
          exact Ret.mk (bool_val (by rw [E.out])) B
  · have E := hid (show okB e n = false by simp only [okB, decide_eq_false h0, Bool.false_and])
    have h1 : e.src < 0 ∨ (¬ e.src < 0 ∧ e.src ≥ n) ∨ (¬ e.src < 0 ∧ ¬ e.src ≥ n ∧ e.dst < 0) ∨ (¬ e.src < 0 ∧ ¬ e.src ≥ n ∧ ¬ e.dst < 0 ∧ e.dst ≥ n) ∨ (¬ e.src < 0 ∧ ¬ e.src ≥ n ∧ ¬ e.dst < 0 ∧ ¬ e.dst ≥ n ∧ n > 4) := by omega
    clear h0
    rcases h1 with h1 | ⟨h1, h2⟩ | ⟨h1, h2, h3⟩ | ⟨h1, h2, h3, h4⟩ | ⟨h1, h2, h3, h4, h5⟩
    all_goals
      go_enter Try.func13, Try.ntmps13
      go_wp2_with fail
      go_ret
      exact Ret.mk (bool_val (by rw [E.out])) (below_alloc _ _)
end Edge
end Go.Proofs.Ytchlpeflfiecdaa
namespace Go.Proofs.Ytchlpeflfiecdaa
open Go.RowKit
namespace Edge

set_option maxHeartbeats 4000000 in
theorem edge_any (e : Ed) (n : Int) (w : World) (x : Value) (hx : EdIn Any w e x) : Calls Try.prog 15 #[x, .int .i64 n] w (Ret (.bool (okB e n)) w) := by
  obtain ⟨a, c, a', c', rfl, _, _, _, _, hg, hv⟩ := hx
  have HG := hid (fun w' (M : Below w.heap.size w w') => Expr.valid_any e.guard w' _ (TrIn_below M hg))
  have HV := hid (fun w' (M : Below w.heap.size w w') => Expr.valid_any e.val w' _ (TrIn_below M hv))
  have HS := hid (fun w' (M : Below w.heap.size w w') => (show Calls Try.prog 55 #[.agg #[.int .i64 e.val.kind, .int .i64 e.val.val, .slice a' e.val.kids.length c'], .agg #[.int .i64 0, .int .i64 0, .slice none 0 0]] w' (Ret (.bool (isNone e.val)) w') by
    have := Expr.same_any e.val w' none0 _ _ (TrIn_below M hv) (none0_in Any w')
    rw [isNone_eq] at this
    exact this))
  clear hg hv
  by_cases h1 : 1 ≤ n ∧ n ≤ 4
  · have H1 := hid h1
    obtain ⟨n1, n2⟩ := h1
    by_cases h2 : 0 ≤ e.src ∧ e.src ≤ n - 1
    · by_cases h3 : 0 ≤ e.dst ∧ e.dst ≤ n - 1
      · have E0 := hid (show okB e n = okV e (exprL.valid e.guard) (exprL.valid e.val) by simp only [okB]; rw [decide_eq_true (by omega), Bool.true_and])
        have H2 := hid h2
        have H3 := hid h3
        clear h2 h3
        generalize exprL.valid e.guard = g at *
        generalize exprL.valid e.val = v at *
        cases g with
        | false =>
          have E := hid (show okB e n = false by rw [E0.out]; rfl)
          go_enter Try.func15, Try.ntmps15
          go_wp2_with fail
          refine (in_yes H1.out _).mono ?_
          rintro y _ ⟨rfl, rfl⟩
          go_wp2_with fail
          refine (in_yes H2.out _).mono ?_
          rintro y _ ⟨rfl, rfl⟩
          go_wp2_with fail
          refine (in_yes H3.out _).mono ?_
          rintro y _ ⟨rfl, rfl⟩
          go_wp2_with fail
          refine (HG.out _ (below_alloc _ _)).mono ?_
          rintro y w1 ⟨rfl, hb⟩
          have bx := box10_next hb (box10_new ..)
          have B := below_next (below_alloc _ _) hb
          clear hb
          obtain ⟨z, ⟨k0, k1, k2, k3, k4, k5, k6, k7, k8, k9⟩, _⟩ := id bx
          go_wp2_with fail
          go_ret
          exact Ret.mk (bool_val (by rw [E.out])) B
        | true =>
          by_cases h5 : -1 ≤ e.var ∧ e.var ≤ 2
          · have H5 := hid h5
            by_cases h8 : e.var < 0
            · have h9 : ¬ (e.var ≥ 0) := by omega
              have E2 := hid (show okB e n = (decide (-2 ≤ e.sync ∧ e.sync ≤ 2) && isNone e.val) by rw [E0.out]; simp [okV, h5, h8])
              clear h5
              generalize isNone e.val = q at *
              cases q with
              | false =>
                have E := hid (show okB e n = false by rw [E2.out]; simp)
                go_enter Try.func15, Try.ntmps15
                go_wp2_with fail
                refine (in_yes H1.out _).mono ?_
                rintro y _ ⟨rfl, rfl⟩
                go_wp2_with fail
                refine (in_yes H2.out _).mono ?_
                rintro y _ ⟨rfl, rfl⟩
                go_wp2_with fail
                refine (in_yes H3.out _).mono ?_
                rintro y _ ⟨rfl, rfl⟩
                go_wp2_with fail
                refine (HG.out _ (below_alloc _ _)).mono ?_
                rintro y w1 ⟨rfl, hb⟩
                have bx := box10_next hb (box10_new ..)
                have B := below_next (below_alloc _ _) hb
                clear hb
                obtain ⟨z, ⟨k0, k1, k2, k3, k4, k5, k6, k7, k8, k9⟩, _⟩ := id bx
                go_wp2_with fail
                refine (in_yes H5.out _).mono ?_
                rintro y _ ⟨rfl, rfl⟩
                go_wp2_with fail
                refine (HS.out _ B).mono ?_
                rintro y w2 ⟨rfl, hb⟩
                obtain ⟨z, ⟨k0, k1, k2, k3, k4, k5, k6, k7, k8, k9⟩, _⟩ := box10_next hb bx
                replace B := below_next B hb
                clear hb bx
                go_wp2_with fail
                go_ret
                exact Ret.mk (bool_val (by rw [E.out])) B
              | true =>
                by_cases h7 : -2 ≤ e.sync ∧ e.sync ≤ 2
                · have E := hid (show okB e n = true by rw [E2.out]; simp [h7])
                  have H7 := hid h7
                  clear h7
                  go_enter Try.func15, Try.ntmps15
                  go_wp2_with fail
                  refine (in_yes H1.out _).mono ?_
                  rintro y _ ⟨rfl, rfl⟩
                  go_wp2_with fail
                  refine (in_yes H2.out _).mono ?_
                  rintro y _ ⟨rfl, rfl⟩
                  go_wp2_with fail
                  refine (in_yes H3.out _).mono ?_
                  rintro y _ ⟨rfl, rfl⟩
                  go_wp2_with fail
                  refine (HG.out _ (below_alloc _ _)).mono ?_
                  rintro y w1 ⟨rfl, hb⟩
                  have bx := box10_next hb (box10_new ..)
                  have B := below_next (below_alloc _ _) hb
                  clear hb
                  obtain ⟨z, ⟨k0, k1, k2, k3, k4, k5, k6, k7, k8, k9⟩, _⟩ := id bx
                  go_wp2_with fail
                  refine (in_yes H5.out _).mono ?_
                  rintro y _ ⟨rfl, rfl⟩
                  go_wp2_with fail
                  refine (HS.out _ B).mono ?_
                  rintro y w2 ⟨rfl, hb⟩
                  obtain ⟨z, ⟨k0, k1, k2, k3, k4, k5, k6, k7, k8, k9⟩, _⟩ := box10_next hb bx
                  replace B := below_next B hb
                  clear hb bx
                  go_wp2_with fail
                  refine (in_yes H7.out _).mono ?_
                  rintro y _ ⟨rfl, rfl⟩
                  go_wp2_with fail
                  go_ret
                  exact Ret.mk (bool_val (by rw [E.out])) B
                · have E := hid (show okB e n = false by rw [E2.out]; simp [h7])
                  have H7 := hid h7
                  clear h7
                  go_enter Try.func15, Try.ntmps15
                  go_wp2_with fail
                  refine (in_yes H1.out _).mono ?_
                  rintro y _ ⟨rfl, rfl⟩
                  go_wp2_with fail
                  refine (in_yes H2.out _).mono ?_
                  rintro y _ ⟨rfl, rfl⟩
                  go_wp2_with fail
                  refine (in_yes H3.out _).mono ?_
                  rintro y _ ⟨rfl, rfl⟩
                  go_wp2_with fail
                  refine (HG.out _ (below_alloc _ _)).mono ?_
                  rintro y w1 ⟨rfl, hb⟩
                  have bx := box10_next hb (box10_new ..)
                  have B := below_next (below_alloc _ _) hb
                  clear hb
                  obtain ⟨z, ⟨k0, k1, k2, k3, k4, k5, k6, k7, k8, k9⟩, _⟩ := id bx
                  go_wp2_with fail
                  refine (in_yes H5.out _).mono ?_
                  rintro y _ ⟨rfl, rfl⟩
                  go_wp2_with fail
                  refine (HS.out _ B).mono ?_
                  rintro y w2 ⟨rfl, hb⟩
                  obtain ⟨z, ⟨k0, k1, k2, k3, k4, k5, k6, k7, k8, k9⟩, _⟩ := box10_next hb bx
                  replace B := below_next B hb
                  clear hb bx
                  go_wp2_with fail
                  refine (in_no H7.out _).mono ?_
                  rintro y _ ⟨rfl, rfl⟩
                  go_wp2_with fail
                  go_ret
                  exact Ret.mk (bool_val (by rw [E.out])) B
            · have h9 : e.var ≥ 0 := by omega
              have E2 := hid (show okB e n = (decide (-2 ≤ e.sync ∧ e.sync ≤ 2) && v) by rw [E0.out]; simp [okV, h5, h8])
              clear h5
              cases v with
              | false =>
                have E := hid (show okB e n = false by rw [E2.out]; simp)
                go_enter Try.func15, Try.ntmps15
                go_wp2_with fail
                refine (in_yes H1.out _).mono ?_
                rintro y _ ⟨rfl, rfl⟩
                go_wp2_with fail
                refine (in_yes H2.out _).mono ?_
                rintro y _ ⟨rfl, rfl⟩
                go_wp2_with fail
                refine (in_yes H3.out _).mono ?_
                rintro y _ ⟨rfl, rfl⟩
                go_wp2_with fail
                refine (HG.out _ (below_alloc _ _)).mono ?_
                rintro y w1 ⟨rfl, hb⟩
                have bx := box10_next hb (box10_new ..)
                have B := below_next (below_alloc _ _) hb
                clear hb
                obtain ⟨z, ⟨k0, k1, k2, k3, k4, k5, k6, k7, k8, k9⟩, _⟩ := id bx
                go_wp2_with fail
                refine (in_yes H5.out _).mono ?_
                rintro y _ ⟨rfl, rfl⟩
                go_wp2_with fail
                refine (HV.out _ B).mono ?_
                rintro y w2 ⟨rfl, hb⟩
                obtain ⟨z, ⟨k0, k1, k2, k3, k4, k5, k6, k7, k8, k9⟩, _⟩ := box10_next hb bx
                replace B := below_next B hb
                clear hb bx
                go_wp2_with fail
                go_ret
                exact Ret.mk (bool_val (by rw [E.out])) B
              | true =>
                by_cases h7 : -2 ≤ e.sync ∧ e.sync ≤ 2
                · have E := hid (show okB e n = true by rw [E2.out]; simp [h7])
                  have H7 := hid h7
                  clear h7
                  go_enter Try.func15, Try.ntmps15
                  go_wp2_with fail
                  refine (in_yes H1.out _).mono ?_
                  rintro y _ ⟨rfl, rfl⟩
                  go_wp2_with fail
                  refine (in_yes H2.out _).mono ?_
                  rintro y _ ⟨rfl, rfl⟩
                  go_wp2_with fail
                  refine (in_yes H3.out _).mono ?_
                  rintro y _ ⟨rfl, rfl⟩
                  go_wp2_with fail
                  refine (HG.out _ (below_alloc _ _)).mono ?_
                  rintro y w1 ⟨rfl, hb⟩
                  have bx := box10_next hb (box10_new ..)
                  have B := below_next (below_alloc _ _) hb
                  clear hb
                  obtain ⟨z, ⟨k0, k1, k2, k3, k4, k5, k6, k7, k8, k9⟩, _⟩ := id bx
                  go_wp2_with fail
                  refine (in_yes H5.out _).mono ?_
                  rintro y _ ⟨rfl, rfl⟩
                  go_wp2_with fail
                  refine (HV.out _ B).mono ?_
                  rintro y w2 ⟨rfl, hb⟩
                  obtain ⟨z, ⟨k0, k1, k2, k3, k4, k5, k6, k7, k8, k9⟩, _⟩ := box10_next hb bx
                  replace B := below_next B hb
                  clear hb bx
                  go_wp2_with fail
                  refine (in_yes H7.out _).mono ?_
                  rintro y _ ⟨rfl, rfl⟩
                  go_wp2_with fail
                  go_ret
                  exact Ret.mk (bool_val (by rw [E.out])) B
                · have E := hid (show okB e n = false by rw [E2.out]; simp [h7])
                  have H7 := hid h7
                  clear h7
                  go_enter Try.func15, Try.ntmps15
                  go_wp2_with fail
                  refine (in_yes H1.out _).mono ?_
                  rintro y _ ⟨rfl, rfl⟩
                  go_wp2_with fail
                  refine (in_yes H2.out _).mono ?_
                  rintro y _ ⟨rfl, rfl⟩
                  go_wp2_with fail
                  refine (in_yes H3.out _).mono ?_
                  rintro y _ ⟨rfl, rfl⟩
                  go_wp2_with fail
                  refine (HG.out _ (below_alloc _ _)).mono ?_
                  rintro y w1 ⟨rfl, hb⟩
                  have bx := box10_next hb (box10_new ..)
                  have B := below_next (below_alloc _ _) hb
                  clear hb
                  obtain ⟨z, ⟨k0, k1, k2, k3, k4, k5, k6, k7, k8, k9⟩, _⟩ := id bx
                  go_wp2_with fail
                  refine (in_yes H5.out _).mono ?_
                  rintro y _ ⟨rfl, rfl⟩
                  go_wp2_with fail
                  refine (HV.out _ B).mono ?_
                  rintro y w2 ⟨rfl, hb⟩
                  obtain ⟨z, ⟨k0, k1, k2, k3, k4, k5, k6, k7, k8, k9⟩, _⟩ := box10_next hb bx
                  replace B := below_next B hb
                  clear hb bx
                  go_wp2_with fail
                  refine (in_no H7.out _).mono ?_
                  rintro y _ ⟨rfl, rfl⟩
                  go_wp2_with fail
                  go_ret
                  exact Ret.mk (bool_val (by rw [E.out])) B
          · have E := hid (show okB e n = false by rw [E0.out]; simp [okV]; omega)
            have H5 := hid h5
            clear h5
            go_enter Try.func15, Try.ntmps15
            go_wp2_with fail
            refine (in_yes H1.out _).mono ?_
            rintro y _ ⟨rfl, rfl⟩
            go_wp2_with fail
            refine (in_yes H2.out _).mono ?_
            rintro y _ ⟨rfl, rfl⟩
            go_wp2_with fail
            refine (in_yes H3.out _).mono ?_
            rintro y _ ⟨rfl, rfl⟩
            go_wp2_with fail
            refine (HG.out _ (below_alloc _ _)).mono ?_
            rintro y w1 ⟨rfl, hb⟩
            have bx := box10_next hb (box10_new ..)
            have B := below_next (below_alloc _ _) hb
            clear hb
            obtain ⟨z, ⟨k0, k1, k2, k3, k4, k5, k6, k7, k8, k9⟩, _⟩ := id bx
            go_wp2_with fail
            refine (in_no H5.out _).mono ?_
            rintro y _ ⟨rfl, rfl⟩
            go_wp2_with fail
            go_ret
            exact Ret.mk (bool_val (by rw [E.out])) B
      · have E := hid (show okB e n = false by simp only [okB]; rw [decide_eq_false (by omega), Bool.false_and])
        have H2 := hid h2
        have H3 := hid h3
        clear h2 h3
        go_enter Try.func15, Try.ntmps15
        go_wp2_with fail
        refine (in_yes H1.out _).mono ?_
        rintro y _ ⟨rfl, rfl⟩
        go_wp2_with fail
        refine (in_yes H2.out _).mono ?_
        rintro y _ ⟨rfl, rfl⟩
        go_wp2_with fail
        refine (in_no H3.out _).mono ?_
        rintro y _ ⟨rfl, rfl⟩
        go_wp2_with fail
        go_ret
        exact Ret.mk (bool_val (by rw [E.out])) (by repeat (first | exact Below.refl _ _ | assumption | refine below_a ?_ _ | refine below_o ?_ _ | refine below_d ?_ | refine below_n ?_ _ | refine below_s ?_ (by first | (simp; done) | (simp; omega) | omega) _))
    · have E := hid (show okB e n = false by simp only [okB]; rw [decide_eq_false (by omega), Bool.false_and])
      have H2 := hid h2
      clear h2
      go_enter Try.func15, Try.ntmps15
      go_wp2_with fail
      refine (in_yes H1.out _).mono ?_
      rintro y _ ⟨rfl, rfl⟩
      go_wp2_with fail
      refine (in_no H2.out _).mono ?_
      rintro y _ ⟨rfl, rfl⟩
      go_wp2_with fail
      go_ret
      exact Ret.mk (bool_val (by rw [E.out])) (by repeat (first | exact Below.refl _ _ | assumption | refine below_a ?_ _ | refine below_o ?_ _ | refine below_d ?_ | refine below_n ?_ _ | refine below_s ?_ (by first | (simp; done) | (simp; omega) | omega) _))
  · have E := hid (show okB e n = false by simp only [okB]; rw [decide_eq_false (by omega), Bool.false_and])
    have H1 := hid h1
    clear h1
    go_enter Try.func15, Try.ntmps15
    go_wp2_with fail
    refine (in_no H1.out _).mono ?_
    rintro y _ ⟨rfl, rfl⟩
    go_wp2_with fail
    go_ret
    exact Ret.mk (bool_val (by rw [E.out])) (by repeat (first | exact Below.refl _ _ | assumption | refine below_a ?_ _ | refine below_o ?_ _ | refine below_d ?_ | refine below_n ?_ _ | refine below_s ?_ (by first | (simp; done) | (simp; omega) | omega) _))

end Edge
end Go.Proofs.Ytchlpeflfiecdaa
