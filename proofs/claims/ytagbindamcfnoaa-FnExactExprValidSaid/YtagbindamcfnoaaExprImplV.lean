/- The program's in, Expr.walk, ExprNodes, ExprValid: what each returns, for every tree. Conditions: those of each contract. -/
import Derived.Test.YtagbindamcfnoaaRows
import Derived.Test.YtagbindamcfnoaaMem
import Derived.Test.YtagbindamcfnoaaValidPlain
import Derived.WalkSpells
import Derived.WalkLawsBesides
import Derived.Deep.DeepCutAuto
import Derived.Deep.CutBlock
namespace Go.Proofs.Ytagbindamcfnoaa
open Go.RowKit

/-- is a number in a range -/
def inB (a b c : Int) : Bool := decide (b ≤ a ∧ a ≤ c)
set_option maxHeartbeats 400000 in
theorem in_any (a b c : Int) (w : World) : Calls Try.prog 50 #[.int .i64 a, .int .i64 b, .int .i64 c] w (RetW (.bool (inB a b c)) w) := by
  by_cases h1 : b ≤ a
  · have E := hid (show decide (a ≤ c) = inB a b c by simp [inB, h1])
    go_enter Try.func50, Try.ntmps50
    go_wp2_with fail
    go_ret
    exact ⟨congrArg (fun x => Ending.returned (.bool x)) E.out, rfl⟩
  · have E := hid (show false = inB a b c by simp [inB]; omega)
    go_enter Try.func50, Try.ntmps50
    go_wp2_with fail
    go_ret
    exact ⟨congrArg (fun x => Ending.returned (.bool x)) E.out, rfl⟩
theorem in_yes {a b c : Int} (h : b ≤ a ∧ a ≤ c) (w : World) : Calls Try.prog 50 #[.int .i64 a, .int .i64 b, .int .i64 c] w (RetW (.bool true) w) := by
  have := in_any a b c w
  rwa [inB, decide_eq_true h] at this
theorem in_no {a b c : Int} (h : ¬(b ≤ a ∧ a ≤ c)) (w : World) : Calls Try.prog 50 #[.int .i64 a, .int .i64 b, .int .i64 c] w (RetW (.bool false) w) := by
  have := in_any a b c w
  rwa [inB, decide_eq_false h] at this

theorem upd_past {w W W' : World} {R : Nat} {v : Value} (h : Upd W R v W') (hb : Below w.heap.size w W) (hR : R < w.heap.size) : Upd w R v W' :=
  (Upd.of_below hb hR).trans_below h
namespace Expr
/-- what a call of walk comes to: the counter, in block R, is m behind it -/
def WkPost (v : Value) (R : Nat) (m : Int) (w : World) (e : Ending) (w' : World) : Prop := e = .returned v ∧ Upd w R (.int .i64 m) w'

def WkT (t : Tr) : Prop := ∀ (w : World) (x : Value) (R : Nat) (d n : Int), TrIn (· ≠ R) w t x → 1 ≤ d → d ≤ 7 → 0 ≤ n → n ≤ 15 →
    w.cell? ⟨R, 0, none⟩ = some (.int .i64 n) → w.frozen? ⟨R, 0, none⟩ = false →
    Calls Try.prog 45 #[x, .int .i64 d, .pointer (some ⟨R, 0, none⟩)] w (WkPost (.bool (exprL.wk t d n).1) R (exprL.wk t d n).2 w)

/-- the closure that ContainsFunc is handed: it walks a node one deeper, and tells whether that failed -/
def clo (D E : Nat) : Value := .func (.func 66) #[] #[.pointer (some ⟨D, 0, none⟩), .pointer (some ⟨E, 0, none⟩)]

set_option maxHeartbeats 400000 in
theorem clo_of (t : Tr) (h : WkT t) (w : World) (x : Value) (R D E : Nat) (d n : Int) (hx : TrIn (· ≠ R) w t x) (hd1 : 0 ≤ d) (hd2 : d ≤ 6) (hn1 : 0 ≤ n) (hn2 : n ≤ 15)
    (hD : w.cell? ⟨D, 0, none⟩ = some (.int .i64 d)) (hE : w.cell? ⟨E, 0, none⟩ = some (.pointer (some ⟨R, 0, none⟩))) (hR : w.cell? ⟨R, 0, none⟩ = some (.int .i64 n)) (hF : w.frozen? ⟨R, 0, none⟩ = false) :
    Calls Try.prog 66 #[x, .pointer (some ⟨D, 0, none⟩), .pointer (some ⟨E, 0, none⟩)] w (WkPost (.bool (!(exprL.wk t (d + 1) n).1)) R (exprL.wk t (d + 1) n).2 w) := by
  obtain ⟨a, c, rfl⟩ := TrIn_shape hx
  have lD := blt hD
  have lE := blt hE
  have lR : R < w.heap.size := blt hR
  go_enter Try.func66, Try.ntmps66
  go_wp2_with fail
  refine (h _ _ R (d + 1) n (TrIn_alloc hx _) (by omega) (by omega) hn1 hn2 (by simp [go_sem, lR, hR]) (by simp [go_sem, lR, hF])).mono ?_
  rintro e w2 ⟨rfl, hu⟩
  go_wp2_with fail
  go_ret
  exact ⟨rfl, upd_past hu (below_alloc _ _) lR⟩

/-- what a call of IndexFunc comes to: an index, not negative exactly where some node failed -/
def IxPost (bad : Bool) (R : Nat) (m : Int) (w : World) (e : Ending) (w' : World) : Prop := ∃ i : Int, e = .returned (.int .i64 i) ∧ decide (0 ≤ i) = bad ∧ Upd w R (.int .i64 m) w'

set_option maxHeartbeats 1000000 in
theorem ix_of (l : List Tr) (h : ∀ t, t ∈ l → WkT t) (w : World) (a : Option Addr) (c R D E : Nat) (d n : Int) (hl : TrsIn (· ≠ R) w l a) (hc : l.length ≤ c) (hc2 : c ≤ maxLen) (hd1 : 0 ≤ d) (hd2 : d ≤ 6) (hn1 : 0 ≤ n) (hn2 : n ≤ 15)
    (hD : w.cell? ⟨D, 0, none⟩ = some (.int .i64 d)) (hE : w.cell? ⟨E, 0, none⟩ = some (.pointer (some ⟨R, 0, none⟩))) (hR : w.cell? ⟨R, 0, none⟩ = some (.int .i64 n)) (hF : w.frozen? ⟨R, 0, none⟩ = false) (hDR : D ≠ R) (hER : E ≠ R) :
    Calls Try.prog 76 #[.slice a l.length c, clo D E] w (IxPost (!(exprL.wkL l (d + 1) n).1) R (exprL.wkL l (d + 1) n).2 w) := by
  unfold maxLen at hc2
  have lD := blt hD
  have lE := blt hE
  have lR : R < w.heap.size := blt hR
  unfold clo
  go_enter Try.func76, Try.ntmps76
  go_wp2_with fail
  go_loopw [5, 8] (fun _ i wr => ∃ (j : Nat) (m : Int), j ≤ l.length ∧ i = .int .i64 j ∧ 0 ≤ m ∧ m ≤ 15 ∧ Upd w R (.int .i64 m) wr ∧ Hid (exprL.wkL (l.drop j) (d + 1) m = exprL.wkL l (d + 1) n)) (fun _ i _ => l.length - (intOf i).toNat)
  case atStart => exact ⟨0, n, Nat.zero_le _, rfl, hn1, hn2, Upd.self hR, hid rfl⟩
  case round =>
    obtain ⟨j, m, hj, rfl, hm1, hm2, hu, hr⟩ := hrel
    have hl' := TrsIn_upd hu (fun b hb => hb) hl
    have qD := (hu.other (o := 0) lD hDR).trans hD
    have qE := (hu.other (o := 0) lE hER).trans hE
    have qR := hu.cell hR
    have qF := (hu.frozen (o := 0) lR).trans hF
    by_cases hlt : j < l.length
    · obtain ⟨b, o, c0, c1, c2, t, rfl, gb, g0, g1, g2, hT⟩ := TrsIn_round hl' (Below.refl _ _) hlt
      have HR2 := hr.out
      rw [hT.out.2.2.1] at HR2
      simp only [Lang.wkL] at HR2
      have HR := hid HR2; clear HR2
      have hbd := exprL.wk_bd t (d + 1) m hm2
      rw [exprL_N] at hbd
      go_wp2_with fail
      refine (clo_of t (h t hT.out.2.1) wr _ R D E d m hT.out.1 hd1 hd2 hm1 hm2 qD qE qR qF).mono ?_
      rintro e w2 ⟨rfl, hu2⟩
      have hu3 := hu.trans hu2
      cases hq : (exprL.wk t (d + 1) m).1 with
      | true =>
        have HR3 := HR.out
        rw [hq, if_pos rfl] at HR3
        have HR4 := hid HR3; clear HR3
        have hb2 := hbd.2.2 hq
        clear hq
        go_wp2_with fail
        go_roundw
        case rel => exact ⟨j + 1, (exprL.wk t (d + 1) m).2, by omega, by go_num, by omega, hb2, hu3, HR4⟩
        case measure => simp [intOf]; omega
      | false =>
        have HR3 := HR.out
        rw [hq, if_neg (by simp)] at HR3
        have HR4 := hid HR3; clear HR3 hq
        go_wp2_with fail
        go_ret
        exact ⟨j, rfl, by rw [← HR4.out]; simp, by rw [← HR4.out]; exact hu3⟩
    · have HR2 := hr.out
      rw [List.drop_of_length_le (by omega)] at HR2
      simp only [Lang.wkL] at HR2
      have HR := hid HR2; clear HR2
      go_wp2_with fail
      go_ret
      exact ⟨-1, rfl, by rw [← HR.out]; simp, by rw [← HR.out]; exact hu⟩

set_option maxHeartbeats 400000 in
theorem cf_of (l : List Tr) (h : ∀ t, t ∈ l → WkT t) (w : World) (a : Option Addr) (c R D E : Nat) (d n : Int) (hl : TrsIn (· ≠ R) w l a) (hc : l.length ≤ c) (hc2 : c ≤ maxLen) (hd1 : 0 ≤ d) (hd2 : d ≤ 6) (hn1 : 0 ≤ n) (hn2 : n ≤ 15)
    (hD : w.cell? ⟨D, 0, none⟩ = some (.int .i64 d)) (hE : w.cell? ⟨E, 0, none⟩ = some (.pointer (some ⟨R, 0, none⟩))) (hR : w.cell? ⟨R, 0, none⟩ = some (.int .i64 n)) (hF : w.frozen? ⟨R, 0, none⟩ = false) (hDR : D ≠ R) (hER : E ≠ R) :
    Calls Try.prog 60 #[.slice a l.length c, clo D E] w (WkPost (.bool (!(exprL.wkL l (d + 1) n).1)) R (exprL.wkL l (d + 1) n).2 w) := by
  have H := ix_of l h w a c R D E d n hl hc hc2 hd1 hd2 hn1 hn2 hD hE hR hF hDR hER
  have HH := hid H; clear H hD hE hR hF
  unfold clo at HH ⊢
  go_enter Try.func60, Try.ntmps60
  go_wp2_with fail
  refine HH.out.mono ?_
  rintro e w2 ⟨i, rfl, hi, hu⟩
  have HI := hid hi; clear hi
  go_wp2_with fail
  go_ret
  exact ⟨congrArg (fun x => Ending.returned (.bool x)) HI.out, hu⟩

set_option maxHeartbeats 2000000 in
theorem wk_of (k v : Int) (kids : List Tr) (h : ∀ t, t ∈ kids → WkT t) : WkT (.mk k v kids) := by
  intro w x R d n hx hd1 hd2 hn1 hn2 hR hF
  rw [TrIn_mk] at hx
  obtain ⟨a, n', c, rfl, hk, hv, rfl, hc, hc2, hks⟩ := hx
  have lR : R < w.heap.size := blt hR
  have hE0 := hid (show exprL.wk (.mk k v kids) d n = if 6 < d ∨ exprL.N < n + 1 ∨ exprL.okB k v kids.length = false then (false, n + 1) else exprL.wkL kids (d + 1) (n + 1) by simp only [Lang.wk])
  have lR1 : R < w.heap.size + 1 := by omega
  have lR2 : R < w.heap.size + 1 + 1 := by omega
  have lR3 : R < w.heap.size + 1 + 1 + 1 := by omega
  go_enter Try.func45, Try.ntmps45
  go_upto_block 0 with fail
  go_cut [7, 8] (fun s7 s8 wx => s7 = .int .i64 (exprL.ar k) ∧ s8 = .int .i64 (exprL.most k) ∧ Upd w R (.int .i64 (n + 1)) wx ∧ w.heap.size + 1 + 1 < wx.heap.size ∧ wx.cell? ⟨w.heap.size, 0, none⟩ = some (.int .i64 k) ∧ wx.cell? ⟨w.heap.size, 1, none⟩ = some (.int .i64 v) ∧ wx.cell? ⟨w.heap.size, 2, none⟩ = some (.slice a kids.length c) ∧
    wx.cell? ⟨w.heap.size + 1, 0, none⟩ = some (.int .i64 d) ∧ wx.cell? ⟨w.heap.size + 1 + 1, 0, none⟩ = some (.pointer (some ⟨R, 0, none⟩)))
  case first =>
    go_wp2_with fail
    all_goals go_meet
    all_goals refine ⟨int_val ?_, int_val ?_, Upd.of (by repeat (first | exact Below.refl _ _ | assumption | refine below_a ?_ _ | refine below_o ?_ _ | refine below_d ?_ | refine below_n ?_ _ | refine below_s ?_ (by first | (simp; done) | (simp; omega) | omega) _)), by simp, by simp [go_sem], by simp [go_sem], by simp [go_sem], by simp [go_sem], by simp [go_sem]⟩
    all_goals first
      | (have e := ‹(k == 1) = true›; simp at e; first | rw [exprL_ar, if_pos (.inl e)] | rw [exprL_most, if_pos e])
      | (have e1 := ‹(k == 1) = false›; have e := ‹(k == 2) = true›; simp at e1 e; first | rw [exprL_ar, if_pos (.inr e)] | rw [exprL_most, if_neg e1, if_pos e])
      | (have e1 := ‹(k == 1) = false›; have e2 := ‹(k == 2) = false›; have e := ‹(k == 3) = true›; simp at e1 e2 e; first | rw [exprL_ar, if_neg (by omega), if_pos e] | rw [exprL_most, if_neg e1, if_neg e2])
      | (have e1 := ‹(k == 1) = false›; have e2 := ‹(k == 2) = false›; have e := ‹(k == 3) = false›; simp at e1 e2 e; first | rw [exprL_ar, if_neg (by omega), if_neg e] | rw [exprL_most, if_neg e1, if_neg e2])
  case rest =>
    obtain ⟨rfl, rfl, hu, hsz, q0, q1, q2, qd, qp⟩ := hcut
    have qR := hu.cell hR
    have qF := (hu.frozen (o := 0) lR).trans hF
    by_cases c1 : 6 < d
    · have E := hid (show exprL.wk (.mk k v kids) d n = (false, n + 1) by rw [hE0.out, if_pos (.inl c1)])
      go_wp2_with fail
      go_ret
      exact ⟨by rw [E.out]; rfl, by rw [E.out]; exact hu⟩
    by_cases c2 : 15 < n + 1
    · have E := hid (show exprL.wk (.mk k v kids) d n = (false, n + 1) by rw [hE0.out, if_pos (.inr (.inl c2))])
      go_wp2_with fail
      go_ret
      exact ⟨by rw [E.out]; rfl, by rw [E.out]; exact hu⟩
    have hno : ∀ (hh : ¬((1 ≤ k ∧ k ≤ 9) ∧ (0 ≤ v ∧ v ≤ exprL.most k) ∧ (kids.length : Int) = exprL.ar k)), exprL.wk (.mk k v kids) d n = (false, n + 1) := fun hh => by
      rw [hE0.out, if_pos (.inr (.inr (exprL.okB_no hh)))]
    have HNO := hid hno; clear hno
    by_cases c3 : 1 ≤ k ∧ k ≤ 9
    · by_cases c4 : 0 ≤ v ∧ v ≤ exprL.most k
      · by_cases c5 : (kids.length : Int) = exprL.ar k
        · have E := hid (show exprL.wk (.mk k v kids) d n = exprL.wkL kids (d + 1) (n + 1) by
            rw [hE0.out, if_neg]
            rintro (h1 | h1 | h1)
            · exact c1 h1
            · exact c2 h1
            · rw [exprL.okB_iff.2 ⟨c3, c4, c5⟩] at h1; cases h1)
          have e5 : ((kids.length : Int) != exprL.ar k) = false := by simpa using c5
          clear c5 HNO
          go_wp2_with fail
          refine (in_yes c3 _).mono ?_
          rintro e w' ⟨rfl, rfl⟩
          go_wp2_with fail
          refine (in_yes c4 _).mono ?_
          rintro e w' ⟨rfl, rfl⟩
          go_wp2_with fail
          refine (cf_of kids h _ a c R (w.heap.size + 1) (w.heap.size + 1 + 1) d (n + 1) (TrsIn_upd hu (fun b hb => hb) hks) hc hc2 (by omega) (by omega) (by omega) (by omega) qd qp qR qF (by omega) (by omega)).mono ?_
          rintro e w' ⟨rfl, hu2⟩
          go_wp2_with fail
          go_ret
          exact ⟨by rw [E.out]; simp, by rw [E.out]; exact hu.trans hu2⟩
        · have E := hid (HNO.out (fun hh => c5 hh.2.2))
          have e5 : ((kids.length : Int) != exprL.ar k) = true := by simpa using c5
          clear c5 HNO
          go_wp2_with fail
          refine (in_yes c3 _).mono ?_
          rintro e w' ⟨rfl, rfl⟩
          go_wp2_with fail
          refine (in_yes c4 _).mono ?_
          rintro e w' ⟨rfl, rfl⟩
          go_wp2_with fail
          go_ret
          exact ⟨by rw [E.out]; rfl, by rw [E.out]; exact hu⟩
      · have E := hid (HNO.out (fun hh => c4 hh.2.1))
        clear HNO
        go_wp2_with fail
        refine (in_yes c3 _).mono ?_
        rintro e w' ⟨rfl, rfl⟩
        go_wp2_with fail
        refine (in_no c4 _).mono ?_
        rintro e w' ⟨rfl, rfl⟩
        go_wp2_with fail
        go_ret
        exact ⟨by rw [E.out]; rfl, by rw [E.out]; exact hu⟩
    · have E := hid (HNO.out (fun hh => c3 hh.1))
      clear HNO
      go_wp2_with fail
      refine (in_no c3 _).mono ?_
      rintro e w' ⟨rfl, rfl⟩
      go_wp2_with fail
      go_ret
      exact ⟨by rw [E.out]; rfl, by rw [E.out]; exact hu⟩

theorem wk_any : ∀ t, WkT t := fun t => Tr.ind (fun k v kids ih => wk_of k v kids ih) t

set_option maxHeartbeats 400000 in
theorem nodes_any (t : Tr) (w : World) (x : Value) (hx : TrIn Any w t x) : Calls Try.prog 17 #[x] w (Ret (.int .i64 (exprL.size t)) w) := by
  have hx0 := hx
  obtain ⟨a, c, rfl⟩ := TrIn_shape hx
  have E := hid (exprL.size_wk t)
  go_enter Try.func17, Try.ntmps17
  go_wp2_with fail
  refine (wk_any t _ _ (w.heap.size + 1) 1 0 (TrIn_alloc (TrIn_alloc (TrIn_mono (fun b hb => by omega) (TrIn_old hx)) _) _) (by omega) (by omega) (by omega) (by omega) (by simp [go_sem]) (by simp [go_sem])).mono ?_
  rintro e w' ⟨rfl, hu⟩
  have qR := hu.cell (u := .int .i64 0) (by simp [go_sem])
  cases hq : (exprL.wk t 1 0).1 with
  | true =>
    have E2 := E.out
    rw [hq, if_pos rfl] at E2
    have E3 := hid E2; clear E2 hq
    go_wp2_with fail
    go_ret
    exact Ret.mk (int_val E3.out.symm) (hu.new (by repeat (first | exact Below.refl _ _ | assumption | refine below_a ?_ _ | refine below_o ?_ _ | refine below_d ?_ | refine below_n ?_ _ | refine below_s ?_ (by first | (simp; done) | (simp; omega) | omega) _)) (by omega))
  | false =>
    have E2 := E.out
    rw [hq, if_neg (by simp)] at E2
    have E3 := hid E2; clear E2 hq
    go_wp2_with fail
    go_ret
    exact Ret.mk (int_val E3.out.symm) (hu.new (by repeat (first | exact Below.refl _ _ | assumption | refine below_a ?_ _ | refine below_o ?_ _ | refine below_d ?_ | refine below_n ?_ _ | refine below_s ?_ (by first | (simp; done) | (simp; omega) | omega) _)) (by omega))

set_option maxHeartbeats 400000 in
theorem valid_any (t : Tr) (w : World) (x : Value) (hx : TrIn Any w t x) : Calls Try.prog 14 #[x] w (Ret (.bool (exprL.valid t)) w) := by
  have hx0 := hx
  obtain ⟨a, c, rfl⟩ := TrIn_shape hx
  have E := hid (exprL.valid_size t)
  go_enter Try.func14, Try.ntmps14
  go_wp2_with fail
  refine (nodes_any t _ _ (TrIn_alloc hx _)).mono ?_
  rintro e w' ⟨rfl, hby⟩
  obtain ⟨y, rfl⟩ := bex hby
  clear hby
  go_wp2_with fail
  go_ret
  exact Ret.mk (bool_val E.out.symm) (by repeat (first | exact Below.refl _ _ | assumption | refine below_a ?_ _ | refine below_o ?_ _ | refine below_d ?_ | refine below_n ?_ _ | refine below_s ?_ (by first | (simp; done) | (simp; omega) | omega) _))

end Expr
end Go.Proofs.Ytagbindamcfnoaa
