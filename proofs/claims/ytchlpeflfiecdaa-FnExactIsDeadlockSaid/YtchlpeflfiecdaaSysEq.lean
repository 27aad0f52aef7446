/- The laws' eqEdgeS, eqProcess, eqProcessS, eqSystem. Conditions: those of each contract. -/
import Derived.Test.YtchlpeflfiecdaaSysA
namespace Go.Proofs.Ytchlpeflfiecdaa
open Go.RowKit
namespace Sys

def eqEs : List Ed → List Ed → Bool := eqG Edge.eqE
def eqP (p q : Pr) : Bool := decide (p.locs = q.locs) && eqEs p.edges q.edges
def eqPs : List Pr → List Pr → Bool := eqG eqP
def eqS (s t : Sy) : Bool := (s.init == t.init) && eqPs s.procs t.procs
theorem eqEs_true (l m : List Ed) : eqEs l m = true ↔ l = m := eqG_true Edge.eqE_true l m
theorem eqP_true (p q : Pr) : eqP p q = true ↔ p = q := by
  cases p; cases q
  simp [eqP, eqEs_true]
theorem eqS_true (s t : Sy) : eqS s t = true ↔ s = t := by
  cases s; cases t
  simp [eqS, eqPs, eqG_true eqP_true]
theorem eqS_refl (s : Sy) : eqS s s = true := (eqS_true s s).2 rfl

set_option maxRecDepth 100000 in
set_option maxHeartbeats 2000000 in
theorem eqEs_any (l m : List Ed) (w : World) (a a' : Option Addr) (c c' : Nat) (hl : EdsIn Any w l a) (hm : EdsIn Any w m a') (hc : l.length ≤ c) (hc2 : c ≤ maxLen) (hc' : m.length ≤ c') (hc2' : c' ≤ maxLen) :
    Calls Try.prog 103 #[.slice a l.length c, .slice a' m.length c'] w (Ret (.bool (eqEs l m)) w) := by
  unfold maxLen at hc2 hc2'
  by_cases hn : l.length = m.length
  · have hn1 : l.length ≤ m.length := by omega
    have hn2 : m.length ≤ l.length := by omega
    have h3 : ((l.length : Int) != (m.length : Int)) = false := by rw [bne_eq_false_iff_eq]; omega
    clear hn
    go_enter Try.func103, Try.ntmps103
    go_wp2_with fail
    go_loopw [5] (fun i wr => ∃ k : Nat, k ≤ l.length ∧ i = .int .i64 k ∧ Below w.heap.size w wr ∧ Hid (eqG Edge.eqE (l.drop k) (m.drop k) = eqEs l m)) (fun i _ => l.length - (intOf i).toNat)
    case atStart => exact ⟨0, Nat.zero_le _, rfl, Below.refl _ _, hid rfl⟩
    case round =>
      obtain ⟨k, hk, rfl, B, hr⟩ := hrel
      by_cases hlt : k < l.length
      · have hltm : k < m.length := by omega
        obtain ⟨b, o, rfl, _, hb, a1, c1, a2, c2, ⟨g0, g1, g2, g3, g4, g5, g6, g7, g8, g9⟩, hT⟩ := SeqIn.at (EdsIn.below hl B) hlt
        obtain ⟨b', o', rfl, _, hb', a1', c1', a2', c2', ⟨f0, f1, f2, f3, f4, f5, f6, f7, f8, f9⟩, hU⟩ := SeqIn.at (EdsIn.below hm B) hltm
        have HR2 := hid (show eqEs l m = (Edge.eqE l[k] m[k] && eqG Edge.eqE (l.drop (k + 1)) (m.drop (k + 1))) from eqG_drop hlt hltm hr.out)
        have HT := hid hT
        have HU := hid hU
        clear hT hU hr
        have hlt2 : (k : Int) < (l.length : Int) := by omega
        have hlt3 : (k : Int) < (m.length : Int) := by omega
        generalize l[k] = t at *
        generalize m[k] = u at *
        go_wp2_with fail
        refine wp_region_over (by kernel_rfl) (by kernel_rfl) ?_; (repeat (go_big_quiet_step ((go_at_call 16; exact Calls.over (Edge.eq_any t u _ _ _ (EdIn_below (over_below _ _) HT.out) (EdIn_below (over_below _ _) HU.out)))))); refine wpQuiet_nil ?_; rintro _ ⟨xq, rfl⟩
        have hbd := below_next B (over_below wr xq)
        clear g0 g1 g2 g3 g4 g5 g6 g7 g8 g9 f0 f1 f2 f3 f4 f5 f6 f7 f8 f9
        cases hq : Edge.eqE t u with
        | true =>
          have HR3 := HR2.out
          rw [hq, Bool.true_and] at HR3
          have HR4 := hid HR3.symm; clear HR3 hq
          go_wp2_with fail
          go_roundw
          case rel => exact ⟨k + 1, by omega, by go_num, hbd, HR4⟩
          case measure => simp [intOf]; omega
        | false =>
          have HR3 := HR2.out
          rw [hq, Bool.false_and] at HR3
          have HR4 := hid HR3; clear HR3 hq
          go_wp2_with fail
          go_ret
          exact Ret.mk (bool_val HR4.out.symm) hbd
      · have hr2 := hr.out
        rw [List.drop_of_length_le (by omega), List.drop_of_length_le (by omega)] at hr2
        have HR2 := hid (show true = eqEs l m from hr2); clear hr2
        have hlt2 : ¬ ((k : Int) < (l.length : Int)) := by omega
        go_wp2_with fail
        go_ret
        exact Ret.mk (bool_val HR2.out) B
  · have E1 := hid (eqG_len Edge.eqE l m hn)
    have h3 : ((l.length : Int) != (m.length : Int)) = true := by rw [bne_iff_ne]; omega
    go_enter Try.func103, Try.ntmps103
    go_wp2_with fail
    go_ret
    exact Ret.mk (bool_val E1.out.symm) (Below.refl _ _)

set_option maxHeartbeats 1000000 in
theorem eqP_any (p q : Pr) (w : World) (x y : Value) (hx : PrIn Any w p x) (hy : PrIn Any w q y) : Calls Try.prog 91 #[x, y] w (Ret (.bool (eqP p q)) w) := by
  obtain ⟨a, c, rfl, _, hc, hc2, he⟩ := hx
  obtain ⟨a', c', rfl, _, hc', hc2', he'⟩ := hy
  have HE := hid (fun (w' : World) (M : Below w.heap.size w w') => eqEs_any p.edges q.edges w' a a' c c' (he.below M) (he'.below M) hc hc2 hc' hc2')
  have E := hid (show eqP p q = (decide (p.locs = q.locs) && eqEs p.edges q.edges) from rfl)
  generalize eqEs p.edges q.edges = g at *
  by_cases k1 : p.locs = q.locs
  · have e1 : (p.locs != q.locs) = false := by simpa using k1
    have E2 := hid (show eqP p q = g by rw [E.out, decide_eq_true k1, Bool.true_and])
    clear k1
    go_enter Try.func91, Try.ntmps91
    go_wp2_with fail
    refine (HE.out _ (by repeat (first | exact Below.refl _ _ | assumption | refine below_a ?_ _ | refine below_o ?_ _ | refine below_d ?_ | refine below_n ?_ _ | refine below_s ?_ (by first | (simp; done) | (simp; omega) | omega) _))).mono ?_
    rintro y w1 ⟨rfl, hb⟩
    have B := below_next (show Below w.heap.size w _ from below_next (below_alloc _ _) (below_alloc _ _)) hb
    cases g
    all_goals
      go_wp2_with fail
      go_ret
      exact Ret.mk (bool_val E2.out.symm) B
  · have e1 : (p.locs != q.locs) = true := by simpa using k1
    have E2 := hid (show eqP p q = false by rw [E.out, decide_eq_false k1, Bool.false_and])
    clear k1
    go_enter Try.func91, Try.ntmps91
    go_wp2_with fail
    go_ret
    exact Ret.mk (bool_val E2.out.symm) (by repeat (first | exact Below.refl _ _ | assumption | refine below_a ?_ _ | refine below_o ?_ _ | refine below_d ?_ | refine below_n ?_ _ | refine below_s ?_ (by first | (simp; done) | (simp; omega) | omega) _))

set_option maxHeartbeats 2000000 in
theorem eqPs_any (l m : List Pr) (w : World) (a a' : Option Addr) (c c' : Nat) (hl : PrsIn Any w l a) (hm : PrsIn Any w m a') (hc : l.length ≤ c) (hc2 : c ≤ maxLen) (hc' : m.length ≤ c') (hc2' : c' ≤ maxLen) :
    Calls Try.prog 67 #[.slice a l.length c, .slice a' m.length c'] w (Ret (.bool (eqPs l m)) w) := by
  unfold maxLen at hc2 hc2'
  by_cases hn : l.length = m.length
  · have hn1 : l.length ≤ m.length := by omega
    have hn2 : m.length ≤ l.length := by omega
    have h3 : ((l.length : Int) != (m.length : Int)) = false := by rw [bne_eq_false_iff_eq]; omega
    clear hn
    go_enter Try.func67, Try.ntmps67
    go_wp2_with fail
    go_loopw [5] (fun i wr => ∃ k : Nat, k ≤ l.length ∧ i = .int .i64 k ∧ Below w.heap.size w wr ∧ Hid (eqG eqP (l.drop k) (m.drop k) = eqPs l m)) (fun i _ => l.length - (intOf i).toNat)
    case atStart => exact ⟨0, Nat.zero_le _, rfl, Below.refl _ _, hid rfl⟩
    case round =>
      obtain ⟨k, hk, rfl, B, hr⟩ := hrel
      by_cases hlt : k < l.length
      · have hltm : k < m.length := by omega
        obtain ⟨b, o, rfl, _, hb, a1, c1, ⟨g0, g1⟩, hT⟩ := SeqIn.at (PrsIn.below hl B) hlt
        obtain ⟨b', o', rfl, _, hb', a1', c1', ⟨f0, f1⟩, hU⟩ := SeqIn.at (PrsIn.below hm B) hltm
        have HR2 := hid (show eqPs l m = (eqP l[k] m[k] && eqG eqP (l.drop (k + 1)) (m.drop (k + 1))) from eqG_drop hlt hltm hr.out)
        have HT := hid hT
        have HU := hid hU
        clear hT hU hr
        have hlt2 : (k : Int) < (l.length : Int) := by omega
        have hlt3 : (k : Int) < (m.length : Int) := by omega
        generalize l[k] = t at *
        generalize m[k] = u at *
        go_wp2_with fail
        refine wp_region_over (by kernel_rfl) (by kernel_rfl) ?_; (repeat (go_big_quiet_step ((go_at_call 91; exact Calls.over (eqP_any t u _ _ _ (PrIn.below HT.out (over_below _ _)) (PrIn.below HU.out (over_below _ _))))))); refine wpQuiet_nil ?_; rintro _ ⟨xq, rfl⟩
        have hbd := below_next B (over_below wr xq)
        clear g0 g1 f0 f1
        cases hq : eqP t u with
        | true =>
          have HR3 := HR2.out
          rw [hq, Bool.true_and] at HR3
          have HR4 := hid HR3.symm; clear HR3 hq
          go_wp2_with fail
          go_roundw
          case rel => exact ⟨k + 1, by omega, by go_num, hbd, HR4⟩
          case measure => simp [intOf]; omega
        | false =>
          have HR3 := HR2.out
          rw [hq, Bool.false_and] at HR3
          have HR4 := hid HR3; clear HR3 hq
          go_wp2_with fail
          go_ret
          exact Ret.mk (bool_val HR4.out.symm) hbd
      · have hr2 := hr.out
        rw [List.drop_of_length_le (by omega), List.drop_of_length_le (by omega)] at hr2
        have HR2 := hid (show true = eqPs l m from hr2); clear hr2
        have hlt2 : ¬ ((k : Int) < (l.length : Int)) := by omega
        go_wp2_with fail
        go_ret
        exact Ret.mk (bool_val HR2.out) B
  · have E1 := hid (eqG_len eqP l m hn)
    have h3 : ((l.length : Int) != (m.length : Int)) = true := by rw [bne_iff_ne]; omega
    go_enter Try.func67, Try.ntmps67
    go_wp2_with fail
    go_ret
    exact Ret.mk (bool_val E1.out.symm) (Below.refl _ _)

set_option maxHeartbeats 1000000 in
theorem eqS_any (s t : Sy) (w : World) (x y : Value) (hx : SyIn Any w s x) (hy : SyIn Any w t y) : Calls Try.prog 21 #[x, y] w (Ret (.bool (eqS s t)) w) := by
  obtain ⟨a, c, b, d, rfl, hc, hc2, hi, hd, hd2, hp⟩ := hx
  obtain ⟨a', c', b', d', rfl, hc', hc2', hi', hd', hd2', hp'⟩ := hy
  have HG := hid (fun (w' : World) (M : Below w.heap.size w w') => eqIntS_any s.init t.init w' a a' c c' (hi.below M) (hi'.below M) hc hc2 hc' hc2')
  have HV := hid (fun (w' : World) (M : Below w.heap.size w w') => eqPs_any s.procs t.procs w' b b' d d' (hp.below M) (hp'.below M) hd hd2 hd' hd2')
  have E := hid (show eqS s t = ((s.init == t.init) && eqPs s.procs t.procs) from rfl)
  generalize (s.init == t.init) = g at *
  generalize eqPs s.procs t.procs = v at *
  go_enter Try.func21, Try.ntmps21
  go_wp2_with fail
  refine (HG.out _ (by repeat (first | exact Below.refl _ _ | assumption | refine below_a ?_ _ | refine below_o ?_ _ | refine below_d ?_ | refine below_n ?_ _ | refine below_s ?_ (by first | (simp; done) | (simp; omega) | omega) _))).mono ?_
  rintro y w1 ⟨rfl, hb⟩
  obtain ⟨z, q0, q1, q2, q3⟩ := box2_next hb (box2_next (below_alloc _ _) (box2_at rfl))
  obtain ⟨z', r0, r1, r2, r3⟩ := box2_next hb (box2_at (B := w.heap.size + 1) (by simp))
  have B := below_next (show Below w.heap.size w _ from below_next (below_alloc _ _) (below_alloc _ _)) hb
  clear hb
  cases g
  · have E2 := hid (show eqS s t = false by rw [E.out]; rfl)
    go_wp2_with fail
    go_ret
    exact Ret.mk (bool_val E2.out.symm) B
  · have E2 := hid (show eqS s t = v by rw [E.out]; rfl)
    go_wp2_with fail
    refine (HV.out _ B).mono ?_
    rintro y w2 ⟨rfl, hb⟩
    cases v
    all_goals
      go_wp2_with fail
      go_ret
      exact Ret.mk (bool_val E2.out.symm) (below_next B hb)
end Sys
end Go.Proofs.Ytchlpeflfiecdaa
