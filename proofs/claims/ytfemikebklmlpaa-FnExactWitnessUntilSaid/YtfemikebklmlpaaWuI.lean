/- The program's WitnessUntil. Conditions: those of the contract. -/
import Derived.Test.YtfemikebklmlpaaShortI
namespace Go.Proofs.Ytfemikebklmlpaa
open Go.RowKit
set_option linter.unusedVariables false
set_option linter.unusedSimpArgs false
namespace Bfs
open Gr

/-- rows of a table: those below k are laid, the others are empty; they lie in old memory -/
def TabAt (w : World) (R : Nat) (L : List (List Int)) (k : Nat) (wr : World) : Prop := Below w.heap.size w wr ∧ w.heap.size ≤ R ∧ ∃ f : Nat → Value, Row wr R L.length f ∧ ∀ j t, L[j]? = some t → RIn Any w (if j < k then t else []) (f j)
theorem TabAt.next {w : World} {R : Nat} {L : List (List Int)} {k : Nat} {wr w' : World} (h : TabAt w R L k wr) (hb : Below wr.heap.size wr w') : TabAt w R L k w' := by
  obtain ⟨h1, h2, f, h3, h4⟩ := h
  exact ⟨below_next h1 hb, h2, f, h3.below hb, h4⟩
theorem TabAt.skip {w : World} {R : Nat} {L : List (List Int)} {k : Nat} {wr : World} (h : TabAt w R L k wr) (hk : L[k]? = some []) : TabAt w R L (k + 1) wr := by
  obtain ⟨h1, h2, f, h3, h4⟩ := h
  refine ⟨h1, h2, f, h3, fun j t hj => ?_⟩
  have := h4 j t hj
  by_cases e : j < k
  · rw [if_pos e] at this; rw [if_pos (by omega)]; exact this
  · rw [if_neg e] at this
    by_cases e2 : j = k
    · subst e2
      rw [hk] at hj
      obtain rfl := Option.some.inj hj
      rw [if_pos (by omega)]; exact this
    · rw [if_neg (by omega)]; exact this
theorem TabAt.set {w : World} {R : Nat} {L : List (List Int)} {k : Nat} {wr : World} {r : List Int} {v : Value} (h : TabAt w R L k wr) (hk : L[k]? = some r) (hr : RIn Any w r v) : TabAt w R L (k + 1) (wr.setCell ⟨R, k, none⟩ v) := by
  obtain ⟨h1, h2, f, h3, h4⟩ := h
  have hkl : k < L.length := (List.getElem?_eq_some_iff.1 hk).1
  refine ⟨h1.setCell h2 _, h2, _, h3.set hkl v, fun j t hj => ?_⟩
  by_cases e : j = k
  · subst e
    rw [hk] at hj
    obtain rfl := Option.some.inj hj
    rw [if_pos (by omega), if_pos rfl]; exact hr
  · rw [if_neg e]
    have := h4 j t hj
    by_cases e2 : j < k
    · rw [if_pos e2] at this; rw [if_pos (by omega)]; exact this
    · rw [if_neg e2] at this; rw [if_neg (by omega)]; exact this
theorem TabAt.done {w : World} {R : Nat} {L : List (List Int)} {wr : World} (h : TabAt w R L L.length wr) : Gr.RowsIn Any wr L (some ⟨R, 0, none⟩) := by
  obtain ⟨h1, h2, f, h3, h4⟩ := h
  refine .inr ⟨R, 0, rfl, trivial, h3.1, fun i t hi => ?_⟩
  have hil := (List.getElem?_eq_some_iff.1 hi).1
  have := h4 i t hi
  rw [if_pos hil] at this
  obtain ⟨a, c, e, k1, k2, k3⟩ := this
  rw [Nat.zero_add, Nat.mul_one]
  refine ⟨a, c, ?_, a, c, rfl, k1, k2, k3.below h1⟩
  rw [h3.2.1 i hil, e]
/-- a new row and whether it holds something -/
def WuN (B : Nat) (l : List Nat) (v : Value) (w : World) : Prop := ∃ u, v = .tuple #[u, .bool (!l.isEmpty)] ∧ NewV B ((ints l).map (Value.int .i64)) u w
set_option maxRecDepth 100000 in
set_option maxHeartbeats 4000000 in
theorem implWu_any (g : G2) (thr goal : List Bool) (s : Int) (w : World) (x : Value) (ta tb : Option Addr) (tc td : Nat) (hx : GrIn Any w g x) (ht : BoolsIn Any w ta thr) (htc : thr.length ≤ tc) (htc2 : tc ≤ maxLen) (hg : BoolsIn Any w tb goal) (htd : goal.length ≤ td) (htd2 : td ≤ maxLen) (hs : i64 s) (hsn : g.states.length ≤ 1048576) :
    Calls Try.prog 8 #[x, .slice ta thr.length tc, .slice tb goal.length td, .int .i64 s] w (RetP (WuN w.heap.size (wuT g thr goal s)) w) := by
  obtain ⟨a, c, b, d, rfl, hc, hc2, hi, hd, hd2, hp⟩ := hx
  have HGR := hid (show GrIn Any w g (.agg #[.slice a g.states.length c, .slice b g.next.length d]) from ⟨a, c, b, d, rfl, hc, hc2, hi, hd, hd2, hp⟩)
  have HP := hid hp
  have HT := hid ht
  have HG := hid hg
  have HE := hid (show ∀ h : okG g = true, _ from fun h => okG_len h)
  have HV := hid (show ∀ W, GrIn Any W g (.agg #[.slice a g.states.length c, .slice b g.next.length d]) → Calls Try.prog 35 #[.agg #[.slice a g.states.length c, .slice b g.next.length d]] W (Ret (.bool (okG g)) W) from fun W h => valid_any g W _ h)
  have HW := hid (show wuT g thr goal s = if okG g = true ∧ thr.length = g.states.length ∧ goal.length = g.states.length ∧ 0 ≤ s ∧ s < g.states.length then wuL (adjOf (subL g.next thr)) g.states.length s.toNat (goalOf goal) else [] from rfl)
  have HSM := hid (wuT_small g thr goal s).1
  generalize wuT g thr goal s = res at *
  have HNO := hid (show ¬(okG g = true ∧ thr.length = g.states.length ∧ goal.length = g.states.length ∧ 0 ≤ s ∧ s < g.states.length) → res = [] from fun h => by rw [HW.out, if_neg h])
  have HYES := hid (show (okG g = true ∧ thr.length = g.states.length ∧ goal.length = g.states.length ∧ 0 ≤ s ∧ s < g.states.length) → res = wuL (adjOf (subL g.next thr)) g.states.length s.toNat (goalOf goal) from fun h => by rw [HW.out, if_pos h])
  obtain ⟨ok, hok⟩ : ∃ ok, ok = okG g := ⟨_, rfl⟩
  rw [← hok] at HV HNO HYES HE
  obtain ⟨sn, hsn2⟩ : ∃ sn, sn = g.states.length := ⟨_, rfl⟩
  obtain ⟨nx, hnx⟩ : ∃ nx, nx = g.next := ⟨_, rfl⟩
  rw [← hsn2] at HGR HV HNO HYES HE hc hsn
  rw [← hnx] at HGR HV HYES HE hd HP
  rw [← hsn2, ← hnx]
  unfold maxLen at hc2 hd2 htc2 htd2
  clear HW hok hsn2 hnx hi hp ht hg
  go_enter Try.func8, Try.ntmps8
  go_wp2_with fail
  have B0 := hid (below_next (below_alloc w (.cells #[.slice a sn c, .slice b nx.length d] 26)) (below_alloc _ (.cells #[.slice tb goal.length td] 27)))
  have P0 := hid (boxp_next (below_alloc _ (.cells #[.slice tb goal.length td] 27)) (boxp_at (w := w) (a := .slice a sn c) (b := .slice b nx.length d) (t := 26) rfl))
  have G0 := hid (show ((w.alloc (.cells #[.slice a sn c, .slice b nx.length d] 26)).alloc (.cells #[.slice tb goal.length td] 27)).cell? ⟨w.heap.size + 1, 0, none⟩ = some (.slice tb goal.length td) by
    simp)
  generalize (w.alloc (.cells #[.slice a sn c, .slice b nx.length d] 26)).alloc (.cells #[.slice tb goal.length td] 27) = wA at *
  obtain ⟨p0, p1, p2, p3, p4⟩ := P0.out
  go_wp2_with fail
  refine (HV.out wA (HGR.out.below B0.out)).mono ?_
  rintro e w1 ⟨rfl, hb⟩
  have G1 := hid (show w1.cell? ⟨w.heap.size + 1, 0, none⟩ = some (.slice tb goal.length td) by rw [hb.cell (p := ⟨w.heap.size + 1, 0, none⟩) (blt G0.out)]; exact G0.out)
  replace B0 := hid (below_next B0.out hb)
  replace P0 := hid (boxp_next hb P0.out)
  clear p0 p1 p2 p3 p4 hb G0
  generalize hw1 : w1 = wB at *
  clear hw1 HV
  obtain ⟨p0, p1, p2, p3, p4⟩ := P0.out
  have g1 := G1.out
  have g2 := blt g1
  cases ok with
  | false =>
    obtain rfl := HNO.out (by simp)
    clear HNO HYES HE
    go_wp2_with fail
    go_ret2
    exact RetP.mk ⟨_, rfl, NewV.nil _ none 0 (by unfold maxLen; omega) _⟩ B0.out
  | true =>
    obtain ⟨⟨e1, e2⟩, e3, e4, e5⟩ := HE.out rfl
    have HGD := hid e4
    have HLN := hid e5
    have e6 : nx.length ≤ sn := by omega
    have e7 : sn ≤ nx.length := by omega
    have HEQ := hid e3
    clear e3 e4 e5 HE
    by_cases hA1 : thr.length = sn ∧ goal.length = sn
    · have b1 : ((thr.length : Int) != (sn : Int)) = false := by rw [bne_eq_false_iff_eq]; omega
      have b2 : ((goal.length : Int) != (sn : Int)) = false := by rw [bne_eq_false_iff_eq]; omega
      go_wp2_with fail
      refine (in_any s 0 ((sn : Int) - 1) _).mono ?_
      rintro e wB ⟨rfl, rfl⟩
      by_cases hA2 : 0 ≤ s ∧ s < sn
      · have b3 : inB s 0 ((sn : Int) - 1) = true := by simp [inB]; omega
        rw [b3]
        have R := hid (HYES.out (by first | exact ⟨rfl, hA1.1, hA1.2, hA2.1, hA2.2⟩ | exact ⟨trivial, hA1.1, hA1.2, hA2.1, hA2.2⟩))
        obtain ⟨sN, rfl⟩ : ∃ m : Nat, s = m := ⟨s.toNat, by omega⟩
        rw [Int.toNat_natCast] at R
        have hsN : sN < sn := by omega
        obtain ⟨L, hL⟩ : ∃ L, Hid (L = subL nx thr) := ⟨_, hid rfl⟩
        rw [← hL.out] at R
        have HLL := hid (show L.length = sn by rw [hL.out, subL_len (by have := HEQ.out; omega)]; exact HEQ.out)
        have HGL := hid (show Good L by rw [hL.out]; exact subL_good (by have := HEQ.out; omega) HGD.out)
        have HAT := hid (show ∀ k (h1 : k < nx.length) (h2 : k < thr.length), L[k]? = some (if thr[k] = true then nx[k] else []) from fun k h1 h2 => by rw [hL.out]; exact subL_at h1 h2)
        have HSH := hid (fun (W : World) (M : Below w.heap.size w W) (ar b0 : Option Addr) (h1 : Gr.RowsIn Any W L ar) (h2 : IntsIn Any W b0 [(sN : Int)]) (h3 : W.cell? ⟨w.heap.size + 1, 0, none⟩ = some (.slice tb goal.length td)) => shortest_any L sN goal W ar b0 tb L.length 1 td (w.heap.size + 1) h1 (Nat.le_refl _) (by have := HLL.out; unfold maxLen; omega) (by have := HLL.out; omega) (by have := HLL.out; omega) HGL.out h2 (Nat.le_refl _) (by unfold maxLen; omega) (by have := HLL.out; omega) htd htd2 h3 (HG.out.below M))
        rw [HLL.out, ← R.out] at HSH
        have hmk := make_ros sn (by omega)
        have hthr := hA1.1
        have hlt1 : thr.length ≤ sn := by omega
        have hlt2 : sn ≤ thr.length := by omega
        clear HYES HNO HGD HLN HEQ HGL hL R b3 hA1 hA2
        go_wp2_with fail
        have h0 := below_alloc wB (.cells (zerosRo sn) 30)
        have hwB := B0.out.size
        have T0 := hid (show TabAt w wB.heap.size L 0 (wB.alloc (.cells (zerosRo sn) 30)) from by
          have hr := row_new (w := wB) (cs := zerosRo sn) (n := L.length) (by rw [zerosRo, size_madeCells, HLL.out]) 30
          refine ⟨below_next B0.out h0, hwB, _, hr, fun j t hj => ?_⟩
          have hjl : j < sn := by rw [← HLL.out]; exact (List.getElem?_eq_some_iff.1 hj).1
          rw [if_neg (by omega)]
          have : (zerosRo sn).getD j undef = .slice none 0 0 := by simp [zerosRo, madeCells, hjl, Nat.mod_one, Array.getD]
          rw [this]
          exact ⟨none, 0, rfl, Nat.le_refl _, by unfold maxLen; omega, .inl rfl, by simp⟩)
        replace P0 := hid (boxp_next h0 P0.out)
        have G2 := hid (show (wB.alloc (.cells (zerosRo sn) 30)).cell? ⟨w.heap.size + 1, 0, none⟩ = some (.slice tb goal.length td) by rw [h0.cell (p := ⟨w.heap.size + 1, 0, none⟩) (blt G1.out)]; exact G1.out)
        have hRB : w.heap.size + 1 < wB.heap.size := blt G1.out
        obtain ⟨R, hR⟩ : ∃ R, R = wB.heap.size := ⟨_, rfl⟩
        rw [← hR] at T0 hRB ⊢
        clear h0 hR hwB G1 g1 g2 p0 p1 p2 p3 p4 B0
        go_loopw [12, 43] (fun _ i wr => ∃ k : Nat, k ≤ sn ∧ i = .int .i64 k ∧ Hid (TabAt w R L k wr) ∧ Hid (BoxP wr w.heap.size (.slice a sn c) (.slice b nx.length d)) ∧ Hid (wr.cell? ⟨w.heap.size + 1, 0, none⟩ = some (.slice tb goal.length td))) (fun _ i _ => sn - (intOf i).toNat)
        case atStart => exact ⟨0, Nat.zero_le _, rfl, T0, P0, G2⟩
        case round =>
          obtain ⟨k, hk, rfl, HTA, PB, GB⟩ := hrel
          obtain ⟨wo, rfl⟩ : ∃ wo : World, wo = wr := ⟨_, rfl⟩
          obtain ⟨p0, p1, p2, p3, p4⟩ := PB.out
          clear T0 P0 G2
          by_cases hkl : k < sn
          · have hkl2 : (k : Int) < (sn : Int) := by omega
            have hkn : k < nx.length := by omega
            have hkn2 : (k : Int) < (nx.length : Int) := by omega
            have hkt : k < thr.length := by omega
            have hkt2 : (k : Int) < (thr.length : Int) := by omega
            obtain ⟨b2, o2, rfl, hb2, _, g2⟩ := bools_at HT.out HTA.out.1 hkt
            have HA := hid (HAT.out k hkn hkt)
            cases htk : thr[k] with
            | false =>
              rw [htk] at g2 HA
              have HT2 := hid (HTA.out.skip (by simpa using HA.out))
              clear htk
              go_wp2_with fail
              go_roundw
              case rel => exact ⟨k + 1, by omega, by go_num, HT2, PB, GB⟩
              case measure => simp [intOf]; omega
            | true =>
              rw [htk] at g2 HA
              obtain ⟨b1, o1, a1, c1, rfl, hb1, _, g0, k1, k2, hrow⟩ := rows_at HP.out hkn
              have g0' : wo.cell? ⟨b1, o1 + k, none⟩ = some (.slice a1 nx[k].length c1) := by rw [HTA.out.1.cell (p := ⟨b1, o1 + k, none⟩) hb1]; exact g0
              have hb1' : b1 < wo.heap.size := Nat.lt_of_lt_of_le hb1 HTA.out.1.size
              have HT2 := hid (HTA.out.set (show L[k]? = some nx[k] by simpa using HA.out) (v := .slice a1 nx[k].length c1) ⟨a1, c1, rfl, k1, k2, hrow⟩)
              obtain ⟨cR, hcR, fR, hRl⟩ : ∃ cR, wo.cell? ⟨R, k, none⟩ = some cR ∧ wo.frozen? ⟨R, k, none⟩ = false ∧ R < wo.heap.size := by
                obtain ⟨_, _, f, h3, _⟩ := HTA.out
                exact ⟨_, h3.2.1 k (by rw [HLL.out]; exact hkl), h3.2.2 k, h3.1⟩
              have PB2 := hid (boxp_set PB.out (p := ⟨R, k, none⟩) (by show w.heap.size ≠ R; omega) (.slice a1 nx[k].length c1))
              have GB2 := hid (show (wo.setCell ⟨R, k, none⟩ (.slice a1 nx[k].length c1)).cell? ⟨w.heap.size + 1, 0, none⟩ = some (.slice tb goal.length td) by
                rw [World.cell?_setCell_other _ _ _ _ (by intro h; have := congrArg Addr.block h; simp at this; omega)]; exact GB.out)
              unfold maxLen at k2
              generalize nx[k] = r at *
              clear htk HA g0 hb1 hrow HTA
              go_wp2_with fail
              go_roundw
              case rel => exact ⟨k + 1, by omega, by go_num, HT2, PB2, GB2⟩
              case measure => simp [intOf]; omega
          · obtain rfl : k = sn := by omega
            have HRO := hid (show Gr.RowsIn Any wo L (some ⟨R, 0, none⟩) from (by have h := HTA.out; rw [← HLL.out] at h; exact h.done))
            have HB := hid HTA.out.1
            have h0 := below_alloc wo (.cells #[.int .i64 sN] 3)
            have HI := hid (row_one wo sN (by unfold i64; omega))
            have HCALL := hid (HSH.out (wo.alloc (.cells #[.int .i64 sN] 3)) (below_next HB.out h0) (some ⟨R, 0, none⟩) (some ⟨wo.heap.size, 0, none⟩) (HRO.out.below h0) HI.out (by rw [h0.cell (p := ⟨w.heap.size + 1, 0, none⟩) (blt GB.out)]; exact GB.out))
            have HB1 := hid (below_next HB.out h0)
            have hkk : ¬ ((k : Int) < (k : Int)) := by omega
            clear HTA h0 HI HRO HSH p0 p1 p2 p3 p4 PB GB HB
            go_wp2_with fail
            refine HCALL.out.mono ?_
            rintro e w2 ⟨v, rfl, hv, hb⟩
            have HB2 := hid (below_next HB1.out hb)
            have HV := hid (show NewV w.heap.size ((ints res).map (Value.int .i64)) v w2 by
              obtain ⟨a, c, bs, h1, h2, h3, h4, h5⟩ := hv
              exact ⟨a, c, bs, h1, h2, h3, h4, fun b hb => by have := h5 b hb; have := HB1.out.size; omega⟩)
            obtain ⟨av, cv, _, rfl, _⟩ := hv
            have hl0 : ((ints res).map (Value.int .i64)).length = res.length := by rw [List.length_map, ints_len]
            rw [hl0] at HV
            have HL0 := hid hl0
            clear hb HCALL HB1 hl0
            rw [HL0.out]
            cases hres : res with
            | nil =>
              have HF := hid (show WuN w.heap.size [] (.tuple #[.slice av 0 cv, .bool false]) w2 by rw [hres] at HV; exact ⟨_, rfl, HV.out⟩)
              subst hres
              go_wp2_with fail
              go_ret2
              exact RetP.mk HF.out HB2.out
            | cons x t =>
              have HF := hid (show WuN w.heap.size (x :: t) (.tuple #[.slice av (x :: t).length cv, .bool true]) w2 by rw [hres] at HV; exact ⟨_, rfl, HV.out⟩)
              subst hres
              have hpos : ((t.length : Int) + 1) > 0 := by omega
              go_wp2_with fail
              go_ret2
              exact RetP.mk HF.out HB2.out
      · have b3 : inB s 0 ((sn : Int) - 1) = false := by
          cases h : inB s 0 ((sn : Int) - 1) with
          | false => rfl
          | true => simp [inB] at h; omega
        rw [b3]
        obtain rfl := HNO.out (fun h => hA2 ⟨h.2.2.2.1, h.2.2.2.2⟩)
        clear HNO HYES HGD HLN HEQ b3
        go_wp2_with fail
        go_ret2
        exact RetP.mk ⟨_, rfl, NewV.nil _ none 0 (by unfold maxLen; omega) _⟩ B0.out
    · obtain rfl := HNO.out (fun h => hA1 ⟨h.2.1, h.2.2.1⟩)
      clear HNO HYES HGD HLN HEQ
      by_cases a1 : thr.length = sn
      · have a2 : goal.length ≠ sn := fun h => hA1 ⟨a1, h⟩
        have b1 : ((thr.length : Int) != (sn : Int)) = false := by rw [bne_eq_false_iff_eq]; omega
        have b2 : ((goal.length : Int) != (sn : Int)) = true := by rw [bne_iff_ne]; omega
        clear hA1 a1 a2
        go_wp2_with fail
        go_ret2
        exact RetP.mk ⟨_, rfl, NewV.nil _ none 0 (by unfold maxLen; omega) _⟩ B0.out
      · have b1 : ((thr.length : Int) != (sn : Int)) = true := by rw [bne_iff_ne]; omega
        clear hA1 a1
        go_wp2_with fail
        go_ret2
        exact RetP.mk ⟨_, rfl, NewV.nil _ none 0 (by unfold maxLen; omega) _⟩ B0.out
end Bfs
end Go.Proofs.Ytfemikebklmlpaa
