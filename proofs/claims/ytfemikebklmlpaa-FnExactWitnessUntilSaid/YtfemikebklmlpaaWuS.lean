/- The reference's WitnessUntil. Conditions: those of the contract. -/
import Derived.Test.YtfemikebklmlpaaWuP
import Derived.Test.YtfemikebklmlpaaGrVS
namespace Go.Proofs.Ytfemikebklmlpaa
open Go.RowKit
set_option linter.unusedVariables false
set_option linter.unusedSimpArgs false
namespace Bfs
open Gr

/-- a row and whether it holds something -/
def WuV (l : List Nat) (v : Value) (w : World) : Prop := ∃ u, v = .tuple #[u, .bool (!l.isEmpty)] ∧ Arr (ints l) u w
theorem arr_nil (w : World) : Arr (ints []) (.slice (some ⟨w.heap.size, 0, none⟩) 0 0) (w.alloc (.cells #[] 3)) := own_arr (OwnI.made w) (fun n hn => by cases hn)
theorem sea_key {L : List (List Int)} {sn s : Nat} {w w' : World} {e : Ending} (goal : Nat → Bool) (hL : L.length = sn) (hs : s < sn) (hN : sn ≤ 60) (hg : Good L) (h : SeaPost L s w e w') :
    ∃ (q : List Nat) (par : Nat → Int) (ap : Option Addr) (cp : Nat) (aq : Option Addr) (cq : Nat), e = .returned (.tuple #[.slice ap sn cp, .slice aq q.length cq]) ∧ Hid (IntsIn Any w' ap ((List.range sn).map fun m => pv (par m))) ∧ sn ≤ cp ∧ cp ≤ maxLen ∧ Hid (IntsIn Any w' aq (ints q)) ∧ q.length ≤ cq ∧ cq ≤ maxLen ∧ Below w.heap.size w w' ∧
      Hid (∀ (i n : Nat), q[i]? = some n → n < sn ∧ ∃ l, Chain par n l ∧ PathIn sn s par l ∧ ((∀ (k m : Nat), k < i → q[k]? = some m → goal m = false) → goal n = true → wuL (adjOf L) sn s goal = l)) ∧ Hid ((∀ (i m : Nat), q[i]? = some m → goal m = false) → wuL (adjOf L) sn s goal = []) := by
  subst hL
  obtain ⟨k, vp, vq, rfl, hk, ⟨ap, cp, rfl, h1, h2, h3, _⟩, ⟨aq, cq, rfl, k1, k2, k3, _⟩, hb⟩ := h
  have hA := hg.adj
  have hj := Nat.le_of_eq hk.symm
  refine ⟨(bfs (adjOf L) s k).q, (bfs (adjOf L) s k).par, ap, cp, aq, cq, ?_, hid h1, by simpa using h2, h3, hid k1, by rw [ints_len] at k2; exact k2, k3, hb, hid fun i n hn => ?_, hid fun hb => wu_none hs hA hk hb⟩
  · rw [ints_len, List.length_map, List.length_range]
  · obtain ⟨l, c1, c2, _⟩ := wu_path hs hA hN hj hn
    exact ⟨(bfs_inv hs hA k hj).lt n (q_at hn), l, c1, c2, fun hb hgn => wu_at hs hA hj hn hgn hb c1⟩
set_option maxRecDepth 100000 in
set_option maxHeartbeats 4000000 in
theorem specWu_any (g : G2) (thr goal : List Bool) (s : Int) (w : World) (x : Value) (ta tb : Option Addr) (tc td : Nat) (hx : GrIn Any w g x) (ht : BoolsIn Any w ta thr) (htc : thr.length ≤ tc) (htc2 : tc ≤ maxLen) (hg : BoolsIn Any w tb goal) (htd : goal.length ≤ td) (htd2 : td ≤ maxLen) (hs : i64 s) :
    Calls Try.prog 9 #[x, .slice ta thr.length tc, .slice tb goal.length td, .int .i64 s] w (RetP (WuV (wuT g thr goal s)) w) := by
  obtain ⟨a, c, b, d, rfl, hc, hc2, hi, hd, hd2, hp⟩ := hx
  have HGR := hid (show GrIn Any w g (.agg #[.slice a g.states.length c, .slice b g.next.length d]) from ⟨a, c, b, d, rfl, hc, hc2, hi, hd, hd2, hp⟩)
  have HT := hid ht
  have HG := hid hg
  have HE := hid (show ∀ h : okG g = true, _ from fun h => okG_len h)
  have HV := hid (show ∀ W, GrIn Any W g (.agg #[.slice a g.states.length c, .slice b g.next.length d]) → Calls Try.prog 39 #[.agg #[.slice a g.states.length c, .slice b g.next.length d]] W (Ret (.bool (okG g)) W) from fun W h => specValid_any g W _ h)
  have HSUB := hid (show thr.length = g.next.length → g.next.length ≤ 60 → (∀ r, r ∈ g.next → 1 ≤ r.length ∧ r.length ≤ 60) → ∀ W, GrIn Any W g (.agg #[.slice a g.states.length c, .slice b g.next.length d]) → BoolsIn Any W ta thr → Calls Try.prog 41 #[.agg #[.slice a g.states.length c, .slice b g.next.length d], .slice ta thr.length tc] W (RetP (SubV (subL g.next thr)) W) from fun h1 h2 h3 W h4 h5 => sub_any g thr W _ ta tc h4 h5 htc htc2 h1 h2 h3)
  have HW := hid (show wuT g thr goal s = if okG g = true ∧ thr.length = g.states.length ∧ goal.length = g.states.length ∧ 0 ≤ s ∧ s < g.states.length then wuL (adjOf (subL g.next thr)) g.states.length s.toNat (goalOf goal) else [] from rfl)
  generalize wuT g thr goal s = res at *
  have HNO := hid (show ¬(okG g = true ∧ thr.length = g.states.length ∧ goal.length = g.states.length ∧ 0 ≤ s ∧ s < g.states.length) → res = [] from fun h => by rw [HW.out, if_neg h])
  have HYES := hid (show (okG g = true ∧ thr.length = g.states.length ∧ goal.length = g.states.length ∧ 0 ≤ s ∧ s < g.states.length) → res = wuL (adjOf (subL g.next thr)) g.states.length s.toNat (goalOf goal) from fun h => by rw [HW.out, if_pos h])
  obtain ⟨ok, hok⟩ : ∃ ok, ok = okG g := ⟨_, rfl⟩
  rw [← hok] at HV HNO HYES HE
  obtain ⟨sn, hsn⟩ : ∃ sn, sn = g.states.length := ⟨_, rfl⟩
  obtain ⟨nx, hnx⟩ : ∃ nx, nx = g.next := ⟨_, rfl⟩
  rw [← hsn] at HGR HV HSUB HNO HYES HE hc
  rw [← hnx] at HGR HV HSUB HYES HE hd
  rw [← hsn, ← hnx]
  unfold maxLen at hc2 hd2 htc2 htd2
  clear HW hok hsn hnx hi hp ht hg
  go_enter Try.func9, Try.ntmps9
  go_wp2_with fail
  have B0 := hid (below_alloc w (.cells #[.slice a sn c, .slice b nx.length d] 26))
  have P0 := hid (boxp_at (w := w) (a := .slice a sn c) (b := .slice b nx.length d) (t := 26) rfl)
  generalize w.alloc (.cells #[.slice a sn c, .slice b nx.length d] 26) = wA at *
  obtain ⟨p0, p1, p2, p3, p4⟩ := P0.out
  go_wp2_with fail
  refine (HV.out wA (HGR.out.below B0.out)).mono ?_
  rintro e w1 ⟨rfl, hb⟩
  replace B0 := hid (below_next B0.out hb)
  replace P0 := hid (boxp_next hb P0.out)
  clear p0 p1 p2 p3 p4 hb
  generalize hw1 : w1 = wB at *
  clear hw1 HV
  obtain ⟨p0, p1, p2, p3, p4⟩ := P0.out
  cases ok with
  | false =>
    obtain rfl := HNO.out (by simp)
    clear HNO HYES HSUB HE
    have FIN := hid (arr_nil wB)
    go_wp2_with fail
    go_ret2
    exact RetP.mk ⟨_, rfl, FIN.out⟩ (below_next B0.out (below_alloc _ _))
  | true =>
    obtain ⟨⟨e1, e2⟩, e3, e4, e5⟩ := HE.out rfl
    have HGD := hid e4
    have HLN := hid e5
    have e6 : nx.length ≤ sn := by omega
    have e7 : sn ≤ nx.length := by omega
    have HEQ := hid e3
    clear e3 e4 e5 HE
    by_cases hA : thr.length = sn ∧ goal.length = sn ∧ 0 ≤ s ∧ s < sn
    · have R := hid (HYES.out ⟨rfl, hA⟩)
      obtain ⟨a1, a2, a3, a4⟩ := hA
      have b1 : ((thr.length : Int) != (sn : Int)) = false := by rw [bne_eq_false_iff_eq]; omega
      have b2 : ((goal.length : Int) != (sn : Int)) = false := by rw [bne_eq_false_iff_eq]; omega
      have b3 : ¬ s < 0 := by omega
      have b4 : ¬ s ≥ (sn : Int) := by omega
      obtain ⟨sN, rfl⟩ : ∃ m : Nat, s = m := ⟨s.toNat, by omega⟩
      rw [Int.toNat_natCast] at R
      have hsN : sN < sn := by omega
      obtain ⟨L, hL⟩ : ∃ L, L = subL nx thr := ⟨_, rfl⟩
      rw [← hL] at HSUB R
      have HLL := hid (show L.length = sn by rw [hL, subL_len (by have := HEQ.out; omega)]; exact HEQ.out)
      have HGL := hid (show Good L by rw [hL]; exact subL_good (by have := HEQ.out; omega) HGD.out)
      have HSU := hid (fun W h4 h5 => HSUB.out (by have := HEQ.out; omega) (by have := HEQ.out; omega) HLN.out W h4 h5)
      have HSE := hid (fun (W : World) (a : Option Addr) (h : Gr.RowsIn Any W L a) => search_any L sN W a L.length h (Nat.le_refl _) (by have := HLL.out; unfold maxLen; omega) (by rw [HLL.out]; exact hsN) (by rw [HLL.out]; omega) HGL.out)
      have HKEY := hid (fun (w w' : World) (e : Ending) (h : SeaPost L sN w e w') => sea_key (goalOf goal) HLL.out hsN (by omega) HGL.out h)
      have HGO := hid a2
      clear HYES HNO HSUB HGD HLN HEQ HLL HGL hL a1 a2 a3 a4
      go_wp2_with fail
      refine (HSU.out wB (HGR.out.below B0.out) (HT.out.below B0.out)).mono ?_
      rintro e w1 ⟨v, rfl, ⟨R0, rfl, hrows⟩, hb⟩
      replace B0 := hid (below_next B0.out hb)
      replace P0 := hid (boxp_next hb P0.out)
      clear p0 p1 p2 p3 p4 hb
      generalize hw1 : w1 = wC at *
      clear hw1 HSU
      go_wp2_with fail
      refine (HSE.out wC _ hrows).mono ?_
      intro e w1 h
      obtain ⟨q, par, ap, cp, aq, cq, rfl, HP, hcp, hcp2, HQ, hcq, hcq2, hb, HCH, HNON⟩ := HKEY.out _ _ _ h
      replace B0 := hid (below_next B0.out hb)
      clear hb h hrows
      generalize hw1 : w1 = wD at *
      clear hw1 HSE HKEY
      have HAT := hid (fun (i : Nat) (h : i < q.length) => ints_at HQ.out (Below.refl _ _) (k := i) (by rw [ints_len]; exact h))
      unfold maxLen at hcp2 hcq2
      go_wp2_with fail
      go_loopw [12] (fun i wr => ∃ k : Nat, k ≤ q.length ∧ i = .int .i64 k ∧ wr = wD ∧ Hid (∀ (j m : Nat), j < k → q[j]? = some m → goalOf goal m = false)) (fun i _ => q.length - (intOf i).toNat)
      case atStart => exact ⟨0, Nat.zero_le _, rfl, rfl, hid (fun j m hj => by omega)⟩
      case round =>
        obtain ⟨k, hk, rfl, rfl, HB⟩ := hrel
        by_cases hlt : k < q.length
        · have hlt2 : (k : Int) < (q.length : Int) := by omega
          obtain ⟨x, hx⟩ : ∃ x, q[k]? = some x := ⟨_, List.getElem?_eq_getElem hlt⟩
          obtain ⟨bq, oq, rfl, hbq, _, gq, _⟩ := HAT.out k hlt
          have gq2 : wr.cell? ⟨bq, oq + k, none⟩ = some (.int .i64 (x : Int)) := by
            rw [gq]
            obtain ⟨_, e⟩ := List.getElem?_eq_some_iff.1 hx
            simp [ints, e]
          clear gq
          obtain ⟨hxn, l, c1, c2, c3⟩ := HCH.out k x hx
          have C1 := hid c1
          have C2 := hid c2
          have hxg : x < goal.length := by have := HGO.out; omega
          obtain ⟨bg, og, rfl, hbg, _, gg⟩ := bools_at HG.out B0.out hxg
          have hgo : goal[x] = goalOf goal x := by simp [goalOf, List.getD_eq_getElem?_getD, hxg]
          rw [hgo] at gg
          have hxg2 : (x : Int) < (goal.length : Int) := by omega
          have HX := hid hx
          have C3 := hid c3
          clear hgo hx c1 c2 c3 hxg
          cases hgv : goalOf goal x with
          | false =>
            rw [hgv] at gg
            have HB2 := hid (show ∀ (j m : Nat), j < k + 1 → q[j]? = some m → goalOf goal m = false from fun j m hj hm => by
              by_cases e : j = k
              · subst e
                rw [HX.out] at hm
                obtain rfl := Option.some.inj hm
                exact hgv
              · exact HB.out j m (by omega) hm)
            clear hgv
            go_wp2_with fail
            go_roundw
            case rel => exact ⟨k + 1, by omega, by go_num, by first | rfl | trivial, HB2⟩
            case measure => simp [intOf]; omega
          | true =>
            rw [hgv] at gg
            obtain rfl := R.out.trans (C3.out HB.out hgv)
            clear hgv
            have HPA := hid (path_any sn sN x par res C1.out C2.out e2 wr ap cp HP.out hcp (by unfold maxLen; omega))
            go_wp2_with fail
            refine HPA.out.mono ?_
            rintro e w1 ⟨v, rfl, hv, hb⟩
            replace B0 := hid (below_next B0.out hb)
            have HV := hid hv
            have HPO := C1.out.pos
            clear hv hb HPA
            go_wp2_with fail
            go_ret2
            exact RetP.mk ⟨_, by (rw [show res.isEmpty = false by cases res; simp at HPO; rfl]; rfl), HV.out⟩ B0.out
        · obtain rfl : k = q.length := by omega
          obtain rfl := R.out.trans (HNON.out fun i m hm => HB.out i m (List.getElem?_eq_some_iff.1 hm).1 hm)
          have FIN := hid (arr_nil wr)
          go_wp2_with fail
          go_ret2
          exact RetP.mk ⟨_, rfl, FIN.out⟩ (below_next B0.out (below_alloc _ _))
    · obtain rfl := HNO.out (fun h => hA h.2)
      clear HNO HYES HSUB HGD HLN HEQ
      have FIN := hid (arr_nil wB)
      by_cases a1 : thr.length = sn
      · by_cases a2 : goal.length = sn
        · by_cases a3 : 0 ≤ s
          · have a4 : ¬ s < sn := fun h => hA ⟨a1, a2, a3, h⟩
            have b1 : ((thr.length : Int) != (sn : Int)) = false := by rw [bne_eq_false_iff_eq]; omega
            have b2 : ((goal.length : Int) != (sn : Int)) = false := by rw [bne_eq_false_iff_eq]; omega
            have b3 : ¬ s < 0 := by omega
            have b4 : s ≥ (sn : Int) := by omega
            clear hA a1 a2 a3 a4
            go_wp2_with fail
            go_ret2
            exact RetP.mk ⟨_, rfl, FIN.out⟩ (below_next B0.out (below_alloc _ _))
          · have b1 : ((thr.length : Int) != (sn : Int)) = false := by rw [bne_eq_false_iff_eq]; omega
            have b2 : ((goal.length : Int) != (sn : Int)) = false := by rw [bne_eq_false_iff_eq]; omega
            have b3 : s < 0 := by omega
            clear hA a1 a2 a3
            go_wp2_with fail
            go_ret2
            exact RetP.mk ⟨_, rfl, FIN.out⟩ (below_next B0.out (below_alloc _ _))
        · have b1 : ((thr.length : Int) != (sn : Int)) = false := by rw [bne_eq_false_iff_eq]; omega
          have b2 : ((goal.length : Int) != (sn : Int)) = true := by rw [bne_iff_ne]; omega
          clear hA a1 a2
          go_wp2_with fail
          go_ret2
          exact RetP.mk ⟨_, rfl, FIN.out⟩ (below_next B0.out (below_alloc _ _))
      · have b1 : ((thr.length : Int) != (sn : Int)) = true := by rw [bne_iff_ne]; omega
        clear hA a1
        go_wp2_with fail
        go_ret2
        exact RetP.mk ⟨_, rfl, FIN.out⟩ (below_next B0.out (below_alloc _ _))
end Bfs
end Go.Proofs.Ytfemikebklmlpaa
