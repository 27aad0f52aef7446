/- FnFormulaNodes returns true for every argument. Conditions: none. -/
import Derived.Test.YthjhokifonjeaaaFormulaDraws
import Derived.Test.YthjhokifonjeaaaFormulaSpecN
import Derived.Test.YthjhokifonjeaaaFormulaImplN
import Derived.Test.YthjhokifonjeaaaKidsPlain
namespace Go.Proofs.Ythjhokifonjeaaa
open Go.RowKit

set_option maxRecDepth 100000 in
set_option maxHeartbeats 2000000 in
theorem walk_FnFormulaNodes (w : World) (a : Option Addr) (len cap : Nat) (hb : ByteArg w a len cap) : Calls Try.prog 3 #[.slice a len cap] w (Ret (.bool true) w) := by
  have hcap := hb.2.1
  have hcap1 := hb.1
  unfold maxLen at hcap
  by_cases hlen : len > 1048576
  · have hlen2 : (len : Int) > 1048576 := by omega
    go_enter Try.func3, Try.ntmps3
    go_wp2_with fail
    go_ret
    exact Ret.mk rfl (by repeat (first | exact Below.refl _ _ | assumption | refine below_a ?_ _ | refine below_o ?_ _ | refine below_d ?_ | refine below_n ?_ _ | refine below_s ?_ (by first | (simp; done) | (simp; omega) | omega) _))
  have hlen2 : ¬ ((len : Int) > 1048576) := by omega
  go_enter Try.func3, Try.ntmps3
  go_wp2_with fail
  refine (Formula.drawNodes_any _ a len cap hb).mono ?_
  rintro e w1 ⟨v, rfl, ⟨t, hn, hnt⟩, B1⟩
  have hx := hn.any
  cases t with
  | mk k v kids =>
  have hx0 := hx
  rw [TrIn_mk] at hx0
  obtain ⟨a1, n1, c1, rfl, hk, hv, rfl, hc, hc2, hks⟩ := hx0
  have hx2 := hx
  clear hn hb
  go_wp2_with fail
  refine (Formula.nodes_any (.mk k v kids) _ _ (TrIn_alloc hx2 _)).mono ?_
  rintro e w2 ⟨rfl, hb2⟩
  have c4 := box3_next hb2 (box3_new w1 (.int .i64 k) (.int .i64 v) (.slice a1 kids.length c1) 25)
  replace B1 := below_next (below_next B1 (below_alloc _ _)) hb2
  have K2 := below_next (below_alloc w1 _) hb2
  clear hb2
  go_wp2_with fail
  refine (Formula.specNodes_any (.mk k v kids) _ _ (TrIn_below K2 hx2)).mono ?_
  rintro e w3 ⟨rfl, hb3⟩
  replace c4 := box3_next hb3 c4
  replace B1 := below_next B1 hb3
  replace K2 := below_next K2 hb3
  clear hb3
  have hb := formL.size_bd (.mk k v kids) (by rw [formL_N]; omega)
  have ne : (formL.size (.mk k v kids) != formL.size (.mk k v kids)) = false := by simp
  have eq : (formL.size (.mk k v kids) == formL.size (.mk k v kids)) = true := by simp
  have HS := hid (rfl : formL.size (.mk k v kids) = formL.size (.mk k v kids))
  go_wp2_with fail
  refine (Formula.specValid_any (.mk k v kids) _ _ (TrIn_below K2 hx2)).mono ?_
  rintro e w4 ⟨rfl, hb4⟩
  replace c4 := box3_next hb4 c4
  replace B1 := below_next B1 hb4
  replace K2 := below_next K2 hb4
  clear hb4
  cases hv2 : formL.valid (.mk k v kids) with
  | false =>
    clear hv2
    go_wp2_with fail
    refine (Formula.specNodes_any (.mk k v kids) _ _ (TrIn_below K2 hx2)).mono ?_
    rintro e w5 ⟨rfl, hb5⟩
    go_wp2_with fail
    go_ret
    exact Ret.mk (by simp) (below_next B1 hb5)
  | true =>
    have hsz := formL.size_valid hv2
    have hN : nodes (.mk k v kids) ≤ 12 := by rw [← hsz]; have := hb.2; rw [formL_N] at this; exact this
    have HV := hid hv2
    have HZ := hid hsz
    clear hv2 hsz
    simp only [nodes] at hN
    have hkids := Formula.len_nodes kids
    generalize formL.size (.mk k v kids) = m at *
    go_wp2_with fail
    go_loopw [5, 6] (fun s i wr => ∃ (j : Nat) (n : Int), j ≤ kids.length ∧ s = .int .i64 n ∧ i = .int .i64 j ∧ (1 ≤ n ∧ n ≤ 13) ∧ Below w.heap.size w wr ∧ Below w1.heap.size w1 wr ∧ Box3 wr w1.heap.size (.int .i64 k) (.int .i64 v) (.slice a1 kids.length c1) ∧ Hid (n + nodesL (kids.drop j) = 1 + nodesL kids)) (fun _ i _ => kids.length - (intOf i).toNat)
    case atStart => exact ⟨0, 1, Nat.zero_le _, rfl, rfl, by omega, B1, K2, c4, hid rfl⟩
    case round =>
      clear B1 c4 K2
      obtain ⟨j, n, hj, rfl, rfl, hn, B1, K2, c4, hsum⟩ := hrel
      by_cases hlt : j < kids.length
      · obtain ⟨b, o, d0, d1, d2, t, rfl, gb, g0, g1, g2, hT⟩ := TrsIn_round hks K2 hlt
        have hlt2 : (j : Int) < (kids.length : Int) := by omega
        have hsum2 : n + (nodes t + nodesL (kids.drop (j + 1))) = 1 + nodesL kids := by have := hsum.out; rw [hT.out.2.2.1] at this; simpa only [nodesL] using this
        have hp1 := nodes_pos t
        have hp2 := nodesL_pos (kids.drop (j + 1))
        have hkv := formL.size_valid (formL.valid_kid HV.out hT.out.2.1)
        have HS3 := hid (show n + nodes t + nodesL (kids.drop (j + 1)) = 1 + nodesL kids by omega)
        have hb13 : n + nodes t ≤ 13 := by omega
        clear hsum2
        go_wp2_with fail
        refine (Formula.nodes_any t _ _ hT.out.1).mono ?_
        rintro e w5 ⟨rfl, hb5⟩
        rw [hkv]
        replace c4 := box3_next hb5 c4
        replace B1 := below_next B1 hb5
        replace K2 := below_next K2 hb5
        clear hb5 hkv
        generalize nodes t = q at *
        go_wp2_with fail
        go_roundw
        case rel => exact ⟨j + 1, n + q, by omega, by go_num, by go_num, by omega, B1, K2, c4, HS3⟩
        case measure => simp [intOf]; omega
      · have hlt2 : ¬ ((j : Int) < (kids.length : Int)) := by omega
        have hnm : n = m := by
          have h1 := hsum.out
          rw [List.drop_of_length_le (by omega)] at h1
          have h2 := HZ.out
          simp only [nodes] at h2
          simp only [nodesL] at h1
          omega
        subst hnm
        have h12 : n ≤ 12 := by have h2 := HZ.out; simp only [nodes] at h2; omega
        go_wp2_with fail
        go_ret
        exact Ret.mk (by simp [h12]) B1

end Go.Proofs.Ythjhokifonjeaaa
