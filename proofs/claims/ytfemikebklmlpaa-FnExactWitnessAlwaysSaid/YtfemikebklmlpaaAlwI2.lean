/- The program's Graph.some, Graph.fix, as WitnessAlways calls them. Conditions: those of each contract. -/
import Derived.Test.YtfemikebklmlpaaAlwI
import Derived.Test.YtfemikebklmlpaaPairReg
import Derived.Test.YtfemikebklmlpaaRowsMade
namespace Go.Proofs.Ytfemikebklmlpaa
open Go.RowKit
set_option linter.unusedVariables false
set_option linter.unusedSimpArgs false
namespace Alw
open Gr Bfs Gfp

set_option maxRecDepth 100000 in
set_option maxHeartbeats 1000000 in
theorem some_any (g : G2) (S : List Bool) (N j : Nat) (hSN : S.length = N) (hN : g.next.length = N) (hj : j < N) (hgood : Bfs.Good g.next) (w : World) (x : Value) (ts : Option Addr) (td : Nat) (hx : GrIn Any w g x) (hg : BoolsIn Any w ts S) (htd : N ≤ td) (htd2 : td ≤ maxLen) :
    Calls Try.prog 56 #[x, .int .i64 j, .slice ts N td] w (Ret (.bool (some1 (adjOf g.next) (goalOf S) j)) w) := by
  obtain ⟨a, c, b, d, rfl, hc, hc2, hi, hd, hd2, hp⟩ := hx
  obtain ⟨b1, o1, a1, c1, rfl, hb1, _, g0, k1, k2, hrow⟩ := rows_at hp (show j < g.next.length by omega)
  have hrg : ∀ x, x ∈ g.next[j] → 0 ≤ x ∧ x < (N : Int) := fun x hx => by have := hgood g.next[j] (List.getElem_mem (show j < g.next.length by omega)) x hx; omega
  have hadj := adj_at (nx := g.next) (show j < g.next.length by omega)
  rw [some1, hadj]
  generalize g.next[j] = r at *
  have HCON := hid (fun (W : World) (M : Below w.heap.size w W) (O : Nat) (hO : W.cell? ⟨O, 0, none⟩ = some (.slice ts N td)) => containsS_any r S N hSN W a1 ts c1 O td (hrow.below M) k1 k2 hrg htd htd2 hO (hg.below M))
  have hj2 : (j : Int) < (g.next.length : Int) := by omega
  have D := hid (below_next (below_alloc w (.cells #[.slice a g.states.length c, .slice (some ⟨b1, o1, none⟩) g.next.length d] 26)) (below_alloc _ (.cells #[.slice ts N td] 27)))
  have P0 := hid (boxp_next (below_alloc _ (.cells #[.slice ts N td] 27)) (boxp_at (w := w) (a := .slice a g.states.length c) (b := .slice (some ⟨b1, o1, none⟩) g.next.length d) (t := 26) rfl))
  have O0 := hid (show ((w.alloc (.cells #[.slice a g.states.length c, .slice (some ⟨b1, o1, none⟩) g.next.length d] 26)).alloc (.cells #[.slice ts N td] 27)).cell? ⟨w.heap.size + 1, 0, none⟩ = some (.slice ts N td) by simp)
  have g0' := (D.out.cell (p := ⟨b1, o1 + j, none⟩) hb1).trans g0
  have hb1' := Nat.lt_of_lt_of_le hb1 D.out.size
  generalize (r.map Int.toNat).any (goalOf S) = res at *
  generalize g.next.length = nl at *
  subst hN
  clear hSN
  generalize g.states.length = sl at *
  unfold maxLen at hd2 k2
  clear hi hp hg hrow hrg hadj htd2 hc2
  go_enter Try.func56, Try.ntmps56
  go_wp2_with fail
  refine (HCON.out _ D.out _ O0.out).mono ?_
  rintro e w2 ⟨rfl, hb⟩
  go_wp2_with fail
  go_ret
  exact Ret.mk rfl (below_next D.out hb)
set_option maxRecDepth 100000 in
theorem alw1_any (g : G2) (thr S : List Bool) (N j : Nat) (hTN : thr.length = N) (hSN : S.length = N) (hN : g.next.length = N) (hj : j < N) (hgood : Bfs.Good g.next) (w : World) (ts tt : Option Addr) (td tc OT OG : Nat) (hT : w.cell? ⟨OT, 0, none⟩ = some (.slice tt N tc)) (htc : N ≤ tc) (htc2 : tc ≤ maxLen) (htt : BoolsIn Any w tt thr)
    (a b : Option Addr) (n1 n2 c d : Nat) (hG : BoxP w OG (.slice a n1 c) (.slice b n2 d)) (hx : GrIn Any w g (.agg #[.slice a n1 c, .slice b n2 d])) (hg : BoolsIn Any w ts S) (htd : N ≤ td) (htd2 : td ≤ maxLen) :
    Calls Try.prog 55 #[.int .i64 j, .slice ts N td, .pointer (some ⟨OT, 0, none⟩), .pointer (some ⟨OG, 0, none⟩)] w (Ret (.bool (nowF (adjOf g.next) (goalOf thr) (goalOf S) j)) w) := by
  have HS := hid (some_any g S N j hSN hN hj hgood w _ ts td hx hg htd htd2)
  obtain ⟨bg, og, rfl, hbg, _, gg⟩ := bools_at htt (Below.refl _ _) (show j < thr.length by omega)
  rw [goal_at] at gg
  rw [nowF]
  generalize goalOf thr j = r at *
  generalize some1 (adjOf g.next) (goalOf S) j = q at *
  obtain ⟨p0, p1, p2, p3, p4⟩ := hG
  have hT2 := blt hT
  have h1 : (j : Int) < (N : Int) := by omega
  unfold maxLen at htc2 htd2
  clear htt hg hx hTN hSN hN
  go_enter Try.func55, Try.ntmps55
  cases r with
  | false =>
    go_wp2_with fail
    go_ret
    exact Ret.mk rfl (Below.refl _ _)
  | true =>
    go_wp2_with fail
    refine HS.out.mono ?_
    rintro e w2 ⟨rfl, hb⟩
    go_wp2_with fail
    go_ret
    exact Ret.mk rfl hb
end Alw
end Go.Proofs.Ytfemikebklmlpaa
