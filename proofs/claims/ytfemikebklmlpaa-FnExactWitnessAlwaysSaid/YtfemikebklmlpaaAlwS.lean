/- The reference's l11Next, l11Always, as WitnessAlways calls them. Conditions: those of each contract. -/
import Derived.Test.YtfemikebklmlpaaAlwI3
import Derived.Test.YtfemikebklmlpaaAppB
import Derived.Deep.DeepCutAuto
import Derived.Deep.CutBlock
import Derived.Test.YtfemikebklmlpaaMore
namespace Go.Proofs.Ytfemikebklmlpaa
open Go.RowKit
set_option linter.unusedVariables false
set_option linter.unusedSimpArgs false
namespace Alw
open Gr Bfs Gfp Bl

theorem row_oneB (W : World) (b : Bool) : BoolsIn Any (W.alloc (.cells #[.bool b] 4)) (some ⟨W.heap.size, 0, none⟩) [b] := .inr ⟨W.heap.size, 0, rfl, trivial, by simp, fun i v hi => by
  cases i with
  | zero => simp at hi; subst hi; simp
  | succ i => simp at hi⟩
set_option maxRecDepth 100000 in
set_option maxHeartbeats 4000000 in
theorem next_any (g : G2) (S : List Bool) (N : Nat) (hSN : S.length = N) (hN : g.next.length = N) (hN60 : N ≤ 60) (hgood : Bfs.Good g.next) (w : World) (ts : Option Addr) (td : Nat) (a b : Option Addr) (n1 c d : Nat) (hx : GrIn Any w g (.agg #[.slice a n1 c, .slice b N d])) (hg : BoolsIn Any w ts S) (htd : N ≤ td) (htd2 : td ≤ maxLen) :
    Calls Try.prog 80 #[.agg #[.slice a n1 c, .slice b N d], .slice ts N td, .bool false] w (RetP (fun v w' => OwnB w.heap.size v ((List.range N).map (some1 (adjOf g.next) (goalOf S))) w') w) := by
  have HROWS := hid (show ∀ k, k < N → ∃ r : List Int, (∀ x, x ∈ r → 0 ≤ x ∧ x < (N : Int)) ∧ r.length ≤ maxLen ∧ adjOf g.next k = r.map Int.toNat ∧ ∃ b1 o1 a1 c1, b = some ⟨b1, o1, none⟩ ∧ b1 < w.heap.size ∧ w.cell? ⟨b1, o1 + k, none⟩ = some (.slice a1 r.length c1) ∧ r.length ≤ c1 ∧ c1 ≤ maxLen ∧ IntsIn Any w a1 r from fun k hk => by
    obtain ⟨a', c', b', d', e, _, _, _, _, _, hp⟩ := hx
    have e2 : b' = b := by simp at e; exact e.2.1.symm
    subst e2
    have hkn : k < g.next.length := by omega
    obtain ⟨b1, o1, a1, c1, e3, hb1, _, g0, k1, k2, hrow⟩ := rows_at hp hkn
    exact ⟨g.next[k], fun x hx => by have := hgood g.next[k] (List.getElem_mem hkn) x hx; omega, by omega, adj_at hkn, b1, o1, a1, c1, e3, hb1, g0, k1, k2, hrow⟩)
  have hd : N ≤ d ∧ d ≤ 9223372036854775807 := by
    obtain ⟨a', c', b', d', e, _, _, _, h1, h2, _⟩ := hx
    simp at e
    unfold maxLen at h2; omega
  obtain ⟨hd1, hd2⟩ := hd
  have HSAT := hid (show ∀ W, Below w.heap.size w W → ∀ n, n < N → ∃ bg og, ts = some ⟨bg, og, none⟩ ∧ bg < W.heap.size ∧ W.cell? ⟨bg, og + n, none⟩ = some (.bool (goalOf S n)) from fun W M n hn => by
    obtain ⟨bg, og, e, h1, _, h2⟩ := bools_at hg M (show n < S.length by omega)
    exact ⟨bg, og, e, h1, by rw [h2, goal_at]⟩)
  generalize adjOf g.next = adj at *
  generalize goalOf S = F at *
  unfold maxLen at htd2
  clear hgood hx hg hSN hN
  go_enter Try.func80, Try.ntmps80
  go_wp2_with fail
  have hb0 := below_alloc w (.cells #[.slice a n1 c, .slice b N d] 26)
  have P0 := hid (boxp_next (below_alloc _ (.cells #[] 4)) (boxp_at (w := w) (a := .slice a n1 c) (b := .slice b N d) (t := 26) rfl))
  have O0 := hid (show OwnB w.heap.size (.slice (some ⟨w.heap.size + 1, 0, none⟩) 0 0) ((List.range 0).map (some1 adj F)) ((w.alloc (.cells #[.slice a n1 c, .slice b N d] 26)).alloc (.cells #[] 4)) from by
    have h := OwnB.made (w.alloc (.cells #[.slice a n1 c, .slice b N d] 26))
    rw [World.size_alloc] at h
    exact h.mono (by omega))
  have N0 := hid (show ∀ g, (Value.slice (some ⟨w.heap.size + 1, 0, none⟩) 0 0).ownBlock = some g → g ≠ w.heap.size from fun g h => by simp [Value.ownBlock] at h; omega)
  have D0 := hid (below_next hb0 (below_alloc _ (.cells #[] 4)))
  clear hb0
  go_loopw [7, 8] (fun vo i wr => ∃ (k : Nat) (v : Value), v = vo ∧ k ≤ N ∧ i = .int .i64 k ∧ Hid (OwnB w.heap.size v ((List.range k).map (some1 adj F)) wr) ∧ Hid (Below w.heap.size w wr) ∧ Hid (BoxP wr w.heap.size (.slice a n1 c) (.slice b N d)) ∧ Hid (∀ g, v.ownBlock = some g → g ≠ w.heap.size)) (fun _ i _ => N - (intOf i).toNat)
  case atStart => exact ⟨0, _, rfl, Nat.zero_le _, rfl, O0, D0, P0, N0⟩
  case round =>
    obtain ⟨k, vo, rfl, hk, rfl, HO, HB, HP, HN⟩ := hrel
    obtain ⟨wi, rfl⟩ : ∃ wi : World, wi = wr := ⟨_, rfl⟩
    obtain ⟨p0, p1, p2, p3, p4⟩ := HP.out
    clear O0 D0 P0 N0
    by_cases hlt : k < N
    · have hlt2 : (k : Int) < (N : Int) := by omega
      obtain ⟨r, hr, hrl, hadj, b1, o1, a1, c1, rfl, hb1, g0, k1, k2, hrow⟩ := HROWS.out k hlt
      have g0' : wi.cell? ⟨b1, o1 + k, none⟩ = some (.slice a1 r.length c1) := by rw [HB.out.cell (p := ⟨b1, o1 + k, none⟩) hb1]; exact g0
      have hb1' := Nat.lt_of_lt_of_le hb1 HB.out.size
      have HRI := hid (hrow.below HB.out)
      have HRR := hid hr
      have HADJ := hid hadj
      unfold maxLen at k2
      clear hrow hr hadj g0 hb1 hrl
      go_wp2_with fail
      go_loopw [9, 10] (fun vb i wr => ∃ (m : Nat) (q : Bool), m ≤ r.length ∧ vb = .bool q ∧ i = .int .i64 m ∧ wr = wi ∧ Hid (q = ((r.take m).map Int.toNat).any F)) (fun _ i _ => r.length - (intOf i).toNat)
      case atStart => exact ⟨0, false, Nat.zero_le _, rfl, rfl, rfl, hid (by simp)⟩
      case round =>
        obtain ⟨m, q, hm, rfl, rfl, rfl, HQ⟩ := hrel
        by_cases hmr : m < r.length
        · have hmr2 : (m : Int) < (r.length : Int) := by omega
          obtain ⟨b5, o5, rfl, hb5, _, g5, _⟩ := ints_at HRI.out (Below.refl _ _) hmr
          obtain ⟨hx0, hxN⟩ := HRR.out r[m] (List.getElem_mem hmr)
          obtain ⟨n, hn⟩ : ∃ n : Nat, r[m] = (n : Int) := ⟨r[m].toNat, by omega⟩
          have HQ2 := hid (show (q || F n) = ((r.take (m + 1)).map Int.toNat).any F by
            rw [List.take_add_one, List.getElem?_eq_getElem hmr, hn, HQ.out]; simp)
          rw [hn] at g5 hxN
          have hnN : n < N := by omega
          obtain ⟨bg, og, rfl, hbg, gg⟩ := HSAT.out wr HB.out n hnN
          clear hn hx0 HQ
          generalize F n = fn at *
          cases fn with
          | false =>
            rw [Bool.or_false] at HQ2
            go_wp2_with fail
            go_roundw
            case rel => exact ⟨m + 1, q, by omega, rfl, by go_num, by first | rfl | trivial, HQ2⟩
            case measure => simp [intOf]; omega
          | true =>
            rw [Bool.or_true] at HQ2
            go_wp2_with fail
            go_roundw
            case rel => exact ⟨m + 1, true, by omega, rfl, by go_num, by first | rfl | trivial, HQ2⟩
            case measure => simp [intOf]; omega
        · obtain rfl : m = r.length := by omega
          have HQ2 := hid (show q = some1 adj F k by rw [HQ.out, List.take_of_length_le (Nat.le_refl _), some1, HADJ.out])
          obtain ⟨av, cv, rfl, e1, e2, e3⟩ := HO.out.shape
          have h0 := below_alloc wr (.cells #[.bool q] 4)
          have HI := hid (row_oneB wr q)
          have HO1 := hid (HO.out.next h0)
          have HB1 := hid (below_next HB.out h0)
          have HP1 := hid (boxp_next h0 HP.out)
          have hBs := HB1.out.size
          have hp0 := HP1.out.1
          have hml : ¬ ((r.length : Int) < (r.length : Int)) := by omega
          clear h0 HO HB HP HRI HQ
          go_wp2_with (at_builtin; refine Bl.wp_app_own2 rfl _ _ rfl w.heap.size (.slice av ((List.range k).map (some1 adj F)).length cv) ((List.range k).map (some1 adj F)) [q] (some ⟨wr.heap.size, 0, none⟩) 1 rfl rfl (fun h => by cases h) HO1.out hBs HI.out (by simp; omega) (by simp) ?_; intro v' w' hv hg hor)
          have HV := hid (show OwnB w.heap.size v' ((List.range (k + 1)).map (some1 adj F)) w' by rw [List.range_succ, List.map_append]; rw [HQ2.out] at hv; exact hv)
          have HB2 := hid (Bl.below_own HB1.out HO1.out (Nat.le_refl _) hg)
          have HP2 := hid (boxp_keep hg.size (hg.block _ hp0 (fun e => HN.out _ e.symm rfl)) HP1.out)
          have HN2 := hid (show ∀ g, v'.ownBlock = some g → g ≠ w.heap.size from fun g h => by
            rcases hor with e | e
            · exact HN.out g (by rw [← e]; exact h)
            · rw [e] at h; simp at h; simp at hp0; omega)
          clear hv hg hor HO1 HI
          go_wp2_with fail
          go_roundw
          case rel => exact ⟨k + 1, _, rfl, by omega, by go_num, HV, HB2, HP2, HN2⟩
          case measure => simp [intOf]; omega
    · obtain rfl : k = N := by omega
      go_wp2_with fail
      go_ret
      exact RetP.mk HO.out HB.out
end Alw
end Go.Proofs.Ytfemikebklmlpaa
