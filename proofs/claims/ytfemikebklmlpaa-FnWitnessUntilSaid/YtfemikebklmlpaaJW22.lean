/- Joined texts (AlwI3, AlwS, SetDraw, GrVS, WuS): contracts and plain laws. Conditions: those of each theorem. -/
import Derived.Test.YtfemikebklmlpaaJW21
import Derived.Test.YtfemikebklmlpaaJW19
import Derived.Test.YtfemikebklmlpaaJW5
import Derived.Test.YtfemikebklmlpaaJW4
import Derived.Test.YtfemikebklmlpaaJW3
import Derived.Test.YtfemikebklmlpaaJW11
import Derived.Deep.DeepCutAuto
import Derived.Deep.CutBlock
set_option linter.unusedVariables false
set_option linter.unusedSimpArgs false
namespace Go.Proofs.Ytfemikebklmlpaa
open Go.RowKit
set_option linter.unusedVariables false
set_option linter.unusedSimpArgs false
namespace Alw
open Gr Bfs Gfp

/-- truths read off a row -/
def rdF (w : World) (R : Nat) (j : Nat) : Bool := match w.cell? ⟨R, j, none⟩ with
  | some (.bool b) => b
  | _ => true
theorem cnt_congr {f g : Nat → Bool} : ∀ {n}, (∀ j, j < n → f j = g j) → Gfp.cnt f n = Gfp.cnt g n
  | 0, _ => rfl
  | n + 1, h => by simp only [Gfp.cnt]; rw [cnt_congr (n := n) fun j hj => h j (by omega), h n (by omega)]
theorem rd_cnt {w : World} {R N : Nat} {f : Nat → Bool} (h : Row w R N (fun j => .bool (f j))) : Gfp.cnt (rdF w R) N = Gfp.cnt f N := cnt_congr fun j hj => by unfold rdF; rw [h.2.1 j hj]
def isT (v : Value) : Bool := match v with | .bool b => b | _ => false
def msF (v : Value) (w : World) (R N : Nat) : Nat := if isT v = true then Gfp.cnt (rdF w R) N + 1 else 0
/-- a new row of truths -/
def FixV (N : Nat) (f : Nat → Bool) (B : Nat) (v : Value) (w : World) : Prop := ∃ R, v = .slice (some ⟨R, 0, none⟩) N N ∧ B ≤ R ∧ Row w R N (fun j => .bool (f j))
set_option maxRecDepth 100000 in
set_option maxHeartbeats 4000000 in
theorem fix_any (g : G2) (thr : List Bool) (N : Nat) (hTN : thr.length = N) (hSt : g.states.length = N) (hN : g.next.length = N) (hN60 : N ≤ 60) (hgood : Bfs.Good g.next) (w : World) (tt : Option Addr) (tc OT OG : Nat) (hT : w.cell? ⟨OT, 0, none⟩ = some (.slice tt N tc)) (htc : N ≤ tc) (htc2 : tc ≤ maxLen) (htt : BoolsIn Any w tt thr)
    (a b : Option Addr) (c d : Nat) (hG : BoxP w OG (.slice a N c) (.slice b N d)) (hx : GrIn Any w g (.agg #[.slice a N c, .slice b N d])) :
    Calls Try.prog 54 #[.agg #[.slice a N c, .slice b N d], .bool true, .func (.func 55) #[] #[.pointer (some ⟨OT, 0, none⟩), .pointer (some ⟨OG, 0, none⟩)]] w (RetP (FixV N (gfp (adjOf g.next) (goalOf thr)) w.heap.size) w) := by
  have HAD := hid (show ∀ u, u < N → ∀ n, n ∈ adjOf g.next u → n < N from fun u hu n hn => by have := hgood.adj u (by omega) n hn; omega)
  have HC := hid (fun (W : World) (M : Below w.heap.size w W) (S : List Bool) (hSN : S.length = N) (j R : Nat) (hj : j < N) (hS : BoolsIn Any W (some ⟨R, 0, none⟩) S) =>
    alw1_any g thr S N j hTN hSN hN hj hgood W (some ⟨R, 0, none⟩) tt N tc OT OG (by rw [M.cell (p := ⟨OT, 0, none⟩) (blt hT)]; exact hT) htc htc2 (htt.below M) a b N N c d (boxp_next M hG) (hx.below M) hS (Nat.le_refl _) (by unfold maxLen; omega))
  have hmk := make_bools N (by omega)
  have hc : N ≤ c := by
    obtain ⟨a', c', b', d', e, h1, h2, _⟩ := hx
    simp at e; omega
  have hc2 : c ≤ 9223372036854775807 := by
    obtain ⟨a', c', b', d', e, h1, h2, _⟩ := hx
    simp at e
    unfold maxLen at h2; omega
  generalize adjOf g.next = adj at *
  generalize goalOf thr = th at *
  clear hgood hT htt hG hx hTN hSt hN htc2
  go_enter Try.func54, Try.ntmps54
  go_wp2_with fail
  have D0 := hid (below_next (below_alloc w (.cells #[.slice a N c, .slice b N d] 26)) (below_alloc _ (.cells (zerosB N) 4)))
  have R0 := hid (show Row ((w.alloc (.cells #[.slice a N c, .slice b N d] 26)).alloc (.cells (zerosB N) 4)) (w.heap.size + 1) N (fun i => .bool (decide (i < 0))) from by
    have h := row_new (w := w.alloc (.cells #[.slice a N c, .slice b N d] 26)) (cs := zerosB N) (n := N) (by rw [zerosB, size_madeCells]) 4
    rw [World.size_alloc] at h
    exact h.congr fun i hi => by simp [zerosB, madeCells, hi, Nat.mod_one, Array.getD])
  go_loopw [8, 18] (fun _ i wr => ∃ k : Nat, k ≤ N ∧ i = .int .i64 k ∧ Hid (Row wr (w.heap.size + 1) N (fun i => .bool (decide (i < k)))) ∧ Hid (Below w.heap.size w wr)) (fun _ i _ => N - (intOf i).toNat)
  case atStart => exact ⟨0, Nat.zero_le _, rfl, R0, D0⟩
  case round =>
    obtain ⟨k, hk, rfl, HR, HB⟩ := hrel
    obtain ⟨wo, rfl⟩ : ∃ wo : World, wo = wr := ⟨_, rfl⟩
    clear R0 D0
    by_cases hlt : k < N
    · have hlt2 : (k : Int) < (N : Int) := by omega
      have r1 := HR.out.2.1 k hlt
      have r2 := HR.out.2.2 k
      have r3 := HR.out.1
      have HR2 := hid ((HR.out.set hlt (.bool true)).congr (g := fun i => .bool (decide (i < k + 1))) fun i hi => by
        by_cases e : i = k
        · rw [if_pos e]; simp [e]
        · rw [if_neg e]
          congr 1
          by_cases e2 : i < k
          · simp [e2]; omega
          · simp [e2]; omega)
      have HB2 := hid (HB.out.setCell (p := ⟨w.heap.size + 1, k, none⟩) (by simp) (.bool true))
      go_wp2_with fail
      go_roundw
      case rel => exact ⟨k + 1, by omega, by go_num, HR2, HB2⟩
      case measure => simp [intOf]; omega
    · obtain rfl : k = N := by omega
      have HR1 := hid (show Row wo (w.heap.size + 1) k (fun i => .bool ((fun _ => true) i)) from HR.out.congr fun i hi => by simp [hi])
      have HI1 := hid (Gfp.inv0 k adj th (f := fun _ => true) (fun _ _ => rfl) (fun _ _ => rfl))
      clear HR
      go_wp2_with fail
      go_loopw [9] (fun c wr => ∃ (ch : Bool) (f : Nat → Bool), c = .bool ch ∧ Hid (Below w.heap.size w wr) ∧ Hid (Row wr (w.heap.size + 1) k (fun j => .bool (f j))) ∧ Hid (Gfp.Inv k adj th f) ∧ Hid (ch = false → ∀ j, j < k → f j = gfp adj th j)) (fun c wr => msF c wr (w.heap.size + 1) k)
      case atStart => exact ⟨true, _, rfl, HB, HR1, HI1, hid (fun h => by cases h)⟩
      case round =>
        obtain ⟨ch, f0, rfl, HB, HR, HI, HE⟩ := hrel
        obtain ⟨wi, rfl⟩ : ∃ wi : World, wi = wr := ⟨_, rfl⟩
        clear HR1 HI1
        cases ch with
        | false =>
          have HF := hid (show FixV k (gfp adj th) w.heap.size (.slice (some ⟨w.heap.size + 1, 0, none⟩) k k) wi from ⟨_, rfl, by omega, HR.out.congr fun i hi => by rw [HE.out rfl i hi]⟩)
          clear HR HE HI
          go_wp2_with fail
          go_ret
          exact RetP.mk HF.out HB.out
        | true =>
          have HCNT := hid (rd_cnt HR.out)
          have HSW := hid (Sweep.start HI.out)
          clear HI HE
          go_wp2_with fail
          go_loopw [9, 29] (fun c i wr => ∃ (m : Nat) (ch : Bool) (f : Nat → Bool), m ≤ k ∧ c = .bool ch ∧ i = .int .i64 m ∧ Hid (Below w.heap.size w wr) ∧ Hid (Row wr (w.heap.size + 1) k (fun j => .bool (f j))) ∧ Hid (Sweep k adj th f0 f m ch)) (fun _ i _ => k - (intOf i).toNat)
          case atStart => exact ⟨0, false, _, Nat.zero_le _, rfl, rfl, HB, HR, HSW⟩
          case round =>
            obtain ⟨m, ch, f, hm, rfl, rfl, HB, HR, HSW⟩ := hrel
            obtain ⟨wj, rfl⟩ : ∃ wj : World, wj = wr := ⟨_, rfl⟩
            by_cases hmk : m < k
            · have hmk2 : (m : Int) < (k : Int) := by omega
              have HCC := hid (HC.out wj HB.out ((List.range k).map f) (by simp) m (w.heap.size + 1) hmk (row_bools HR.out))
              have HNF := hid (show nowF adj th (goalOf ((List.range k).map f)) m = nowF adj th f m from nowF_congr fun x hx => goal_range (HAD.out m hmk x hx))
              rw [HNF.out] at HCC
              go_wp2_with fail
              refine HCC.out.mono ?_
              rintro e w2 ⟨rfl, hb⟩
              have HB2 := hid (below_next HB.out hb)
              have HR2 := hid (HR.out.below hb)
              clear HB HR hb HCC HNF
              have r1 : w2.cell? ⟨w.heap.size + 1, m, none⟩ = some (.bool (f m)) := HR2.out.2.1 m hmk
              have r2 := HR2.out.2.2 m
              have r3 := HR2.out.1
              by_cases hq : nowF adj th f m = f m
              · have HS2 := hid (HSW.out.same hq)
                rw [hq]
                clear hq HSW
                generalize f m = fm at *
                cases fm
                all_goals
                  go_wp2_with fail
                  go_roundw
                  case rel => exact ⟨m + 1, ch, f, by omega, rfl, by go_num, HB2, HR2, HS2⟩
                  case measure => simp [intOf]; omega
              · obtain ⟨hn, hs2⟩ := HSW.out.turn hmk hq
                have HS2 := hid hs2
                have hfm : f m = true := by
                  cases e : f m with
                  | true => rfl
                  | false => rw [hn, e] at hq; exact absurd rfl hq
                rw [hn]
                rw [hfm] at r1
                have HR3 := hid (show Row (w2.setCell ⟨w.heap.size + 1, m, none⟩ (.bool false)) (w.heap.size + 1) k (fun j => .bool (upd f m false j)) from (HR2.out.set hmk (.bool false)).congr fun i hi => by
                  unfold upd
                  by_cases e : i = m
                  · rw [if_pos e, if_pos e]
                  · rw [if_neg e, if_neg e])
                have HB3 := hid (HB2.out.setCell (p := ⟨w.heap.size + 1, m, none⟩) (by simp) (.bool false))
                clear hq hn hs2 hfm HSW
                go_wp2_with fail
                go_roundw
                case rel => exact ⟨m + 1, true, upd f m false, by omega, rfl, by go_num, HB3, HR3, HS2⟩
                case measure => simp [intOf]; omega
            · obtain rfl : m = k := by omega
              have HM := hid (show msF (.bool ch) wj (w.heap.size + 1) m < Gfp.cnt f0 m + 1 by
                unfold msF
                rw [rd_cnt HR.out]
                cases ch with
                | false => simp [isT]
                | true => have := HSW.out.yes rfl; simp [isT]; omega)
              have HD := hid (show ch = false → ∀ j, j < m → f j = gfp adj th j from fun h => by subst h; exact HSW.out.done HAD.out)
              have HI2 := hid HSW.out.inv
              clear HSW
              go_wp2_with fail
              go_roundw
              case rel => exact ⟨ch, f, rfl, HB, HR, HI2, HD⟩
              case measure =>
                have h1 := HM.out
                have h2 := HCNT.out
                rw [show msF (.bool true) wi (w.heap.size + 1) m = Gfp.cnt (rdF wi (w.heap.size + 1)) m + 1 from rfl, h2]
                exact h1
end Alw
end Go.Proofs.Ytfemikebklmlpaa
namespace Go.Proofs.Ytfemikebklmlpaa
open Go.RowKit
set_option linter.unusedVariables false
set_option linter.unusedSimpArgs false
namespace Alw
open Gr Bfs Gfp Bl

theorem row_oneB (W : World) (b : Bool) : BoolsIn Any (W.alloc (.cells #[.bool b] 4)) (some ⟨W.heap.size, 0, none⟩) [b] := .inr ⟨W.heap.size, 0, rfl, trivial, by simp, fun i v hi => by
  cases i with
  | zero => simp at hi; subst hi; simp
  | succ i => simp at hi⟩
set_option maxRecDepth 100000 in
set_option maxHeartbeats 4000000 in
theorem next_any (g : G2) (S : List Bool) (N : Nat) (hSN : S.length = N) (hN : g.next.length = N) (hN60 : N ≤ 60) (hgood : Bfs.Good g.next) (w : World) (ts : Option Addr) (td : Nat) (a b : Option Addr) (n1 c d : Nat) (hx : GrIn Any w g (.agg #[.slice a n1 c, .slice b N d])) (hg : BoolsIn Any w ts S) (htd : N ≤ td) (htd2 : td ≤ maxLen) :
    Calls Try.prog 80 #[.agg #[.slice a n1 c, .slice b N d], .slice ts N td, .bool false] w (RetP (fun v w' => OwnB w.heap.size v ((List.range N).map (some1 (adjOf g.next) (goalOf S))) w') w) := by
  have HROWS := hid (show ∀ k, k < N → ∃ r : List Int, (∀ x, x ∈ r → 0 ≤ x ∧ x < (N : Int)) ∧ r.length ≤ maxLen ∧ adjOf g.next k = r.map Int.toNat ∧ ∃ b1 o1 a1 c1, b = some ⟨b1, o1, none⟩ ∧ b1 < w.heap.size ∧ w.cell? ⟨b1, o1 + k, none⟩ = some (.slice a1 r.length c1) ∧ r.length ≤ c1 ∧ c1 ≤ maxLen ∧ IntsIn Any w a1 r from fun k hk => by
    obtain ⟨a', c', b', d', e, _, _, _, _, _, hp⟩ := hx
    have e2 : b' = b := by simp at e; exact e.2.1.symm
    subst e2
    have hkn : k < g.next.length := by omega
    obtain ⟨b1, o1, a1, c1, e3, hb1, _, g0, k1, k2, hrow⟩ := rows_at hp hkn
    exact ⟨g.next[k], fun x hx => by have := hgood g.next[k] (List.getElem_mem hkn) x hx; omega, by omega, adj_at hkn, b1, o1, a1, c1, e3, hb1, g0, k1, k2, hrow⟩)
  have hd : N ≤ d ∧ d ≤ 9223372036854775807 := by
    obtain ⟨a', c', b', d', e, _, _, _, h1, h2, _⟩ := hx
    simp at e
    unfold maxLen at h2; omega
  obtain ⟨hd1, hd2⟩ := hd
  have HSAT := hid (show ∀ W, Below w.heap.size w W → ∀ n, n < N → ∃ bg og, ts = some ⟨bg, og, none⟩ ∧ bg < W.heap.size ∧ W.cell? ⟨bg, og + n, none⟩ = some (.bool (goalOf S n)) from fun W M n hn => by
    obtain ⟨bg, og, e, h1, _, h2⟩ := bools_at hg M (show n < S.length by omega)
    exact ⟨bg, og, e, h1, by rw [h2, goal_at]⟩)
  generalize adjOf g.next = adj at *
  generalize goalOf S = F at *
  unfold maxLen at htd2
  clear hgood hx hg hSN hN
  go_enter Try.func80, Try.ntmps80
  go_wp2_with fail
  have hb0 := below_alloc w (.cells #[.slice a n1 c, .slice b N d] 26)
  have P0 := hid (boxp_next (below_alloc _ (.cells #[] 4)) (boxp_at (w := w) (a := .slice a n1 c) (b := .slice b N d) (t := 26) rfl))
  have O0 := hid (show OwnB w.heap.size (.slice (some ⟨w.heap.size + 1, 0, none⟩) 0 0) ((List.range 0).map (some1 adj F)) ((w.alloc (.cells #[.slice a n1 c, .slice b N d] 26)).alloc (.cells #[] 4)) from by
    have h := OwnB.made (w.alloc (.cells #[.slice a n1 c, .slice b N d] 26))
    rw [World.size_alloc] at h
    exact h.mono (by omega))
  have N0 := hid (show ∀ g, (Value.slice (some ⟨w.heap.size + 1, 0, none⟩) 0 0).ownBlock = some g → g ≠ w.heap.size from fun g h => by simp [Value.ownBlock] at h; omega)
  have D0 := hid (below_next hb0 (below_alloc _ (.cells #[] 4)))
  clear hb0
  go_loopw [7, 8] (fun vo i wr => ∃ (k : Nat) (v : Value), v = vo ∧ k ≤ N ∧ i = .int .i64 k ∧ Hid (OwnB w.heap.size v ((List.range k).map (some1 adj F)) wr) ∧ Hid (Below w.heap.size w wr) ∧ Hid (BoxP wr w.heap.size (.slice a n1 c) (.slice b N d)) ∧ Hid (∀ g, v.ownBlock = some g → g ≠ w.heap.size)) (fun _ i _ => N - (intOf i).toNat)
  case atStart => exact ⟨0, _, rfl, Nat.zero_le _, rfl, O0, D0, P0, N0⟩
  case round =>
    obtain ⟨k, vo, rfl, hk, rfl, HO, HB, HP, HN⟩ := hrel
    obtain ⟨wi, rfl⟩ : ∃ wi : World, wi = wr := ⟨_, rfl⟩
    obtain ⟨p0, p1, p2, p3, p4⟩ := HP.out
    clear O0 D0 P0 N0
    by_cases hlt : k < N
    · have hlt2 : (k : Int) < (N : Int) := by omega
      obtain ⟨r, hr, hrl, hadj, b1, o1, a1, c1, rfl, hb1, g0, k1, k2, hrow⟩ := HROWS.out k hlt
      have g0' : wi.cell? ⟨b1, o1 + k, none⟩ = some (.slice a1 r.length c1) := by rw [HB.out.cell (p := ⟨b1, o1 + k, none⟩) hb1]; exact g0
      have hb1' := Nat.lt_of_lt_of_le hb1 HB.out.size
      have HRI := hid (hrow.below HB.out)
      have HRR := hid hr
      have HADJ := hid hadj
      unfold maxLen at k2
      clear hrow hr hadj g0 hb1 hrl
      go_wp2_with fail
      go_loopw [9, 10] (fun vb i wr => ∃ (m : Nat) (q : Bool), m ≤ r.length ∧ vb = .bool q ∧ i = .int .i64 m ∧ wr = wi ∧ Hid (q = ((r.take m).map Int.toNat).any F)) (fun _ i _ => r.length - (intOf i).toNat)
      case atStart => exact ⟨0, false, Nat.zero_le _, rfl, rfl, rfl, hid (by simp)⟩
      case round =>
        obtain ⟨m, q, hm, rfl, rfl, rfl, HQ⟩ := hrel
        by_cases hmr : m < r.length
        · have hmr2 : (m : Int) < (r.length : Int) := by omega
          obtain ⟨b5, o5, rfl, hb5, _, g5, _⟩ := ints_at HRI.out (Below.refl _ _) hmr
          obtain ⟨hx0, hxN⟩ := HRR.out r[m] (List.getElem_mem hmr)
          obtain ⟨n, hn⟩ : ∃ n : Nat, r[m] = (n : Int) := ⟨r[m].toNat, by omega⟩
          have HQ2 := hid (show (q || F n) = ((r.take (m + 1)).map Int.toNat).any F by
            rw [List.take_add_one, List.getElem?_eq_getElem hmr, hn, HQ.out]; simp)
          rw [hn] at g5 hxN
          have hnN : n < N := by omega
          obtain ⟨bg, og, rfl, hbg, gg⟩ := HSAT.out wr HB.out n hnN
          clear hn hx0 HQ
          generalize F n = fn at *
          cases fn with
          | false =>
            rw [Bool.or_false] at HQ2
            go_wp2_with fail
            go_roundw
            case rel => exact ⟨m + 1, q, by omega, rfl, by go_num, by first | rfl | trivial, HQ2⟩
            case measure => simp [intOf]; omega
          | true =>
            rw [Bool.or_true] at HQ2
            go_wp2_with fail
            go_roundw
            case rel => exact ⟨m + 1, true, by omega, rfl, by go_num, by first | rfl | trivial, HQ2⟩
            case measure => simp [intOf]; omega
        · obtain rfl : m = r.length := by omega
          have HQ2 := hid (show q = some1 adj F k by rw [HQ.out, List.take_of_length_le (Nat.le_refl _), some1, HADJ.out])
          obtain ⟨av, cv, rfl, e1, e2, e3⟩ := HO.out.shape
          have h0 := below_alloc wr (.cells #[.bool q] 4)
          have HI := hid (row_oneB wr q)
          have HO1 := hid (HO.out.next h0)
          have HB1 := hid (below_next HB.out h0)
          have HP1 := hid (boxp_next h0 HP.out)
          have hBs := HB1.out.size
          have hp0 := HP1.out.1
          have hml : ¬ ((r.length : Int) < (r.length : Int)) := by omega
          clear h0 HO HB HP HRI HQ
          go_wp2_with (at_builtin; refine Bl.wp_app_own2 rfl _ _ rfl w.heap.size (.slice av ((List.range k).map (some1 adj F)).length cv) ((List.range k).map (some1 adj F)) [q] (some ⟨wr.heap.size, 0, none⟩) 1 rfl rfl (fun h => by cases h) HO1.out hBs HI.out (by simp; omega) (by simp) ?_; intro v' w' hv hg hor)
          have HV := hid (show OwnB w.heap.size v' ((List.range (k + 1)).map (some1 adj F)) w' by rw [List.range_succ, List.map_append]; rw [HQ2.out] at hv; exact hv)
          have HB2 := hid (Bl.below_own HB1.out HO1.out (Nat.le_refl _) hg)
          have HP2 := hid (boxp_keep hg.size (hg.block _ hp0 (fun e => HN.out _ e.symm rfl)) HP1.out)
          have HN2 := hid (show ∀ g, v'.ownBlock = some g → g ≠ w.heap.size from fun g h => by
            rcases hor with e | e
            · exact HN.out g (by rw [← e]; exact h)
            · rw [e] at h; simp at h; simp at hp0; omega)
          clear hv hg hor HO1 HI
          go_wp2_with fail
          go_roundw
          case rel => exact ⟨k + 1, _, rfl, by omega, by go_num, HV, HB2, HP2, HN2⟩
          case measure => simp [intOf]; omega
    · obtain rfl : k = N := by omega
      go_wp2_with fail
      go_ret
      exact RetP.mk HO.out HB.out
end Alw
end Go.Proofs.Ytfemikebklmlpaa
namespace Go.Proofs.Ytfemikebklmlpaa
open Go.RowKit
set_option linter.unusedVariables false
set_option linter.unusedSimpArgs false
namespace Bl

def SetPost (B n R p : Nat) (w : World) (e : Ending) (w' : World) : Prop := ∃ (v : Value) (l : List Bool) (p' : Nat), e = .returned v ∧ OwnB (w.heap.size + 1) v l w' ∧ l.length ≤ n + 1 ∧ But w R w' ∧ Rd B w' R p' ∧ p' ≤ p + n + 1
set_option maxRecDepth 100000 in
set_option maxHeartbeats 4000000 in
theorem set_any (B n m R p : Nat) (w : World) (a b : Option Addr) (c d : Nat) (hr : Rd B w R p) (hp : p ≤ 900000) (hn : n ≤ 1000) (hc : n ≤ c) (hc2 : c ≤ maxLen) : Calls Try.prog 32 #[.pointer (some ⟨R, 0, none⟩), .agg #[.slice a n c, .slice b m d]] w (SetPost B n R p w) := by
  have hlt := hr.lt
  have HR := hid hr
  unfold maxLen at hc2
  clear hr
  go_enter Try.func32, Try.ntmps32
  go_wp2_with fail
  have hb0 := below_alloc w (.cells #[.slice a n c, .slice b m d] 26)
  have hb1 := below_next hb0 (below_alloc _ (.cells #[] 4))
  have P0 := hid (boxp_next (below_alloc _ (.cells #[] 4)) (boxp_at (w := w) (a := .slice a n c) (b := .slice b m d) (t := 26) rfl))
  have O0 := hid (show OwnB (w.heap.size + 1) (.slice (some ⟨w.heap.size + 1, 0, none⟩) 0 0) [] ((w.alloc (.cells #[.slice a n c, .slice b m d] 26)).alloc (.cells #[] 4)) from by
    have h := OwnB.made (w.alloc (.cells #[.slice a n c, .slice b m d] 26))
    rw [World.size_alloc] at h
    exact h)
  have R0 := hid (HR.out.next hb1)
  have D0 := hid (show But w R _ from But.of hb1)
  clear hb0 hb1
  go_loopw [5, 6] (fun vo i wr => ∃ (k : Nat) (v : Value) (l : List Bool) (q : Nat), v = vo ∧ k ≤ n ∧ i = .int .i64 k ∧ Hid (OwnB (w.heap.size + 1) v l wr) ∧ l.length = k ∧ Hid (But w R wr) ∧ Hid (Rd B wr R q) ∧ q = p + k ∧ Hid (BoxP wr w.heap.size (.slice a n c) (.slice b m d))) (fun _ i _ => n - (intOf i).toNat)
  case atStart => exact ⟨0, _, [], p, rfl, Nat.zero_le _, rfl, O0, rfl, D0, R0, by omega, P0⟩
  case round =>
    obtain ⟨k, vo, l, q, rfl, hk, rfl, HO, hlk, HB, HRD, hq, HP⟩ := hrel
    obtain ⟨wi, rfl⟩ : ∃ wi : World, wi = wr := ⟨_, rfl⟩
    obtain ⟨p0, p1, p2, p3, p4⟩ := HP.out
    have HLK := hid hlk
    have HQ := hid hq
    clear O0 D0 R0 P0 hlk hq
    by_cases hkn : k < n
    · have hkn2 : (k : Int) < (n : Int) := by omega
      go_wp2_with fail
      refine (pick_any B 4 _ R q HRD.out (by have := HQ.out; omega) (by omega) (by omega)).mono ?_
      rintro e w2 ⟨i, rfl, ⟨hi0, _, _⟩, hbt, hrd⟩
      have HB2 := hid (HB.out.trans hbt)
      have HRD2 := hid hrd
      have HP2 := hid (boxp_but hbt (by omega) HP.out)
      have HO2 := hid (HO.out.keep (w' := w2) fun g _ h2 h3 => hbt.block g h3 (by omega))
      have hs2 := HB2.out.size
      have HLK2 := hid HLK.out
      clear hbt hrd HB HRD HP HO p0 p1 p2 p3 p4
      obtain ⟨av, cv, rfl, e1, e2, e3⟩ := HO2.out.shape
      have HRl := HRD2.out.lt
      by_cases hi : i > 0
      · have h0 := below_alloc w2 (.cells #[.bool true] 4)
        have HI := hid (Alw.row_oneB w2 true)
        have HO3 := hid (HO2.out.next h0)
        have HB3 := hid (HB2.out.next h0)
        have HR3 := hid (HRD2.out.next h0)
        have HP3 := hid (boxp_next h0 HP2.out)
        have hs3 : w.heap.size + 1 ≤ (w2.alloc (.cells #[.bool true] 4)).heap.size := by have := HP2.out.1; simp; omega
        have hl1000 : l.length ≤ 1000000 := by have := HLK.out; omega
        clear h0 HO2 HB2 HRD2 HP2 HLK
        go_wp2_with (at_builtin; refine Bl.wp_app_own2 rfl _ _ rfl (w.heap.size + 1) (.slice av l.length cv) l [true] (some ⟨w2.heap.size, 0, none⟩) 1 rfl rfl (fun h => by cases h) HO3.out hs3 HI.out hl1000 (by simp) ?_; intro v' w' hv hg hor)
        have HV := hid hv
        have HB4 := hid (show But w R w' from ⟨hg.os.trans HB3.out.os, hg.tape.trans HB3.out.tape, hg.output.trans HB3.out.output, Nat.le_trans HB3.out.size hg.size, fun x hx hd => by
          rw [hg.block x (Nat.lt_of_lt_of_le hx HB3.out.size) (fun e => by have := (HO3.out.blk x e.symm).1; omega), HB3.out.block x hx hd]⟩)
        have HR4 := hid (HR3.out.grown hg (fun x hx => by have := (HO3.out.blk x hx).1; omega))
        have HP4 := hid (boxp_keep hg.size (hg.block _ HP3.out.1 (fun e => by have := (HO3.out.blk _ e.symm).1; omega)) HP3.out)
        clear hv hg hor HO3 HB3 HR3 HP3 HI hs3
        go_wp2_with fail
        go_roundw
        case rel => exact ⟨k + 1, _, l ++ [true], q + 1, rfl, by omega, by go_num, HV, by rw [List.length_append, HLK2.out]; rfl, HB4, HR4, by have := HQ.out; omega, HP4⟩
        case measure => (simp [intOf]; try omega)
      · obtain rfl : i = 0 := by omega
        clear hi
        have h0 := below_alloc w2 (.cells #[.bool false] 4)
        have HI := hid (Alw.row_oneB w2 false)
        have HO3 := hid (HO2.out.next h0)
        have HB3 := hid (HB2.out.next h0)
        have HR3 := hid (HRD2.out.next h0)
        have HP3 := hid (boxp_next h0 HP2.out)
        have hs3 : w.heap.size + 1 ≤ (w2.alloc (.cells #[.bool false] 4)).heap.size := by have := HP2.out.1; simp; omega
        have hl1000 : l.length ≤ 1000000 := by have := HLK.out; omega
        clear h0 HO2 HB2 HRD2 HP2 HLK
        go_wp2_with (at_builtin; refine Bl.wp_app_own2 rfl _ _ rfl (w.heap.size + 1) (.slice av l.length cv) l [false] (some ⟨w2.heap.size, 0, none⟩) 1 rfl rfl (fun h => by cases h) HO3.out hs3 HI.out hl1000 (by simp) ?_; intro v' w' hv hg hor)
        have HV := hid hv
        have HB4 := hid (show But w R w' from ⟨hg.os.trans HB3.out.os, hg.tape.trans HB3.out.tape, hg.output.trans HB3.out.output, Nat.le_trans HB3.out.size hg.size, fun x hx hd => by
          rw [hg.block x (Nat.lt_of_lt_of_le hx HB3.out.size) (fun e => by have := (HO3.out.blk x e.symm).1; omega), HB3.out.block x hx hd]⟩)
        have HR4 := hid (HR3.out.grown hg (fun x hx => by have := (HO3.out.blk x hx).1; omega))
        have HP4 := hid (boxp_keep hg.size (hg.block _ HP3.out.1 (fun e => by have := (HO3.out.blk _ e.symm).1; omega)) HP3.out)
        clear hv hg hor HO3 HB3 HR3 HP3 HI hs3
        go_wp2_with fail
        go_roundw
        case rel => exact ⟨k + 1, _, l ++ [false], q + 1, rfl, by omega, by go_num, HV, by rw [List.length_append, HLK2.out]; rfl, HB4, HR4, by have := HQ.out; omega, HP4⟩
        case measure => (simp [intOf]; try omega)
    · obtain rfl : k = n := by omega
      have hkk : ¬ ((k : Int) < (k : Int)) := by omega
      go_wp2_with fail
      refine (pick_any B 30 _ R q HRD.out (by have := HQ.out; omega) (by omega) (by omega)).mono ?_
      rintro e w2 ⟨i, rfl, _, hbt, hrd⟩
      have hRw := HRD.out.lt
      have HB2 := hid (HB.out.trans hbt)
      have HRD2 := hid hrd
      have HP2 := hid (boxp_but hbt (by omega) HP.out)
      have HO2 := hid (HO.out.keep (w' := w2) fun g _ h2 h3 => hbt.block g h3 (by omega))
      have hs2 := HB2.out.size
      clear hbt hrd HB HRD HP HO p0 p1 p2 p3 p4
      obtain ⟨av, cv, rfl, e1, e2, e3⟩ := HO2.out.shape
      have HRl := HRD2.out.lt
      have HLK2 := hid HLK.out
      by_cases hi : i = 0
      · subst hi
        have h0 := below_alloc w2 (.cells #[.bool true] 4)
        have HI := hid (Alw.row_oneB w2 true)
        have HO3 := hid (HO2.out.next h0)
        have HB3 := hid (HB2.out.next h0)
        have HR3 := hid (HRD2.out.next h0)
        have HP3 := hid (boxp_next h0 HP2.out)
        have hs3 : w.heap.size + 1 ≤ (w2.alloc (.cells #[.bool true] 4)).heap.size := by have := HP2.out.1; simp; omega
        have hl1000 : l.length ≤ 1000000 := by have := HLK.out; omega
        clear h0 HO2 HB2 HRD2 HP2 HLK
        go_wp2_with (at_builtin; refine Bl.wp_app_own2 rfl _ _ rfl (w.heap.size + 1) (.slice av l.length cv) l [true] (some ⟨w2.heap.size, 0, none⟩) 1 rfl rfl (fun h => by cases h) HO3.out hs3 HI.out hl1000 (by simp) ?_; intro v' w' hv hg hor)
        have HV := hid hv
        have HB4 := hid (show But w R w' from ⟨hg.os.trans HB3.out.os, hg.tape.trans HB3.out.tape, hg.output.trans HB3.out.output, Nat.le_trans HB3.out.size hg.size, fun x hx hd => by
          rw [hg.block x (Nat.lt_of_lt_of_le hx HB3.out.size) (fun e => by have := (HO3.out.blk x e.symm).1; omega), HB3.out.block x hx hd]⟩)
        have HR4 := hid (HR3.out.grown hg (fun x hx => by have := (HO3.out.blk x hx).1; omega))
        have HP4 := hid (boxp_keep hg.size (hg.block _ HP3.out.1 (fun e => by have := (HO3.out.blk _ e.symm).1; omega)) HP3.out)
        clear hv hg hor HO3 HB3 HR3 HP3 HI hs3
        go_wp2_with fail
        go_ret
        exact ⟨_, l ++ [true], q + 1, rfl, HV.out, by rw [List.length_append, HLK2.out]; simp, HB4.out, HR4.out, by have := HQ.out; omega⟩
      · have hi2 : (i == 0) = false := by rw [beq_eq_false_iff_ne]; exact hi
        go_wp2_with fail
        go_ret
        exact ⟨_, l, q + 1, rfl, HO2.out, by rw [HLK2.out]; omega, HB2.out, HRD2.out, by have := HQ.out; omega⟩
end Bl
end Go.Proofs.Ytfemikebklmlpaa
namespace Go.Proofs.Ytfemikebklmlpaa
open Go.RowKit
set_option linter.unusedVariables false
set_option linter.unusedSimpArgs false
namespace Gr

/-- states and rows, one beside the other -/
def gz (n : Nat) : List S2 → List (List Int) → Bool
  | s :: ss, r :: rs => (rowOk n r && stOk s) && gz n ss rs
  | _, _ => true
theorem gz_eq (n : Nat) : ∀ (ss : List S2) (rs : List (List Int)), rs.length = ss.length → gz n ss rs = (ss.all stOk && rs.all (rowOk n))
  | [], [], _ => rfl
  | s :: ss, r :: rs, h => by
    rw [gz, gz_eq n ss rs (by simpa using h), List.all_cons, List.all_cons]
    cases rowOk n r <;> cases stOk s <;> simp
  | [], r :: rs, h => by simp at h
  | s :: ss, [], h => by simp at h
theorem rowOk_len {n : Nat} {r : List Int} (h : r.length < 1 ∨ n < r.length) : rowOk n r = false := by
  cases e : rowOk n r with
  | false => rfl
  | true =>
    unfold rowOk at e
    rw [Bool.and_eq_true] at e
    have := dst_len e.2
    rcases h with h | h
    · rw [List.length_eq_zero_iff.1 (by omega : r.length = 0)] at e; simp at e
    · omega
theorem rowOk_dst {n : Nat} {r : List Int} (h : ¬ r.length < 1) : rowOk n r = dst n [] r := by
  unfold rowOk
  cases r with
  | nil => simp at h
  | cons y t => simp

set_option maxRecDepth 100000 in
set_option maxHeartbeats 4000000 in
theorem specValid_any (g : G2) (w : World) (x : Value) (hx : GrIn Any w g x) : Calls Try.prog 39 #[x] w (Ret (.bool (okG g)) w) := by
  obtain ⟨a, c, b, d, rfl, hc, hc2, hi, hd, hd2, hp⟩ := hx
  have HI := hid hi
  have HP := hid hp
  have E := hid (show okG g = (decide (1 ≤ g.states.length ∧ g.states.length ≤ 60) && decide (g.next.length = g.states.length) && g.states.all stOk && g.next.all (rowOk g.states.length)) from rfl)
  unfold maxLen at hc2 hd2
  generalize okG g = r at *
  obtain ⟨ss, hss⟩ : ∃ ss, ss = g.states := ⟨_, rfl⟩
  obtain ⟨rs, hrs⟩ : ∃ rs, rs = g.next := ⟨_, rfl⟩
  rw [← hss, ← hrs] at E
  rw [← hss] at hc HI
  rw [← hrs] at hd HP
  rw [← hss, ← hrs]
  clear hss hrs hi hp
  by_cases h1 : 1 ≤ ss.length ∧ ss.length ≤ 60
  · by_cases h2 : rs.length = ss.length
    · have E2 := hid (show r = gz ss.length ss rs by rw [E.out, gz_eq _ _ _ h2]; simp [h1, h2])
      have HL := hid h2
      have hn1 : ¬ ((ss.length : Int) < 1) := by omega
      have hn2 : ¬ ((ss.length : Int) > 60) := by omega
      have hn3 : ((rs.length : Int) != (ss.length : Int)) = false := by rw [bne_eq_false_iff_eq]; omega
      have hrl : rs.length ≤ ss.length := by omega
      have hrl2 : ss.length ≤ rs.length := by omega
      clear E h2
      go_enter Try.func39, Try.ntmps39
      go_wp2_with fail
      have P := hid (boxp_at (w := w) (a := .slice a ss.length c) (b := .slice b rs.length d) (t := 26) rfl)
      go_loopw [3] (fun i wr => ∃ k : Nat, k ≤ ss.length ∧ i = .int .i64 k ∧ Hid (Below w.heap.size w wr) ∧ Hid (BoxP wr w.heap.size (.slice a ss.length c) (.slice b rs.length d)) ∧ Hid (gz ss.length (ss.drop k) (rs.drop k) = gz ss.length ss rs)) (fun i _ => ss.length - (intOf i).toNat)
      case atStart => exact ⟨0, Nat.zero_le _, rfl, hid (by repeat (first | exact Below.refl _ _ | assumption | refine below_a ?_ _ | refine below_o ?_ _ | refine below_d ?_ | refine below_n ?_ _ | refine below_s ?_ (by first | (simp; done) | (simp; omega) | omega) _)), P, hid rfl⟩
      case round =>
        obtain ⟨k, hk, rfl, B, PB, HG⟩ := hrel
        obtain ⟨wo, rfl⟩ : ∃ wo : World, wo = wr := ⟨_, rfl⟩
        obtain ⟨p0, p1, p2, p3, p4⟩ := PB.out
        by_cases hlt : k < ss.length
        · have hltr : k < rs.length := by omega
          obtain ⟨b1, o1, a1, c1, a2, c2, rfl, hb1, _, g0, g1, hr1, hr2v⟩ := sts_at (HI.out.below B.out) hlt
          obtain ⟨b2, o2, a3, c3, rfl, hb2, _, g3, k1, k2, hrow⟩ := rows_at (HP.out.below B.out) hltr
          obtain ⟨_, _, e2, v1, v2, v3⟩ := hr2v
          simp at e2
          obtain ⟨rfl, rfl⟩ := e2
          have HROW := hid hrow
          have HVAL := hid (fun (W : World) (M : Below wo.heap.size wo W) => Expr.specVals_any ss[k].vals W a2 c2 (v3.below M) v1 v2)
          have HG2 := HG.out
          rw [List.drop_eq_getElem_cons hlt, List.drop_eq_getElem_cons hltr] at HG2
          simp only [gz] at HG2
          have HGG := hid HG2
          have HST := hid (show stOk ss[k] = Expr.okVals ss[k].vals from rfl)
          unfold maxLen at k2
          clear hr1 hrow HG2 HG P v3
          have hlt2 : (k : Int) < (ss.length : Int) := by omega
          have hltr2 : (k : Int) < (rs.length : Int) := by omega
          generalize ss[k] = t at *
          generalize rs[k] = u at *
          go_wp2_with fail
          by_cases hu1 : u.length < 1
          · have hu2 : (u.length : Int) < 1 := by omega
            have HF := hid (show r = false by rw [E2.out, ← HGG.out, rowOk_len (.inl hu1)]; rfl)
            refine wp_region_over (by kernel_rfl) (by kernel_rfl) ?_; (repeat (go_big_quiet_step ((fail)))); refine wpQuiet_nil ?_; rintro _ ⟨xq, rfl⟩
            go_wp2_with fail
            go_ret
            exact Ret.mk (bool_val HF.out.symm) (below_next B.out (over_below wo xq))
          · have hu2 : ¬ ((u.length : Int) < 1) := by omega
            by_cases hu3 : ss.length < u.length
            · have hu4 : (u.length : Int) > (ss.length : Int) := by omega
              have HF := hid (show r = false by rw [E2.out, ← HGG.out, rowOk_len (.inr hu3)]; rfl)
              refine wp_region_over (by kernel_rfl) (by kernel_rfl) ?_; (repeat (go_big_quiet_step ((fail)))); refine wpQuiet_nil ?_; rintro _ ⟨xq, rfl⟩
              go_wp2_with fail
              go_ret
              exact Ret.mk (bool_val HF.out.symm) (below_next B.out (over_below wo xq))
            · have hu4 : ¬ ((u.length : Int) > (ss.length : Int)) := by omega
              have HDS := hid (rowOk_dst (n := ss.length) hu1)
              generalize Expr.okVals t.vals = q at *
              refine wp_region_over (by kernel_rfl) (by kernel_rfl) ?_; (repeat (go_big_quiet_step ((go_at_call 72; exact Calls.over (HVAL.out _ (over_below wo _)))))); refine wpQuiet_nil ?_; rintro _ ⟨xq, rfl⟩
              have B3 := hid (below_next B.out (over_below wo xq))
              have HO := hid (over_below wo xq)
              obtain ⟨W, hW⟩ : ∃ W, wo.over xq = W := ⟨_, rfl⟩
              rw [hW] at B3 HO ⊢
              have PB3 := hid (boxp_next HO.out PB.out)
              have RW := hid (HROW.out.below HO.out)
              have g3' : W.cell? ⟨b2, o2 + k, none⟩ = some (.slice a3 u.length c3) := by rw [HO.out.cell (p := ⟨b2, o2 + k, none⟩) hb2]; exact g3
              have hb2' : b2 < W.heap.size := Nat.lt_of_lt_of_le hb2 HO.out.size
              clear hW g0 g1 g3 hb1 hb2 p0 p1 p2 p3 p4 HROW HVAL
              cases q with
              | false =>
                have HF := hid (show r = false by rw [E2.out, ← HGG.out, HST.out]; simp)
                go_wp2_with fail
                go_ret
                exact Ret.mk (bool_val HF.out.symm) B3.out
              | true =>
                have HGH := hid (show (dst ss.length [] u && gz ss.length (ss.drop (k + 1)) (rs.drop (k + 1))) = gz ss.length ss rs by rw [← HGG.out, HST.out, HDS.out, Bool.and_true])
                clear HGG HDS HST
                have HPW := hid (HP.out.below B3.out)
                have HG3 := hid g3'
                obtain ⟨p0, p1, p2, p3, p4⟩ := PB3.out
                go_wp2_with fail
                clear p0 p1 p2 p3 p4 g3'
                go_loopw [4] (fun i wr => ∃ j : Nat, j ≤ u.length ∧ i = .int .i64 j ∧ Hid (Below W.heap.size W wr) ∧ Hid (dst ss.length (u.take j) (u.drop j) = dst ss.length [] u)) (fun i _ => u.length - (intOf i).toNat)
                case atStart => exact ⟨0, Nat.zero_le _, rfl, hid (Below.refl _ _), hid rfl⟩
                case round =>
                  obtain ⟨j, hj, rfl, BL, HD⟩ := hrel
                  obtain ⟨wi, rfl⟩ : ∃ wi : World, wi = wr := ⟨_, rfl⟩
                  obtain ⟨p0, p1, p2, p3, p4⟩ := boxp_next BL.out PB3.out
                  have g3 : wi.cell? ⟨b2, o2 + k, none⟩ = some (.slice a3 u.length c3) := by rw [BL.out.cell (p := ⟨b2, o2 + k, none⟩) hb2']; exact HG3.out
                  have hb2 : b2 < wi.heap.size := Nat.lt_of_lt_of_le hb2' BL.out.size
                  by_cases hjl : j < u.length
                  · have hjl2 : (j : Int) < (u.length : Int) := by omega
                    obtain ⟨b4, o4, rfl, hb4, _, g4, _⟩ := ints_at RW.out BL.out hjl
                    have HD2 := HD.out
                    rw [List.drop_eq_getElem_cons hjl] at HD2
                    simp only [dst] at HD2
                    have hts : u.take (j + 1) = u.take j ++ [u[j]] := by rw [List.take_add_one, List.getElem?_eq_getElem hjl]; rfl
                    rw [← hts] at HD2
                    have HDD := hid HD2
                    have hlj : (u.take j).length = j := by rw [List.length_take]; omega
                    have HC := hid (fun (V : World) (M : Below wi.heap.size wi V) => show Calls Try.prog 73 #[.slice (some ⟨b4, o4, none⟩) j c3, .int .i64 u[j]] V (Ret (.bool (hasI (u.take j) u[j])) V) from by
                      have h9 := l4In_any (u.take j) u[j] V (some ⟨b4, o4, none⟩) c3 (ints_take' ((RW.out.below BL.out).below M) j) (by rw [hlj]; omega) (by unfold maxLen; omega)
                      rw [hlj] at h9; exact h9)
                    have hjc : j ≤ c3 := by omega
                    clear HD2 HD hts hlj
                    generalize u[j] = x at *
                    generalize hasI (u.take j) x = q at *
                    go_wp2_with fail
                    by_cases hx1 : x < 0
                    · have HF := hid (show r = false by rw [E2.out, ← HGH.out, ← HDD.out]; simp [show ¬ (0 ≤ x) by omega])
                      refine wp_region_over (by kernel_rfl) (by kernel_rfl) ?_; (repeat (go_big_quiet_step ((fail)))); refine wpQuiet_nil ?_; rintro _ ⟨xq, rfl⟩
                      go_wp2_with fail
                      go_ret
                      exact Ret.mk (bool_val HF.out.symm) (below_next B3.out (below_next BL.out (over_below wi xq)))
                    · by_cases hx2 : x ≥ (ss.length : Int)
                      · have HF := hid (show r = false by rw [E2.out, ← HGH.out, ← HDD.out]; simp [show ¬ (x < (ss.length : Int)) by omega])
                        refine wp_region_over (by kernel_rfl) (by kernel_rfl) ?_; (repeat (go_big_quiet_step ((fail)))); refine wpQuiet_nil ?_; rintro _ ⟨xq, rfl⟩
                        go_wp2_with fail
                        go_ret
                        exact Ret.mk (bool_val HF.out.symm) (below_next B3.out (below_next BL.out (over_below wi xq)))
                      · have HDE := hid (show (!q && dst ss.length (u.take (j + 1)) (u.drop (j + 1))) = dst ss.length [] u by rw [← HDD.out]; simp [show 0 ≤ x by omega, show x < (ss.length : Int) by omega])
                        clear HDD
                        refine wp_region_over (by kernel_rfl) (by kernel_rfl) ?_; (repeat (go_big_quiet_step ((go_at_call 73; exact Calls.over (HC.out _ (over_below wi _)))))); refine wpQuiet_nil ?_; rintro _ ⟨xq, rfl⟩
                        have BL2 := hid (below_next BL.out (over_below wi xq))
                        clear p0 p1 p2 p3 p4 g3 g4 hb2 hb4 HC
                        cases q with
                        | true =>
                          have HF := hid (show r = false by rw [E2.out, ← HGH.out, ← HDE.out]; simp)
                          go_wp2_with fail
                          go_ret
                          exact Ret.mk (bool_val HF.out.symm) (below_next B3.out BL2.out)
                        | false =>
                          have HDF := hid (show dst ss.length (u.take (j + 1)) (u.drop (j + 1)) = dst ss.length [] u by rw [← HDE.out]; simp)
                          clear HDE
                          go_wp2_with fail
                          go_roundw
                          case rel => exact ⟨j + 1, by omega, by go_num, BL2, HDF⟩
                          case measure => simp [intOf]; omega
                  · have HF := hid (show gz ss.length (ss.drop (k + 1)) (rs.drop (k + 1)) = gz ss.length ss rs by
                      rw [← HGH.out, ← HD.out, List.drop_of_length_le (show u.length ≤ j by omega)]; rfl)
                    have hjl2 : ¬ ((j : Int) < (u.length : Int)) := by omega
                    have B4 := hid (below_next B3.out BL.out)
                    have PB4 := hid (boxp_next BL.out PB3.out)
                    clear HGH HD
                    go_wp2_with fail
                    go_roundw
                    case rel => exact ⟨k + 1, by omega, by go_num, B4, PB4, HF⟩
                    case measure => simp [intOf]; omega
        · have HF := hid (show r = true by rw [E2.out, ← HG.out, List.drop_of_length_le (by omega)]; rfl)
          have hlt2 : ¬ ((k : Int) < (rs.length : Int)) := by omega
          clear P
          go_wp2_with fail
          go_ret
          exact Ret.mk (bool_val HF.out.symm) B.out
    · have E2 := hid (show r = false by rw [E.out]; simp [h2])
      have hn1 : ¬ ((ss.length : Int) < 1) := by omega
      have hn2 : ¬ ((ss.length : Int) > 60) := by omega
      have hn3 : ((rs.length : Int) != (ss.length : Int)) = true := by rw [bne_iff_ne]; omega
      clear h2 E
      go_enter Try.func39, Try.ntmps39
      go_wp2_with fail
      go_ret
      exact Ret.mk (bool_val E2.out.symm) (by repeat (first | exact Below.refl _ _ | assumption | refine below_a ?_ _ | refine below_o ?_ _ | refine below_d ?_ | refine below_n ?_ _ | refine below_s ?_ (by first | (simp; done) | (simp; omega) | omega) _))
  · have E2 := hid (show r = false by rw [E.out]; simp [h1])
    clear E
    by_cases h3 : ss.length < 1
    · have hn1 : (ss.length : Int) < 1 := by omega
      clear h1
      go_enter Try.func39, Try.ntmps39
      go_wp2_with fail
      go_ret
      exact Ret.mk (bool_val E2.out.symm) (by repeat (first | exact Below.refl _ _ | assumption | refine below_a ?_ _ | refine below_o ?_ _ | refine below_d ?_ | refine below_n ?_ _ | refine below_s ?_ (by first | (simp; done) | (simp; omega) | omega) _))
    · have hn1 : ¬ ((ss.length : Int) < 1) := by omega
      have hn2 : (ss.length : Int) > 60 := by omega
      clear h1
      go_enter Try.func39, Try.ntmps39
      go_wp2_with fail
      go_ret
      exact Ret.mk (bool_val E2.out.symm) (by repeat (first | exact Below.refl _ _ | assumption | refine below_a ?_ _ | refine below_o ?_ _ | refine below_d ?_ | refine below_n ?_ _ | refine below_s ?_ (by first | (simp; done) | (simp; omega) | omega) _))
end Gr
end Go.Proofs.Ytfemikebklmlpaa
namespace Go.Proofs.Ytfemikebklmlpaa
open Go.RowKit
set_option linter.unusedVariables false
set_option linter.unusedSimpArgs false
namespace Bfs
open Gr

/-- a row and whether it holds something -/
def WuV (l : List Nat) (v : Value) (w : World) : Prop := ∃ u, v = .tuple #[u, .bool (!l.isEmpty)] ∧ Arr (ints l) u w
theorem arr_nil (w : World) : Arr (ints []) (.slice (some ⟨w.heap.size, 0, none⟩) 0 0) (w.alloc (.cells #[] 3)) := own_arr (OwnI.made w) (fun n hn => by cases hn)
theorem sea_key {L : List (List Int)} {sn s : Nat} {w w' : World} {e : Ending} (goal : Nat → Bool) (hL : L.length = sn) (hs : s < sn) (hN : sn ≤ 60) (hg : Good L) (h : SeaPost L s w e w') :
    ∃ (q : List Nat) (par : Nat → Int) (ap : Option Addr) (cp : Nat) (aq : Option Addr) (cq : Nat), e = .returned (.tuple #[.slice ap sn cp, .slice aq q.length cq]) ∧ Hid (IntsIn Any w' ap ((List.range sn).map fun m => pv (par m))) ∧ sn ≤ cp ∧ cp ≤ maxLen ∧ Hid (IntsIn Any w' aq (ints q)) ∧ q.length ≤ cq ∧ cq ≤ maxLen ∧ Below w.heap.size w w' ∧
      Hid (∀ (i n : Nat), q[i]? = some n → n < sn ∧ ∃ l, Chain par n l ∧ PathIn sn s par l ∧ ((∀ (k m : Nat), k < i → q[k]? = some m → goal m = false) → goal n = true → wuL (adjOf L) sn s goal = l)) ∧ Hid ((∀ (i m : Nat), q[i]? = some m → goal m = false) → wuL (adjOf L) sn s goal = []) := by
  subst hL
  obtain ⟨k, vp, vq, rfl, hk, ⟨ap, cp, rfl, h1, h2, h3, _⟩, ⟨aq, cq, rfl, k1, k2, k3, _⟩, hb⟩ := h
  have hA := hg.adj
  have hj := Nat.le_of_eq hk.symm
  refine ⟨(bfs (adjOf L) s k).q, (bfs (adjOf L) s k).par, ap, cp, aq, cq, ?_, hid h1, by simpa using h2, h3, hid k1, by rw [ints_len] at k2; exact k2, k3, hb, hid fun i n hn => ?_, hid fun hb => wu_none hs hA hk hb⟩
  · rw [ints_len, List.length_map, List.length_range]
  · obtain ⟨l, c1, c2, _⟩ := wu_path hs hA hN hj hn
    exact ⟨(bfs_inv hs hA k hj).lt n (q_at hn), l, c1, c2, fun hb hgn => wu_at hs hA hj hn hgn hb c1⟩
set_option maxRecDepth 100000 in
set_option maxHeartbeats 4000000 in
theorem specWu_any (g : G2) (thr goal : List Bool) (s : Int) (w : World) (x : Value) (ta tb : Option Addr) (tc td : Nat) (hx : GrIn Any w g x) (ht : BoolsIn Any w ta thr) (htc : thr.length ≤ tc) (htc2 : tc ≤ maxLen) (hg : BoolsIn Any w tb goal) (htd : goal.length ≤ td) (htd2 : td ≤ maxLen) (hs : i64 s) :
    Calls Try.prog 9 #[x, .slice ta thr.length tc, .slice tb goal.length td, .int .i64 s] w (RetP (WuV (wuT g thr goal s)) w) := by
  obtain ⟨a, c, b, d, rfl, hc, hc2, hi, hd, hd2, hp⟩ := hx
  have HGR := hid (show GrIn Any w g (.agg #[.slice a g.states.length c, .slice b g.next.length d]) from ⟨a, c, b, d, rfl, hc, hc2, hi, hd, hd2, hp⟩)
  have HT := hid ht
  have HG := hid hg
  have HE := hid (show ∀ h : okG g = true, _ from fun h => okG_len h)
  have HV := hid (show ∀ W, GrIn Any W g (.agg #[.slice a g.states.length c, .slice b g.next.length d]) → Calls Try.prog 39 #[.agg #[.slice a g.states.length c, .slice b g.next.length d]] W (Ret (.bool (okG g)) W) from fun W h => specValid_any g W _ h)
  have HSUB := hid (show thr.length = g.next.length → g.next.length ≤ 60 → (∀ r, r ∈ g.next → 1 ≤ r.length ∧ r.length ≤ 60) → ∀ W, GrIn Any W g (.agg #[.slice a g.states.length c, .slice b g.next.length d]) → BoolsIn Any W ta thr → Calls Try.prog 41 #[.agg #[.slice a g.states.length c, .slice b g.next.length d], .slice ta thr.length tc] W (RetP (SubV (subL g.next thr)) W) from fun h1 h2 h3 W h4 h5 => sub_any g thr W _ ta tc h4 h5 htc htc2 h1 h2 h3)
  have HW := hid (show wuT g thr goal s = if okG g = true ∧ thr.length = g.states.length ∧ goal.length = g.states.length ∧ 0 ≤ s ∧ s < g.states.length then wuL (adjOf (subL g.next thr)) g.states.length s.toNat (goalOf goal) else [] from rfl)
  generalize wuT g thr goal s = res at *
  have HNO := hid (show ¬(okG g = true ∧ thr.length = g.states.length ∧ goal.length = g.states.length ∧ 0 ≤ s ∧ s < g.states.length) → res = [] from fun h => by rw [HW.out, if_neg h])
  have HYES := hid (show (okG g = true ∧ thr.length = g.states.length ∧ goal.length = g.states.length ∧ 0 ≤ s ∧ s < g.states.length) → res = wuL (adjOf (subL g.next thr)) g.states.length s.toNat (goalOf goal) from fun h => by rw [HW.out, if_pos h])
  obtain ⟨ok, hok⟩ : ∃ ok, ok = okG g := ⟨_, rfl⟩
  rw [← hok] at HV HNO HYES HE
  obtain ⟨sn, hsn⟩ : ∃ sn, sn = g.states.length := ⟨_, rfl⟩
  obtain ⟨nx, hnx⟩ : ∃ nx, nx = g.next := ⟨_, rfl⟩
  rw [← hsn] at HGR HV HSUB HNO HYES HE hc
  rw [← hnx] at HGR HV HSUB HYES HE hd
  rw [← hsn, ← hnx]
  unfold maxLen at hc2 hd2 htc2 htd2
  clear HW hok hsn hnx hi hp ht hg
  go_enter Try.func9, Try.ntmps9
  go_wp2_with fail
  have B0 := hid (below_alloc w (.cells #[.slice a sn c, .slice b nx.length d] 26))
  have P0 := hid (boxp_at (w := w) (a := .slice a sn c) (b := .slice b nx.length d) (t := 26) rfl)
  generalize w.alloc (.cells #[.slice a sn c, .slice b nx.length d] 26) = wA at *
  obtain ⟨p0, p1, p2, p3, p4⟩ := P0.out
  go_wp2_with fail
  refine (HV.out wA (HGR.out.below B0.out)).mono ?_
  rintro e w1 ⟨rfl, hb⟩
  replace B0 := hid (below_next B0.out hb)
  replace P0 := hid (boxp_next hb P0.out)
  clear p0 p1 p2 p3 p4 hb
  generalize hw1 : w1 = wB at *
  clear hw1 HV
  obtain ⟨p0, p1, p2, p3, p4⟩ := P0.out
  cases ok with
  | false =>
    obtain rfl := HNO.out (by simp)
    clear HNO HYES HSUB HE
    have FIN := hid (arr_nil wB)
    go_wp2_with fail
    go_ret2
    exact RetP.mk ⟨_, rfl, FIN.out⟩ (below_next B0.out (below_alloc _ _))
  | true =>
    obtain ⟨⟨e1, e2⟩, e3, e4, e5⟩ := HE.out rfl
    have HGD := hid e4
    have HLN := hid e5
    have e6 : nx.length ≤ sn := by omega
    have e7 : sn ≤ nx.length := by omega
    have HEQ := hid e3
    clear e3 e4 e5 HE
    by_cases hA : thr.length = sn ∧ goal.length = sn ∧ 0 ≤ s ∧ s < sn
    · have R := hid (HYES.out ⟨rfl, hA⟩)
      obtain ⟨a1, a2, a3, a4⟩ := hA
      have b1 : ((thr.length : Int) != (sn : Int)) = false := by rw [bne_eq_false_iff_eq]; omega
      have b2 : ((goal.length : Int) != (sn : Int)) = false := by rw [bne_eq_false_iff_eq]; omega
      have b3 : ¬ s < 0 := by omega
      have b4 : ¬ s ≥ (sn : Int) := by omega
      obtain ⟨sN, rfl⟩ : ∃ m : Nat, s = m := ⟨s.toNat, by omega⟩
      rw [Int.toNat_natCast] at R
      have hsN : sN < sn := by omega
      obtain ⟨L, hL⟩ : ∃ L, L = subL nx thr := ⟨_, rfl⟩
      rw [← hL] at HSUB R
      have HLL := hid (show L.length = sn by rw [hL, subL_len (by have := HEQ.out; omega)]; exact HEQ.out)
      have HGL := hid (show Good L by rw [hL]; exact subL_good (by have := HEQ.out; omega) HGD.out)
      have HSU := hid (fun W h4 h5 => HSUB.out (by have := HEQ.out; omega) (by have := HEQ.out; omega) HLN.out W h4 h5)
      have HSE := hid (fun (W : World) (a : Option Addr) (h : Gr.RowsIn Any W L a) => search_any L sN W a L.length h (Nat.le_refl _) (by have := HLL.out; unfold maxLen; omega) (by rw [HLL.out]; exact hsN) (by rw [HLL.out]; omega) HGL.out)
      have HKEY := hid (fun (w w' : World) (e : Ending) (h : SeaPost L sN w e w') => sea_key (goalOf goal) HLL.out hsN (by omega) HGL.out h)
      have HGO := hid a2
      clear HYES HNO HSUB HGD HLN HEQ HLL HGL hL a1 a2 a3 a4
      go_wp2_with fail
      refine (HSU.out wB (HGR.out.below B0.out) (HT.out.below B0.out)).mono ?_
      rintro e w1 ⟨v, rfl, ⟨R0, rfl, hrows⟩, hb⟩
      replace B0 := hid (below_next B0.out hb)
      replace P0 := hid (boxp_next hb P0.out)
      clear p0 p1 p2 p3 p4 hb
      generalize hw1 : w1 = wC at *
      clear hw1 HSU
      go_wp2_with fail
      refine (HSE.out wC _ hrows).mono ?_
      intro e w1 h
      obtain ⟨q, par, ap, cp, aq, cq, rfl, HP, hcp, hcp2, HQ, hcq, hcq2, hb, HCH, HNON⟩ := HKEY.out _ _ _ h
      replace B0 := hid (below_next B0.out hb)
      clear hb h hrows
      generalize hw1 : w1 = wD at *
      clear hw1 HSE HKEY
      have HAT := hid (fun (i : Nat) (h : i < q.length) => ints_at HQ.out (Below.refl _ _) (k := i) (by rw [ints_len]; exact h))
      unfold maxLen at hcp2 hcq2
      go_wp2_with fail
      go_loopw [12] (fun i wr => ∃ k : Nat, k ≤ q.length ∧ i = .int .i64 k ∧ wr = wD ∧ Hid (∀ (j m : Nat), j < k → q[j]? = some m → goalOf goal m = false)) (fun i _ => q.length - (intOf i).toNat)
      case atStart => exact ⟨0, Nat.zero_le _, rfl, rfl, hid (fun j m hj => by omega)⟩
      case round =>
        obtain ⟨k, hk, rfl, rfl, HB⟩ := hrel
        by_cases hlt : k < q.length
        · have hlt2 : (k : Int) < (q.length : Int) := by omega
          obtain ⟨x, hx⟩ : ∃ x, q[k]? = some x := ⟨_, List.getElem?_eq_getElem hlt⟩
          obtain ⟨bq, oq, rfl, hbq, _, gq, _⟩ := HAT.out k hlt
          have gq2 : wr.cell? ⟨bq, oq + k, none⟩ = some (.int .i64 (x : Int)) := by
            rw [gq]
            obtain ⟨_, e⟩ := List.getElem?_eq_some_iff.1 hx
            simp [ints, e]
          clear gq
          obtain ⟨hxn, l, c1, c2, c3⟩ := HCH.out k x hx
          have C1 := hid c1
          have C2 := hid c2
          have hxg : x < goal.length := by have := HGO.out; omega
          obtain ⟨bg, og, rfl, hbg, _, gg⟩ := bools_at HG.out B0.out hxg
          have hgo : goal[x] = goalOf goal x := by simp [goalOf, List.getD_eq_getElem?_getD, hxg]
          rw [hgo] at gg
          have hxg2 : (x : Int) < (goal.length : Int) := by omega
          have HX := hid hx
          have C3 := hid c3
          clear hgo hx c1 c2 c3 hxg
          cases hgv : goalOf goal x with
          | false =>
            rw [hgv] at gg
            have HB2 := hid (show ∀ (j m : Nat), j < k + 1 → q[j]? = some m → goalOf goal m = false from fun j m hj hm => by
              by_cases e : j = k
              · subst e
                rw [HX.out] at hm
                obtain rfl := Option.some.inj hm
                exact hgv
              · exact HB.out j m (by omega) hm)
            clear hgv
            go_wp2_with fail
            go_roundw
            case rel => exact ⟨k + 1, by omega, by go_num, by first | rfl | trivial, HB2⟩
            case measure => simp [intOf]; omega
          | true =>
            rw [hgv] at gg
            obtain rfl := R.out.trans (C3.out HB.out hgv)
            clear hgv
            have HPA := hid (path_any sn sN x par res C1.out C2.out e2 wr ap cp HP.out hcp (by unfold maxLen; omega))
            go_wp2_with fail
            refine HPA.out.mono ?_
            rintro e w1 ⟨v, rfl, hv, hb⟩
            replace B0 := hid (below_next B0.out hb)
            have HV := hid hv
            have HPO := C1.out.pos
            clear hv hb HPA
            go_wp2_with fail
            go_ret2
            exact RetP.mk ⟨_, by (rw [show res.isEmpty = false by cases res; simp at HPO; rfl]; rfl), HV.out⟩ B0.out
        · obtain rfl : k = q.length := by omega
          obtain rfl := R.out.trans (HNON.out fun i m hm => HB.out i m (List.getElem?_eq_some_iff.1 hm).1 hm)
          have FIN := hid (arr_nil wr)
          go_wp2_with fail
          go_ret2
          exact RetP.mk ⟨_, rfl, FIN.out⟩ (below_next B0.out (below_alloc _ _))
    · obtain rfl := HNO.out (fun h => hA h.2)
      clear HNO HYES HSUB HGD HLN HEQ
      have FIN := hid (arr_nil wB)
      by_cases a1 : thr.length = sn
      · by_cases a2 : goal.length = sn
        · by_cases a3 : 0 ≤ s
          · have a4 : ¬ s < sn := fun h => hA ⟨a1, a2, a3, h⟩
            have b1 : ((thr.length : Int) != (sn : Int)) = false := by rw [bne_eq_false_iff_eq]; omega
            have b2 : ((goal.length : Int) != (sn : Int)) = false := by rw [bne_eq_false_iff_eq]; omega
            have b3 : ¬ s < 0 := by omega
            have b4 : s ≥ (sn : Int) := by omega
            clear hA a1 a2 a3 a4
            go_wp2_with fail
            go_ret2
            exact RetP.mk ⟨_, rfl, FIN.out⟩ (below_next B0.out (below_alloc _ _))
          · have b1 : ((thr.length : Int) != (sn : Int)) = false := by rw [bne_eq_false_iff_eq]; omega
            have b2 : ((goal.length : Int) != (sn : Int)) = false := by rw [bne_eq_false_iff_eq]; omega
            have b3 : s < 0 := by omega
            clear hA a1 a2 a3
            go_wp2_with fail
            go_ret2
            exact RetP.mk ⟨_, rfl, FIN.out⟩ (below_next B0.out (below_alloc _ _))
        · have b1 : ((thr.length : Int) != (sn : Int)) = false := by rw [bne_eq_false_iff_eq]; omega
          have b2 : ((goal.length : Int) != (sn : Int)) = true := by rw [bne_iff_ne]; omega
          clear hA a1 a2
          go_wp2_with fail
          go_ret2
          exact RetP.mk ⟨_, rfl, FIN.out⟩ (below_next B0.out (below_alloc _ _))
      · have b1 : ((thr.length : Int) != (sn : Int)) = true := by rw [bne_iff_ne]; omega
        clear hA a1
        go_wp2_with fail
        go_ret2
        exact RetP.mk ⟨_, rfl, FIN.out⟩ (below_next B0.out (below_alloc _ _))
end Bfs
end Go.Proofs.Ytfemikebklmlpaa
