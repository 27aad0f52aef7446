/- Joined texts (AlwI3, AlwS, SetDraw, DrawAlw, AlwS2, AlwP): contracts and plain laws. Conditions: those of each theorem. -/
import Derived.Test.YtfemikebklmlpaaJV21
import Derived.Test.YtfemikebklmlpaaJV19
import Derived.Test.YtfemikebklmlpaaJV5
import Derived.Test.YtfemikebklmlpaaJV4
import Derived.Test.YtfemikebklmlpaaJV3
import Derived.Test.YtfemikebklmlpaaJV15
import Derived.Deep.DeepCutAuto
import Derived.Deep.CutBlock
set_option linter.unusedVariables false
set_option linter.unusedSimpArgs false
namespace Go.Proofs.Ytfemikebklmlpaa
open Go.RowKit
set_option linter.unusedVariables false
set_option linter.unusedSimpArgs false
namespace Alw
open Gr Bfs Gfp

/-- truths read off a row -/
def rdF (w : World) (R : Nat) (j : Nat) : Bool := match w.cell? ⟨R, j, none⟩ with
  | some (.bool b) => b
  | _ => true
theorem cnt_congr {f g : Nat → Bool} : ∀ {n}, (∀ j, j < n → f j = g j) → Gfp.cnt f n = Gfp.cnt g n
  | 0, _ => rfl
  | n + 1, h => by simp only [Gfp.cnt]; rw [cnt_congr (n := n) fun j hj => h j (by omega), h n (by omega)]
theorem rd_cnt {w : World} {R N : Nat} {f : Nat → Bool} (h : Row w R N (fun j => .bool (f j))) : Gfp.cnt (rdF w R) N = Gfp.cnt f N := cnt_congr fun j hj => by unfold rdF; rw [h.2.1 j hj]
def isT (v : Value) : Bool := match v with | .bool b => b | _ => false
def msF (v : Value) (w : World) (R N : Nat) : Nat := if isT v = true then Gfp.cnt (rdF w R) N + 1 else 0
/-- a new row of truths -/
def FixV (N : Nat) (f : Nat → Bool) (B : Nat) (v : Value) (w : World) : Prop := ∃ R, v = .slice (some ⟨R, 0, none⟩) N N ∧ B ≤ R ∧ Row w R N (fun j => .bool (f j))
set_option maxRecDepth 100000 in
set_option maxHeartbeats 4000000 in
theorem fix_any (g : G2) (thr : List Bool) (N : Nat) (hTN : thr.length = N) (hSt : g.states.length = N) (hN : g.next.length = N) (hN60 : N ≤ 60) (hgood : Bfs.Good g.next) (w : World) (tt : Option Addr) (tc OT OG : Nat) (hT : w.cell? ⟨OT, 0, none⟩ = some (.slice tt N tc)) (htc : N ≤ tc) (htc2 : tc ≤ maxLen) (htt : BoolsIn Any w tt thr)
    (a b : Option Addr) (c d : Nat) (hG : BoxP w OG (.slice a N c) (.slice b N d)) (hx : GrIn Any w g (.agg #[.slice a N c, .slice b N d])) :
    Calls Try.prog 54 #[.agg #[.slice a N c, .slice b N d], .bool true, .func (.func 55) #[] #[.pointer (some ⟨OT, 0, none⟩), .pointer (some ⟨OG, 0, none⟩)]] w (RetP (FixV N (gfp (adjOf g.next) (goalOf thr)) w.heap.size) w) := by
  have HAD := hid (show ∀ u, u < N → ∀ n, n ∈ adjOf g.next u → n < N from fun u hu n hn => by have := hgood.adj u (by omega) n hn; omega)
  have HC := hid (fun (W : World) (M : Below w.heap.size w W) (S : List Bool) (hSN : S.length = N) (j R : Nat) (hj : j < N) (hS : BoolsIn Any W (some ⟨R, 0, none⟩) S) =>
    alw1_any g thr S N j hTN hSN hN hj hgood W (some ⟨R, 0, none⟩) tt N tc OT OG (by rw [M.cell (p := ⟨OT, 0, none⟩) (blt hT)]; exact hT) htc htc2 (htt.below M) a b N N c d (boxp_next M hG) (hx.below M) hS (Nat.le_refl _) (by unfold maxLen; omega))
  have hmk := make_bools N (by omega)
  have hc : N ≤ c := by
    obtain ⟨a', c', b', d', e, h1, h2, _⟩ := hx
    simp at e; omega
  have hc2 : c ≤ 9223372036854775807 := by
    obtain ⟨a', c', b', d', e, h1, h2, _⟩ := hx
    simp at e
    unfold maxLen at h2; omega
  generalize adjOf g.next = adj at *
  generalize goalOf thr = th at *
  clear hgood hT htt hG hx hTN hSt hN htc2
  go_enter Try.func54, Try.ntmps54
  go_wp2_with fail
  have D0 := hid (below_next (below_alloc w (.cells #[.slice a N c, .slice b N d] 26)) (below_alloc _ (.cells (zerosB N) 4)))
  have R0 := hid (show Row ((w.alloc (.cells #[.slice a N c, .slice b N d] 26)).alloc (.cells (zerosB N) 4)) (w.heap.size + 1) N (fun i => .bool (decide (i < 0))) from by
    have h := row_new (w := w.alloc (.cells #[.slice a N c, .slice b N d] 26)) (cs := zerosB N) (n := N) (by rw [zerosB, size_madeCells]) 4
    rw [World.size_alloc] at h
    exact h.congr fun i hi => by simp [zerosB, madeCells, hi, Nat.mod_one, Array.getD])
  go_loopw [8, 18] (fun _ i wr => ∃ k : Nat, k ≤ N ∧ i = .int .i64 k ∧ Hid (Row wr (w.heap.size + 1) N (fun i => .bool (decide (i < k)))) ∧ Hid (Below w.heap.size w wr)) (fun _ i _ => N - (intOf i).toNat)
  case atStart => exact ⟨0, Nat.zero_le _, rfl, R0, D0⟩
  case round =>
    obtain ⟨k, hk, rfl, HR, HB⟩ := hrel
    obtain ⟨wo, rfl⟩ : ∃ wo : World, wo = wr := ⟨_, rfl⟩
    clear R0 D0
    by_cases hlt : k < N
    · have hlt2 : (k : Int) < (N : Int) := by omega
      have r1 := HR.out.2.1 k hlt
      have r2 := HR.out.2.2 k
      have r3 := HR.out.1
      have HR2 := hid ((HR.out.set hlt (.bool true)).congr (g := fun i => .bool (decide (i < k + 1))) fun i hi => by
        by_cases e : i = k
        · rw [if_pos e]; simp [e]
        · rw [if_neg e]
          congr 1
          by_cases e2 : i < k
          · simp [e2]; omega
          · simp [e2]; omega)
      have HB2 := hid (HB.out.setCell (p := ⟨w.heap.size + 1, k, none⟩) (by simp) (.bool true))
      go_wp2_with fail
      go_roundw
      case rel => exact ⟨k + 1, by omega, by go_num, HR2, HB2⟩
      case measure => simp [intOf]; omega
    · obtain rfl : k = N := by omega
      have HR1 := hid (show Row wo (w.heap.size + 1) k (fun i => .bool ((fun _ => true) i)) from HR.out.congr fun i hi => by simp [hi])
      have HI1 := hid (Gfp.inv0 k adj th (f := fun _ => true) (fun _ _ => rfl) (fun _ _ => rfl))
      clear HR
      go_wp2_with fail
      go_loopw [9] (fun c wr => ∃ (ch : Bool) (f : Nat → Bool), c = .bool ch ∧ Hid (Below w.heap.size w wr) ∧ Hid (Row wr (w.heap.size + 1) k (fun j => .bool (f j))) ∧ Hid (Gfp.Inv k adj th f) ∧ Hid (ch = false → ∀ j, j < k → f j = gfp adj th j)) (fun c wr => msF c wr (w.heap.size + 1) k)
      case atStart => exact ⟨true, _, rfl, HB, HR1, HI1, hid (fun h => by cases h)⟩
      case round =>
        obtain ⟨ch, f0, rfl, HB, HR, HI, HE⟩ := hrel
        obtain ⟨wi, rfl⟩ : ∃ wi : World, wi = wr := ⟨_, rfl⟩
        clear HR1 HI1
        cases ch with
        | false =>
          have HF := hid (show FixV k (gfp adj th) w.heap.size (.slice (some ⟨w.heap.size + 1, 0, none⟩) k k) wi from ⟨_, rfl, by omega, HR.out.congr fun i hi => by rw [HE.out rfl i hi]⟩)
          clear HR HE HI
          go_wp2_with fail
          go_ret
          exact RetP.mk HF.out HB.out
        | true =>
          have HCNT := hid (rd_cnt HR.out)
          have HSW := hid (Sweep.start HI.out)
          clear HI HE
          go_wp2_with fail
          go_loopw [9, 29] (fun c i wr => ∃ (m : Nat) (ch : Bool) (f : Nat → Bool), m ≤ k ∧ c = .bool ch ∧ i = .int .i64 m ∧ Hid (Below w.heap.size w wr) ∧ Hid (Row wr (w.heap.size + 1) k (fun j => .bool (f j))) ∧ Hid (Sweep k adj th f0 f m ch)) (fun _ i _ => k - (intOf i).toNat)
          case atStart => exact ⟨0, false, _, Nat.zero_le _, rfl, rfl, HB, HR, HSW⟩
          case round =>
            obtain ⟨m, ch, f, hm, rfl, rfl, HB, HR, HSW⟩ := hrel
            obtain ⟨wj, rfl⟩ : ∃ wj : World, wj = wr := ⟨_, rfl⟩
            by_cases hmk : m < k
            · have hmk2 : (m : Int) < (k : Int) := by omega
              have HCC := hid (HC.out wj HB.out ((List.range k).map f) (by simp) m (w.heap.size + 1) hmk (row_bools HR.out))
              have HNF := hid (show nowF adj th (goalOf ((List.range k).map f)) m = nowF adj th f m from nowF_congr fun x hx => goal_range (HAD.out m hmk x hx))
              rw [HNF.out] at HCC
              go_wp2_with fail
              refine HCC.out.mono ?_
              rintro e w2 ⟨rfl, hb⟩
              have HB2 := hid (below_next HB.out hb)
              have HR2 := hid (HR.out.below hb)
              clear HB HR hb HCC HNF
              have r1 : w2.cell? ⟨w.heap.size + 1, m, none⟩ = some (.bool (f m)) := HR2.out.2.1 m hmk
              have r2 := HR2.out.2.2 m
              have r3 := HR2.out.1
              by_cases hq : nowF adj th f m = f m
              · have HS2 := hid (HSW.out.same hq)
                rw [hq]
                clear hq HSW
                generalize f m = fm at *
                cases fm
                all_goals
                  go_wp2_with fail
                  go_roundw
                  case rel => exact ⟨m + 1, ch, f, by omega, rfl, by go_num, HB2, HR2, HS2⟩
                  case measure => simp [intOf]; omega
              · obtain ⟨hn, hs2⟩ := HSW.out.turn hmk hq
                have HS2 := hid hs2
                have hfm : f m = true := by
                  cases e : f m with
                  | true => rfl
                  | false => rw [hn, e] at hq; exact absurd rfl hq
                rw [hn]
                rw [hfm] at r1
                have HR3 := hid (show Row (w2.setCell ⟨w.heap.size + 1, m, none⟩ (.bool false)) (w.heap.size + 1) k (fun j => .bool (upd f m false j)) from (HR2.out.set hmk (.bool false)).congr fun i hi => by
                  unfold upd
                  by_cases e : i = m
                  · rw [if_pos e, if_pos e]
                  · rw [if_neg e, if_neg e])
                have HB3 := hid (HB2.out.setCell (p := ⟨w.heap.size + 1, m, none⟩) (by simp) (.bool false))
                clear hq hn hs2 hfm HSW
                go_wp2_with fail
                go_roundw
                case rel => exact ⟨m + 1, true, upd f m false, by omega, rfl, by go_num, HB3, HR3, HS2⟩
                case measure => simp [intOf]; omega
            · obtain rfl : m = k := by omega
              have HM := hid (show msF (.bool ch) wj (w.heap.size + 1) m < Gfp.cnt f0 m + 1 by
                unfold msF
                rw [rd_cnt HR.out]
                cases ch with
                | false => simp [isT]
                | true => have := HSW.out.yes rfl; simp [isT]; omega)
              have HD := hid (show ch = false → ∀ j, j < m → f j = gfp adj th j from fun h => by subst h; exact HSW.out.done HAD.out)
              have HI2 := hid HSW.out.inv
              clear HSW
              go_wp2_with fail
              go_roundw
              case rel => exact ⟨ch, f, rfl, HB, HR, HI2, HD⟩
              case measure =>
                have h1 := HM.out
                have h2 := HCNT.out
                rw [show msF (.bool true) wi (w.heap.size + 1) m = Gfp.cnt (rdF wi (w.heap.size + 1)) m + 1 from rfl, h2]
                exact h1
end Alw
end Go.Proofs.Ytfemikebklmlpaa
namespace Go.Proofs.Ytfemikebklmlpaa
open Go.RowKit
set_option linter.unusedVariables false
set_option linter.unusedSimpArgs false
namespace Alw
open Gr Bfs Gfp Bl

theorem row_oneB (W : World) (b : Bool) : BoolsIn Any (W.alloc (.cells #[.bool b] 4)) (some ⟨W.heap.size, 0, none⟩) [b] := .inr ⟨W.heap.size, 0, rfl, trivial, by simp, fun i v hi => by
  cases i with
  | zero => simp at hi; subst hi; simp
  | succ i => simp at hi⟩
set_option maxRecDepth 100000 in
set_option maxHeartbeats 4000000 in
theorem next_any (g : G2) (S : List Bool) (N : Nat) (hSN : S.length = N) (hN : g.next.length = N) (hN60 : N ≤ 60) (hgood : Bfs.Good g.next) (w : World) (ts : Option Addr) (td : Nat) (a b : Option Addr) (n1 c d : Nat) (hx : GrIn Any w g (.agg #[.slice a n1 c, .slice b N d])) (hg : BoolsIn Any w ts S) (htd : N ≤ td) (htd2 : td ≤ maxLen) :
    Calls Try.prog 80 #[.agg #[.slice a n1 c, .slice b N d], .slice ts N td, .bool false] w (RetP (fun v w' => OwnB w.heap.size v ((List.range N).map (some1 (adjOf g.next) (goalOf S))) w') w) := by
  have HROWS := hid (show ∀ k, k < N → ∃ r : List Int, (∀ x, x ∈ r → 0 ≤ x ∧ x < (N : Int)) ∧ r.length ≤ maxLen ∧ adjOf g.next k = r.map Int.toNat ∧ ∃ b1 o1 a1 c1, b = some ⟨b1, o1, none⟩ ∧ b1 < w.heap.size ∧ w.cell? ⟨b1, o1 + k, none⟩ = some (.slice a1 r.length c1) ∧ r.length ≤ c1 ∧ c1 ≤ maxLen ∧ IntsIn Any w a1 r from fun k hk => by
    obtain ⟨a', c', b', d', e, _, _, _, _, _, hp⟩ := hx
    have e2 : b' = b := by simp at e; exact e.2.1.symm
    subst e2
    have hkn : k < g.next.length := by omega
    obtain ⟨b1, o1, a1, c1, e3, hb1, _, g0, k1, k2, hrow⟩ := rows_at hp hkn
    exact ⟨g.next[k], fun x hx => by have := hgood g.next[k] (List.getElem_mem hkn) x hx; omega, by omega, adj_at hkn, b1, o1, a1, c1, e3, hb1, g0, k1, k2, hrow⟩)
  have hd : N ≤ d ∧ d ≤ 9223372036854775807 := by
    obtain ⟨a', c', b', d', e, _, _, _, h1, h2, _⟩ := hx
    simp at e
    unfold maxLen at h2; omega
  obtain ⟨hd1, hd2⟩ := hd
  have HSAT := hid (show ∀ W, Below w.heap.size w W → ∀ n, n < N → ∃ bg og, ts = some ⟨bg, og, none⟩ ∧ bg < W.heap.size ∧ W.cell? ⟨bg, og + n, none⟩ = some (.bool (goalOf S n)) from fun W M n hn => by
    obtain ⟨bg, og, e, h1, _, h2⟩ := bools_at hg M (show n < S.length by omega)
    exact ⟨bg, og, e, h1, by rw [h2, goal_at]⟩)
  generalize adjOf g.next = adj at *
  generalize goalOf S = F at *
  unfold maxLen at htd2
  clear hgood hx hg hSN hN
  go_enter Try.func80, Try.ntmps80
  go_wp2_with fail
  have hb0 := below_alloc w (.cells #[.slice a n1 c, .slice b N d] 26)
  have P0 := hid (boxp_next (below_alloc _ (.cells #[] 4)) (boxp_at (w := w) (a := .slice a n1 c) (b := .slice b N d) (t := 26) rfl))
  have O0 := hid (show OwnB w.heap.size (.slice (some ⟨w.heap.size + 1, 0, none⟩) 0 0) ((List.range 0).map (some1 adj F)) ((w.alloc (.cells #[.slice a n1 c, .slice b N d] 26)).alloc (.cells #[] 4)) from by
    have h := OwnB.made (w.alloc (.cells #[.slice a n1 c, .slice b N d] 26))
    rw [World.size_alloc] at h
    exact h.mono (by omega))
  have N0 := hid (show ∀ g, (Value.slice (some ⟨w.heap.size + 1, 0, none⟩) 0 0).ownBlock = some g → g ≠ w.heap.size from fun g h => by simp [Value.ownBlock] at h; omega)
  have D0 := hid (below_next hb0 (below_alloc _ (.cells #[] 4)))
  clear hb0
  go_loopw [7, 8] (fun vo i wr => ∃ (k : Nat) (v : Value), v = vo ∧ k ≤ N ∧ i = .int .i64 k ∧ Hid (OwnB w.heap.size v ((List.range k).map (some1 adj F)) wr) ∧ Hid (Below w.heap.size w wr) ∧ Hid (BoxP wr w.heap.size (.slice a n1 c) (.slice b N d)) ∧ Hid (∀ g, v.ownBlock = some g → g ≠ w.heap.size)) (fun _ i _ => N - (intOf i).toNat)
  case atStart => exact ⟨0, _, rfl, Nat.zero_le _, rfl, O0, D0, P0, N0⟩
  case round =>
    obtain ⟨k, vo, rfl, hk, rfl, HO, HB, HP, HN⟩ := hrel
    obtain ⟨wi, rfl⟩ : ∃ wi : World, wi = wr := ⟨_, rfl⟩
    obtain ⟨p0, p1, p2, p3, p4⟩ := HP.out
    clear O0 D0 P0 N0
    by_cases hlt : k < N
    · have hlt2 : (k : Int) < (N : Int) := by omega
      obtain ⟨r, hr, hrl, hadj, b1, o1, a1, c1, rfl, hb1, g0, k1, k2, hrow⟩ := HROWS.out k hlt
      have g0' : wi.cell? ⟨b1, o1 + k, none⟩ = some (.slice a1 r.length c1) := by rw [HB.out.cell (p := ⟨b1, o1 + k, none⟩) hb1]; exact g0
      have hb1' := Nat.lt_of_lt_of_le hb1 HB.out.size
      have HRI := hid (hrow.below HB.out)
      have HRR := hid hr
      have HADJ := hid hadj
      unfold maxLen at k2
      clear hrow hr hadj g0 hb1 hrl
      go_wp2_with fail
      go_loopw [9, 10] (fun vb i wr => ∃ (m : Nat) (q : Bool), m ≤ r.length ∧ vb = .bool q ∧ i = .int .i64 m ∧ wr = wi ∧ Hid (q = ((r.take m).map Int.toNat).any F)) (fun _ i _ => r.length - (intOf i).toNat)
      case atStart => exact ⟨0, false, Nat.zero_le _, rfl, rfl, rfl, hid (by simp)⟩
      case round =>
        obtain ⟨m, q, hm, rfl, rfl, rfl, HQ⟩ := hrel
        by_cases hmr : m < r.length
        · have hmr2 : (m : Int) < (r.length : Int) := by omega
          obtain ⟨b5, o5, rfl, hb5, _, g5, _⟩ := ints_at HRI.out (Below.refl _ _) hmr
          obtain ⟨hx0, hxN⟩ := HRR.out r[m] (List.getElem_mem hmr)
          obtain ⟨n, hn⟩ : ∃ n : Nat, r[m] = (n : Int) := ⟨r[m].toNat, by omega⟩
          have HQ2 := hid (show (q || F n) = ((r.take (m + 1)).map Int.toNat).any F by
            rw [List.take_add_one, List.getElem?_eq_getElem hmr, hn, HQ.out]; simp)
          rw [hn] at g5 hxN
          have hnN : n < N := by omega
          obtain ⟨bg, og, rfl, hbg, gg⟩ := HSAT.out wr HB.out n hnN
          clear hn hx0 HQ
          generalize F n = fn at *
          cases fn with
          | false =>
            rw [Bool.or_false] at HQ2
            go_wp2_with fail
            go_roundw
            case rel => exact ⟨m + 1, q, by omega, rfl, by go_num, by first | rfl | trivial, HQ2⟩
            case measure => simp [intOf]; omega
          | true =>
            rw [Bool.or_true] at HQ2
            go_wp2_with fail
            go_roundw
            case rel => exact ⟨m + 1, true, by omega, rfl, by go_num, by first | rfl | trivial, HQ2⟩
            case measure => simp [intOf]; omega
        · obtain rfl : m = r.length := by omega
          have HQ2 := hid (show q = some1 adj F k by rw [HQ.out, List.take_of_length_le (Nat.le_refl _), some1, HADJ.out])
          obtain ⟨av, cv, rfl, e1, e2, e3⟩ := HO.out.shape
          have h0 := below_alloc wr (.cells #[.bool q] 4)
          have HI := hid (row_oneB wr q)
          have HO1 := hid (HO.out.next h0)
          have HB1 := hid (below_next HB.out h0)
          have HP1 := hid (boxp_next h0 HP.out)
          have hBs := HB1.out.size
          have hp0 := HP1.out.1
          have hml : ¬ ((r.length : Int) < (r.length : Int)) := by omega
          clear h0 HO HB HP HRI HQ
          go_wp2_with (at_builtin; refine Bl.wp_app_own2 rfl _ _ rfl w.heap.size (.slice av ((List.range k).map (some1 adj F)).length cv) ((List.range k).map (some1 adj F)) [q] (some ⟨wr.heap.size, 0, none⟩) 1 rfl rfl (fun h => by cases h) HO1.out hBs HI.out (by simp; omega) (by simp) ?_; intro v' w' hv hg hor)
          have HV := hid (show OwnB w.heap.size v' ((List.range (k + 1)).map (some1 adj F)) w' by rw [List.range_succ, List.map_append]; rw [HQ2.out] at hv; exact hv)
          have HB2 := hid (Bl.below_own HB1.out HO1.out (Nat.le_refl _) hg)
          have HP2 := hid (boxp_keep hg.size (hg.block _ hp0 (fun e => HN.out _ e.symm rfl)) HP1.out)
          have HN2 := hid (show ∀ g, v'.ownBlock = some g → g ≠ w.heap.size from fun g h => by
            rcases hor with e | e
            · exact HN.out g (by rw [← e]; exact h)
            · rw [e] at h; simp at h; simp at hp0; omega)
          clear hv hg hor HO1 HI
          go_wp2_with fail
          go_roundw
          case rel => exact ⟨k + 1, _, rfl, by omega, by go_num, HV, HB2, HP2, HN2⟩
          case measure => simp [intOf]; omega
    · obtain rfl : k = N := by omega
      go_wp2_with fail
      go_ret
      exact RetP.mk HO.out HB.out
end Alw
end Go.Proofs.Ytfemikebklmlpaa
namespace Go.Proofs.Ytfemikebklmlpaa
open Go.RowKit
set_option linter.unusedVariables false
set_option linter.unusedSimpArgs false
namespace Bl

def SetPost (B n R p : Nat) (w : World) (e : Ending) (w' : World) : Prop := ∃ (v : Value) (l : List Bool) (p' : Nat), e = .returned v ∧ OwnB (w.heap.size + 1) v l w' ∧ l.length ≤ n + 1 ∧ But w R w' ∧ Rd B w' R p' ∧ p' ≤ p + n + 1
set_option maxRecDepth 100000 in
set_option maxHeartbeats 4000000 in
theorem set_any (B n m R p : Nat) (w : World) (a b : Option Addr) (c d : Nat) (hr : Rd B w R p) (hp : p ≤ 900000) (hn : n ≤ 1000) (hc : n ≤ c) (hc2 : c ≤ maxLen) : Calls Try.prog 32 #[.pointer (some ⟨R, 0, none⟩), .agg #[.slice a n c, .slice b m d]] w (SetPost B n R p w) := by
  have hlt := hr.lt
  have HR := hid hr
  unfold maxLen at hc2
  clear hr
  go_enter Try.func32, Try.ntmps32
  go_wp2_with fail
  have hb0 := below_alloc w (.cells #[.slice a n c, .slice b m d] 26)
  have hb1 := below_next hb0 (below_alloc _ (.cells #[] 4))
  have P0 := hid (boxp_next (below_alloc _ (.cells #[] 4)) (boxp_at (w := w) (a := .slice a n c) (b := .slice b m d) (t := 26) rfl))
  have O0 := hid (show OwnB (w.heap.size + 1) (.slice (some ⟨w.heap.size + 1, 0, none⟩) 0 0) [] ((w.alloc (.cells #[.slice a n c, .slice b m d] 26)).alloc (.cells #[] 4)) from by
    have h := OwnB.made (w.alloc (.cells #[.slice a n c, .slice b m d] 26))
    rw [World.size_alloc] at h
    exact h)
  have R0 := hid (HR.out.next hb1)
  have D0 := hid (show But w R _ from But.of hb1)
  clear hb0 hb1
  go_loopw [5, 6] (fun vo i wr => ∃ (k : Nat) (v : Value) (l : List Bool) (q : Nat), v = vo ∧ k ≤ n ∧ i = .int .i64 k ∧ Hid (OwnB (w.heap.size + 1) v l wr) ∧ l.length = k ∧ Hid (But w R wr) ∧ Hid (Rd B wr R q) ∧ q = p + k ∧ Hid (BoxP wr w.heap.size (.slice a n c) (.slice b m d))) (fun _ i _ => n - (intOf i).toNat)
  case atStart => exact ⟨0, _, [], p, rfl, Nat.zero_le _, rfl, O0, rfl, D0, R0, by omega, P0⟩
  case round =>
    obtain ⟨k, vo, l, q, rfl, hk, rfl, HO, hlk, HB, HRD, hq, HP⟩ := hrel
    obtain ⟨wi, rfl⟩ : ∃ wi : World, wi = wr := ⟨_, rfl⟩
    obtain ⟨p0, p1, p2, p3, p4⟩ := HP.out
    have HLK := hid hlk
    have HQ := hid hq
    clear O0 D0 R0 P0 hlk hq
    by_cases hkn : k < n
    · have hkn2 : (k : Int) < (n : Int) := by omega
      go_wp2_with fail
      refine (pick_any B 4 _ R q HRD.out (by have := HQ.out; omega) (by omega) (by omega)).mono ?_
      rintro e w2 ⟨i, rfl, ⟨hi0, _, _⟩, hbt, hrd⟩
      have HB2 := hid (HB.out.trans hbt)
      have HRD2 := hid hrd
      have HP2 := hid (boxp_but hbt (by omega) HP.out)
      have HO2 := hid (HO.out.keep (w' := w2) fun g _ h2 h3 => hbt.block g h3 (by omega))
      have hs2 := HB2.out.size
      have HLK2 := hid HLK.out
      clear hbt hrd HB HRD HP HO p0 p1 p2 p3 p4
      obtain ⟨av, cv, rfl, e1, e2, e3⟩ := HO2.out.shape
      have HRl := HRD2.out.lt
      by_cases hi : i > 0
      · have h0 := below_alloc w2 (.cells #[.bool true] 4)
        have HI := hid (Alw.row_oneB w2 true)
        have HO3 := hid (HO2.out.next h0)
        have HB3 := hid (HB2.out.next h0)
        have HR3 := hid (HRD2.out.next h0)
        have HP3 := hid (boxp_next h0 HP2.out)
        have hs3 : w.heap.size + 1 ≤ (w2.alloc (.cells #[.bool true] 4)).heap.size := by have := HP2.out.1; simp; omega
        have hl1000 : l.length ≤ 1000000 := by have := HLK.out; omega
        clear h0 HO2 HB2 HRD2 HP2 HLK
        go_wp2_with (at_builtin; refine Bl.wp_app_own2 rfl _ _ rfl (w.heap.size + 1) (.slice av l.length cv) l [true] (some ⟨w2.heap.size, 0, none⟩) 1 rfl rfl (fun h => by cases h) HO3.out hs3 HI.out hl1000 (by simp) ?_; intro v' w' hv hg hor)
        have HV := hid hv
        have HB4 := hid (show But w R w' from ⟨hg.os.trans HB3.out.os, hg.tape.trans HB3.out.tape, hg.output.trans HB3.out.output, Nat.le_trans HB3.out.size hg.size, fun x hx hd => by
          rw [hg.block x (Nat.lt_of_lt_of_le hx HB3.out.size) (fun e => by have := (HO3.out.blk x e.symm).1; omega), HB3.out.block x hx hd]⟩)
        have HR4 := hid (HR3.out.grown hg (fun x hx => by have := (HO3.out.blk x hx).1; omega))
        have HP4 := hid (boxp_keep hg.size (hg.block _ HP3.out.1 (fun e => by have := (HO3.out.blk _ e.symm).1; omega)) HP3.out)
        clear hv hg hor HO3 HB3 HR3 HP3 HI hs3
        go_wp2_with fail
        go_roundw
        case rel => exact ⟨k + 1, _, l ++ [true], q + 1, rfl, by omega, by go_num, HV, by rw [List.length_append, HLK2.out]; rfl, HB4, HR4, by have := HQ.out; omega, HP4⟩
        case measure => (simp [intOf]; try omega)
      · obtain rfl : i = 0 := by omega
        clear hi
        have h0 := below_alloc w2 (.cells #[.bool false] 4)
        have HI := hid (Alw.row_oneB w2 false)
        have HO3 := hid (HO2.out.next h0)
        have HB3 := hid (HB2.out.next h0)
        have HR3 := hid (HRD2.out.next h0)
        have HP3 := hid (boxp_next h0 HP2.out)
        have hs3 : w.heap.size + 1 ≤ (w2.alloc (.cells #[.bool false] 4)).heap.size := by have := HP2.out.1; simp; omega
        have hl1000 : l.length ≤ 1000000 := by have := HLK.out; omega
        clear h0 HO2 HB2 HRD2 HP2 HLK
        go_wp2_with (at_builtin; refine Bl.wp_app_own2 rfl _ _ rfl (w.heap.size + 1) (.slice av l.length cv) l [false] (some ⟨w2.heap.size, 0, none⟩) 1 rfl rfl (fun h => by cases h) HO3.out hs3 HI.out hl1000 (by simp) ?_; intro v' w' hv hg hor)
        have HV := hid hv
        have HB4 := hid (show But w R w' from ⟨hg.os.trans HB3.out.os, hg.tape.trans HB3.out.tape, hg.output.trans HB3.out.output, Nat.le_trans HB3.out.size hg.size, fun x hx hd => by
          rw [hg.block x (Nat.lt_of_lt_of_le hx HB3.out.size) (fun e => by have := (HO3.out.blk x e.symm).1; omega), HB3.out.block x hx hd]⟩)
        have HR4 := hid (HR3.out.grown hg (fun x hx => by have := (HO3.out.blk x hx).1; omega))
        have HP4 := hid (boxp_keep hg.size (hg.block _ HP3.out.1 (fun e => by have := (HO3.out.blk _ e.symm).1; omega)) HP3.out)
        clear hv hg hor HO3 HB3 HR3 HP3 HI hs3
        go_wp2_with fail
        go_roundw
        case rel => exact ⟨k + 1, _, l ++ [false], q + 1, rfl, by omega, by go_num, HV, by rw [List.length_append, HLK2.out]; rfl, HB4, HR4, by have := HQ.out; omega, HP4⟩
        case measure => (simp [intOf]; try omega)
    · obtain rfl : k = n := by omega
      have hkk : ¬ ((k : Int) < (k : Int)) := by omega
      go_wp2_with fail
      refine (pick_any B 30 _ R q HRD.out (by have := HQ.out; omega) (by omega) (by omega)).mono ?_
      rintro e w2 ⟨i, rfl, _, hbt, hrd⟩
      have hRw := HRD.out.lt
      have HB2 := hid (HB.out.trans hbt)
      have HRD2 := hid hrd
      have HP2 := hid (boxp_but hbt (by omega) HP.out)
      have HO2 := hid (HO.out.keep (w' := w2) fun g _ h2 h3 => hbt.block g h3 (by omega))
      have hs2 := HB2.out.size
      clear hbt hrd HB HRD HP HO p0 p1 p2 p3 p4
      obtain ⟨av, cv, rfl, e1, e2, e3⟩ := HO2.out.shape
      have HRl := HRD2.out.lt
      have HLK2 := hid HLK.out
      by_cases hi : i = 0
      · subst hi
        have h0 := below_alloc w2 (.cells #[.bool true] 4)
        have HI := hid (Alw.row_oneB w2 true)
        have HO3 := hid (HO2.out.next h0)
        have HB3 := hid (HB2.out.next h0)
        have HR3 := hid (HRD2.out.next h0)
        have HP3 := hid (boxp_next h0 HP2.out)
        have hs3 : w.heap.size + 1 ≤ (w2.alloc (.cells #[.bool true] 4)).heap.size := by have := HP2.out.1; simp; omega
        have hl1000 : l.length ≤ 1000000 := by have := HLK.out; omega
        clear h0 HO2 HB2 HRD2 HP2 HLK
        go_wp2_with (at_builtin; refine Bl.wp_app_own2 rfl _ _ rfl (w.heap.size + 1) (.slice av l.length cv) l [true] (some ⟨w2.heap.size, 0, none⟩) 1 rfl rfl (fun h => by cases h) HO3.out hs3 HI.out hl1000 (by simp) ?_; intro v' w' hv hg hor)
        have HV := hid hv
        have HB4 := hid (show But w R w' from ⟨hg.os.trans HB3.out.os, hg.tape.trans HB3.out.tape, hg.output.trans HB3.out.output, Nat.le_trans HB3.out.size hg.size, fun x hx hd => by
          rw [hg.block x (Nat.lt_of_lt_of_le hx HB3.out.size) (fun e => by have := (HO3.out.blk x e.symm).1; omega), HB3.out.block x hx hd]⟩)
        have HR4 := hid (HR3.out.grown hg (fun x hx => by have := (HO3.out.blk x hx).1; omega))
        have HP4 := hid (boxp_keep hg.size (hg.block _ HP3.out.1 (fun e => by have := (HO3.out.blk _ e.symm).1; omega)) HP3.out)
        clear hv hg hor HO3 HB3 HR3 HP3 HI hs3
        go_wp2_with fail
        go_ret
        exact ⟨_, l ++ [true], q + 1, rfl, HV.out, by rw [List.length_append, HLK2.out]; simp, HB4.out, HR4.out, by have := HQ.out; omega⟩
      · have hi2 : (i == 0) = false := by rw [beq_eq_false_iff_ne]; exact hi
        go_wp2_with fail
        go_ret
        exact ⟨_, l, q + 1, rfl, HO2.out, by rw [HLK2.out]; omega, HB2.out, HRD2.out, by have := HQ.out; omega⟩
end Bl
end Go.Proofs.Ytfemikebklmlpaa
namespace Go.Proofs.Ytfemikebklmlpaa
open Go.RowKit
set_option linter.unusedVariables false
set_option linter.unusedSimpArgs false
namespace Alw
open Gr

theorem below_butA {w w1 W : World} {R : Nat} (hb : Below w.heap.size w w1) (h : But w1 R W) (hR : w.heap.size ≤ R) : Below w.heap.size w W :=
  ⟨h.os.trans hb.os, h.tape.trans hb.tape, h.output.trans hb.output, Nat.le_trans hb.size h.size, fun k hk => (h.block k (Nat.lt_of_lt_of_le hk hb.size) (by omega)).trans (hb.block k hk)⟩
theorem bools_frameA {p q : Nat → Prop} {w w' : World} {a : Option Addr} {l : List Bool} (h : BoolsIn p w a l) (hs : w.heap.size ≤ w'.heap.size) (hp : ∀ b, p b → b < w.heap.size → q b ∧ w'.heap[b]? = w.heap[b]?) : BoolsIn q w' a l := RowIn.frame h hs hp
theorem graph_mutA (w : World) (R B : Nat) (hr : Rd B w R 0) : Calls Try.prog 31 #[.pointer (some ⟨R, 0, none⟩)] w (fun e w' => ∃ v, e = .returned v ∧ But w R w' ∧ ∃ p', Rd B w' R p' ∧ p' ≤ 1100 ∧ (∀ W, Below w'.heap.size w' W → Calls Try.prog 30 #[.pointer (some ⟨R, 0, none⟩), v] W (fun e W' => MutG B R p' W e W'))) := by
  refine (graph_any w R B 0 hr (by omega)).mono ?_
  rintro e w' ⟨vs, vn, g, L, O, p', rfl, hG, h1, h2, h3, hb, hr', hp⟩
  exact ⟨_, rfl, hb, p', hr', by omega, fun W M => mutG_any L O none vs vn g W R B p' (hG.next M) (by omega) h2 h3 (hr'.next M) (by omega)⟩
/-- what DrawWitnessAlways comes to: some graph, a row of truths, a node -/
def AlDrawn (w : World) (e : Ending) (w' : World) : Prop := ∃ (g : G2) (thr : List Bool) (s : Int) (x : Value) (ta : Option Addr) (tc : Nat), e = .returned (.tuple #[x, .slice ta thr.length tc, .int .i64 s]) ∧
  GrIn Any w' g x ∧ BoolsIn Any w' ta thr ∧ thr.length ≤ tc ∧ tc ≤ maxLen ∧ i64 s ∧ g.states.length ≤ 1048576 ∧ Below w.heap.size w w'

set_option maxRecDepth 100000 in
set_option maxHeartbeats 8000000 in
theorem drawAl_any (w : World) (a : Option Addr) (len cap : Nat) (hb : ByteArg w a len cap) : Calls Try.prog 28 #[.slice a len cap] w (AlDrawn w) := by
  go_enter Try.func28, Try.ntmps28
  go_upto_region 1 with fail
  refine wp_gen (fun W => Below w.heap.size w W ∧ BoxP W w.heap.size (.slice none 0 0) (.slice none 0 0)) ⟨below_alloc _ _, boxp_at rfl⟩ ?_
  rintro W0 ⟨h1, h2⟩
  have HB0 := hid h1
  have HZ0 := hid h2
  have hba := hid (hb.next h1)
  clear h1 h2 hb
  go_wp2_with fail
  refine (open_any W0 a len cap hba.out).mono ?_
  rintro e w1 ⟨_, rfl, ⟨R, B, rfl, hR, hr⟩, hb⟩
  have HB1 := hid (below_next HB0.out hb)
  have HZ1 := hid (boxp_next hb HZ0.out)
  have HR1 := hid hr
  have hRw : w.heap.size < R := by have := HZ0.out.1; omega
  have hRs := hr.lt
  clear HB0 HZ0 hba hb hr
  go_wp2_with fail
  refine (graph_mutA w1 R B HR1.out).mono ?_
  rintro e w2 ⟨v, rfl, hb, p', hr2, hp', hM⟩
  have HB2 := hid hb
  have HM := hid (hM w2 (Below.refl _ _))
  have HZ2 := hid (boxp_but hb (by omega) HZ1.out)
  have hsz2 := hb.size
  clear hb hr2 hM HR1
  go_wp2_with fail
  refine HM.out.mono ?_
  rintro e w3 ⟨v3, g, p3, rfl, hG, hn, hb, hr3, hp3⟩
  obtain ⟨av, cv, bv, dv, rfl, q1, q2, q3, q4, q5, q6⟩ := id hG
  have HB3 := hid (HB2.out.trans hb)
  have HZ3 := hid (boxp_but hb (by omega) HZ2.out)
  have hsz3 := hb.size
  have HG3 := hid hG
  have HR3 := hid hr3
  unfold maxLen at q2
  clear HB2 HZ2 HZ1 hb hG hr3 q3 q4 q5 q6 HM
  have h0 := below_alloc w3 (.cells #[.slice av g.states.length cv, .slice bv g.next.length dv] 26)
  have HB4 := hid (HB3.out.next h0)
  have HZ4 := hid (boxp_next h0 HZ3.out)
  have HG4 := hid (HG3.out.below h0)
  have HR4 := hid (HR3.out.next h0)
  have X4 := hid (boxp_at (w := w3) (B := w3.heap.size) (a := .slice av g.states.length cv) (b := .slice bv g.next.length dv) (t := 26) rfl)
  go_upto_region 3 with fail
  obtain ⟨O6, hO6⟩ : ∃ O, O = w3.heap.size := ⟨_, rfl⟩
  rw [← hO6] at X4 ⊢
  have hO6R : R < O6 := by omega
  have hO6z : w.heap.size < O6 := by omega
  have hO62 : w2.heap.size ≤ O6 := by omega
  refine wp_gen (fun W => But w1 R W ∧ BoxP W w.heap.size (.slice none 0 0) (.slice none 0 0) ∧ GrIn (fun b => w2.heap.size ≤ b) W g (.agg #[.slice av g.states.length cv, .slice bv g.next.length dv]) ∧ Rd B W R p3 ∧ BoxP W O6 (.slice av g.states.length cv) (.slice bv g.next.length dv)) ⟨HB4.out, HZ4.out, HG4.out, HR4.out, X4.out⟩ ?_
  clear h0 HB3 HZ3 HG3 HR3 HB4 HZ4 HG4 HR4 X4 hO6
  rintro w4 ⟨k1, k2, k3, k4, k5⟩
  have HB4 := hid k1
  have HZ4 := hid k2
  have HG4 := hid k3
  have HR4 := hid k4
  have X4 := hid k5
  clear k1 k2 k3 k4 k5
  obtain ⟨x0, x1, x2, x3, x4⟩ := X4.out
  have hw42 : w2.heap.size ≤ w4.heap.size := by omega
  have FIN := hid (fun (W : World) (M : But w4 R W) (thr : List Bool) (ta : Option Addr) (tc : Nat) (s : Int) (hT : BoolsIn (fun b => w2.heap.size ≤ b) W ta thr) (t1 : thr.length ≤ tc) (t2 : tc ≤ maxLen) (hs : i64 s) => show BoxP W w.heap.size (.slice none 0 0) (.slice none 0 0) ∧ AlDrawn w (.returned (.tuple #[.agg #[.slice av g.states.length cv, .slice bv g.next.length dv], .slice ta thr.length tc, .int .i64 s])) ((W.setCell ⟨w.heap.size, 0, none⟩ (.slice av g.states.length cv)).setCell ⟨w.heap.size, 1, none⟩ (.slice bv g.next.length dv)) from by
    have hst : ∀ u1 u2 b, b ≠ w.heap.size → ((W.setCell ⟨w.heap.size, 0, none⟩ u1).setCell ⟨w.heap.size, 1, none⟩ u2).heap[b]? = W.heap[b]? := fun u1 u2 b hb => (Below.heap_setCell _ _ _ _ hb).trans (Below.heap_setCell _ _ _ _ hb)
    exact ⟨boxp_but M (by omega) HZ4.out, g, thr, s, _, ta, tc, rfl, HG4.out.frame (by simpa using M.size) (fun b hb1 hl => ⟨trivial, (hst _ _ b (by omega)).trans (M.block b hl (by omega))⟩), bools_frameA hT (by simp) (fun b hb1 hl => ⟨trivial, hst _ _ b (by omega)⟩), t1, t2, hs, by omega, below_set2 (below_butA HB1.out (HB4.out.trans M) (by omega)) (Nat.le_refl _) _ _⟩)
  have hzO : w.heap.size ≠ O6 := by omega
  have hRO : R ≠ O6 := by omega
  have Rdd := hid (HR4.out.next (below_d (Below.refl w4.heap.size w4)))
  have K := hid ((KeepP.refl [O6] w4).drew)
  go_wp2_with fail
  refine wp_region_ord (C := fun wZ => ∃ xZ, wZ = World.overP _ ([O6]) xZ) [0,1,2,4] (.two 3 5 (.one 5 (.one 6 (.one 7 (.one 8 (.fre 9 .done))))) (.one 3 (.one 6 (.one 7 (.one 8 (.fre 9 .done)))))) [9] (by kernel_rfl) (by kernel_rfl) (fun d _ _ _ _ h => by cases d <;> exact h) (KeepP.refl _ _).drew.ex ?_; simp only [pick, List.getElem?_cons_succ, List.getElem?_cons_zero]; (repeat (go_big_quiet_step (fail))); refine wpQuiet_nil ?_; simp only [ordW, pick, List.getElem?_cons_succ, List.getElem?_cons_zero]
  have hd := hid (below_d (Below.refl w4.heap.size w4))
  obtain ⟨v0, hv0⟩ : ∃ v, v = w4.drew := ⟨_, rfl⟩
  rw [← hv0] at Rdd K hd ⊢
  have hv04 := hd.out.size
  clear hv0
  refine ⟨?_, ?_⟩
  · go_wp2_with fail
    refine (Bl.set_any B g.states.length g.next.length R p3 v0 av bv cv dv Rdd.out (by omega) hn q1 (by unfold maxLen; omega)).mono ?_
    rintro e w5 ⟨vt, thr, p5, rfl, hot, hlt, hb, hr5, hp5⟩
    obtain ⟨ta, tc, hvt, t1, t2, t3⟩ := hot.shape
    subst hvt
    have K5 := hid (K.out.trans (KeepP.but hb (by simp; exact hRO)))
    have HT5 := hid (show BoolsIn (fun b => w2.heap.size ≤ b) w5 ta thr from by
      rcases hot.boolsIn with h | ⟨b, o, h1, _, h2, h3⟩
      · exact .inl h
      · refine .inr ⟨b, o, h1, ?_, h2, h3⟩
        rcases hot.row with ⟨_, h⟩ | ⟨g', c', h, hB, _⟩
        · simp at h; rw [h.1] at h1; cases h1
        · simp at h; rw [h.1] at h1; simp at h1
          omega)
    have hbM : But w4 R w5 := (But.of hd.out).trans hb
    go_wp2_with fail
    refine ⟨K5.out.ex, ?_⟩
    have h0 := below_alloc w5 (.cells (([0, 0, 1, 2, -1, 60] : List Int).map (Value.int .i64)).toArray 3)
    have K6 := hid (K5.out.trans (KeepP.below h0))
    go_wp2_with fail
    refine ⟨K6.out.ex, ?_⟩
    go_wp2_with fail
    refine (num_at [0, 0, 1, 2, -1, 60] (-1) 60 (by simp) (by decide) (by decide) B w5 3 w5.heap.size R p5 rfl hr5 (by omega)).mono ?_
    rintro e w8 ⟨s, rfl, ⟨hs1, hs2⟩, hb8, R8⟩
    have hsi : i64 s := by unfold i64; omega
    have hb58 : But w5 R w8 := (But.of h0).trans hb8
    have K8 := hid (K6.out.trans (KeepP.but hb8 (by simp; exact hRO)))
    have F8 := hid (FIN.out w8 (hbM.trans hb58) thr ta tc s (bools_frameA HT5.out hb58.size fun b hb1 hl => ⟨hb1, hb58.block b hl (by omega)⟩) t1 t2 hsi)
    obtain ⟨z0, z1, z2, z3, z4⟩ := F8.out.1
    have ZY := hid (boxp_set1 (boxp_set0 F8.out.1 (.slice av g.states.length cv)) (.slice bv g.next.length dv))
    have K9 := hid ((K8.out.set (a := ⟨w.heap.size, 0, none⟩) (by simp; exact hzO) (.slice av g.states.length cv)).set (a := ⟨w.heap.size, 1, none⟩) (by simp; exact hzO) (.slice bv g.next.length dv))
    have FF := hid F8.out.2
    clear hb hb8 hb58 hbM h0 hot HT5 R8 F8 FIN K K5 K6 Rdd HG4 HR4 X4 HB4 HB1 HZ4 x0 x1 x2 x3 x4
    go_wp2_with fail
    refine ⟨K8.out.ex, ?_⟩
    go_wp2_with fail
    refine ⟨K9.out.ex, ?_⟩
    go_wp2_with fail
    refine ⟨K9.out.ex, ?_⟩
    go_wp2_with fail
    obtain ⟨y0, y1, y2, _⟩ := ZY.out
    refine bodyPost_ret (v := .tuple #[.agg #[.slice av g.states.length cv, .slice bv g.next.length dv], .slice ta thr.length tc, .int .i64 s]) (by simp [results, Try.results28, go_sem, y1, y2]) rfl ?_
    exact FF.out
  · have h0 := below_alloc v0 (.cells (([0, 0, 1, 2, -1, 60] : List Int).map (Value.int .i64)).toArray 3)
    have K5 := hid (K.out.trans (KeepP.below h0))
    have R5 := hid (Rdd.out.next h0)
    have hd5 := below_next hd.out h0
    have hs5 := h0.size
    go_wp2_with fail
    refine ⟨K5.out.ex, ?_⟩
    go_wp2_with fail
    refine (Bl.set_any B g.states.length g.next.length R p3 (v0.alloc (.cells (([0, 0, 1, 2, -1, 60] : List Int).map (Value.int .i64)).toArray 3)) av bv cv dv R5.out (by omega) hn q1 (by unfold maxLen; omega)).mono ?_
    rintro e w5 ⟨vt, thr, p5, rfl, hot, hlt, hb, hr5, hp5⟩
    obtain ⟨ta, tc, hvt, t1, t2, t3⟩ := hot.shape
    subst hvt
    have K6 := hid (K5.out.trans (KeepP.but hb (by simp; exact hRO)))
    have HT5 := hid (show BoolsIn (fun b => w2.heap.size ≤ b) w5 ta thr from by
      rcases hot.boolsIn with h | ⟨b, o, h1, _, h2, h3⟩
      · exact .inl h
      · refine .inr ⟨b, o, h1, ?_, h2, h3⟩
        rcases hot.row with ⟨_, h⟩ | ⟨g', c', h, hB, _⟩
        · simp at h; rw [h.1] at h1; cases h1
        · simp at h; rw [h.1] at h1; simp at h1
          omega)
    have hbM : But w4 R w5 := (But.of hd5).trans hb
    have hRv : R < v0.heap.size := by omega
    have NL := hid (num_later [0, 0, 1, 2, -1, 60] (-1) 60 (by simp) (by decide) (by decide) B v0 w5 3 R p5 hb hr5 (by omega) hRv)
    go_wp2_with fail
    refine ⟨K6.out.ex, ?_⟩
    go_wp2_with fail
    refine NL.out.mono ?_
    rintro e w8 ⟨s, rfl, ⟨hs1, hs2⟩, hb8, R8⟩
    have hsi : i64 s := by unfold i64; omega
    have K8 := hid (K6.out.trans (KeepP.but hb8 (by simp; exact hRO)))
    have F8 := hid (FIN.out w8 (hbM.trans hb8) thr ta tc s (bools_frameA HT5.out hb8.size fun b hb1 hl => ⟨hb1, hb8.block b hl (by omega)⟩) t1 t2 hsi)
    obtain ⟨z0, z1, z2, z3, z4⟩ := F8.out.1
    have ZY := hid (boxp_set1 (boxp_set0 F8.out.1 (.slice av g.states.length cv)) (.slice bv g.next.length dv))
    have K9 := hid ((K8.out.set (a := ⟨w.heap.size, 0, none⟩) (by simp; exact hzO) (.slice av g.states.length cv)).set (a := ⟨w.heap.size, 1, none⟩) (by simp; exact hzO) (.slice bv g.next.length dv))
    have FF := hid F8.out.2
    clear hb hb8 hbM h0 hot HT5 R8 F8 FIN K K5 K6 Rdd HG4 HR4 X4 HB4 HB1 HZ4 x0 x1 x2 x3 x4 NL
    go_wp2_with fail
    refine ⟨K8.out.ex, ?_⟩
    go_wp2_with fail
    refine ⟨K9.out.ex, ?_⟩
    go_wp2_with fail
    refine ⟨K9.out.ex, ?_⟩
    go_wp2_with fail
    obtain ⟨y0, y1, y2, _⟩ := ZY.out
    refine bodyPost_ret (v := .tuple #[.agg #[.slice av g.states.length cv, .slice bv g.next.length dv], .slice ta thr.length tc, .int .i64 s]) (by simp [results, Try.results28, go_sem, y1, y2]) rfl ?_
    exact FF.out
end Alw
end Go.Proofs.Ytfemikebklmlpaa
namespace Go.Proofs.Ytfemikebklmlpaa
open Go.RowKit
set_option linter.unusedVariables false
set_option linter.unusedSimpArgs false
namespace Alw
open Gr Bfs Gfp Bl

/-- a new row of truths, maybe wider than long -/
def AlwV (N : Nat) (f : Nat → Bool) (B : Nat) (v : Value) (w : World) : Prop := ∃ R c, v = .slice (some ⟨R, 0, none⟩) N c ∧ N ≤ c ∧ c ≤ maxLen ∧ B ≤ R ∧ Row w R N (fun j => .bool (f j))
theorem OwnB.rowF {B g n c : Nat} {l : List Bool} {w : World} (h : OwnB B (.slice (some ⟨g, 0, none⟩) n c) l w) : n = l.length ∧ B ≤ g ∧ n ≤ c ∧ c ≤ maxLen ∧ Row w g l.length (fun j => .bool (goalOf l j)) := by
  rcases h.row with ⟨_, e⟩ | ⟨g', c', e, h1, h2, h3, h4⟩
  · cases e
  · simp at e
    obtain ⟨rfl, rfl, rfl⟩ := e
    exact ⟨rfl, h1, h2, h3, h4.congr fun i hi => by simp [goalOf, List.getD_eq_getElem?_getD, hi]⟩
set_option maxRecDepth 100000 in
set_option maxHeartbeats 4000000 in
theorem always_any (g : G2) (thr : List Bool) (N : Nat) (hTN : thr.length = N) (hN : g.next.length = N) (hN60 : N ≤ 60) (hN1 : 1 ≤ N) (hgood : Bfs.Good g.next) (w : World) (ts : Option Addr) (td : Nat) (a b : Option Addr) (n1 c d : Nat) (hx : GrIn Any w g (.agg #[.slice a n1 c, .slice b N d])) (hg : BoolsIn Any w ts thr) (htd : N ≤ td) (htd2 : td ≤ maxLen) :
    Calls Try.prog 53 #[.agg #[.slice a n1 c, .slice b N d], .slice ts N td, .bool false] w (RetP (AlwV N (gfp (adjOf g.next) (goalOf thr)) w.heap.size) w) := by
  have HAD := hid (show ∀ u, u < N → ∀ n, n ∈ adjOf g.next u → n < N from fun u hu n hn => by have := hgood.adj u (by omega) n hn; omega)
  have HNX := hid (fun (W : World) (M : Below w.heap.size w W) (S : List Bool) (hSN : S.length = N) (R c' : Nat) (hc1 : N ≤ c') (hc2 : c' ≤ maxLen) (hS : BoolsIn Any W (some ⟨R, 0, none⟩) S) => next_any g S N hSN hN hN60 hgood W (some ⟨R, 0, none⟩) c' a b n1 c d (hx.below M) hS hc1 hc2)
  obtain ⟨bt, ot, rfl⟩ : ∃ bt ot, ts = some ⟨bt, ot, none⟩ := by
    obtain ⟨bt, ot, e, _⟩ := bools_at hg (Below.refl _ _) (k := 0) (by omega)
    exact ⟨bt, ot, e⟩
  have HT := hid hg
  have HTN := hid hTN
  generalize adjOf g.next = adj at *
  unfold maxLen at htd2
  clear hgood hx hg hN
  have htl : N = thr.length := hTN.symm
  subst htl
  clear hTN
  go_enter Try.func53, Try.ntmps53
  have hb0 := below_alloc w (.cells #[.slice a n1 c, .slice b thr.length d] 26)
  have hb1 := below_next hb0 (below_alloc _ (.cells #[] 4))
  have P0 := hid (boxp_next (below_alloc _ (.cells #[] 4)) (boxp_at (w := w) (a := .slice a n1 c) (b := .slice b thr.length d) (t := 26) rfl))
  have M1 := hid (show OwnB (w.heap.size + 1) (.slice (some ⟨w.heap.size + 1, 0, none⟩) 0 0) [] ((w.alloc (.cells #[.slice a n1 c, .slice b thr.length d] 26)).alloc (.cells #[] 4)) from by
    have h := OwnB.made (w.alloc (.cells #[.slice a n1 c, .slice b thr.length d] 26))
    rw [World.size_alloc] at h
    exact h)
  have HTb := hid (HT.out.below hb1)
  go_wp2_with (at_builtin; refine Bl.wp_app_clone rfl _ _ rfl (w.heap.size + 1) thr (some ⟨bt, ot, none⟩) td rfl rfl M1.out (by simp) (fun e => by cases e) HTb.out (by omega) ?_; intro R cR w1 hor hown hgr hlt1)
  have HD := hid (below_next (below_next hb0 (below_alloc _ (.cells #[] 4))) (Below.refl _ _))
  have HB := hid (show Below w.heap.size w w1 from Bl.below_own hb1 (M1.out.mono (by omega)) (Nat.le_refl _) (by simpa [Value.ownBlock] using hgr))
  have HP := hid (boxp_keep hgr.size (hgr.block _ P0.out.1 (fun e => by simp at e)) P0.out)
  obtain ⟨_, r1, r2, r3, r4⟩ := OwnB.rowF hown
  have HR := hid r4
  have HI := hid (rin0 (N := thr.length) (adj := adj) (thr := goalOf thr) (f := goalOf thr) fun j hj => rfl)
  unfold maxLen at r3
  generalize goalOf thr = th at *
  generalize thr.length = N at *
  clear hb0 hb1 P0 M1 HTb hor hown hgr hlt1 HD HT HTN r4
  go_loopw [8] (fun vc wr => ∃ (ch : Bool) (f : Nat → Bool), vc = .bool ch ∧ Hid (Below w.heap.size w wr) ∧ Hid (Row wr R N (fun j => .bool (f j))) ∧ Hid (Rin N adj th f) ∧ Hid (ch = false → ∀ j, j < N → f j = gfp adj th j) ∧ Hid (BoxP wr w.heap.size (.slice a n1 c) (.slice b N d))) (fun vc wr => msF vc wr R N)
  case atStart => exact ⟨true, _, rfl, HB, HR, HI, hid (fun h => by cases h), HP⟩
  case round =>
    obtain ⟨ch, f0, rfl, HB, HR, HI, HE, HP⟩ := hrel
    obtain ⟨wi, rfl⟩ : ∃ wi : World, wi = wr := ⟨_, rfl⟩
    cases ch with
    | false =>
      have HF := hid (show AlwV N (gfp adj th) w.heap.size (.slice (some ⟨R, 0, none⟩) N cR) wi from ⟨R, cR, rfl, r2, by unfold maxLen; exact r3, by omega, HR.out.congr fun i hi => by rw [HE.out rfl i hi]⟩)
      clear HR HE HI HP
      go_wp2_with fail
      go_ret
      exact RetP.mk HF.out HB.out
    | true =>
      obtain ⟨p0, p1, p2, p3, p4⟩ := HP.out
      have HCNT := hid (rd_cnt HR.out)
      have HRD := hid (Rnd.start HI.out)
      have HCC := hid (HNX.out wi HB.out ((List.range N).map f0) (by simp) R cR r2 (by unfold maxLen; exact r3) (row_bools HR.out))
      have HLE := hid (show (List.range N).map (some1 adj (goalOf ((List.range N).map f0))) = (List.range N).map (some1 adj f0) from List.map_congr_left fun j hj => some1_congr fun x hx => goal_range (HAD.out j (List.mem_range.1 hj) x hx))
      rw [HLE.out] at HCC
      clear HI HE HLE
      go_wp2_with fail
      refine HCC.out.mono ?_
      rintro e w2 ⟨vN, rfl, hv, hb⟩
      obtain ⟨gN, cN, rfl, hgN, hcN, hcN2, hrN⟩ : ∃ gN cN, vN = .slice (some ⟨gN, 0, none⟩) N cN ∧ wi.heap.size ≤ gN ∧ N ≤ cN ∧ cN ≤ 9223372036854775807 ∧ Row w2 gN N (fun j => .bool (some1 adj f0 j)) := by
        rcases hv.row with ⟨e, _⟩ | ⟨g, c', e, h1, h2, h3, h4⟩
        · have := congrArg List.length e; simp at this; omega
        · simp only [List.length_map, List.length_range] at e h2 h4
          unfold maxLen at h3
          exact ⟨g, c', e, h1, h2, by omega, h4.congr fun i hi => by simp [List.getD_eq_getElem?_getD, hi]⟩
      have HGN := hid hrN
      have hRl : R < wi.heap.size := HR.out.1
      have hne : gN ≠ R := by omega
      replace HB := hid (below_next HB.out hb)
      replace HR := hid (HR.out.below hb)
      replace HP := hid (boxp_next hb HP.out)
      clear hv hrN hb HCC p0 p1 p2 p3 p4
      go_wp2_with fail
      go_loopw [8, 10] (fun vc i wr => ∃ (m : Nat) (ch : Bool) (f : Nat → Bool), m ≤ N ∧ vc = .bool ch ∧ i = .int .i64 m ∧ Hid (Below w.heap.size w wr) ∧ Hid (Row wr R N (fun j => .bool (f j))) ∧ Hid (Rnd N adj th f0 f m ch) ∧ Hid (BoxP wr w.heap.size (.slice a n1 c) (.slice b N d)) ∧ Hid (Row wr gN N (fun j => .bool (some1 adj f0 j)))) (fun _ i _ => N - (intOf i).toNat)
      case atStart => exact ⟨0, false, _, Nat.zero_le _, rfl, rfl, HB, HR, HRD, HP, HGN⟩
      case round =>
        obtain ⟨m, ch, f, hm, rfl, rfl, HB, HR, HRD, HP, HGN⟩ := hrel
        obtain ⟨wj, rfl⟩ : ∃ wj : World, wj = wr := ⟨_, rfl⟩
        by_cases hmk : m < N
        · have hmk2 : (m : Int) < (N : Int) := by omega
          have f1 : wj.cell? ⟨R, m, none⟩ = some (.bool (f m)) := HR.out.2.1 m hmk
          have f2 := HR.out.2.2 m
          have f3 := HR.out.1
          have q1 : wj.cell? ⟨gN, m, none⟩ = some (.bool (some1 adj f0 m)) := HGN.out.2.1 m hmk
          have q3 := HGN.out.1
          by_cases hq : f m = true ∧ some1 adj f0 m = false
          · have HRD2 := hid (HRD.out.turn HAD.out hmk hq.1 hq.2)
            rw [hq.1] at f1
            rw [hq.2] at q1
            have HR3 := hid (show Row (wj.setCell ⟨R, m, none⟩ (.bool false)) R N (fun j => .bool (upd f m false j)) from (HR.out.set hmk (.bool false)).congr fun i hi => by
              unfold upd
              by_cases e : i = m
              · rw [if_pos e, if_pos e]
              · rw [if_neg e, if_neg e])
            have HB3 := hid (HB.out.setCell (p := ⟨R, m, none⟩) (by show w.heap.size ≤ R; omega) (.bool false))
            have HP3 := hid (boxp_set HP.out (p := ⟨R, m, none⟩) (by show w.heap.size ≠ R; omega) (.bool false))
            have HG3 := hid (HGN.out.setOther (a := ⟨R, m, none⟩) (show gN ≠ R from hne) (.bool false))
            clear hq HRD
            go_wp2_with fail
            go_roundw
            case rel => exact ⟨m + 1, true, upd f m false, by omega, rfl, by go_num, HB3, HR3, HRD2, HP3, HG3⟩
            case measure => simp [intOf]; omega
          · have HRD2 := hid (HRD.out.same fun h => by
              cases e : some1 adj f0 m with
              | true => rfl
              | false => exact absurd ⟨h, e⟩ hq)
            generalize f m = fm at *
            generalize some1 adj f0 m = sm at *
            cases fm with
            | false =>
              clear hq
              go_wp2_with fail
              go_roundw
              case rel => exact ⟨m + 1, ch, f, by omega, rfl, by go_num, HB, HR, HRD2, HP, HGN⟩
              case measure => simp [intOf]; omega
            | true =>
              cases sm with
              | false => exact absurd ⟨rfl, rfl⟩ hq
              | true =>
                clear hq
                go_wp2_with fail
                go_roundw
                case rel => exact ⟨m + 1, ch, f, by omega, rfl, by go_num, HB, HR, HRD2, HP, HGN⟩
                case measure => simp [intOf]; omega
        · obtain rfl : m = N := by omega
          have HM := hid (show msF (.bool ch) wj R m < Gfp.cnt f0 m + 1 by
            unfold msF
            rw [rd_cnt HR.out]
            cases ch with
            | false => simp [isT]
            | true => have := HRD.out.yes rfl; simp [isT]; omega)
          have HDN := hid (show ch = false → ∀ j, j < m → f j = gfp adj th j from fun h => by subst h; exact HRD.out.done HAD.out)
          have HI2 := hid HRD.out.inv
          clear HRD HGN
          go_wp2_with fail
          go_roundw
          case rel => exact ⟨ch, f, rfl, HB, HR, HI2, HDN, HP⟩
          case measure =>
            have h1 := HM.out
            have h2 := HCNT.out
            rw [show msF (.bool true) wi R m = Gfp.cnt (rdF wi R) m + 1 from rfl, h2]
            exact h1
end Alw
end Go.Proofs.Ytfemikebklmlpaa
namespace Go.Proofs.Ytfemikebklmlpaa
set_option linter.unusedVariables false
set_option linter.unusedSimpArgs false
namespace Alw
open Gr Bfs Gfp

theorem orb_succ_nodup {adj : Nat → List Nat} {f : Nat → Bool} {s k : Nat} (h : (orbL adj f s k).Nodup) (hn : ∀ i, i < k → orb adj f s i ≠ orb adj f s k) : (orbL adj f s (k + 1)).Nodup := by
  rw [orbL_succ, List.nodup_append]
  refine ⟨h, by simp, fun a ha b hb => ?_⟩
  simp at hb
  subst hb
  obtain ⟨i, hi⟩ := List.mem_iff_getElem?.1 ha
  have hik : i < k := by have := (List.getElem?_eq_some_iff.1 hi).1; rwa [orbL_len] at this
  rw [orbL_at adj f s hik] at hi
  have := Option.some.inj hi
  rw [← this]
  exact hn i hik
def OkA (g : G2) (thr : List Bool) (s : Int) : Prop := okG g = true ∧ thr.length = g.states.length ∧ 0 ≤ s ∧ s < g.states.length ∧ gfp (adjOf g.next) (goalOf thr) s.toNat = true
open Classical in
noncomputable def alwT (g : G2) (thr : List Bool) (s : Int) : List Nat × List Nat :=
  if h : OkA g thr s ∧ ∃ p : Nat × Nat, Trc (adjOf g.next) (gfp (adjOf g.next) (goalOf thr)) s.toNat p.1 p.2 then
    ((orbL (adjOf g.next) (gfp (adjOf g.next) (goalOf thr)) s.toNat (Classical.choose h.2).1).take (Classical.choose h.2).2, (orbL (adjOf g.next) (gfp (adjOf g.next) (goalOf thr)) s.toNat (Classical.choose h.2).1).drop (Classical.choose h.2).2)
  else ([], [])
theorem alwT_yes {g : G2} {thr : List Bool} {s : Int} {k i : Nat} (h : OkA g thr s) (ht : Trc (adjOf g.next) (gfp (adjOf g.next) (goalOf thr)) s.toNat k i) :
    alwT g thr s = ((orbL (adjOf g.next) (gfp (adjOf g.next) (goalOf thr)) s.toNat k).take i, (orbL (adjOf g.next) (gfp (adjOf g.next) (goalOf thr)) s.toNat k).drop i) := by
  have hh : OkA g thr s ∧ ∃ p : Nat × Nat, Trc (adjOf g.next) (gfp (adjOf g.next) (goalOf thr)) s.toNat p.1 p.2 := ⟨h, (k, i), ht⟩
  unfold alwT
  rw [dif_pos hh]
  obtain ⟨e1, e2⟩ := Trc.eq (Classical.choose_spec hh.2) ht
  rw [e1, e2]
theorem alwT_no {g : G2} {thr : List Bool} {s : Int} (h : ¬ OkA g thr s) : alwT g thr s = ([], []) := by
  unfold alwT
  rw [dif_neg fun hh => h hh.1]
/-- the facts of a good argument -/
structure Facts (N s : Nat) (adj : Nat → List Nat) (f : Nat → Bool) : Prop where
  hs : s < N
  hA : ∀ u, u < N → ∀ n, n ∈ adj u → n < N
  orb : ∀ k, Gfp.orb adj f s k < N ∧ f (Gfp.orb adj f s k) = true ∧ (adj (Gfp.orb adj f s k)).find? f = some (Gfp.orb adj f s (k + 1))
theorem Facts.lt {N s : Nat} {adj : Nat → List Nat} {f : Nat → Bool} (h : Facts N s adj f) {k : Nat} (hn : (orbL adj f s k).Nodup) : k ≤ N := by
  have := nodup_le (N := N) hn fun m hm => by
    unfold orbL at hm
    rw [List.mem_map] at hm
    obtain ⟨j, _, rfl⟩ := hm
    exact (h.orb j).1
  rwa [orbL_len] at this
theorem okA_facts {g : G2} {thr : List Bool} {s : Int} (h : OkA g thr s) : Facts g.states.length s.toNat (adjOf g.next) (gfp (adjOf g.next) (goalOf thr)) := by
  obtain ⟨h1, h2, h3, h4, h5⟩ := h
  obtain ⟨k1, k2, k3, k4⟩ := okG_len h1
  have hA : ∀ u, u < g.states.length → ∀ n, n ∈ adjOf g.next u → n < g.states.length := fun u hu n hn => by have := k3.adj u (by omega) n hn; omega
  have hs : s.toNat < g.states.length := by omega
  refine ⟨hs, hA, fun k => ?_⟩
  obtain ⟨a, b, c⟩ := orb_in hs hA h5 (fun j _ hj => (gfp_post _ _ j hj).2) k
  exact ⟨a, b, (c _ rfl).1⟩
theorem alwT_small (g : G2) (thr : List Bool) (s : Int) : ((alwT g thr s).1.length ≤ 60 ∧ ∀ n, n ∈ (alwT g thr s).1 → n < 60) ∧ (alwT g thr s).2.length ≤ 60 ∧ ∀ n, n ∈ (alwT g thr s).2 → n < 60 := by
  by_cases h : OkA g thr s ∧ ∃ p : Nat × Nat, Trc (adjOf g.next) (gfp (adjOf g.next) (goalOf thr)) s.toNat p.1 p.2
  · obtain ⟨h1, ⟨k, i⟩, ht⟩ := h
    rw [alwT_yes h1 ht]
    have hF := okA_facts h1
    have hN := (okG_len h1.1).1.2
    have hk := hF.lt ht.1
    have hm : ∀ n, n ∈ orbL (adjOf g.next) (gfp (adjOf g.next) (goalOf thr)) s.toNat k → n < 60 := fun n hn => by
      unfold orbL at hn
      rw [List.mem_map] at hn
      obtain ⟨j, _, rfl⟩ := hn
      have := (hF.orb j).1; omega
    refine ⟨⟨?_, fun n hn => hm n (List.mem_of_mem_take hn)⟩, ?_, fun n hn => hm n (List.mem_of_mem_drop hn)⟩
    · show (List.take _ _).length ≤ 60
      rw [List.length_take, orbL_len]; omega
    · show (List.drop _ _).length ≤ 60
      rw [List.length_drop, orbL_len]; omega
  · have e : alwT g thr s = ([], []) := by unfold alwT; rw [dif_neg h]
    rw [e]; simp
end Alw
end Go.Proofs.Ytfemikebklmlpaa
