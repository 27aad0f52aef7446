/- The program's Graph.fix, as WitnessAlways calls it. Conditions: those of the contract. -/
import Derived.Test.YtfemikebklmlpaaAlwI2
namespace Go.Proofs.Ytfemikebklmlpaa
open Go.RowKit
set_option linter.unusedVariables false
set_option linter.unusedSimpArgs false
namespace Alw
open Gr Bfs Gfp

/-- truths read off a row -/
def rdF (w : World) (R : Nat) (j : Nat) : Bool := match w.cell? ⟨R, j, none⟩ with
  | some (.bool b) => b
  | _ => true
theorem cnt_congr {f g : Nat → Bool} : ∀ {n}, (∀ j, j < n → f j = g j) → Gfp.cnt f n = Gfp.cnt g n
  | 0, _ => rfl
  | n + 1, h => by simp only [Gfp.cnt]; rw [cnt_congr (n := n) fun j hj => h j (by omega), h n (by omega)]
theorem rd_cnt {w : World} {R N : Nat} {f : Nat → Bool} (h : Row w R N (fun j => .bool (f j))) : Gfp.cnt (rdF w R) N = Gfp.cnt f N := cnt_congr fun j hj => by unfold rdF; rw [h.2.1 j hj]
def isT (v : Value) : Bool := match v with | .bool b => b | _ => false
def msF (v : Value) (w : World) (R N : Nat) : Nat := if isT v = true then Gfp.cnt (rdF w R) N + 1 else 0
/-- a new row of truths -/
def FixV (N : Nat) (f : Nat → Bool) (B : Nat) (v : Value) (w : World) : Prop := ∃ R, v = .slice (some ⟨R, 0, none⟩) N N ∧ B ≤ R ∧ Row w R N (fun j => .bool (f j))
set_option maxRecDepth 100000 in
set_option maxHeartbeats 4000000 in
theorem fix_any (g : G2) (thr : List Bool) (N : Nat) (hTN : thr.length = N) (hSt : g.states.length = N) (hN : g.next.length = N) (hN60 : N ≤ 60) (hgood : Bfs.Good g.next) (w : World) (tt : Option Addr) (tc OT OG : Nat) (hT : w.cell? ⟨OT, 0, none⟩ = some (.slice tt N tc)) (htc : N ≤ tc) (htc2 : tc ≤ maxLen) (htt : BoolsIn Any w tt thr)
    (a b : Option Addr) (c d : Nat) (hG : BoxP w OG (.slice a N c) (.slice b N d)) (hx : GrIn Any w g (.agg #[.slice a N c, .slice b N d])) :
    Calls Try.prog 54 #[.agg #[.slice a N c, .slice b N d], .bool true, .func (.func 55) #[] #[.pointer (some ⟨OT, 0, none⟩), .pointer (some ⟨OG, 0, none⟩)]] w (RetP (FixV N (gfp (adjOf g.next) (goalOf thr)) w.heap.size) w) := by
  have HAD := hid (show ∀ u, u < N → ∀ n, n ∈ adjOf g.next u → n < N from fun u hu n hn => by have := hgood.adj u (by omega) n hn; omega)
  have HC := hid (fun (W : World) (M : Below w.heap.size w W) (S : List Bool) (hSN : S.length = N) (j R : Nat) (hj : j < N) (hS : BoolsIn Any W (some ⟨R, 0, none⟩) S) =>
    alw1_any g thr S N j hTN hSN hN hj hgood W (some ⟨R, 0, none⟩) tt N tc OT OG (by rw [M.cell (p := ⟨OT, 0, none⟩) (blt hT)]; exact hT) htc htc2 (htt.below M) a b N N c d (boxp_next M hG) (hx.below M) hS (Nat.le_refl _) (by unfold maxLen; omega))
  have hmk := make_bools N (by omega)
  have hc : N ≤ c := by
    obtain ⟨a', c', b', d', e, h1, h2, _⟩ := hx
    simp at e; omega
  have hc2 : c ≤ 9223372036854775807 := by
    obtain ⟨a', c', b', d', e, h1, h2, _⟩ := hx
    simp at e
    unfold maxLen at h2; omega
  generalize adjOf g.next = adj at *
  generalize goalOf thr = th at *
  clear hgood hT htt hG hx hTN hSt hN htc2
  go_enter Try.func54, Try.ntmps54
  go_wp2_with fail
  have D0 := hid (below_next (below_alloc w (.cells #[.slice a N c, .slice b N d] 26)) (below_alloc _ (.cells (zerosB N) 4)))
  have R0 := hid (show Row ((w.alloc (.cells #[.slice a N c, .slice b N d] 26)).alloc (.cells (zerosB N) 4)) (w.heap.size + 1) N (fun i => .bool (decide (i < 0))) from by
    have h := row_new (w := w.alloc (.cells #[.slice a N c, .slice b N d] 26)) (cs := zerosB N) (n := N) (by rw [zerosB, size_madeCells]) 4
    rw [World.size_alloc] at h
    exact h.congr fun i hi => by simp [zerosB, madeCells, hi, Nat.mod_one, Array.getD])
  go_loopw [8, 18] (fun _ i wr => ∃ k : Nat, k ≤ N ∧ i = .int .i64 k ∧ Hid (Row wr (w.heap.size + 1) N (fun i => .bool (decide (i < k)))) ∧ Hid (Below w.heap.size w wr)) (fun _ i _ => N - (intOf i).toNat)
  case atStart => exact ⟨0, Nat.zero_le _, rfl, R0, D0⟩
  case round =>
    obtain ⟨k, hk, rfl, HR, HB⟩ := hrel
    obtain ⟨wo, rfl⟩ : ∃ wo : World, wo = wr := ⟨_, rfl⟩
    clear R0 D0
    by_cases hlt : k < N
    · have hlt2 : (k : Int) < (N : Int) := by omega
      have r1 := HR.out.2.1 k hlt
      have r2 := HR.out.2.2 k
      have r3 := HR.out.1
      have HR2 := hid ((HR.out.set hlt (.bool true)).congr (g := fun i => .bool (decide (i < k + 1))) fun i hi => by
        by_cases e : i = k
        · rw [if_pos e]; simp [e]
        · rw [if_neg e]
          congr 1
          by_cases e2 : i < k
          · simp [e2]; omega
          · simp [e2]; omega)
      have HB2 := hid (HB.out.setCell (p := ⟨w.heap.size + 1, k, none⟩) (by simp) (.bool true))
      go_wp2_with fail
      go_roundw
      case rel => exact ⟨k + 1, by omega, by go_num, HR2, HB2⟩
      case measure => simp [intOf]; omega
    · obtain rfl : k = N := by omega
      have HR1 := hid (show Row wo (w.heap.size + 1) k (fun i => .bool ((fun _ => true) i)) from HR.out.congr fun i hi => by simp [hi])
      have HI1 := hid (Gfp.inv0 k adj th (f := fun _ => true) (fun _ _ => rfl) (fun _ _ => rfl))
      clear HR
      go_wp2_with fail
      go_loopw [9] (fun c wr => ∃ (ch : Bool) (f : Nat → Bool), c = .bool ch ∧ Hid (Below w.heap.size w wr) ∧ Hid (Row wr (w.heap.size + 1) k (fun j => .bool (f j))) ∧ Hid (Gfp.Inv k adj th f) ∧ Hid (ch = false → ∀ j, j < k → f j = gfp adj th j)) (fun c wr => msF c wr (w.heap.size + 1) k)
      case atStart => exact ⟨true, _, rfl, HB, HR1, HI1, hid (fun h => by cases h)⟩
      case round =>
        obtain ⟨ch, f0, rfl, HB, HR, HI, HE⟩ := hrel
        obtain ⟨wi, rfl⟩ : ∃ wi : World, wi = wr := ⟨_, rfl⟩
        clear HR1 HI1
        cases ch with
        | false =>
          have HF := hid (show FixV k (gfp adj th) w.heap.size (.slice (some ⟨w.heap.size + 1, 0, none⟩) k k) wi from ⟨_, rfl, by omega, HR.out.congr fun i hi => by rw [HE.out rfl i hi]⟩)
          clear HR HE HI
          go_wp2_with fail
          go_ret
          exact RetP.mk HF.out HB.out
        | true =>
          have HCNT := hid (rd_cnt HR.out)
          have HSW := hid (Sweep.start HI.out)
          clear HI HE
          go_wp2_with fail
          go_loopw [9, 29] (fun c i wr => ∃ (m : Nat) (ch : Bool) (f : Nat → Bool), m ≤ k ∧ c = .bool ch ∧ i = .int .i64 m ∧ Hid (Below w.heap.size w wr) ∧ Hid (Row wr (w.heap.size + 1) k (fun j => .bool (f j))) ∧ Hid (Sweep k adj th f0 f m ch)) (fun _ i _ => k - (intOf i).toNat)
          case atStart => exact ⟨0, false, _, Nat.zero_le _, rfl, rfl, HB, HR, HSW⟩
          case round =>
            obtain ⟨m, ch, f, hm, rfl, rfl, HB, HR, HSW⟩ := hrel
            obtain ⟨wj, rfl⟩ : ∃ wj : World, wj = wr := ⟨_, rfl⟩
            by_cases hmk : m < k
            · have hmk2 : (m : Int) < (k : Int) := by omega
              have HCC := hid (HC.out wj HB.out ((List.range k).map f) (by simp) m (w.heap.size + 1) hmk (row_bools HR.out))
              have HNF := hid (show nowF adj th (goalOf ((List.range k).map f)) m = nowF adj th f m from nowF_congr fun x hx => goal_range (HAD.out m hmk x hx))
              rw [HNF.out] at HCC
              go_wp2_with fail
              refine HCC.out.mono ?_
              rintro e w2 ⟨rfl, hb⟩
              have HB2 := hid (below_next HB.out hb)
              have HR2 := hid (HR.out.below hb)
              clear HB HR hb HCC HNF
              have r1 : w2.cell? ⟨w.heap.size + 1, m, none⟩ = some (.bool (f m)) := HR2.out.2.1 m hmk
              have r2 := HR2.out.2.2 m
              have r3 := HR2.out.1
              by_cases hq : nowF adj th f m = f m
              · have HS2 := hid (HSW.out.same hq)
                rw [hq]
                clear hq HSW
                generalize f m = fm at *
                cases fm
                all_goals
                  go_wp2_with fail
                  go_roundw
                  case rel => exact ⟨m + 1, ch, f, by omega, rfl, by go_num, HB2, HR2, HS2⟩
                  case measure => simp [intOf]; omega
              · obtain ⟨hn, hs2⟩ := HSW.out.turn hmk hq
                have HS2 := hid hs2
                have hfm : f m = true := by
                  cases e : f m with
                  | true => rfl
                  | false => rw [hn, e] at hq; exact absurd rfl hq
                rw [hn]
                rw [hfm] at r1
                have HR3 := hid (show Row (w2.setCell ⟨w.heap.size + 1, m, none⟩ (.bool false)) (w.heap.size + 1) k (fun j => .bool (upd f m false j)) from (HR2.out.set hmk (.bool false)).congr fun i hi => by
                  unfold upd
                  by_cases e : i = m
                  · rw [if_pos e, if_pos e]
                  · rw [if_neg e, if_neg e])
                have HB3 := hid (HB2.out.setCell (p := ⟨w.heap.size + 1, m, none⟩) (by simp) (.bool false))
                clear hq hn hs2 hfm HSW
                go_wp2_with fail
                go_roundw
                case rel => exact ⟨m + 1, true, upd f m false, by omega, rfl, by go_num, HB3, HR3, HS2⟩
                case measure => simp [intOf]; omega
            · obtain rfl : m = k := by omega
              have HM := hid (show msF (.bool ch) wj (w.heap.size + 1) m < Gfp.cnt f0 m + 1 by
                unfold msF
                rw [rd_cnt HR.out]
                cases ch with
                | false => simp [isT]
                | true => have := HSW.out.yes rfl; simp [isT]; omega)
              have HD := hid (show ch = false → ∀ j, j < m → f j = gfp adj th j from fun h => by subst h; exact HSW.out.done HAD.out)
              have HI2 := hid HSW.out.inv
              clear HSW
              go_wp2_with fail
              go_roundw
              case rel => exact ⟨ch, f, rfl, HB, HR, HI2, HD⟩
              case measure =>
                have h1 := HM.out
                have h2 := HCNT.out
                rw [show msF (.bool true) wi (w.heap.size + 1) m = Gfp.cnt (rdF wi (w.heap.size + 1)) m + 1 from rfl, h2]
                exact h1
end Alw
end Go.Proofs.Ytfemikebklmlpaa
