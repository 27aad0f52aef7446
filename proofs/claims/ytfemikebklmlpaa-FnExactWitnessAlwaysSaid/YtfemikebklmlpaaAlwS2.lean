/- The reference's l11Always, as WitnessAlways calls it. Conditions: those of the contract. -/
import Derived.Test.YtfemikebklmlpaaAlwS
namespace Go.Proofs.Ytfemikebklmlpaa
open Go.RowKit
set_option linter.unusedVariables false
set_option linter.unusedSimpArgs false
namespace Alw
open Gr Bfs Gfp Bl

/-- a new row of truths, maybe wider than long -/
def AlwV (N : Nat) (f : Nat → Bool) (B : Nat) (v : Value) (w : World) : Prop := ∃ R c, v = .slice (some ⟨R, 0, none⟩) N c ∧ N ≤ c ∧ c ≤ maxLen ∧ B ≤ R ∧ Row w R N (fun j => .bool (f j))
theorem OwnB.rowF {B g n c : Nat} {l : List Bool} {w : World} (h : OwnB B (.slice (some ⟨g, 0, none⟩) n c) l w) : n = l.length ∧ B ≤ g ∧ n ≤ c ∧ c ≤ maxLen ∧ Row w g l.length (fun j => .bool (goalOf l j)) := by
  rcases h.row with ⟨_, e⟩ | ⟨g', c', e, h1, h2, h3, h4⟩
  · cases e
  · simp at e
    obtain ⟨rfl, rfl, rfl⟩ := e
    exact ⟨rfl, h1, h2, h3, h4.congr fun i hi => by simp [goalOf, List.getD_eq_getElem?_getD, hi]⟩
set_option maxRecDepth 100000 in
set_option maxHeartbeats 4000000 in
theorem always_any (g : G2) (thr : List Bool) (N : Nat) (hTN : thr.length = N) (hN : g.next.length = N) (hN60 : N ≤ 60) (hN1 : 1 ≤ N) (hgood : Bfs.Good g.next) (w : World) (ts : Option Addr) (td : Nat) (a b : Option Addr) (n1 c d : Nat) (hx : GrIn Any w g (.agg #[.slice a n1 c, .slice b N d])) (hg : BoolsIn Any w ts thr) (htd : N ≤ td) (htd2 : td ≤ maxLen) :
    Calls Try.prog 53 #[.agg #[.slice a n1 c, .slice b N d], .slice ts N td, .bool false] w (RetP (AlwV N (gfp (adjOf g.next) (goalOf thr)) w.heap.size) w) := by
  have HAD := hid (show ∀ u, u < N → ∀ n, n ∈ adjOf g.next u → n < N from fun u hu n hn => by have := hgood.adj u (by omega) n hn; omega)
  have HNX := hid (fun (W : World) (M : Below w.heap.size w W) (S : List Bool) (hSN : S.length = N) (R c' : Nat) (hc1 : N ≤ c') (hc2 : c' ≤ maxLen) (hS : BoolsIn Any W (some ⟨R, 0, none⟩) S) => next_any g S N hSN hN hN60 hgood W (some ⟨R, 0, none⟩) c' a b n1 c d (hx.below M) hS hc1 hc2)
  obtain ⟨bt, ot, rfl⟩ : ∃ bt ot, ts = some ⟨bt, ot, none⟩ := by
    obtain ⟨bt, ot, e, _⟩ := bools_at hg (Below.refl _ _) (k := 0) (by omega)
    exact ⟨bt, ot, e⟩
  have HT := hid hg
  have HTN := hid hTN
  generalize adjOf g.next = adj at *
  unfold maxLen at htd2
  clear hgood hx hg hN
  have htl : N = thr.length := hTN.symm
  subst htl
  clear hTN
  go_enter Try.func53, Try.ntmps53
  have hb0 := below_alloc w (.cells #[.slice a n1 c, .slice b thr.length d] 26)
  have hb1 := below_next hb0 (below_alloc _ (.cells #[] 4))
  have P0 := hid (boxp_next (below_alloc _ (.cells #[] 4)) (boxp_at (w := w) (a := .slice a n1 c) (b := .slice b thr.length d) (t := 26) rfl))
  have M1 := hid (show OwnB (w.heap.size + 1) (.slice (some ⟨w.heap.size + 1, 0, none⟩) 0 0) [] ((w.alloc (.cells #[.slice a n1 c, .slice b thr.length d] 26)).alloc (.cells #[] 4)) from by
    have h := OwnB.made (w.alloc (.cells #[.slice a n1 c, .slice b thr.length d] 26))
    rw [World.size_alloc] at h
    exact h)
  have HTb := hid (HT.out.below hb1)
  go_wp2_with (at_builtin; refine Bl.wp_app_clone rfl _ _ rfl (w.heap.size + 1) thr (some ⟨bt, ot, none⟩) td rfl rfl M1.out (by simp) (fun e => by cases e) HTb.out (by omega) ?_; intro R cR w1 hor hown hgr hlt1)
  have HD := hid (below_next (below_next hb0 (below_alloc _ (.cells #[] 4))) (Below.refl _ _))
  have HB := hid (show Below w.heap.size w w1 from Bl.below_own hb1 (M1.out.mono (by omega)) (Nat.le_refl _) (by simpa [Value.ownBlock] using hgr))
  have HP := hid (boxp_keep hgr.size (hgr.block _ P0.out.1 (fun e => by simp at e)) P0.out)
  obtain ⟨_, r1, r2, r3, r4⟩ := OwnB.rowF hown
  have HR := hid r4
  have HI := hid (rin0 (N := thr.length) (adj := adj) (thr := goalOf thr) (f := goalOf thr) fun j hj => rfl)
  unfold maxLen at r3
  generalize goalOf thr = th at *
  generalize thr.length = N at *
  clear hb0 hb1 P0 M1 HTb hor hown hgr hlt1 HD HT HTN r4
  go_loopw [8] (fun vc wr => ∃ (ch : Bool) (f : Nat → Bool), vc = .bool ch ∧ Hid (Below w.heap.size w wr) ∧ Hid (Row wr R N (fun j => .bool (f j))) ∧ Hid (Rin N adj th f) ∧ Hid (ch = false → ∀ j, j < N → f j = gfp adj th j) ∧ Hid (BoxP wr w.heap.size (.slice a n1 c) (.slice b N d))) (fun vc wr => msF vc wr R N)
  case atStart => exact ⟨true, _, rfl, HB, HR, HI, hid (fun h => by cases h), HP⟩
  case round =>
    obtain ⟨ch, f0, rfl, HB, HR, HI, HE, HP⟩ := hrel
    obtain ⟨wi, rfl⟩ : ∃ wi : World, wi = wr := ⟨_, rfl⟩
    cases ch with
    | false =>
      have HF := hid (show AlwV N (gfp adj th) w.heap.size (.slice (some ⟨R, 0, none⟩) N cR) wi from ⟨R, cR, rfl, r2, by unfold maxLen; exact r3, by omega, HR.out.congr fun i hi => by rw [HE.out rfl i hi]⟩)
      clear HR HE HI HP
      go_wp2_with fail
      go_ret
      exact RetP.mk HF.out HB.out
    | true =>
      obtain ⟨p0, p1, p2, p3, p4⟩ := HP.out
      have HCNT := hid (rd_cnt HR.out)
      have HRD := hid (Rnd.start HI.out)
      have HCC := hid (HNX.out wi HB.out ((List.range N).map f0) (by simp) R cR r2 (by unfold maxLen; exact r3) (row_bools HR.out))
      have HLE := hid (show (List.range N).map (some1 adj (goalOf ((List.range N).map f0))) = (List.range N).map (some1 adj f0) from List.map_congr_left fun j hj => some1_congr fun x hx => goal_range (HAD.out j (List.mem_range.1 hj) x hx))
      rw [HLE.out] at HCC
      clear HI HE HLE
      go_wp2_with fail
      refine HCC.out.mono ?_
      rintro e w2 ⟨vN, rfl, hv, hb⟩
      obtain ⟨gN, cN, rfl, hgN, hcN, hcN2, hrN⟩ : ∃ gN cN, vN = .slice (some ⟨gN, 0, none⟩) N cN ∧ wi.heap.size ≤ gN ∧ N ≤ cN ∧ cN ≤ 9223372036854775807 ∧ Row w2 gN N (fun j => .bool (some1 adj f0 j)) := by
        rcases hv.row with ⟨e, _⟩ | ⟨g, c', e, h1, h2, h3, h4⟩
        · have := congrArg List.length e; simp at this; omega
        · simp only [List.length_map, List.length_range] at e h2 h4
          unfold maxLen at h3
          exact ⟨g, c', e, h1, h2, by omega, h4.congr fun i hi => by simp [List.getD_eq_getElem?_getD, hi]⟩
      have HGN := hid hrN
      have hRl : R < wi.heap.size := HR.out.1
      have hne : gN ≠ R := by omega
      replace HB := hid (below_next HB.out hb)
      replace HR := hid (HR.out.below hb)
      replace HP := hid (boxp_next hb HP.out)
      clear hv hrN hb HCC p0 p1 p2 p3 p4
      go_wp2_with fail
      go_loopw [8, 10] (fun vc i wr => ∃ (m : Nat) (ch : Bool) (f : Nat → Bool), m ≤ N ∧ vc = .bool ch ∧ i = .int .i64 m ∧ Hid (Below w.heap.size w wr) ∧ Hid (Row wr R N (fun j => .bool (f j))) ∧ Hid (Rnd N adj th f0 f m ch) ∧ Hid (BoxP wr w.heap.size (.slice a n1 c) (.slice b N d)) ∧ Hid (Row wr gN N (fun j => .bool (some1 adj f0 j)))) (fun _ i _ => N - (intOf i).toNat)
      case atStart => exact ⟨0, false, _, Nat.zero_le _, rfl, rfl, HB, HR, HRD, HP, HGN⟩
      case round =>
        obtain ⟨m, ch, f, hm, rfl, rfl, HB, HR, HRD, HP, HGN⟩ := hrel
        obtain ⟨wj, rfl⟩ : ∃ wj : World, wj = wr := ⟨_, rfl⟩
        by_cases hmk : m < N
        · have hmk2 : (m : Int) < (N : Int) := by omega
          have f1 : wj.cell? ⟨R, m, none⟩ = some (.bool (f m)) := HR.out.2.1 m hmk
          have f2 := HR.out.2.2 m
          have f3 := HR.out.1
          have q1 : wj.cell? ⟨gN, m, none⟩ = some (.bool (some1 adj f0 m)) := HGN.out.2.1 m hmk
          have q3 := HGN.out.1
          by_cases hq : f m = true ∧ some1 adj f0 m = false
          · have HRD2 := hid (HRD.out.turn HAD.out hmk hq.1 hq.2)
            rw [hq.1] at f1
            rw [hq.2] at q1
            have HR3 := hid (show Row (wj.setCell ⟨R, m, none⟩ (.bool false)) R N (fun j => .bool (upd f m false j)) from (HR.out.set hmk (.bool false)).congr fun i hi => by
              unfold upd
              by_cases e : i = m
              · rw [if_pos e, if_pos e]
              · rw [if_neg e, if_neg e])
            have HB3 := hid (HB.out.setCell (p := ⟨R, m, none⟩) (by show w.heap.size ≤ R; omega) (.bool false))
            have HP3 := hid (boxp_set HP.out (p := ⟨R, m, none⟩) (by show w.heap.size ≠ R; omega) (.bool false))
            have HG3 := hid (HGN.out.setOther (a := ⟨R, m, none⟩) (show gN ≠ R from hne) (.bool false))
            clear hq HRD
            go_wp2_with fail
            go_roundw
            case rel => exact ⟨m + 1, true, upd f m false, by omega, rfl, by go_num, HB3, HR3, HRD2, HP3, HG3⟩
            case measure => simp [intOf]; omega
          · have HRD2 := hid (HRD.out.same fun h => by
              cases e : some1 adj f0 m with
              | true => rfl
              | false => exact absurd ⟨h, e⟩ hq)
            generalize f m = fm at *
            generalize some1 adj f0 m = sm at *
            cases fm with
            | false =>
              clear hq
              go_wp2_with fail
              go_roundw
              case rel => exact ⟨m + 1, ch, f, by omega, rfl, by go_num, HB, HR, HRD2, HP, HGN⟩
              case measure => simp [intOf]; omega
            | true =>
              cases sm with
              | false => exact absurd ⟨rfl, rfl⟩ hq
              | true =>
                clear hq
                go_wp2_with fail
                go_roundw
                case rel => exact ⟨m + 1, ch, f, by omega, rfl, by go_num, HB, HR, HRD2, HP, HGN⟩
                case measure => simp [intOf]; omega
        · obtain rfl : m = N := by omega
          have HM := hid (show msF (.bool ch) wj R m < Gfp.cnt f0 m + 1 by
            unfold msF
            rw [rd_cnt HR.out]
            cases ch with
            | false => simp [isT]
            | true => have := HRD.out.yes rfl; simp [isT]; omega)
          have HDN := hid (show ch = false → ∀ j, j < m → f j = gfp adj th j from fun h => by subst h; exact HRD.out.done HAD.out)
          have HI2 := hid HRD.out.inv
          clear HRD HGN
          go_wp2_with fail
          go_roundw
          case rel => exact ⟨ch, f, rfl, HB, HR, HI2, HDN, HP⟩
          case measure =>
            have h1 := HM.out
            have h2 := HCNT.out
            rw [show msF (.bool true) wi R m = Gfp.cnt (rdF wi R) m + 1 from rfl, h2]
            exact h1
end Alw
end Go.Proofs.Ytfemikebklmlpaa
