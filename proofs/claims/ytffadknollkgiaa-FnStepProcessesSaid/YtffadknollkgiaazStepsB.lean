/- The enabled steps: l3Partners, l3Steps, enabled; IsDeadlock. Conditions: those of each contract. -/
import Derived.Test.YtffadknollkgiaazStepsA
set_option linter.unusedVariables false
set_option linter.unusedSimpArgs false
namespace Go.Proofs.Ytffadknollkgiaa
open Go.RowKit
set_option linter.unusedVariables false
set_option linter.unusedSimpArgs false
namespace Sys

/-- new steps, not nil -/
def StepsPost (l : List Stp) (w : World) (e : Ending) (w' : World) : Prop := ∃ g c, e = .returned (.slice (some ⟨g, 0, none⟩) l.length c) ∧ OwnS w.heap.size (.slice (some ⟨g, 0, none⟩) l.length c) l w' ∧ Below w.heap.size w w'

theorem OwnS.at {g : Nat} {W : World} (h : g = W.heap.size) : OwnS g (.slice (some ⟨g, 0, none⟩) 0 0) [] (W.alloc (.cells #[] 56)) := by subst h; exact OwnS.made W
theorem box2_grown {w w' : World} {C base : Nat} {a b v : Value} {l : List Stp} (h : Box2 w C a b) (ho : OwnS base v l w) (hC : C < base) (hg : w.grownBy w' v.ownBlock) : Box2 w' C a b :=
  box2_block hg.size (hg.block _ h.1 fun e => by have := (World.ownsRow.lt ho C e.symm).1; omega) h
theorem OwnS.some {B : Nat} {v : Value} {l : List Stp} {w : World} (h : OwnS B v l w) (hne : v ≠ .slice none 0 0) : ∃ g c, v = .slice (some ⟨g, 0, none⟩) l.length c := by
  rcases h.shape with ⟨h1, _⟩ | ⟨g, c, h1, _⟩
  · exact absurd h1 hne
  · exact ⟨g, c, h1⟩
theorem par_next (s : Sy) (ls vs : List Int) (i k : Nat) (c : Int) (n : Nat) : par s ls vs i k c (n + 1) = par s ls vs i k c n ++ fm (cand s ls vs i k c n) (lenE s n) := rfl

set_option maxRecDepth 100000 in
set_option maxHeartbeats 8000000 in
theorem specPart_any (s : Sy) (ls vs : List Int) (i k : Nat) (hok : State.okSt s ls vs = true) (hi : i < s.procs.length) (hk : k < s.procs[i].edges.length) (w : World) (x y : Value) (hx : SyIn Any w s x) (hy : State.PairIn Any w ls vs y) :
    Calls Try.prog 83 #[x, y, .int .i64 i, .int .i64 k] w (StepsPost (par s ls vs i k s.procs[i].edges[k].sync s.procs.length) w) := by
  obtain ⟨o1, o2, o3⟩ := okSt_facts hok
  obtain ⟨-, hs1, hs2⟩ := guard_ok ((okSy_procs o1).2 _ (List.getElem_mem hi)) (List.getElem_mem hk)
  have hn3 := (okSy_procs o1).1
  have HPL := hid (fun c n => par_len o1 ls vs i k c n)
  have HJL := hid (fun c j n => parJ_len s ls vs i k c j n)
  have HLE := hid (fun j => lenE_le o1 j)
  have HRD := hid (fun (j m : Nat) (hj : j < s.procs.length) (hm : m < s.procs[j].edges.length) (W : World) (M : Below w.heap.size w W) => specReady_any s ls vs j m hok hj hm W x y (hx.below M) (hy.below M))
  obtain ⟨a, c, b, d, rfl, hc, hc2, hin, hd, hd2, hp⟩ := hx
  obtain ⟨a', b', c', d', rfl, hls, hvs, hc', hc2', hd', hd2'⟩ := hy
  have HP := hid hp
  obtain ⟨bb, ob, rfl, _, hb3, ac, cc, ⟨e0, e1⟩, hpr⟩ := SeqIn.at hp hi
  have hiq : i < s.procs.length := hi
  generalize hq : s.procs[i] = q at *
  obtain ⟨_, _, e5, _, hc5, hc6, he5⟩ := hpr
  cases e5
  obtain ⟨be, oe, rfl, _, hbe, a1, c1, a2, c2, ⟨g0, g1, g2, g3, g4, g5, g6, g7, g8, g9⟩, hed⟩ := SeqIn.at he5 hk
  have hk2 : (k : Int) < (q.edges.length : Int) := by omega
  have hi2 : (i : Int) < (s.procs.length : Int) := by omega
  generalize q.edges[k].sync = ch at *
  have hneg : IntKind.i64.wrap (-ch) = -ch := IntWalk.i64_in _ (by omega)
  unfold maxLen at hc6 hd2 hc2' hd2' hc2
  clear hp hls hvs he5 hin hed hq g0 g1 g2 g3 g4 g5 g6 g7 g8 o1 o2 o3 hok
  have hb31 : bb < w.heap.size + 1 := by omega
  have hb32 : bb < w.heap.size + 1 + 1 := by omega
  have hbe1 : be < w.heap.size + 1 := by omega
  have hbe2 : be < w.heap.size + 1 + 1 := by omega
  go_enter Try.func83, Try.ntmps83
  go_wp2_with fail
  clear hb31 hb32 hbe1 hbe2
  have BW := hid (show Below w.heap.size w (((w.alloc (.cells #[.slice a s.init.length c, .slice (some ⟨bb, ob, none⟩) s.procs.length d] 36)).alloc (.cells #[.slice a' ls.length c', .slice b' vs.length d'] 50)).alloc (.cells #[] 56)) from (by repeat (first | exact Below.refl _ _ | assumption | refine below_a ?_ _ | refine below_o ?_ _ | refine below_d ?_ | refine below_n ?_ _ | refine below_s ?_ (by first | (simp; done) | (simp; omega) | omega) _)))
  have X0 := hid (box2_next (below_alloc _ (.cells #[] 56)) (box2_next (below_alloc _ (.cells #[.slice a' ls.length c', .slice b' vs.length d'] 50)) (box2_at (w := w) (a := .slice a s.init.length c) (b := .slice (some ⟨bb, ob, none⟩) s.procs.length d) (t := 36) rfl)))
  have Y0 := hid (box2_next (below_alloc _ (.cells #[] 56)) (box2_at (w := w.alloc (.cells #[.slice a s.init.length c, .slice (some ⟨bb, ob, none⟩) s.procs.length d] 36)) (B := w.heap.size + 1) (a := .slice a' ls.length c') (b := .slice b' vs.length d') (t := 50) (by simp)))
  have O0 := hid (OwnS.at (g := w.heap.size + 1 + 1) (W := ((w.alloc (.cells #[.slice a s.init.length c, .slice (some ⟨bb, ob, none⟩) s.procs.length d] 36)).alloc (.cells #[.slice a' ls.length c', .slice b' vs.length d'] 50))) (by simp))
  go_loopw [11, 9] (fun j v wr => ∃ (n g cp : Nat), n ≤ s.procs.length ∧ j = .int .i64 n ∧ v = .slice (some ⟨g, 0, none⟩) (par s ls vs i k ch n).length cp ∧ Hid (Below w.heap.size w wr) ∧ Box2 wr w.heap.size (.slice a s.init.length c) (.slice (some ⟨bb, ob, none⟩) s.procs.length d) ∧ Box2 wr (w.heap.size + 1) (.slice a' ls.length c') (.slice b' vs.length d') ∧ Hid (OwnS (w.heap.size + 1 + 1) v (par s ls vs i k ch n) wr)) (fun j _ _ => s.procs.length - (intOf j).toNat)
  case atStart => exact ⟨0, w.heap.size + 1 + 1, 0, Nat.zero_le _, rfl, rfl, BW, X0.out, Y0.out, O0⟩
  case round =>
    obtain ⟨n, g, cp, hn, rfl, rfl, B, bx, yx, HO⟩ := hrel
    obtain ⟨wo, rfl⟩ : ∃ wo : World, wo = wr := ⟨_, rfl⟩
    have BX := hid bx
    have BY := hid yx
    obtain ⟨p0, p1, p2, p3, p4⟩ := bx
    obtain ⟨y0, y1, y2, y3, y4⟩ := yx
    by_cases hlr : n < s.procs.length
    · have hlr2 : (n : Int) < (s.procs.length : Int) := by omega
      obtain ⟨_, _, e7, _, _, ac2, cc2, ⟨f0, f1⟩, hpr2⟩ := SeqIn.at HP.out hlr
      cases e7
      have HL := hid (lenE_at hlr)
      have HC := hid (fun (m : Nat) hm => edge?_some (m := m) hlr hm)
      have HR2 := hid (fun (m : Nat) hm W M => HRD.out n m hlr hm W M)
      generalize s.procs[n] = q2 at *
      obtain ⟨_, _, e8, _, hc7, hc8, he7⟩ := hpr2
      cases e8
      have HES := hid he7
      have E1 := hid f1
      have f2 := cell_below B.out hb3 E1.out
      unfold maxLen at hc8
      clear he7 f0 f1
      go_wp2_with fail
      go_loopw [12, 9] (fun j v wr => ∃ (m g cp : Nat) (l : List Stp), Hid (l = par s ls vs i k ch n ++ fm (cand s ls vs i k ch n) m) ∧ m ≤ q2.edges.length ∧ j = .int .i64 m ∧ v = .slice (some ⟨g, 0, none⟩) l.length cp ∧ Hid (Below w.heap.size w wr) ∧ Box2 wr w.heap.size (.slice a s.init.length c) (.slice (some ⟨bb, ob, none⟩) s.procs.length d) ∧ Box2 wr (w.heap.size + 1) (.slice a' ls.length c') (.slice b' vs.length d') ∧ Hid (OwnS (w.heap.size + 1 + 1) v l wr)) (fun j _ _ => q2.edges.length - (intOf j).toNat)
      case atStart => exact ⟨0, g, cp, par s ls vs i k ch n, hid (by simp [fm]), Nat.zero_le _, rfl, rfl, B, BX.out, BY.out, HO⟩
      case round =>
        clear p0 p1 p2 p3 p4 y0 y1 y2 y3 y4 f2 HO BX BY B
        obtain ⟨m, g, cp, l, HQ, hm, rfl, rfl, B, bx, yx, HO⟩ := hrel
        have BX := hid bx
        have BY := hid yx
        obtain ⟨p0, p1, p2, p3, p4⟩ := bx
        obtain ⟨y0, y1, y2, y3, y4⟩ := yx
        have f2 := cell_below B.out hb3 E1.out
        by_cases hlt : m < q2.edges.length
        · have hlt2 : (m : Int) < (q2.edges.length : Int) := by omega
          obtain ⟨be2, oe2, rfl, _, hbe2, _, _, _, _, ⟨_, _, _, _, _, _, _, _, _, h9⟩, _⟩ := SeqIn.at HES.out hlt
          have f9 := cell_below B.out hbe2 h9
          have HRm := hid (HR2.out m hlt)
          have hcd : fm (cand s ls vs i k ch n) (m + 1) = fm (cand s ls vs i k ch n) m ++ candE ls vs i k ch n m q2.edges[m] := by rw [fm, cand, HC.out m hlt]
          have HLEN := hid (show l.length ≤ 100000 by
            rw [HQ.out]
            have h1 := HPL.out ch n
            have h2 := HJL.out ch n m
            have h3 := HLE.out n
            rw [HL.out] at h3
            rw [List.length_append]
            omega)
          generalize q2.edges[m] = e at *
          clear h9
          by_cases k1 : n = i
          · have HCD := hid (show fm (cand s ls vs i k ch n) (m + 1) = fm (cand s ls vs i k ch n) m by rw [hcd, candE, if_neg (fun h => h.1 k1), List.append_nil])
            have d1 : ((n : Int) != (i : Int)) = false := by rw [bne_eq_false_iff_eq]; omega
            have BF := hid B.out
            have XF := hid BX.out
            have YF := hid BY.out
            have OF := hid HO.out
            clear hcd k1
            go_wp2_with fail
            go_roundw
            case rel => exact ⟨m + 1, g, cp, l, hid (by rw [HCD.out]; exact HQ.out), by omega, by go_num, rfl, BF, XF.out, YF.out, OF⟩
            case measure => simp [intOf]; omega
          · have d1 : ((n : Int) != (i : Int)) = true := by rw [bne_iff_ne]; omega
            by_cases k2 : e.sync = -ch
            · have d2 : (e.sync == -ch) = true := by simpa using k2
              have HE2 := hid (show candE ls vs i k ch n m e = if rdy ls vs n e = true then [⟨i, k, n, m⟩] else [] by rw [candE]; simp [k1, k2])
              generalize rdy ls vs n e = r at *
              cases r with
              | false =>
                have HCD := hid (show fm (cand s ls vs i k ch n) (m + 1) = fm (cand s ls vs i k ch n) m by rw [hcd, HE2.out]; simp)
                clear hcd k1 k2
                go_wp2_with fail
                refine (HRm.out _ B.out).mono ?_
                rintro _ w2 ⟨rfl, hb⟩
                have BF := hid (below_then B.out hb B.out.size)
                have XF := hid (box2_next hb BX.out)
                have YF := hid (box2_next hb BY.out)
                have OF := hid (HO.out.below hb)
                have sF := hb.size
                clear hb
                go_wp2_with fail
                go_roundw
                case rel => exact ⟨m + 1, g, cp, l, hid (by rw [HCD.out]; exact HQ.out), by omega, by go_num, rfl, BF, XF.out, YF.out, OF⟩
                case measure => simp [intOf]; omega
              | true =>
                have HCD := hid (show fm (cand s ls vs i k ch n) (m + 1) = fm (cand s ls vs i k ch n) m ++ [⟨i, k, n, m⟩] by rw [hcd, HE2.out, if_pos rfl])
                clear hcd k1 k2
                go_wp2_with fail
                refine (HRm.out _ B.out).mono ?_
                rintro _ w2 ⟨rfl, hb⟩
                have BF := hid (below_then B.out hb B.out.size)
                have XF := hid (box2_next hb BX.out)
                have YF := hid (box2_next hb BY.out)
                have OF := hid (HO.out.below hb)
                have sF := hb.size
                clear hb
                go_wp2_with (at_builtin; refine wp_app_step rfl _ _ rfl (w.heap.size + 1 + 1) (.slice (some ⟨g, 0, none⟩) l.length cp) l ⟨i, k, n, m⟩ 1 rfl rfl OF.out (by have := XF.out.1; have := YF.out.1; omega) HLEN.out ?_; intro v' w3 hv' hg hne)
                have OA := hid (OF.out.below (below_alloc w2 (.cells #[.int .i64 i, .int .i64 k, .int .i64 n, .int .i64 m] 56)))
                have B3 := hid (OwnS.grown OA.out (below_then BF.out (below_alloc w2 (.cells #[.int .i64 i, .int .i64 k, .int .i64 n, .int .i64 m] 56)) BF.out.size) hg (by omega))
                have X3 := hid (box2_grown (box2_next (below_alloc w2 (.cells #[.int .i64 i, .int .i64 k, .int .i64 n, .int .i64 m] 56)) XF.out) OA.out (by omega) hg)
                have Y3 := hid (box2_grown (box2_next (below_alloc w2 (.cells #[.int .i64 i, .int .i64 k, .int .i64 n, .int .i64 m] 56)) YF.out) OA.out (by omega) hg)
                obtain ⟨l3, hl3⟩ : ∃ l3, Hid (l3 = l ++ [⟨i, k, n, m⟩]) := ⟨_, hid rfl⟩
                rw [← hl3.out] at hv'
                obtain ⟨g3, cp3, rfl⟩ := hv'.some hne
                have O3 := hid hv'
                clear hv' hg hne
                go_wp2_with fail
                go_roundw
                case rel => exact ⟨m + 1, g3, cp3, l3, hid (by rw [hl3.out, HQ.out, HCD.out, List.append_assoc]), by omega, by go_num, rfl, B3, X3.out, Y3.out, O3⟩
                case measure => simp [intOf]; omega
            · have HCD := hid (show fm (cand s ls vs i k ch n) (m + 1) = fm (cand s ls vs i k ch n) m by rw [hcd, candE, if_neg (fun h => k2 h.2.1), List.append_nil])
              have d2 : (e.sync == -ch) = false := by simpa using k2
              have BF := hid B.out
              have XF := hid BX.out
              have YF := hid BY.out
              have OF := hid HO.out
              clear hcd k1 k2
              go_wp2_with fail
              go_roundw
              case rel => exact ⟨m + 1, g, cp, l, hid (by rw [HCD.out]; exact HQ.out), by omega, by go_num, rfl, BF, XF.out, YF.out, OF⟩
              case measure => simp [intOf]; omega
        · have e : m = q2.edges.length := by omega
          subst e
          have hlt2 : ¬ ((q2.edges.length : Int) < (q2.edges.length : Int)) := by omega
          have HF := hid (show par s ls vs i k ch n ++ fm (cand s ls vs i k ch n) q2.edges.length = par s ls vs i k ch (n + 1) by rw [par_next, HL.out])
          obtain rfl : l = par s ls vs i k ch (n + 1) := HQ.out.trans HF.out
          go_wp2_with fail
          go_roundw
          case rel => exact ⟨n + 1, g, cp, by omega, by go_num, rfl, B, BX.out, BY.out, HO⟩
          case measure => simp [intOf]; omega
    · have e : n = s.procs.length := by omega
      subst e
      have hlr2 : ¬ ((s.procs.length : Int) < (s.procs.length : Int)) := by omega
      go_wp2_with fail
      go_ret
      exact ⟨g, cp, rfl, ownsRow_low HO.out (by omega), B.out⟩
theorem own_cell {B g c : Nat} {l : List Stp} {w : World} (h : OwnS B (.slice (some ⟨g, 0, none⟩) l.length c) l w) {j : Nat} {u : Value} (hj : (stCells l)[j]? = some u) : w.cell? ⟨g, j, none⟩ = some u := by
  have := World.ownsRow.cells h (g := g) rfl j u hj
  have e : Addr.add ⟨g, 0, none⟩ j = ⟨g, j, none⟩ := by unfold Addr.add; split <;> simp_all
  rwa [e] at this
theorem steps_next (s : Sy) (ls vs : List Int) (n : Nat) : steps s ls vs (n + 1) = steps s ls vs n ++ fm (one s ls vs n) (lenE s n) := rfl

set_option maxRecDepth 100000 in
set_option maxHeartbeats 8000000 in
theorem specSteps_any (s : Sy) (ls vs : List Int) (hok : State.okSt s ls vs = true) (hne0 : 0 < s.procs.length) (w : World) (x y : Value) (hx : SyIn Any w s x) (hy : State.PairIn Any w ls vs y) :
    Calls Try.prog 63 #[x, y] w (StepsPost (steps s ls vs s.procs.length) w) := by
  obtain ⟨o1, o2, o3⟩ := okSt_facts hok
  have hn3 := (okSy_procs o1).1
  have HPAR := hid (fun i k c => par_len o1 ls vs i k c s.procs.length)
  have HSL := hid (fun n => steps_len o1 ls vs n)
  have HJL := hid (fun n m => stE_len o1 ls vs n m)
  have HLE := hid (fun j => lenE_le o1 j)
  have HRD := hid (fun (j m : Nat) (hj : j < s.procs.length) (hm : m < s.procs[j].edges.length) (W : World) (M : Below w.heap.size w W) => specReady_any s ls vs j m hok hj hm W x y (hx.below M) (hy.below M))
  have HPT := hid (fun (j m : Nat) (hj : j < s.procs.length) (hm : m < s.procs[j].edges.length) (W : World) (M : Below w.heap.size w W) => specPart_any s ls vs j m hok hj hm W x y (hx.below M) (hy.below M))
  obtain ⟨a, c, b, d, rfl, hc, hc2, hin, hd, hd2, hp⟩ := hx
  obtain ⟨a', b', c', d', rfl, hls, hvs, hc', hc2', hd', hd2'⟩ := hy
  have HP := hid hp
  obtain ⟨bb, ob, rfl, _, hb3, -⟩ := SeqIn.at hp hne0
  unfold maxLen at hd2 hc2' hd2' hc2
  clear hp hls hvs hin o1 o2 o3 hok
  go_enter Try.func63, Try.ntmps63
  go_wp2_with fail
  have BW := hid (show Below w.heap.size w (((w.alloc (.cells #[.slice a s.init.length c, .slice (some ⟨bb, ob, none⟩) s.procs.length d] 36)).alloc (.cells #[.slice a' ls.length c', .slice b' vs.length d'] 50)).alloc (.cells #[] 56)) from (by repeat (first | exact Below.refl _ _ | assumption | refine below_a ?_ _ | refine below_o ?_ _ | refine below_d ?_ | refine below_n ?_ _ | refine below_s ?_ (by first | (simp; done) | (simp; omega) | omega) _)))
  have X0 := hid (box2_next (below_alloc _ (.cells #[] 56)) (box2_next (below_alloc _ (.cells #[.slice a' ls.length c', .slice b' vs.length d'] 50)) (box2_at (w := w) (a := .slice a s.init.length c) (b := .slice (some ⟨bb, ob, none⟩) s.procs.length d) (t := 36) rfl)))
  have Y0 := hid (box2_next (below_alloc _ (.cells #[] 56)) (box2_at (w := (w.alloc (.cells #[.slice a s.init.length c, .slice (some ⟨bb, ob, none⟩) s.procs.length d] 36))) (B := w.heap.size + 1) (a := .slice a' ls.length c') (b := .slice b' vs.length d') (t := 50) (by simp)))
  have O0 := hid (OwnS.at (g := w.heap.size + 1 + 1) (W := ((w.alloc (.cells #[.slice a s.init.length c, .slice (some ⟨bb, ob, none⟩) s.procs.length d] 36)).alloc (.cells #[.slice a' ls.length c', .slice b' vs.length d'] 50))) (by simp))
  go_loopw [6, 5] (fun j v wr => ∃ (n g cp : Nat), n ≤ s.procs.length ∧ j = .int .i64 n ∧ v = .slice (some ⟨g, 0, none⟩) (steps s ls vs n).length cp ∧ Hid (Below w.heap.size w wr) ∧ Box2 wr w.heap.size (.slice a s.init.length c) (.slice (some ⟨bb, ob, none⟩) s.procs.length d) ∧ Box2 wr (w.heap.size + 1) (.slice a' ls.length c') (.slice b' vs.length d') ∧ Hid (OwnS (w.heap.size + 1 + 1) v (steps s ls vs n) wr)) (fun j _ _ => s.procs.length - (intOf j).toNat)
  case atStart => exact ⟨0, w.heap.size + 1 + 1, 0, Nat.zero_le _, rfl, rfl, BW, X0.out, Y0.out, O0⟩
  case round =>
    obtain ⟨n, g, cp, hn, rfl, rfl, B, bx, yx, HO⟩ := hrel
    obtain ⟨wo, rfl⟩ : ∃ wo : World, wo = wr := ⟨_, rfl⟩
    have BX := hid bx
    have BY := hid yx
    obtain ⟨p0, p1, p2, p3, p4⟩ := bx
    obtain ⟨y0, y1, y2, y3, y4⟩ := yx
    by_cases hlr : n < s.procs.length
    · have hlr2 : (n : Int) < (s.procs.length : Int) := by omega
      obtain ⟨_, _, e7, _, _, ac2, cc2, ⟨f0, f1⟩, hpr2⟩ := SeqIn.at HP.out hlr
      cases e7
      have HL := hid (lenE_at hlr)
      have HC := hid (fun (m : Nat) hm => edge?_some (m := m) hlr hm)
      have HR2 := hid (fun (m : Nat) hm W M => HRD.out n m hlr hm W M)
      have HP2 := hid (fun (m : Nat) hm W M => HPT.out n m hlr hm W M)
      generalize s.procs[n] = q2 at *
      obtain ⟨_, _, e8, _, hc7, hc8, he7⟩ := hpr2
      cases e8
      have HES := hid he7
      have E1 := hid f1
      have f2 := cell_below B.out hb3 E1.out
      unfold maxLen at hc8
      clear he7 f0 f1
      go_wp2_with fail
      go_loopw [7, 5] (fun j v wr => ∃ (m g cp : Nat) (l : List Stp), Hid (l = steps s ls vs n ++ fm (one s ls vs n) m) ∧ m ≤ q2.edges.length ∧ j = .int .i64 m ∧ v = .slice (some ⟨g, 0, none⟩) l.length cp ∧ Hid (Below w.heap.size w wr) ∧ Box2 wr w.heap.size (.slice a s.init.length c) (.slice (some ⟨bb, ob, none⟩) s.procs.length d) ∧ Box2 wr (w.heap.size + 1) (.slice a' ls.length c') (.slice b' vs.length d') ∧ Hid (OwnS (w.heap.size + 1 + 1) v (l) wr)) (fun j _ _ => q2.edges.length - (intOf j).toNat)
      case atStart => exact ⟨0, g, cp, steps s ls vs n, hid (by simp [fm]), Nat.zero_le _, rfl, rfl, B, BX.out, BY.out, HO⟩
      case round =>
        clear p0 p1 p2 p3 p4 y0 y1 y2 y3 y4 f2 HO BX BY B
        obtain ⟨m, g, cp, l, HQ, hm, rfl, rfl, B, bx, yx, HO⟩ := hrel
        have BX := hid bx
        have BY := hid yx
        obtain ⟨p0, p1, p2, p3, p4⟩ := bx
        obtain ⟨y0, y1, y2, y3, y4⟩ := yx
        have f2 := cell_below B.out hb3 E1.out
        by_cases hlt : m < q2.edges.length
        · have hlt2 : (m : Int) < (q2.edges.length : Int) := by omega
          obtain ⟨be2, oe2, rfl, _, hbe2, _, _, _, _, ⟨_, _, _, _, _, _, _, _, _, h9⟩, _⟩ := SeqIn.at HES.out hlt
          have H9 := hid h9
          have f9 := cell_below B.out hbe2 h9
          have HRm := hid (HR2.out m hlt)
          have HPA := hid (HP2.out m hlt)
          have hcd : fm (one s ls vs n) (m + 1) = fm (one s ls vs n) m ++ oneE s ls vs n m q2.edges[m] := by rw [fm, one, HC.out m hlt]
          have HLEN := hid (show l.length ≤ 100000 by
            rw [HQ.out]
            have h1 := HSL.out n
            have h2 := HJL.out n m
            have h3 := HLE.out n
            rw [HL.out] at h3
            rw [List.length_append]
            omega)
          generalize q2.edges[m] = e at *
          have HPL := hid (fun (m : Nat) => (show (par s ls vs n m e.sync s.procs.length).length ≤ 100000 by have := HPAR.out n m e.sync; omega))
          clear h9
          by_cases k1 : e.sync < 0
          · have HCD := hid (show fm (one s ls vs n) (m + 1) = fm (one s ls vs n) m by rw [hcd, oneE, if_pos (.inl k1), List.append_nil])
            have BF := hid B.out
            have XF := hid BX.out
            have YF := hid BY.out
            have OF := hid HO.out
            clear hcd
            go_wp2_with fail
            go_roundw
            case rel => exact ⟨m + 1, g, cp, l, hid (by rw [HCD.out]; exact HQ.out), by omega, by go_num, rfl, BF, XF.out, YF.out, OF⟩
            case measure => simp [intOf]; omega
          · generalize hr : rdy ls vs n e = r at *
            cases r with
            | false =>
              have HCD := hid (show fm (one s ls vs n) (m + 1) = fm (one s ls vs n) m by rw [hcd, oneE, if_pos (.inr hr), List.append_nil])
              clear hr hcd
              go_wp2_with fail
              refine (HRm.out _ B.out).mono ?_
              rintro _ w2 ⟨rfl, hb⟩
              have BF := hid (below_then B.out hb B.out.size)
              have XF := hid (box2_next hb BX.out)
              have YF := hid (box2_next hb BY.out)
              have OF := hid (HO.out.below hb)
              have sF := hb.size
              have f3 := cell_below BF.out hb3 E1.out
              have f8 := cell_below BF.out hbe2 H9.out
              obtain ⟨x0, x1, x2, x3, x4⟩ := id XF.out
              obtain ⟨z0, z1, z2, z3, z4⟩ := id YF.out
              clear hb
              go_wp2_with fail
              go_roundw
              case rel => exact ⟨m + 1, g, cp, l, hid (by rw [HCD.out]; exact HQ.out), by omega, by go_num, rfl, BF, XF.out, YF.out, OF⟩
              case measure => simp [intOf]; omega
            | true =>
              by_cases k2 : e.sync = 0
              · have HCD := hid (show fm (one s ls vs n) (m + 1) = fm (one s ls vs n) m ++ [⟨n, m, -1, -1⟩] by rw [hcd, oneE, if_neg (by rw [hr]; simp [k1]), if_pos k2])
                have d2 : (e.sync == 0) = true := by simpa using k2
                clear hr hcd k2
                go_wp2_with fail
                refine (HRm.out _ B.out).mono ?_
                rintro _ w2 ⟨rfl, hb⟩
                have BF := hid (below_then B.out hb B.out.size)
                have XF := hid (box2_next hb BX.out)
                have YF := hid (box2_next hb BY.out)
                have OF := hid (HO.out.below hb)
                have sF := hb.size
                have f3 := cell_below BF.out hb3 E1.out
                have f8 := cell_below BF.out hbe2 H9.out
                obtain ⟨x0, x1, x2, x3, x4⟩ := id XF.out
                obtain ⟨z0, z1, z2, z3, z4⟩ := id YF.out
                clear hb
                go_wp2_with (at_builtin; refine wp_app_step rfl _ _ rfl (w.heap.size + 1 + 1) (.slice (some ⟨g, 0, none⟩) l.length cp) l ⟨n, m, -1, -1⟩ 1 rfl rfl OF.out (by have := XF.out.1; have := YF.out.1; omega) HLEN.out ?_; intro v' w3 hv' hg hne)
                have OA := hid (OF.out.below (below_alloc w2 (.cells #[.int .i64 n, .int .i64 m, .int .i64 (-1), .int .i64 (-1)] 56)))
                have B3 := hid (OwnS.grown OA.out (below_then BF.out (below_alloc w2 (.cells #[.int .i64 n, .int .i64 m, .int .i64 (-1), .int .i64 (-1)] 56)) BF.out.size) hg (by omega))
                have X3 := hid (box2_grown (box2_next (below_alloc w2 (.cells #[.int .i64 n, .int .i64 m, .int .i64 (-1), .int .i64 (-1)] 56)) XF.out) OA.out (by omega) hg)
                have Y3 := hid (box2_grown (box2_next (below_alloc w2 (.cells #[.int .i64 n, .int .i64 m, .int .i64 (-1), .int .i64 (-1)] 56)) YF.out) OA.out (by omega) hg)
                obtain ⟨l3, hl3⟩ : ∃ l3, Hid (l3 = l ++ [⟨n, m, -1, -1⟩]) := ⟨_, hid rfl⟩
                rw [← hl3.out] at hv'
                obtain ⟨g3, cp3, rfl⟩ := hv'.some hne
                have O3 := hid hv'
                clear hv' hg hne
                go_wp2_with fail
                go_roundw
                case rel => exact ⟨m + 1, g3, cp3, l3, hid (by rw [hl3.out, HQ.out, HCD.out, List.append_assoc]), by omega, by go_num, rfl, B3, X3.out, Y3.out, O3⟩
                case measure => simp [intOf]; omega
              · have HCD := hid (show fm (one s ls vs n) (m + 1) = fm (one s ls vs n) m ++ par s ls vs n m e.sync s.procs.length by rw [hcd, oneE, if_neg (by rw [hr]; simp [k1]), if_neg k2])
                have d2 : (e.sync == 0) = false := by simpa using k2
                clear hr hcd k2
                go_wp2_with fail
                refine (HRm.out _ B.out).mono ?_
                rintro _ w2 ⟨rfl, hb⟩
                have BF := hid (below_then B.out hb B.out.size)
                have XF := hid (box2_next hb BX.out)
                have YF := hid (box2_next hb BY.out)
                have OF := hid (HO.out.below hb)
                have sF := hb.size
                have f3 := cell_below BF.out hb3 E1.out
                have f8 := cell_below BF.out hbe2 H9.out
                obtain ⟨x0, x1, x2, x3, x4⟩ := id XF.out
                obtain ⟨z0, z1, z2, z3, z4⟩ := id YF.out
                clear hb
                go_wp2_with fail
                refine (HPA.out _ BF.out).mono ?_
                rintro _ w4 ⟨g4, c4, rfl, hw4, hb⟩
                have B4 := hid (below_then BF.out hb BF.out.size)
                have X4 := hid (box2_next hb XF.out)
                have Y4 := hid (box2_next hb YF.out)
                have OA := hid (OF.out.below hb)
                have HPR := hid hw4
                have HLEN2 := hid (HPL.out m)
                have s4 := hb.size
                clear hb hw4
                generalize par s ls vs n m e.sync s.procs.length = pl at *
                go_wp2_with (at_builtin; refine wp_app_steps rfl _ _ rfl (w.heap.size + 1 + 1) (.slice (some ⟨g, 0, none⟩) l.length cp) l pl g4 c4 rfl rfl OA.out (by have := XF.out.1; have := YF.out.1; omega) (fun j u hj => own_cell HPR.out hj) HLEN.out HLEN2.out ?_; intro v' w3 hv' hg hnil)
                have hne : v' ≠ .slice none 0 0 := fun h => by have := (hnil h).1; simp at this
                have B3 := hid (OwnS.grown OA.out B4.out hg (by omega))
                have X3 := hid (box2_grown X4.out OA.out (by omega) hg)
                have Y3 := hid (box2_grown Y4.out OA.out (by omega) hg)
                clear hnil
                obtain ⟨l3, hl3⟩ : ∃ l3, Hid (l3 = l ++ pl) := ⟨_, hid rfl⟩
                rw [← hl3.out] at hv'
                obtain ⟨g3, cp3, rfl⟩ := hv'.some hne
                have O3 := hid hv'
                clear hv' hg hne
                go_wp2_with fail
                go_roundw
                case rel => exact ⟨m + 1, g3, cp3, l3, hid (by rw [hl3.out, HQ.out, HCD.out, List.append_assoc]), by omega, by go_num, rfl, B3, X3.out, Y3.out, O3⟩
                case measure => simp [intOf]; omega
        · have e : m = q2.edges.length := by omega
          subst e
          have hlt2 : ¬ ((q2.edges.length : Int) < (q2.edges.length : Int)) := by omega
          have HF := hid (show steps s ls vs n ++ fm (one s ls vs n) q2.edges.length = steps s ls vs (n + 1) by rw [steps_next, HL.out])
          obtain rfl : l = steps s ls vs (n + 1) := HQ.out.trans HF.out
          go_wp2_with fail
          go_roundw
          case rel => exact ⟨n + 1, g, cp, by omega, by go_num, rfl, B, BX.out, BY.out, HO⟩
          case measure => simp [intOf]; omega
    · have e : n = s.procs.length := by omega
      subst e
      have hlr2 : ¬ ((s.procs.length : Int) < (s.procs.length : Int)) := by omega
      go_wp2_with fail
      go_ret
      exact ⟨g, cp, rfl, ownsRow_low HO.out (by omega), B.out⟩
/-- append of one new step, at the operation; and where the result may lie -/
theorem wp_app_stepAt {ops : Array Oper} {rest : List Oper} {o : Oper} {a : Act} {Q : Exit → Act → World → Prop} {w : World} (hgd : o.guard = none) (s x : Operand)
    (ho : o.op = .call { callee := .builtin .append, args := #[s, x], argTypes := #[62, 62] }) (B : Nat) (v : Value) (acc : List Stp) (t : Stp) (c : Nat) (hs : a.eval s = v) (hx : a.eval x = .slice (some ⟨w.heap.size, 0, none⟩) 1 c)
    (hv : OwnS B v acc w) (hB : B ≤ w.heap.size) (h1 : acc.length ≤ 100000)
    (h : ∀ v' w', OwnS B v' (acc ++ [t]) w' → (w.alloc (.cells #[.int .i64 t.p, .int .i64 t.e, .int .i64 t.q, .int .i64 t.f] 56)).grownBy w' v.ownBlock → (v'.ownBlock = v.ownBlock ∨ v'.ownBlock = some (w.heap.size + 1)) → wpList Try.prog ops Q rest (a.put o.dst v') w') :
    wpList Try.prog ops Q (o :: rest) a (w.alloc (.cells #[.int .i64 t.p, .int .i64 t.e, .int .i64 t.q, .int .i64 t.f] 56)) := by
  obtain ⟨ri, hi, hz, hs1, hs2⟩ := info_parts step_info
  refine wpList_append_own_at _ hgd s x 62 ho B 56 ri _ 4 32 Try.underlying62 hi hz hs1 hs2 rfl (by omega) v acc.length _ hs (hv.below (below_alloc _ _)) ⟨w.heap.size, 0, none⟩ 1 c (stCells [t]) hx rfl (fun j u hj => ?_) (stCells_one [t]) (by simp only [maxLen]; omega) (by omega) (by simp; omega) ?_
  · have e : Addr.add ⟨w.heap.size, 0, none⟩ j = ⟨w.heap.size, j, none⟩ := by unfold Addr.add; split <;> simp_all
    rw [e, World.cell?_alloc_new]
    match j, hj with
    | 0, hj => simpa [stCells, Stp.cells] using hj
    | 1, hj => simpa [stCells, Stp.cells] using hj
    | 2, hj => simpa [stCells, Stp.cells] using hj
    | 3, hj => simpa [stCells, Stp.cells] using hj
    | (n + 4), hj => simp [stCells, Stp.cells] at hj
  · intro v2 w3 hown hgrow _ hat
    exact h v2 w3 (by unfold OwnS; rw [List.length_append, stCells_append]; exact hown) hgrow (by simpa using hat)
/-- new steps, as they are handed back: nil, or as long as wide -/
def NewS (B : Nat) (l : List Stp) (v : Value) (w : World) : Prop := (l = [] ∧ v = .slice none 0 0) ∨ ∃ g, v = .slice (some ⟨g, 0, none⟩) l.length l.length ∧ B ≤ g ∧ g < w.heap.size ∧ (∀ j u, (stCells l)[j]? = some u → w.cell? ⟨g, j, none⟩ = some u) ∧ ∀ j, w.frozen? ⟨g, j, none⟩ = false
set_option maxHeartbeats 1000000 in
theorem clipS_any (l : List Stp) (w : World) (v : Value) (B : Nat) (h : OwnS B v l w) (hlen : l.length ≤ 1000000) : Calls Try.prog 81 #[v] w (RetP (NewS B l) w) := by
  rcases h.shape with ⟨rfl, rfl⟩ | ⟨g, c, rfl, h1, h2, h3, h4⟩
  · go_enter Try.func81, Try.ntmps81
    go_wp2_with fail
    go_ret
    exact RetP.mk (.inl ⟨rfl, rfl⟩) (Below.refl _ _)
  · have HV := hid (show NewS B l (.slice (some ⟨g, 0, none⟩) l.length l.length) w from .inr ⟨g, rfl, h1, h2, fun j u hj => own_cell h hj, fun j => World.ownsRow.frozenAt h j⟩)
    unfold maxLen at h4
    have hl2 : (l.length : Int) ≤ (c : Int) := by omega
    clear h
    go_enter Try.func81, Try.ntmps81
    go_wp2_with fail
    go_ret
    exact RetP.mk HV.out (Below.refl _ _)
theorem box10_grown {w w' : World} {C : Nat} {row : Option Nat} {a0 a1 a2 a3 a4 a5 a6 a7 a8 a9 : Value} (h : Box10 w C a0 a1 a2 a3 a4 a5 a6 a7 a8 a9) (hn : row ≠ some C) (hg : w.grownBy w' row) : Box10 w' C a0 a1 a2 a3 a4 a5 a6 a7 a8 a9 :=
  box10_block (hg.block _ h.1 (fun e => hn e.symm)) hg.size h

set_option maxRecDepth 100000 in
set_option maxHeartbeats 16000000 in
theorem enabled_any (s : Sy) (ls vs : List Int) (hok : State.okSt s ls vs = true) (hne0 : 0 < s.procs.length) (w : World) (x y : Value) (hx : SyIn Any w s x) (hy : State.PairIn Any w ls vs y) :
    Calls Try.prog 62 #[x, y] w (RetP (NewS w.heap.size (steps s ls vs s.procs.length)) w) := by
  obtain ⟨o1, o2, o3⟩ := okSt_facts hok
  have hn3 := (okSy_procs o1).1
  have HSY := hid (fun (j m : Nat) (hj : j < s.procs.length) (hm : m < s.procs[j].edges.length) => (guard_ok ((okSy_procs o1).2 _ (List.getElem_mem hj)) (List.getElem_mem hm)).2)
  have HPAR := hid (fun i k c n => par_len o1 ls vs i k c n)
  have HPJ := hid (fun i k c j n => parJ_len s ls vs i k c j n)
  have HSL := hid (fun n => steps_len o1 ls vs n)
  have HJL := hid (fun n m => stE_len o1 ls vs n m)
  have HLE := hid (fun j => lenE_le o1 j)
  have HRD := hid (fun (j m : Nat) (hj : j < s.procs.length) (hm : m < s.procs[j].edges.length) (W : World) (M : Below w.heap.size w W) => ready_any s ls vs j m hok hj hm W x y (hx.below M) (hy.below M))
  obtain ⟨a, c, b, d, rfl, hc, hc2, hin, hd, hd2, hp⟩ := hx
  obtain ⟨a', b', c', d', rfl, hls, hvs, hc', hc2', hd', hd2'⟩ := hy
  have HP := hid hp
  obtain ⟨bb, ob, rfl, _, hb3, -⟩ := SeqIn.at hp hne0
  unfold maxLen at hd2 hc2' hd2' hc2
  clear hp hls hvs hin o1 o2 o3 hok
  go_enter Try.func62, Try.ntmps62
  go_wp2_with fail
  have BW := hid (show Below w.heap.size w ((w.alloc (.cells #[.slice a s.init.length c, .slice (some ⟨bb, ob, none⟩) s.procs.length d] 36)).alloc (.cells #[.slice a' ls.length c', .slice b' vs.length d'] 50)) from (by repeat (first | exact Below.refl _ _ | assumption | refine below_a ?_ _ | refine below_o ?_ _ | refine below_d ?_ | refine below_n ?_ _ | refine below_s ?_ (by first | (simp; done) | (simp; omega) | omega) _)))
  have X0 := hid (box2_next (below_alloc _ (.cells #[.slice a' ls.length c', .slice b' vs.length d'] 50)) (box2_at (w := w) (a := .slice a s.init.length c) (b := .slice (some ⟨bb, ob, none⟩) s.procs.length d) (t := 36) rfl))
  have Y0 := hid (box2_at (w := (w.alloc (.cells #[.slice a s.init.length c, .slice (some ⟨bb, ob, none⟩) s.procs.length d] 36))) (B := w.heap.size + 1) (a := .slice a' ls.length c') (b := .slice b' vs.length d') (t := 50) (by simp))
  go_loopw [17, 5] (fun j v wr => ∃ (n : Nat), n ≤ s.procs.length ∧ j = .int .i64 n ∧ Hid (Below w.heap.size w wr) ∧ Box2 wr w.heap.size (.slice a s.init.length c) (.slice (some ⟨bb, ob, none⟩) s.procs.length d) ∧ Box2 wr (w.heap.size + 1) (.slice a' ls.length c') (.slice b' vs.length d') ∧ Hid (OwnS (w.heap.size + 1 + 1) v (steps s ls vs n) wr)) (fun j _ _ => s.procs.length - (intOf j).toNat)
  case atStart => exact ⟨0, Nat.zero_le _, rfl, BW, X0.out, Y0.out, hid (OwnS.nil _ _)⟩
  case round =>
    obtain ⟨n, hn, rfl, B, bx, yx, HO⟩ := hrel
    obtain ⟨wo, rfl⟩ : ∃ wo : World, wo = wr := ⟨_, rfl⟩
    have BX := hid bx
    have BY := hid yx
    obtain ⟨p0, p1, p2, p3, p4⟩ := bx
    obtain ⟨y0, y1, y2, y3, y4⟩ := yx
    by_cases hl2 : n < s.procs.length
    · have hl22 : (n : Int) < (s.procs.length : Int) := by omega
      obtain ⟨_, _, e7, _, _, ac2, cc2, ⟨f0, f1⟩, hpr2⟩ := SeqIn.at HP.out hl2
      cases e7
      have HL2 := hid (lenE_at hl2)
      have HC2 := hid (fun (m : Nat) hm => edge?_some (m := m) hl2 hm)
      have HR2 := hid (fun (m : Nat) hm W M => HRD.out n m hl2 hm W M)
      have HS2 := hid (fun (m : Nat) hm => HSY.out n m hl2 hm)
      generalize s.procs[n] = q2 at *
      obtain ⟨_, _, e8, _, hc72, hc82, he7⟩ := hpr2
      cases e8
      have HE2 := hid he7
      have fa := cell_below B.out hb3 f0
      have fb := cell_below B.out hb3 f1
      unfold maxLen at hc82
      clear he7 f0 f1
      have BO := hid (below_alloc wo (.cells #[.int .i64 q2.locs, .slice ac2 q2.edges.length cc2] 41))
      go_wp2_with fail
      go_loopw [25, 5] (fun j v wr => ∃ (m : Nat) (l : List Stp), Hid (l = steps s ls vs n ++ fm (one s ls vs n) m) ∧ m ≤ q2.edges.length ∧ j = .int .i64 m ∧ Hid (Below w.heap.size w wr) ∧ Box2 wr w.heap.size (.slice a s.init.length c) (.slice (some ⟨bb, ob, none⟩) s.procs.length d) ∧ Box2 wr (w.heap.size + 1) (.slice a' ls.length c') (.slice b' vs.length d') ∧ Hid (OwnS (w.heap.size + 1 + 1) v (l) wr)) (fun j _ _ => q2.edges.length - (intOf j).toNat)
      case atStart => exact ⟨0, steps s ls vs n, hid (by simp [fm]), Nat.zero_le _, rfl, hid (below_then B.out BO.out B.out.size), box2_next BO.out BX.out, box2_next BO.out BY.out, hid (HO.out.below BO.out)⟩
      case round =>
        clear p0 p1 p2 p3 p4 y0 y1 y2 y3 y4 fa fb HO BX BY B BO
        obtain ⟨m, l, HQ, hm, rfl, B, bx, yx, HO⟩ := hrel
        obtain ⟨wb, rfl⟩ : ∃ wb : World, wb = wr := ⟨_, rfl⟩
        have BX := hid bx
        have BY := hid yx
        obtain ⟨p0, p1, p2, p3, p4⟩ := bx
        obtain ⟨y0, y1, y2, y3, y4⟩ := yx
        by_cases hlt : m < q2.edges.length
        · have hlt2 : (m : Int) < (q2.edges.length : Int) := by omega
          obtain ⟨be2, oe2, rfl, _, hbe2, a1, c1, a2, c2, ⟨g0, g1, g2, g3, g4, g5, g6, g7, g8, g9⟩, -⟩ := SeqIn.at (EdsIn.below HE2.out B.out) hlt
          have HRm := hid (HR2.out m hlt)
          have HSm := HS2.out m hlt
          have hcd : fm (one s ls vs n) (m + 1) = fm (one s ls vs n) m ++ oneE s ls vs n m q2.edges[m] := by rw [fm, one, HC2.out m hlt]
          have HLEN := hid (show l.length ≤ 100000 by
            rw [HQ.out]
            have h1 := HSL.out n
            have h2 := HJL.out n m
            have h3 := HLE.out n
            rw [HL2.out] at h3
            rw [List.length_append]
            omega)
          generalize q2.edges[m] = e at *
          have NEQ := hid (show u5.ownBlock ≠ some wb.heap.size from fun h => by have := (World.ownsRow.lt HO.out _ h).2; omega)
          have HEBQ := hid BY.out.1
          have BA := hid (below_alloc wb (.cells #[.int .i64 e.src, .int .i64 e.dst, .int .i64 e.guard.kind, .int .i64 e.guard.val, .slice a1 e.guard.kids.length c1, .int .i64 e.var, .int .i64 e.val.kind, .int .i64 e.val.val, .slice a2 e.val.kids.length c2, .int .i64 e.sync] 27))
          have EX := hid (box10_at (w := wb) rfl (.int .i64 e.src) (.int .i64 e.dst) (.int .i64 e.guard.kind) (.int .i64 e.guard.val) (.slice a1 e.guard.kids.length c1) (.int .i64 e.var) (.int .i64 e.val.kind) (.int .i64 e.val.val) (.slice a2 e.val.kids.length c2) (.int .i64 e.sync) 27)
          have XA := hid (box2_next BA.out BX.out)
          have YA := hid (box2_next BA.out BY.out)
          have OA := hid (HO.out.below BA.out)
          have BB := hid (below_then B.out BA.out B.out.size)
          go_wp2_with fail
          refine (HRm.out _ BB.out).mono ?_
          rintro _ w2 ⟨rfl, hb⟩
          have BF := hid (below_then BB.out hb BB.out.size)
          have XF := hid (box2_next hb XA.out)
          have YF := hid (box2_next hb YA.out)
          have OF := hid (OA.out.below hb)
          have EF := hid (box10_next hb EX.out)
          have sF := hb.size
          clear hb BA EX XA YA OA BB p0 p1 p2 p3 p4 y0 y1 y2 y3 y4 g0 g1 g2 g3 g4 g5 g6 g7 g8 g9
          obtain ⟨x0, x1, x2, x3, x4⟩ := id XF.out
          obtain ⟨z0, ⟨t0, t1, t2, t3, t4, t5, t6, t7, t8, t9⟩, _⟩ := id EF.out
          generalize hr : rdy ls vs n e = r at *
          cases r with
          | false =>
            have HCD := hid (show fm (one s ls vs n) (m + 1) = fm (one s ls vs n) m by rw [hcd, oneE, if_pos (.inr hr), List.append_nil])
            clear hr hcd
            go_wp2_with fail
            go_roundw
            case rel => exact ⟨m + 1, l, hid (by rw [HCD.out]; exact HQ.out), by omega, by go_num, BF, XF.out, YF.out, OF⟩
            case measure => simp [intOf]; omega
          | true =>
            by_cases k1 : e.sync < 0
            · have HCD := hid (show fm (one s ls vs n) (m + 1) = fm (one s ls vs n) m by rw [hcd, oneE, if_pos (.inl k1), List.append_nil])
              clear hr hcd
              go_wp2_with fail
              go_roundw
              case rel => exact ⟨m + 1, l, hid (by rw [HCD.out]; exact HQ.out), by omega, by go_num, BF, XF.out, YF.out, OF⟩
              case measure => simp [intOf]; omega
            · by_cases k2 : e.sync = 0
              · have HCD := hid (show fm (one s ls vs n) (m + 1) = fm (one s ls vs n) m ++ [⟨n, m, -1, -1⟩] by rw [hcd, oneE, if_neg (by rw [hr]; simp [k1]), if_pos k2])
                have d2 : (e.sync == 0) = true := by simpa using k2
                clear hr hcd k2
                go_wp2_with (at_builtin; refine wp_app_stepAt rfl _ _ rfl (w.heap.size + 1 + 1) u5 l ⟨n, m, -1, -1⟩ 1 rfl rfl OF.out (by have := XF.out.1; have := YF.out.1; omega) HLEN.out ?_; intro v' w3 hv' hg hat)
                have OA := hid (OF.out.below (below_alloc w2 (.cells #[.int .i64 n, .int .i64 m, .int .i64 (-1), .int .i64 (-1)] 56)))
                have B3 := hid (OwnS.grown OA.out (below_then BF.out (below_alloc w2 (.cells #[.int .i64 n, .int .i64 m, .int .i64 (-1), .int .i64 (-1)] 56)) BF.out.size) hg (by omega))
                have X3 := hid (box2_grown (box2_next (below_alloc w2 (.cells #[.int .i64 n, .int .i64 m, .int .i64 (-1), .int .i64 (-1)] 56)) XF.out) OA.out (by omega) hg)
                have Y3 := hid (box2_grown (box2_next (below_alloc w2 (.cells #[.int .i64 n, .int .i64 m, .int .i64 (-1), .int .i64 (-1)] 56)) YF.out) OA.out (by omega) hg)
                obtain ⟨l3, hl3⟩ : ∃ l3, Hid (l3 = l ++ [⟨n, m, -1, -1⟩]) := ⟨_, hid rfl⟩
                rw [← hl3.out] at hv'
                have O3 := hid hv'
                clear hv' hg
                go_wp2_with fail
                go_roundw
                case rel => exact ⟨m + 1, l3, hid (by rw [hl3.out, HQ.out, HCD.out, List.append_assoc]), by omega, by go_num, B3, X3.out, Y3.out, O3⟩
                case measure => simp [intOf]; omega
              · have HCD := hid (show fm (one s ls vs n) (m + 1) = fm (one s ls vs n) m ++ par s ls vs n m e.sync s.procs.length by rw [hcd, oneE, if_neg (by rw [hr]; simp [k1]), if_neg k2])
                have d2 : (e.sync == 0) = false := by simpa using k2
                clear hr hcd k2
                have hneg : IntKind.i64.wrap (-e.sync) = -e.sync := IntWalk.i64_in _ (by omega)
                go_wp2_with fail
                go_loopw [55, 5] (fun z v wr => ∃ (j : Nat) (l : List Stp), Hid (l = steps s ls vs n ++ fm (one s ls vs n) m ++ par s ls vs n m e.sync j) ∧ j ≤ s.procs.length ∧ z = .int .i64 j ∧ Hid (Below w.heap.size w wr) ∧ Box2 wr w.heap.size (.slice a s.init.length c) (.slice (some ⟨bb, ob, none⟩) s.procs.length d) ∧ Box2 wr (w.heap.size + 1) (.slice a' ls.length c') (.slice b' vs.length d') ∧ Hid (OwnS (w.heap.size + 1 + 1) v (l) wr) ∧ Hid (v.ownBlock ≠ some wb.heap.size) ∧ Hid (w.heap.size + 1 < wb.heap.size) ∧ Box10 wr wb.heap.size (.int .i64 e.src) (.int .i64 e.dst) (.int .i64 e.guard.kind) (.int .i64 e.guard.val) (.slice a1 e.guard.kids.length c1) (.int .i64 e.var) (.int .i64 e.val.kind) (.int .i64 e.val.val) (.slice a2 e.val.kids.length c2) (.int .i64 e.sync)) (fun z _ _ => s.procs.length - (intOf z).toNat)
                case atStart => exact ⟨0, l, hid (by rw [HQ.out]; simp [par, fm]), Nat.zero_le _, rfl, BF, XF.out, YF.out, OF, NEQ, HEBQ, EF.out⟩
                case round =>
                  clear x0 x1 x2 x3 x4 z0 t0 t1 t2 t3 t4 t5 t6 t7 t8 t9 BF XF YF OF NEQ HEBQ EF HO BX BY B HQ HLEN HRm
                  obtain ⟨j, l, HQ, hj, rfl, B, bx, yx, HO, NE, HEB, ex⟩ := hrel
                  obtain ⟨wo, rfl⟩ : ∃ wo : World, wo = wr := ⟨_, rfl⟩
                  have BX := hid bx
                  have BY := hid yx
                  obtain ⟨p0, p1, p2, p3, p4⟩ := bx
                  obtain ⟨y0, y1, y2, y3, y4⟩ := yx
                  have EX := hid ex
                  by_cases hl3 : j < s.procs.length
                  · have hl32 : (j : Int) < (s.procs.length : Int) := by omega
                    obtain ⟨_, _, e7, _, _, ac3, cc3, ⟨f0, f1⟩, hpr2⟩ := SeqIn.at HP.out hl3
                    cases e7
                    have HL3 := hid (lenE_at hl3)
                    have HC3 := hid (fun (m : Nat) hm => edge?_some (m := m) hl3 hm)
                    have HR3 := hid (fun (m : Nat) hm W M => HRD.out j m hl3 hm W M)
                    have HS3 := hid (fun (m : Nat) hm => HSY.out j m hl3 hm)
                    generalize s.procs[j] = q3 at *
                    obtain ⟨_, _, e8, _, hc73, hc83, he7⟩ := hpr2
                    cases e8
                    have HE3 := hid he7
                    have fa := cell_below B.out hb3 f0
                    have fb := cell_below B.out hb3 f1
                    unfold maxLen at hc83
                    clear he7 f0 f1
                    have BO := hid (below_alloc wo (.cells #[.int .i64 q3.locs, .slice ac3 q3.edges.length cc3] 41))
                    go_wp2_with fail
                    go_loopw [63, 5] (fun z v wr => ∃ (k : Nat) (l : List Stp), Hid (l = steps s ls vs n ++ fm (one s ls vs n) m ++ par s ls vs n m e.sync j ++ fm (cand s ls vs n m e.sync j) k) ∧ k ≤ q3.edges.length ∧ z = .int .i64 k ∧ Hid (Below w.heap.size w wr) ∧ Box2 wr w.heap.size (.slice a s.init.length c) (.slice (some ⟨bb, ob, none⟩) s.procs.length d) ∧ Box2 wr (w.heap.size + 1) (.slice a' ls.length c') (.slice b' vs.length d') ∧ Hid (OwnS (w.heap.size + 1 + 1) v (l) wr) ∧ Hid (v.ownBlock ≠ some wb.heap.size) ∧ Hid (w.heap.size + 1 < wb.heap.size) ∧ Box10 wr wb.heap.size (.int .i64 e.src) (.int .i64 e.dst) (.int .i64 e.guard.kind) (.int .i64 e.guard.val) (.slice a1 e.guard.kids.length c1) (.int .i64 e.var) (.int .i64 e.val.kind) (.int .i64 e.val.val) (.slice a2 e.val.kids.length c2) (.int .i64 e.sync)) (fun z _ _ => q3.edges.length - (intOf z).toNat)
                    case atStart => exact ⟨0, l, hid (by rw [HQ.out]; simp [fm]), Nat.zero_le _, rfl, hid (below_then B.out BO.out B.out.size), box2_next BO.out BX.out, box2_next BO.out BY.out, hid (HO.out.below BO.out), NE, HEB, box10_next BO.out EX.out⟩
                    case round =>
                      clear p0 p1 p2 p3 p4 y0 y1 y2 y3 y4 fa fb HO BX BY B EX NE HEB HQ BO
                      obtain ⟨k, l, HQ, hk, rfl, B, bx, yx, HO, NE, HEB, ex⟩ := hrel
                      have heb := HEB.out
                      obtain ⟨wf, rfl⟩ : ∃ wf : World, wf = wr := ⟨_, rfl⟩
                      have BX := hid bx
                      have BY := hid yx
                      obtain ⟨p0, p1, p2, p3, p4⟩ := bx
                      obtain ⟨y0, y1, y2, y3, y4⟩ := yx
                      have EX := hid ex
                      by_cases hlt : k < q3.edges.length
                      · have hlt4 : (k : Int) < (q3.edges.length : Int) := by omega
                        obtain ⟨be3, oe3, rfl, _, hbe3, b1, d1, b2, d2, ⟨g0, g1, g2, g3, g4, g5, g6, g7, g8, g9⟩, -⟩ := SeqIn.at (EdsIn.below HE3.out B.out) hlt
                        have HRm := hid (HR3.out k hlt)
                        have hcd : fm (cand s ls vs n m e.sync j) (k + 1) = fm (cand s ls vs n m e.sync j) k ++ candE ls vs n m e.sync j k q3.edges[k] := by rw [fm, cand, HC3.out k hlt]
                        have HLEN := hid (show l.length ≤ 100000 by
                          rw [HQ.out]
                          have h1 := HSL.out n
                          have h2 := HJL.out n m
                          have h3 := HLE.out n
                          have h4 := HPAR.out n m e.sync j
                          have h5 := HPJ.out n m e.sync j k
                          have h6 := HLE.out j
                          rw [HL2.out] at h3
                          rw [HL3.out] at h6
                          simp only [List.length_append]
                          omega)
                        generalize q3.edges[k] = e3 at *
                        have BA := hid (below_alloc wf (.cells #[.int .i64 e3.src, .int .i64 e3.dst, .int .i64 e3.guard.kind, .int .i64 e3.guard.val, .slice b1 e3.guard.kids.length d1, .int .i64 e3.var, .int .i64 e3.val.kind, .int .i64 e3.val.val, .slice b2 e3.val.kids.length d2, .int .i64 e3.sync] 27))
                        have XA := hid (box2_next BA.out BX.out)
                        have YA := hid (box2_next BA.out BY.out)
                        have OB := hid (HO.out.below BA.out)
                        have BB := hid (below_then B.out BA.out B.out.size)
                        have EA := hid (box10_next BA.out EX.out)
                        obtain ⟨t10, ⟨t0, t1, t2, t3, t4, t5, t6, t7, t8, t9⟩, _⟩ := id EX.out
                        by_cases k1 : j = n
                        · have HCD4 := hid (show fm (cand s ls vs n m e.sync j) (k + 1) = fm (cand s ls vs n m e.sync j) k by rw [hcd, candE, if_neg (fun h => h.1 k1), List.append_nil])
                          have d1 : ((j : Int) != (n : Int)) = false := by rw [bne_eq_false_iff_eq]; omega
                          clear hcd k1
                          have BF := hid BB.out
                          have XF := hid XA.out
                          have YF := hid YA.out
                          have OF := hid OB.out
                          have EF := hid EA.out
                          go_wp2_with fail
                          go_roundw
                          case rel => exact ⟨k + 1, l, hid (by rw [HCD4.out]; exact HQ.out), by omega, by go_num, BF, XF.out, YF.out, OF, NE, HEB, EF.out⟩
                          case measure => simp [intOf]; omega
                        · have d1 : ((j : Int) != (n : Int)) = true := by rw [bne_iff_ne]; omega
                          by_cases k2 : e3.sync = -e.sync
                          · have d3 : (e3.sync == -e.sync) = true := by simpa using k2
                            have HE2c := hid (show candE ls vs n m e.sync j k e3 = if rdy ls vs j e3 = true then [⟨n, m, j, k⟩] else [] by rw [candE]; simp [k1, k2])
                            generalize rdy ls vs j e3 = r at *
                            cases r with
                            | false =>
                              have HCD4 := hid (show fm (cand s ls vs n m e.sync j) (k + 1) = fm (cand s ls vs n m e.sync j) k by rw [hcd, HE2c.out]; simp)
                              clear hcd k1 k2
                              go_wp2_with fail
                              refine (HRm.out _ BB.out).mono ?_
                              rintro _ w2 ⟨rfl, hb⟩
                              have BF := hid (below_then BB.out hb BB.out.size)
                              have XF := hid (box2_next hb XA.out)
                              have YF := hid (box2_next hb YA.out)
                              have OF := hid (OB.out.below hb)
                              have EF := hid (box10_next hb EA.out)
                              have sF := hb.size
                              have sE := EF.out.1
                              clear hb
                              go_wp2_with fail
                              go_roundw
                              case rel => exact ⟨k + 1, l, hid (by rw [HCD4.out]; exact HQ.out), by omega, by go_num, BF, XF.out, YF.out, OF, NE, HEB, EF.out⟩
                              case measure => simp [intOf]; omega
                            | true =>
                              have HCD4 := hid (show fm (cand s ls vs n m e.sync j) (k + 1) = fm (cand s ls vs n m e.sync j) k ++ [⟨n, m, j, k⟩] by rw [hcd, HE2c.out, if_pos rfl])
                              clear hcd k1 k2
                              go_wp2_with fail
                              refine (HRm.out _ BB.out).mono ?_
                              rintro _ w2 ⟨rfl, hb⟩
                              have BF := hid (below_then BB.out hb BB.out.size)
                              have XF := hid (box2_next hb XA.out)
                              have YF := hid (box2_next hb YA.out)
                              have OF := hid (OB.out.below hb)
                              have EF := hid (box10_next hb EA.out)
                              have sF := hb.size
                              have sE := EF.out.1
                              clear hb
                              go_wp2_with (at_builtin; refine wp_app_stepAt rfl _ _ rfl (w.heap.size + 1 + 1) u5 l ⟨n, m, j, k⟩ 1 rfl rfl OF.out (by have := XF.out.1; have := YF.out.1; omega) HLEN.out ?_; intro v' w3 hv' hg hat)
                              have OA := hid (OF.out.below (below_alloc w2 (.cells #[.int .i64 n, .int .i64 m, .int .i64 j, .int .i64 k] 56)))
                              have B3 := hid (OwnS.grown OA.out (below_then BF.out (below_alloc w2 (.cells #[.int .i64 n, .int .i64 m, .int .i64 j, .int .i64 k] 56)) BF.out.size) hg (by omega))
                              have X3 := hid (box2_grown (box2_next (below_alloc w2 (.cells #[.int .i64 n, .int .i64 m, .int .i64 j, .int .i64 k] 56)) XF.out) OA.out (by omega) hg)
                              have Y3 := hid (box2_grown (box2_next (below_alloc w2 (.cells #[.int .i64 n, .int .i64 m, .int .i64 j, .int .i64 k] 56)) YF.out) OA.out (by omega) hg)
                              have E3 := hid (box10_grown (box10_next (below_alloc w2 (.cells #[.int .i64 n, .int .i64 m, .int .i64 j, .int .i64 k] 56)) EF.out) NE.out hg)
                              have NE3 := hid (show v'.ownBlock ≠ some wb.heap.size from fun h => by
                                rcases hat with h2 | h2
                                · exact NE.out (h2.symm.trans h)
                                · rw [h2] at h; simp at h; omega)
                              obtain ⟨l3, hl3⟩ : ∃ l3, Hid (l3 = l ++ [⟨n, m, j, k⟩]) := ⟨_, hid rfl⟩
                              rw [← hl3.out] at hv'
                              have O3 := hid hv'
                              clear hv' hg
                              go_wp2_with fail
                              go_roundw
                              case rel => exact ⟨k + 1, l3, hid (by rw [hl3.out, HQ.out, HCD4.out, List.append_assoc]), by omega, by go_num, B3, X3.out, Y3.out, O3, NE3, HEB, E3.out⟩
                              case measure => simp [intOf]; omega
                          · have HCD4 := hid (show fm (cand s ls vs n m e.sync j) (k + 1) = fm (cand s ls vs n m e.sync j) k by rw [hcd, candE, if_neg (fun h => k2 h.2.1), List.append_nil])
                            have d3 : (e3.sync == -e.sync) = false := by simpa using k2
                            clear hcd k1 k2
                            have BF := hid BB.out
                            have XF := hid XA.out
                            have YF := hid YA.out
                            have OF := hid OB.out
                            have EF := hid EA.out
                            go_wp2_with fail
                            go_roundw
                            case rel => exact ⟨k + 1, l, hid (by rw [HCD4.out]; exact HQ.out), by omega, by go_num, BF, XF.out, YF.out, OF, NE, HEB, EF.out⟩
                            case measure => simp [intOf]; omega
                      · have e9 : k = q3.edges.length := by omega
                        subst e9
                        have hlt4 : ¬ ((q3.edges.length : Int) < (q3.edges.length : Int)) := by omega
                        go_wp2_with fail
                        go_roundw
                        case rel => exact ⟨j + 1, l, hid (by rw [HQ.out, par_next, HL3.out]; simp [List.append_assoc]), by omega, by go_num, B, BX.out, BY.out, HO, NE, HEB, EX.out⟩
                        case measure => simp [intOf]; omega
                  · have e9 : j = s.procs.length := by omega
                    subst e9
                    have hl32 : ¬ ((s.procs.length : Int) < (s.procs.length : Int)) := by omega
                    go_wp2_with fail
                    go_roundw
                    case rel => exact ⟨m + 1, l, hid (by rw [HQ.out, HCD.out, List.append_assoc]), by omega, by go_num, B, BX.out, BY.out, HO⟩
                    case measure => simp [intOf]; omega
        · have e : m = q2.edges.length := by omega
          subst e
          have hlt2 : ¬ ((q2.edges.length : Int) < (q2.edges.length : Int)) := by omega
          have HF := hid (show steps s ls vs n ++ fm (one s ls vs n) q2.edges.length = steps s ls vs (n + 1) by rw [steps_next, HL2.out])
          obtain rfl : l = steps s ls vs (n + 1) := HQ.out.trans HF.out
          go_wp2_with fail
          go_roundw
          case rel => exact ⟨n + 1, by omega, by go_num, B, BX.out, BY.out, HO⟩
          case measure => simp [intOf]; omega
    · have e : n = s.procs.length := by omega
      subst e
      have hl22 : ¬ ((s.procs.length : Int) < (s.procs.length : Int)) := by omega
      have HLN := hid (HSL.out s.procs.length)
      go_wp2_with fail
      refine (clipS_any (steps s ls vs s.procs.length) _ _ w.heap.size (ownsRow_low HO.out (by omega)) (by have := HLN.out; omega)).mono ?_
      rintro _ w8 ⟨v8, rfl, hv8, hb⟩
      have B8 := hid (below_then B.out hb B.out.size)
      have V8 := hid hv8
      clear hb hv8
      go_wp2_with fail
      go_ret
      exact RetP.mk V8.out B8.out
def deadB (s : Sy) (ls vs : List Int) : Bool := State.okSt s ls vs && decide ((steps s ls vs s.procs.length).length = 0)
theorem okSy_one {s : Sy} (h : okSy s = true) : 0 < s.procs.length := by
  rw [okSy] at h
  simp only [Bool.and_eq_true, decide_eq_true_eq] at h
  exact h.2.2.1

set_option maxRecDepth 100000 in
set_option maxHeartbeats 2000000 in
theorem dead_any (s : Sy) (ls vs : List Int) (w : World) (x y : Value) (hx : SyIn Any w s x) (hy : State.PairIn Any w ls vs y) : Calls Try.prog 36 #[x, y] w (Ret (.bool (deadB s ls vs)) w) := by
  have HV := hid (fun (W : World) (M : Below w.heap.size w W) => State.state_any s ls vs W x y (hx.below M) (hy.below M))
  have HS := hid (fun (h : State.okSt s ls vs = true) (W : World) (M : Below w.heap.size w W) => enabled_any s ls vs h (okSy_one (okSt_facts h).1) W x y (hx.below M) (hy.below M))
  have HD := hid (show deadB s ls vs = (State.okSt s ls vs && decide ((steps s ls vs s.procs.length).length = 0)) from rfl)
  obtain ⟨a, c, b, d, rfl⟩ := hx.shape
  obtain ⟨a', b', c', d', rfl, _⟩ := hy
  clear hx
  cases hok : State.okSt s ls vs with
  | false =>
    have E := hid (show deadB s ls vs = false by rw [HD.out, hok]; rfl)
    rw [hok] at HV
    clear hok HS HD
    go_enter Try.func36, Try.ntmps36
    go_wp2_with fail
    refine (HV.out _ (by repeat (first | exact Below.refl _ _ | assumption | refine below_a ?_ _ | refine below_o ?_ _ | refine below_d ?_ | refine below_n ?_ _ | refine below_s ?_ (by first | (simp; done) | (simp; omega) | omega) _))).mono ?_
    rintro _ w1 ⟨rfl, hb⟩
    have B1 := hid (below_next (show Below w.heap.size w _ from below_next (below_alloc _ _) (below_alloc _ _)) hb)
    clear hb
    go_wp2_with fail
    go_ret
    exact Ret.mk (bool_val (by rw [E.out])) B1.out
  | true =>
    have E := hid (show deadB s ls vs = decide ((steps s ls vs s.procs.length).length = 0) by rw [HD.out, hok]; rfl)
    have HS2 := hid (HS.out hok)
    rw [hok] at HV
    clear hok HS HD
    generalize steps s ls vs s.procs.length = l at *
    go_enter Try.func36, Try.ntmps36
    go_wp2_with fail
    refine (HV.out _ (by repeat (first | exact Below.refl _ _ | assumption | refine below_a ?_ _ | refine below_o ?_ _ | refine below_d ?_ | refine below_n ?_ _ | refine below_s ?_ (by first | (simp; done) | (simp; omega) | omega) _))).mono ?_
    rintro _ w1 ⟨rfl, hb⟩
    have X := hid (box2_next hb (box2_next (below_alloc _ _) (box2_at (w := w) (a := .slice a s.init.length c) (b := .slice b s.procs.length d) (t := 36) rfl)))
    have Y := hid (box2_next hb (box2_at (w := w.alloc (.cells #[.slice a s.init.length c, .slice b s.procs.length d] 36)) (B := w.heap.size + 1) (a := .slice a' ls.length c') (b := .slice b' vs.length d') (t := 50) (by simp)))
    have B1 := hid (below_next (show Below w.heap.size w _ from below_next (below_alloc _ _) (below_alloc _ _)) hb)
    clear hb
    obtain ⟨p0, p1, p2, _⟩ := id X.out
    obtain ⟨q0, q1, q2, _⟩ := id Y.out
    go_wp2_with fail
    refine (HS2.out _ B1.out).mono ?_
    rintro _ w2 ⟨v, rfl, hv, hb⟩
    have B2 := hid (below_then B1.out hb B1.out.size)
    clear hb
    rcases hv with ⟨rfl, rfl⟩ | ⟨g, rfl, _⟩
    · go_wp2_with fail
      go_ret
      exact Ret.mk (bool_val (by rw [E.out]; rfl)) B2.out
    · go_wp2_with fail
      go_ret
      exact Ret.mk (bool_val (by rw [E.out, Bool.eq_iff_iff]; simp)) B2.out
end Sys
end Go.Proofs.Ytffadknollkgiaa
