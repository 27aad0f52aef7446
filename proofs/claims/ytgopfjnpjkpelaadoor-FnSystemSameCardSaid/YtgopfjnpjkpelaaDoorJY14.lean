/- Joined texts (FmtSys, LawFnSysSame, ExprTab, VarsNext, ArgRow): contracts and plain laws. Conditions: those of each theorem. -/
import Derived.Test.YtgopfjnpjkpelaaDoorJY13
import Derived.Test.YtgopfjnpjkpelaaDoorJY3
import Derived.Test.YtgopfjnpjkpelaaDoorJY10
import Derived.Test.YtgopfjnpjkpelaaDoorJY11
import Derived.Test.YtgopfjnpjkpelaaDoorJY12
import Derived.Test.YtgopfjnpjkpelaaDoorJY5
import Derived.Deep.DeepCutAuto
import Derived.Deep.CutBlock
import Derived.SliceStrings
import Derived.ProofKit
import Derived.LaidMore
import Derived.OpenShut
import Derived.Stop.Joined
import Derived.Carry
import Derived.ChangeOld
import Derived.ChangeVars
import Derived.Lib.SmallJoins
set_option linter.unusedVariables false
set_option linter.unusedSimpArgs false
namespace Go.Proofs.YtgopfjnpjkpelaaDoor
open Go.RowKit
set_option linter.unusedVariables false
set_option linter.unusedSimpArgs false
namespace Sys

theorem init_at {p : Nat → Prop} {w : World} {a : Option Addr} {l : List Int} (h : IntsIn p w a l) {k : Nat} (hk : k < l.length) : ∃ b o, a = some ⟨b, o, none⟩ ∧ b < w.heap.size ∧ w.cell? ⟨b, o + k, none⟩ = some (.int .i64 l[k]) := by
  rcases h.1 with h0 | ⟨b, o, e, _, h1, h2⟩
  · have h8 : (l.map (Value.int .i64)).length = 0 := by (rw [h0]; rfl)
    rw [List.length_map] at h8; omega
  · exact ⟨b, o, e, h1, h2 k _ (by rw [List.getElem?_map, List.getElem?_eq_getElem hk]; rfl)⟩
set_option maxRecDepth 100000 in
set_option maxHeartbeats 8000000 in
theorem fmtSys_any (hRow : RowC) (s : Sy) (w : World) (x : Value) (hx : SyIn Any w s x) (hSg : Expr.Sg w) : Calls Tryd.prog 7 #[x] w (Ret (.string (bs (if okSy s = true then syT s else []))) w) := by
  have HROW := hid hRow
  have HSG := hid hSg
  have HX := hid hx
  have HVA := hid (fun (W : World) (M : Below w.heap.size w W) => valid_any s W x (HX.out.below M))
  obtain ⟨ax, cx, bx, dx, rfl, hc, hc2, hin, hd, hd2, hP⟩ := hx
  have HIN := hid hin
  have HPR := hid hP
  unfold maxLen at hc2 hd2
  clear hRow hSg hin hP
  cases hok : okSy s with
  | false =>
    rw [hok] at HVA
    have E := hid (show (if (false : Bool) = true then syT s else []) = [] from rfl)
    go_enter Tryd.func7, Tryd.ntmps7
    go_wp2_with fail
    refine (HVA.out _ (by repeat (first | exact Below.refl _ _ | assumption | refine below_a ?_ _ | refine below_o ?_ _ | refine below_d ?_ | refine below_n ?_ _ | refine below_s ?_ (by first | (simp; done) | (simp; omega) | omega) _))).mono ?_
    rintro e w1 ⟨rfl, hb⟩
    go_wp2_with fail
    go_ret
    exact Ret.mk (str_val rfl) (below_next (below_alloc _ _) hb)
  | true =>
    rw [hok] at HVA
    have HOK := hid hok
    have h3 : s.init.length = 3 := by
      have h := hok
      simp only [okSy, Bool.and_eq_true, Expr.okVals, decide_eq_true_eq] at h
      exact h.2.1.2
    have H3 := hid h3
    have hi3 : ∀ (k : Nat) (hk : k < s.init.length), (0 : Int) ≤ s.init[k]'hk ∧ s.init[k]'hk ≤ (3 : Int) := fun k hk => by
      have h := hok
      simp only [okSy, Bool.and_eq_true, Expr.okVals, List.all_eq_true, Expr.inV, decide_eq_true_eq] at h
      exact h.2.1.1 _ (List.getElem_mem _)
    obtain ⟨i0, hi0⟩ : ∃ n, Hid (n = s.init[0]) := ⟨_, hid rfl⟩
    obtain ⟨i1, hi1⟩ : ∃ n, Hid (n = s.init[1]) := ⟨_, hid rfl⟩
    obtain ⟨i2, hi2⟩ : ∃ n, Hid (n = s.init[2]) := ⟨_, hid rfl⟩
    have hb0 : 0 ≤ i0 ∧ i0 ≤ 4 := by rw [hi0.out]; have := hi3 0 (by omega); omega
    have hb1 : 0 ≤ i1 ∧ i1 ≤ 4 := by rw [hi1.out]; have := hi3 1 (by omega); omega
    have hb2 : 0 ≤ i2 ∧ i2 ≤ 4 := by rw [hi2.out]; have := hi3 2 (by omega); omega
    obtain ⟨bi, oi, rfl, hbi, hci0⟩ := init_at HIN.out (k := 0) (by omega)
    clear hci0
    have HC := hid (show w.cell? ⟨bi, oi, none⟩ = some (.int .i64 i0) ∧ w.cell? ⟨bi, oi + 1, none⟩ = some (.int .i64 i1) ∧ w.cell? ⟨bi, oi + 2, none⟩ = some (.int .i64 i2) from by
      obtain ⟨b0, o0, e0, _, c0⟩ := init_at HIN.out (k := 0) (by omega)
      obtain ⟨b1, o1, e1, _, c1⟩ := init_at HIN.out (k := 1) (by omega)
      obtain ⟨b2, o2, e2, _, c2⟩ := init_at HIN.out (k := 2) (by omega)
      simp at e0 e1 e2
      obtain ⟨rfl, rfl⟩ := e0
      obtain ⟨rfl, rfl⟩ := e1
      obtain ⟨rfl, rfl⟩ := e2
      rw [hi0.out, hi1.out, hi2.out]
      exact ⟨by simpa using c0, c1, c2⟩)
    have hlen0 : (0 : Int) < (s.init.length : Int) := by omega
    have hlen1 : (1 : Int) < (s.init.length : Int) := by omega
    have hlen2 : (2 : Int) < (s.init.length : Int) := by omega
    have HSI := hid (show iniT s.init = [115, 121, 115, 116, 101, 109, 32] ++ (dig i0 ++ (32 :: (dig i1 ++ (32 :: (dig i2 ++ [10]))))) from by
      rw [hi0.out, hi1.out, hi2.out, iniT]
      congr 1
      simp [List.getD_eq_getElem?_getD, h3])
    clear hi3 hi0 hi1 hi2 hok h3
    go_enter Tryd.func7, Tryd.ntmps7
    go_wp2_with fail
    refine (HVA.out _ (by repeat (first | exact Below.refl _ _ | assumption | refine below_a ?_ _ | refine below_o ?_ _ | refine below_d ?_ | refine below_n ?_ _ | refine below_s ?_ (by first | (simp; done) | (simp; omega) | omega) _))).mono ?_
    rintro e w1 ⟨rfl, hb⟩
    have P1 := hid (boxp_next hb (boxp_at (w := w) (B := w.heap.size) (a := .slice (some ⟨bi, oi, none⟩) s.init.length cx) (b := .slice bx s.procs.length dx) (t := 26) rfl))
    have B1 := hid (below_next (below_alloc w (.cells #[.slice (some ⟨bi, oi, none⟩) s.init.length cx, .slice bx s.procs.length dx] 26)) hb)
    clear hb
    obtain ⟨p0, p1, p2, p3, p4⟩ := P1.out
    have hbi1 : bi < w1.heap.size := Nat.lt_of_lt_of_le hbi B1.out.size
    have c0 : w1.cell? ⟨bi, oi, none⟩ = some (.int .i64 i0) := (B1.out.cell (p := ⟨bi, oi, none⟩) hbi).trans HC.out.1
    have c1 : w1.cell? ⟨bi, oi + 1, none⟩ = some (.int .i64 i1) := (B1.out.cell (p := ⟨bi, oi + 1, none⟩) hbi).trans HC.out.2.1
    have c2 : w1.cell? ⟨bi, oi + 2, none⟩ = some (.int .i64 i2) := (B1.out.cell (p := ⟨bi, oi + 2, none⟩) hbi).trans HC.out.2.2
    go_wp2_with fail
    refine wp_region_ord (C := fun wZ => ∃ xZ, wZ = World.over _ xZ) [0,1,2,3,5,6,7,8,10,11,12,13] (.one 4 (.one 9 (.one 14 (.one 15 (.one 16 (.fre 17 .done)))))) [17] (by kernel_rfl) (by kernel_rfl) (fun d _ _ _ _ h => by cases d <;> exact h) (bex (Below.refl _ _).drew) ?_; simp only [pick, List.getElem?_cons_succ, List.getElem?_cons_zero]; (repeat (go_big_quiet_step (fail))); refine wpQuiet_nil ?_; simp only [ordW, pick, List.getElem?_cons_succ, List.getElem?_cons_zero]
    have D1 := below_d (Below.refl w1.heap.size w1)
    go_wp2_with fail
    refine (ditoa_any i0 hb0 _).mono ?_
    rintro e w2 ⟨rfl, hb⟩
    have D2 := hid (below_next D1 hb)
    clear hb D1
    go_wp2_with fail
    refine ⟨bex D2.out, ?_⟩
    go_wp2_with fail
    refine (ditoa_any i1 hb1 _).mono ?_
    rintro e w3 ⟨rfl, hb⟩
    have D3 := hid (below_next D2.out hb)
    clear hb D2
    go_wp2_with fail
    refine ⟨bex D3.out, ?_⟩
    go_wp2_with fail
    refine (ditoa_any i2 hb2 _).mono ?_
    rintro e w4 ⟨rfl, hb⟩
    have D4 := hid (below_next D3.out hb)
    clear hb D3
    go_wp2_with fail
    refine ⟨bex D4.out, ?_⟩
    have W5 := hid (below_next D4.out (below_alloc w4 (.cells #[.string ⟨#[115, 121, 115, 116, 101, 109]⟩, .string (bs (dig i0)), .string (bs (dig i1)), .string (bs (dig i2))] 9)))
    have HR := hid (HROW.out [[115, 121, 115, 116, 101, 109], dig i0, dig i1, dig i2] (w4.alloc (.cells #[.string ⟨#[115, 121, 115, 116, 101, 109]⟩, .string (bs (dig i0)), .string (bs (dig i1)), .string (bs (dig i2))] 9)) w4.heap.size (by simp) (by simp) (fun j x hj => by
      match j, hj with
      | 0, hj => simp at hj; subst hj; exact ⟨by simp; rfl, by simp⟩
      | 1, hj => simp at hj; subst hj; exact ⟨by simp, by simp [dig]⟩
      | 2, hj => simp at hj; subst hj; exact ⟨by simp, by simp [dig]⟩
      | 3, hj => simp at hj; subst hj; exact ⟨by simp, by simp [dig]⟩
      | j + 4, hj => simp at hj) (by simp))
    go_wp2_with fail
    refine ⟨bex W5.out, ?_⟩
    go_wp2_with fail
    refine HR.out.mono ?_
    rintro e w6 ⟨rfl, hb⟩
    have B6 := hid (below_next W5.out hb)
    clear hb HR D4 W5
    have Q6 := hid (boxp_next B6.out P1.out)
    have BW := hid (below_next B1.out B6.out)
    have T0 := hid (show bs (joinT [[115, 121, 115, 116, 101, 109], dig i0, dig i1, dig i2] ++ [10]) = bs (iniT s.init ++ prsT (s.procs.take 0)) from by
      rw [HSI.out]; simp [joinT, prsT])
    obtain ⟨X0, hX0⟩ : ∃ X, Hid (X = iniT s.init ++ prsT (s.procs.take 0)) := ⟨_, hid rfl⟩
    rw [T0.out, ← hX0.out]
    clear T0 HSI
    obtain ⟨q0, q1, q2, q3, q4⟩ := Q6.out
    have hlenP : s.procs.length ≤ 3 := by
      have h := HOK.out
      simp only [okSy, Bool.and_eq_true, decide_eq_true_eq] at h
      exact h.2.2.2
    go_wp2_with fail
    refine ⟨bex B6.out, ?_⟩
    go_wp2_with fail
    clear Q6 P1 q0 q1 q2 q3 q4 p0 p1 p2 p3 p4 c0 c1 c2 HX HVA HC HIN
    go_loopw [3, 32] (fun t i wr => ∃ (k : Nat) (X : List UInt8), k ≤ s.procs.length ∧ t = .string (bs X) ∧ i = .int .i64 k ∧ Hid (Below w.heap.size w wr) ∧ Hid (X = iniT s.init ++ prsT (s.procs.take k))) (fun _ i _ => s.procs.length - (intOf i).toNat)
    case atStart => exact ⟨0, X0, Nat.zero_le _, rfl, rfl, BW, hX0⟩
    case round =>
      obtain ⟨k, X, hk, rfl, rfl, B, hX⟩ := hrel
      obtain ⟨wi, rfl⟩ : ∃ wi : World, wi = wr := ⟨_, rfl⟩
      by_cases hlt : k < s.procs.length
      · obtain ⟨bb, oo, rfl, _, hbb, a1, c1, ⟨g0, g1⟩, hT⟩ := SeqIn.at (PrsIn.below HPR.out B.out) hlt
        have hokq := HOK.out
        simp only [okSy, Bool.and_eq_true, List.all_eq_true] at hokq
        have hokq := hokq.1 _ (List.getElem_mem hlt)
        have HTK := hid (show iniT s.init ++ prsT (s.procs.take (k + 1)) = X ++ prT s.procs[k] by rw [prs_take hlt, hX.out, List.append_assoc])
        have hXl : X.length ≤ 7000 := by rw [hX.out]; exact txt_so_far HOK.out k
        have hlt2 : (k : Int) < (s.procs.length : Int) := by omega
        generalize s.procs[k] = q at *
        obtain ⟨_, _, he1, _, hc1, hc12, hed⟩ := hT
        simp at he1
        obtain ⟨rfl, rfl⟩ := he1
        have HED := hid hed
        unfold maxLen at hc12
        have HOQ := hid hokq
        have hlq : 0 ≤ q.locs ∧ q.locs ≤ 4 := by
          simp only [okP, Bool.and_eq_true, decide_eq_true_eq] at hokq
          omega
        have HZ := hid (show prT q = joinT [[112, 114, 111, 99, 101, 115, 115], dig q.locs] ++ [10] ++ edsT (q.edges.take q.edges.length) from by
          rw [List.take_length]; simp [prT, joinT])
        clear hed hX
        have N0 := below_alloc wi (.cells #[.int .i64 q.locs, .slice a1 q.edges.length c1] 41)
        go_wp2_with fail
        refine (ditoa_any q.locs hlq _).mono ?_
        rintro e w7 ⟨rfl, hb⟩
        have X7 := hid (boxp_next hb (boxp_at (w := wi) (B := wi.heap.size) (a := .int .i64 q.locs) (b := .slice a1 q.edges.length c1) (t := 41) rfl))
        have M7 := hid (below_next N0 hb)
        clear hb N0
        have M8 := hid (below_next M7.out (below_alloc w7 (.cells #[.string ⟨#[112, 114, 111, 99, 101, 115, 115]⟩, .string (bs (dig q.locs))] 9)))
        have HR := hid (HROW.out [[112, 114, 111, 99, 101, 115, 115], dig q.locs] (w7.alloc (.cells #[.string ⟨#[112, 114, 111, 99, 101, 115, 115]⟩, .string (bs (dig q.locs))] 9)) w7.heap.size (by simp) (by simp) (fun j x hj => by
          match j, hj with
          | 0, hj => simp at hj; subst hj; exact ⟨by simp; rfl, by simp⟩
          | 1, hj => simp at hj; subst hj; exact ⟨by simp, by simp [dig]⟩
          | j + 2, hj => simp at hj) (by simp))
        have hRl : (joinT [[112, 114, 111, 99, 101, 115, 115], dig q.locs] ++ [10]).length ≤ 20 := by simp [joinT, dig]
        obtain ⟨R, hR⟩ : ∃ R, R = joinT [[112, 114, 111, 99, 101, 115, 115], dig q.locs] ++ [10] := ⟨_, rfl⟩
        rw [← hR] at HR HZ hRl
        clear hR
        have hsz : ¬ 9223372036854775807 < (bs X).size + (bs R).size := by rw [bs_size, bs_size]; omega
        have X8 := hid (boxp_next (below_alloc w7 (.cells #[.string ⟨#[112, 114, 111, 99, 101, 115, 115]⟩, .string (bs (dig q.locs))] 9)) X7.out)
        go_wp2_with fail
        refine HR.out.mono ?_
        rintro e w8 ⟨rfl, hb⟩
        obtain ⟨x0, x1, x2, x3, x4⟩ := boxp_next hb X8.out
        have M9 := hid (below_next M8.out hb)
        clear hb M8 HR X8 X7 M7
        go_wp2_with fail
        go_loopw [3, 46] (fun t i wr => ∃ (j : Nat) (Y : List UInt8), j ≤ q.edges.length ∧ t = .string (bs Y) ∧ i = .int .i64 j ∧ Hid (Below wi.heap.size wi wr) ∧ Hid (Y = X ++ R ++ edsT (q.edges.take j))) (fun _ i _ => q.edges.length - (intOf i).toNat)
        case atStart => exact ⟨0, X ++ R, Nat.zero_le _, str_val (bs_append X R), rfl, M9, hid (by simp [edsT])⟩
        case round =>
          obtain ⟨j, Y, hj, rfl, rfl, B2, hY⟩ := hrel
          obtain ⟨wj, rfl⟩ : ∃ wj : World, wj = wr := ⟨_, rfl⟩
          by_cases hje : j < q.edges.length
          · obtain ⟨be, oe, rfl, _, hbe, e1, e2, e3, e4, ⟨s0, s1, s2, s3, s4, s5, s6, s7, s8, s9⟩, hT⟩ := SeqIn.at (EdsIn.below HED.out B2.out) hje
            have hoke := HOQ.out
            simp only [okP, Bool.and_eq_true, List.all_eq_true] at hoke
            have hoke := hoke.1 _ (List.getElem_mem hje)
            have HTK2 := hid (show X ++ R ++ edsT (q.edges.take (j + 1)) = Y ++ edT q.edges[j] by rw [eds_take hje, hY.out]; simp only [List.append_assoc])
            have hYl : (bs Y).size ≤ 10000 := by
              have := eds_so_far HOQ.out j
              rw [bs_size, hY.out]; simp only [List.length_append]; omega
            have hje2 : (j : Int) < (q.edges.length : Int) := by omega
            generalize q.edges[j] = ee at *
            have HAL := hid (asg_len hoke)
            have HEL := hid (ed_len hoke)
            obtain ⟨src, dst, gd, var, val, syn⟩ := ee
            simp only [Edge.okB, Edge.okV, Bool.and_eq_true, decide_eq_true_eq] at hoke
            obtain ⟨⟨k1, k2, k3⟩, k4, k5, k6, k7⟩ := hoke
            have hs1 : 0 ≤ src ∧ src ≤ 4 := by omega
            have hs2 : 0 ≤ dst ∧ dst ≤ 4 := by omega
            obtain ⟨_, _, _, _, he, _, _, _, _, hg, hv⟩ := hT
            simp at he
            obtain ⟨⟨rfl, rfl⟩, rfl, rfl⟩ := he
            have N0 := hid (below_next B.out (below_next B2.out (below_alloc wj (.cells #[.int .i64 src, .int .i64 dst, .int .i64 gd.kind, .int .i64 gd.val, .slice e1 gd.kids.length e2, .int .i64 var, .int .i64 val.kind, .int .i64 val.val, .slice e3 val.kids.length e4, .int .i64 syn] 47))))
            have N1 := hid (below_next B2.out (below_alloc wj (.cells #[.int .i64 src, .int .i64 dst, .int .i64 gd.kind, .int .i64 gd.val, .slice e1 gd.kids.length e2, .int .i64 var, .int .i64 val.kind, .int .i64 val.val, .slice e3 val.kids.length e4, .int .i64 syn] 47)))
            have BX := hid (box10_at (w := wj) rfl (.int .i64 src) (.int .i64 dst) (.int .i64 gd.kind) (.int .i64 gd.val) (.slice e1 gd.kids.length e2) (.int .i64 var) (.int .i64 val.kind) (.int .i64 val.val) (.slice e3 val.kids.length e4) (.int .i64 syn) 47)
            have HGW := hid (TrIn_below (below_alloc wj (.cells #[.int .i64 src, .int .i64 dst, .int .i64 gd.kind, .int .i64 gd.val, .slice e1 gd.kids.length e2, .int .i64 var, .int .i64 val.kind, .int .i64 val.val, .slice e3 val.kids.length e4, .int .i64 syn] 47)) hg)
            have HVW := hid (TrIn_below (below_alloc wj (.cells #[.int .i64 src, .int .i64 dst, .int .i64 gd.kind, .int .i64 gd.val, .slice e1 gd.kids.length e2, .int .i64 var, .int .i64 val.kind, .int .i64 val.val, .slice e3 val.kids.length e4, .int .i64 syn] 47)) hv)
            have hvar : var = -1 ∨ var = 0 ∨ var = 1 ∨ var = 2 := by omega
            have K4 := hid (val_nodes k4)
            have HGL := hid (val_len k4)
            clear hg hv hY k1 k2 k3 k4 k6
            dsimp only at s0 s1 s2 s3 s4 s5 s6 s7 s8 s9
            rcases hvar with rfl | hvar
            · go_wp2_with fail
              clear s0 s1 s2 s3 s4 s5 s6 s7 s8 s9
              generalize wj.alloc (.cells #[.int .i64 src, .int .i64 dst, .int .i64 gd.kind, .int .i64 gd.val, .slice e1 gd.kids.length e2, .int .i64 (-1), .int .i64 val.kind, .int .i64 val.val, .slice e3 val.kids.length e4, .int .i64 syn] 47) = w9 at *
              have HTG := hid (fun (W : World) (M : Below w9.heap.size w9 W) => Expr.tx_any gd 6 W _ (K4.out).1 (K4.out).2 (TrIn_below M HGW.out) (Expr.Sg_below (below_next N0.out M) HSG.out))
              obtain ⟨f, ⟨f0, f1, f2, f3, f4, f5, f6, f7, f8, f9⟩, _⟩ := BX.out
              have HAV := hid (show (⟨#[45]⟩ : ByteArray) = bs (asgT ⟨src, dst, gd, -1, val, syn⟩) from rfl)
              refine wp_region_ord (C := fun wZ => ∃ xZ, wZ = World.over _ xZ) [0,1,2,4,5,7,8,10,11,12] (.one 3 (.one 6 (.one 9 (.one 13 (.one 14 (.one 15 (.one 16 (.fre 17 .done)))))))) [17] (by kernel_rfl) (by kernel_rfl) (fun d _ _ _ _ h => by cases d <;> exact h) (bex (Below.refl _ _).drew) ?_; simp only [pick, List.getElem?_cons_succ, List.getElem?_cons_zero]; (repeat (go_big_quiet_step (fail))); refine wpQuiet_nil ?_; simp only [ordW, pick, List.getElem?_cons_succ, List.getElem?_cons_zero]
              have D1 := below_d (Below.refl w9.heap.size w9)
              go_wp2_with fail
              refine (ditoa_any src hs1 _).mono ?_
              rintro e w10 ⟨rfl, hb⟩
              have D2 := hid (below_next D1 hb)
              clear hb D1
              go_wp2_with fail
              refine ⟨bex D2.out, ?_⟩
              go_wp2_with fail
              refine (ditoa_any dst hs2 _).mono ?_
              rintro e w11 ⟨rfl, hb⟩
              have D3 := hid (below_next D2.out hb)
              clear hb D2
              go_wp2_with fail
              refine ⟨bex D3.out, ?_⟩
              go_wp2_with fail
              refine (HTG.out _ D3.out).mono ?_
              rintro e w12 ⟨rfl, hb⟩
              have D4 := hid (below_next D3.out hb)
              clear hb D3
              go_wp2_with fail
              refine ⟨bex D4.out, ?_⟩
              go_wp2_with fail
              refine (syncT_any syn k5 _).mono ?_
              rintro e w13 ⟨rfl, hb⟩
              have D5 := hid (below_next D4.out hb)
              clear hb D4
              go_wp2_with fail
              refine ⟨bex D5.out, ?_⟩
              have W5 := hid (below_next D5.out (below_alloc w13 (.cells #[.string ⟨#[101, 100, 103, 101]⟩, .string (bs (dig src)), .string (bs (dig dst)), .string (bs (exprT.txt gd)), .string (⟨#[45]⟩), .string (bs (syncT syn))] 9)))
              have HR := hid (HROW.out [[101, 100, 103, 101], dig src, dig dst, exprT.txt gd, asgT ⟨src, dst, gd, -1, val, syn⟩, syncT syn] (w13.alloc (.cells #[.string ⟨#[101, 100, 103, 101]⟩, .string (bs (dig src)), .string (bs (dig dst)), .string (bs (exprT.txt gd)), .string (⟨#[45]⟩), .string (bs (syncT syn))] 9)) w13.heap.size (by simp) (by simp) (fun j x hj => by
                match j, hj with
                | 0, hj => simp at hj; subst hj; exact ⟨by simp; rfl, by simp⟩
                | 1, hj => simp at hj; subst hj; exact ⟨by simp, by simp [dig]⟩
                | 2, hj => simp at hj; subst hj; exact ⟨by simp, by simp [dig]⟩
                | 3, hj => simp at hj; subst hj; exact ⟨by simp, by have := HGL.out; omega⟩
                | 4, hj => simp at hj; subst hj; exact ⟨by rw [← HAV.out]; simp, by have := HAL.out; omega⟩
                | 5, hj => simp at hj; subst hj; exact ⟨by simp, by have := sync_len syn; omega⟩
                | j + 6, hj => simp at hj) (by simp))
              rw [show joinT [[101, 100, 103, 101], dig src, dig dst, exprT.txt gd, asgT ⟨src, dst, gd, -1, val, syn⟩, syncT syn] ++ [10] = edT ⟨src, dst, gd, -1, val, syn⟩ from by simp [joinT, edT]] at HR
              have hEl : (bs (edT ⟨src, dst, gd, -1, val, syn⟩)).size ≤ 300 := by rw [bs_size]; exact HEL.out
              have hYE : ¬ 9223372036854775807 < (bs Y).size + (bs (edT ⟨src, dst, gd, -1, val, syn⟩)).size := by omega
              go_wp2_with fail
              refine ⟨bex W5.out, ?_⟩
              go_wp2_with fail
              refine HR.out.mono ?_
              rintro e w14 ⟨rfl, hb⟩
              have D6 := hid (below_next W5.out hb)
              have D7 := hid (below_next N1.out D6.out)
              clear hb W5 HR D5
              go_wp2_with fail
              refine ⟨bex D6.out, ?_⟩
              go_wp2_with fail
              refine ⟨bex D6.out, ?_⟩
              go_wp2_with fail
              go_roundw
              case rel => exact ⟨j + 1, Y ++ edT ⟨src, dst, gd, -1, val, syn⟩, by omega, str_val (bs_append _ _), by go_num, D7, hid (by rw [HTK2.out])⟩
              case measure => simp [intOf]; omega
            · have k7' : exprL.valid val = true := by rw [if_neg (by omega)] at k7; exact k7
              have K7 := hid (val_nodes k7')
              have hvl : (bs (exprT.txt val)).size ≤ 100 := by rw [bs_size]; have := val_len k7'; omega
              clear k7 k7'
              rcases hvar with rfl | rfl | rfl
              · go_wp2_with fail
                clear s0 s1 s2 s3 s4 s5 s6 s7 s8 s9
                generalize wj.alloc (.cells #[.int .i64 src, .int .i64 dst, .int .i64 gd.kind, .int .i64 gd.val, .slice e1 gd.kids.length e2, .int .i64 0, .int .i64 val.kind, .int .i64 val.val, .slice e3 val.kids.length e4, .int .i64 syn] 47) = w0 at *
                obtain ⟨f, ⟨f0, f1, f2, f3, f4, f5, f6, f7, f8, f9⟩, _⟩ := BX.out
                refine wp_region_over (by kernel_rfl) (by kernel_rfl) ?_; (repeat (go_big_quiet_step ((go_at_call 22; exact Calls.over (Expr.tx_any val 6 _ _ (K7.out).1 (K7.out).2 (TrIn_over HVW.out _) (Expr.Sg_over (Expr.Sg_below N0.out HSG.out) _)))))); refine wpQuiet_nil ?_; rintro _ ⟨xq, rfl⟩
                go_wp2_with fail
                have HAV0 := hid (show (⟨#[120, 121, 122]⟩ : ByteArray).extract 0 1 ++ ⟨#[58, 61]⟩ ++ bs (exprT.txt val) = bs (asgT ⟨src, dst, gd, 0, val, syn⟩) from by
                  rw [show ((⟨#[120, 121, 122]⟩ : ByteArray).extract 0 1 ++ ⟨#[58, 61]⟩ : ByteArray) = bs [120, 58, 61] from rfl, bs_append]
                  rfl)
                obtain ⟨AV, hAV⟩ : ∃ AV, AV = (⟨#[120, 121, 122]⟩ : ByteArray).extract 0 1 ++ ⟨#[58, 61]⟩ ++ bs (exprT.txt val) := ⟨_, rfl⟩
                rw [← hAV] at HAV0
                rw [← hAV]
                have HAV := HAV0
                clear hAV HAV0
                have N0' := hid (below_next N0.out (over_below w0 xq))
                have N1' := hid (below_next N1.out (over_below w0 xq))
                have HGW' := hid (TrIn_over HGW.out xq)
                have BX' := hid (box10_next (over_below w0 xq) BX.out)
                clear N0 N1 HGW BX HVW f f0 f1 f2 f3 f4 f5 f6 f7 f8 f9
                obtain ⟨w9, hw9⟩ : ∃ w9, w9 = w0.over xq := ⟨_, rfl⟩
                rw [← hw9] at N0' N1' HGW' BX'
                rw [← hw9]
                clear hw9
                have HTG := hid (fun (W : World) (M : Below w9.heap.size w9 W) => Expr.tx_any gd 6 W _ (K4.out).1 (K4.out).2 (TrIn_below M HGW'.out) (Expr.Sg_below (below_next N0'.out M) HSG.out))
                have N1 := N1'
                obtain ⟨f, ⟨f0, f1, f2, f3, f4, f5, f6, f7, f8, f9⟩, _⟩ := BX'.out
                refine wp_region_ord (C := fun wZ => ∃ xZ, wZ = World.over _ xZ) [0,1,2,4,5,7,8,10,11,12] (.one 3 (.one 6 (.one 9 (.one 13 (.one 14 (.one 15 (.one 16 (.fre 17 .done)))))))) [17] (by kernel_rfl) (by kernel_rfl) (fun d _ _ _ _ h => by cases d <;> exact h) (bex (Below.refl _ _).drew) ?_; simp only [pick, List.getElem?_cons_succ, List.getElem?_cons_zero]; (repeat (go_big_quiet_step (fail))); refine wpQuiet_nil ?_; simp only [ordW, pick, List.getElem?_cons_succ, List.getElem?_cons_zero]
                have D1 := below_d (Below.refl w9.heap.size w9)
                go_wp2_with fail
                refine (ditoa_any src hs1 _).mono ?_
                rintro e w10 ⟨rfl, hb⟩
                have D2 := hid (below_next D1 hb)
                clear hb D1
                go_wp2_with fail
                refine ⟨bex D2.out, ?_⟩
                go_wp2_with fail
                refine (ditoa_any dst hs2 _).mono ?_
                rintro e w11 ⟨rfl, hb⟩
                have D3 := hid (below_next D2.out hb)
                clear hb D2
                go_wp2_with fail
                refine ⟨bex D3.out, ?_⟩
                go_wp2_with fail
                refine (HTG.out _ D3.out).mono ?_
                rintro e w12 ⟨rfl, hb⟩
                have D4 := hid (below_next D3.out hb)
                clear hb D3
                go_wp2_with fail
                refine ⟨bex D4.out, ?_⟩
                go_wp2_with fail
                refine (syncT_any syn k5 _).mono ?_
                rintro e w13 ⟨rfl, hb⟩
                have D5 := hid (below_next D4.out hb)
                clear hb D4
                go_wp2_with fail
                refine ⟨bex D5.out, ?_⟩
                have W5 := hid (below_next D5.out (below_alloc w13 (.cells #[.string ⟨#[101, 100, 103, 101]⟩, .string (bs (dig src)), .string (bs (dig dst)), .string (bs (exprT.txt gd)), .string (AV), .string (bs (syncT syn))] 9)))
                have HR := hid (HROW.out [[101, 100, 103, 101], dig src, dig dst, exprT.txt gd, asgT ⟨src, dst, gd, 0, val, syn⟩, syncT syn] (w13.alloc (.cells #[.string ⟨#[101, 100, 103, 101]⟩, .string (bs (dig src)), .string (bs (dig dst)), .string (bs (exprT.txt gd)), .string (AV), .string (bs (syncT syn))] 9)) w13.heap.size (by simp) (by simp) (fun j x hj => by
                  match j, hj with
                  | 0, hj => simp at hj; subst hj; exact ⟨by simp; rfl, by simp⟩
                  | 1, hj => simp at hj; subst hj; exact ⟨by simp, by simp [dig]⟩
                  | 2, hj => simp at hj; subst hj; exact ⟨by simp, by simp [dig]⟩
                  | 3, hj => simp at hj; subst hj; exact ⟨by simp, by have := HGL.out; omega⟩
                  | 4, hj => simp at hj; subst hj; exact ⟨by rw [← HAV.out]; simp, by have := HAL.out; omega⟩
                  | 5, hj => simp at hj; subst hj; exact ⟨by simp, by have := sync_len syn; omega⟩
                  | j + 6, hj => simp at hj) (by simp))
                rw [show joinT [[101, 100, 103, 101], dig src, dig dst, exprT.txt gd, asgT ⟨src, dst, gd, 0, val, syn⟩, syncT syn] ++ [10] = edT ⟨src, dst, gd, 0, val, syn⟩ from by simp [joinT, edT]] at HR
                have hEl : (bs (edT ⟨src, dst, gd, 0, val, syn⟩)).size ≤ 300 := by rw [bs_size]; exact HEL.out
                have hYE : ¬ 9223372036854775807 < (bs Y).size + (bs (edT ⟨src, dst, gd, 0, val, syn⟩)).size := by omega
                go_wp2_with fail
                refine ⟨bex W5.out, ?_⟩
                go_wp2_with fail
                refine HR.out.mono ?_
                rintro e w14 ⟨rfl, hb⟩
                have D6 := hid (below_next W5.out hb)
                have D7 := hid (below_next N1.out D6.out)
                clear hb W5 HR D5
                go_wp2_with fail
                refine ⟨bex D6.out, ?_⟩
                go_wp2_with fail
                refine ⟨bex D6.out, ?_⟩
                go_wp2_with fail
                go_roundw
                case rel => exact ⟨j + 1, Y ++ edT ⟨src, dst, gd, 0, val, syn⟩, by omega, str_val (bs_append _ _), by go_num, D7, hid (by rw [HTK2.out])⟩
                case measure => simp [intOf]; omega
              · go_wp2_with fail
                clear s0 s1 s2 s3 s4 s5 s6 s7 s8 s9
                generalize wj.alloc (.cells #[.int .i64 src, .int .i64 dst, .int .i64 gd.kind, .int .i64 gd.val, .slice e1 gd.kids.length e2, .int .i64 1, .int .i64 val.kind, .int .i64 val.val, .slice e3 val.kids.length e4, .int .i64 syn] 47) = w0 at *
                obtain ⟨f, ⟨f0, f1, f2, f3, f4, f5, f6, f7, f8, f9⟩, _⟩ := BX.out
                refine wp_region_over (by kernel_rfl) (by kernel_rfl) ?_; (repeat (go_big_quiet_step ((go_at_call 22; exact Calls.over (Expr.tx_any val 6 _ _ (K7.out).1 (K7.out).2 (TrIn_over HVW.out _) (Expr.Sg_over (Expr.Sg_below N0.out HSG.out) _)))))); refine wpQuiet_nil ?_; rintro _ ⟨xq, rfl⟩
                go_wp2_with fail
                have HAV0 := hid (show (⟨#[120, 121, 122]⟩ : ByteArray).extract 1 2 ++ ⟨#[58, 61]⟩ ++ bs (exprT.txt val) = bs (asgT ⟨src, dst, gd, 1, val, syn⟩) from by
                  rw [show ((⟨#[120, 121, 122]⟩ : ByteArray).extract 1 2 ++ ⟨#[58, 61]⟩ : ByteArray) = bs [121, 58, 61] from rfl, bs_append]
                  rfl)
                obtain ⟨AV, hAV⟩ : ∃ AV, AV = (⟨#[120, 121, 122]⟩ : ByteArray).extract 1 2 ++ ⟨#[58, 61]⟩ ++ bs (exprT.txt val) := ⟨_, rfl⟩
                rw [← hAV] at HAV0
                rw [← hAV]
                have HAV := HAV0
                clear hAV HAV0
                have N0' := hid (below_next N0.out (over_below w0 xq))
                have N1' := hid (below_next N1.out (over_below w0 xq))
                have HGW' := hid (TrIn_over HGW.out xq)
                have BX' := hid (box10_next (over_below w0 xq) BX.out)
                clear N0 N1 HGW BX HVW f f0 f1 f2 f3 f4 f5 f6 f7 f8 f9
                obtain ⟨w9, hw9⟩ : ∃ w9, w9 = w0.over xq := ⟨_, rfl⟩
                rw [← hw9] at N0' N1' HGW' BX'
                rw [← hw9]
                clear hw9
                have HTG := hid (fun (W : World) (M : Below w9.heap.size w9 W) => Expr.tx_any gd 6 W _ (K4.out).1 (K4.out).2 (TrIn_below M HGW'.out) (Expr.Sg_below (below_next N0'.out M) HSG.out))
                have N1 := N1'
                obtain ⟨f, ⟨f0, f1, f2, f3, f4, f5, f6, f7, f8, f9⟩, _⟩ := BX'.out
                refine wp_region_ord (C := fun wZ => ∃ xZ, wZ = World.over _ xZ) [0,1,2,4,5,7,8,10,11,12] (.one 3 (.one 6 (.one 9 (.one 13 (.one 14 (.one 15 (.one 16 (.fre 17 .done)))))))) [17] (by kernel_rfl) (by kernel_rfl) (fun d _ _ _ _ h => by cases d <;> exact h) (bex (Below.refl _ _).drew) ?_; simp only [pick, List.getElem?_cons_succ, List.getElem?_cons_zero]; (repeat (go_big_quiet_step (fail))); refine wpQuiet_nil ?_; simp only [ordW, pick, List.getElem?_cons_succ, List.getElem?_cons_zero]
                have D1 := below_d (Below.refl w9.heap.size w9)
                go_wp2_with fail
                refine (ditoa_any src hs1 _).mono ?_
                rintro e w10 ⟨rfl, hb⟩
                have D2 := hid (below_next D1 hb)
                clear hb D1
                go_wp2_with fail
                refine ⟨bex D2.out, ?_⟩
                go_wp2_with fail
                refine (ditoa_any dst hs2 _).mono ?_
                rintro e w11 ⟨rfl, hb⟩
                have D3 := hid (below_next D2.out hb)
                clear hb D2
                go_wp2_with fail
                refine ⟨bex D3.out, ?_⟩
                go_wp2_with fail
                refine (HTG.out _ D3.out).mono ?_
                rintro e w12 ⟨rfl, hb⟩
                have D4 := hid (below_next D3.out hb)
                clear hb D3
                go_wp2_with fail
                refine ⟨bex D4.out, ?_⟩
                go_wp2_with fail
                refine (syncT_any syn k5 _).mono ?_
                rintro e w13 ⟨rfl, hb⟩
                have D5 := hid (below_next D4.out hb)
                clear hb D4
                go_wp2_with fail
                refine ⟨bex D5.out, ?_⟩
                have W5 := hid (below_next D5.out (below_alloc w13 (.cells #[.string ⟨#[101, 100, 103, 101]⟩, .string (bs (dig src)), .string (bs (dig dst)), .string (bs (exprT.txt gd)), .string (AV), .string (bs (syncT syn))] 9)))
                have HR := hid (HROW.out [[101, 100, 103, 101], dig src, dig dst, exprT.txt gd, asgT ⟨src, dst, gd, 1, val, syn⟩, syncT syn] (w13.alloc (.cells #[.string ⟨#[101, 100, 103, 101]⟩, .string (bs (dig src)), .string (bs (dig dst)), .string (bs (exprT.txt gd)), .string (AV), .string (bs (syncT syn))] 9)) w13.heap.size (by simp) (by simp) (fun j x hj => by
                  match j, hj with
                  | 0, hj => simp at hj; subst hj; exact ⟨by simp; rfl, by simp⟩
                  | 1, hj => simp at hj; subst hj; exact ⟨by simp, by simp [dig]⟩
                  | 2, hj => simp at hj; subst hj; exact ⟨by simp, by simp [dig]⟩
                  | 3, hj => simp at hj; subst hj; exact ⟨by simp, by have := HGL.out; omega⟩
                  | 4, hj => simp at hj; subst hj; exact ⟨by rw [← HAV.out]; simp, by have := HAL.out; omega⟩
                  | 5, hj => simp at hj; subst hj; exact ⟨by simp, by have := sync_len syn; omega⟩
                  | j + 6, hj => simp at hj) (by simp))
                rw [show joinT [[101, 100, 103, 101], dig src, dig dst, exprT.txt gd, asgT ⟨src, dst, gd, 1, val, syn⟩, syncT syn] ++ [10] = edT ⟨src, dst, gd, 1, val, syn⟩ from by simp [joinT, edT]] at HR
                have hEl : (bs (edT ⟨src, dst, gd, 1, val, syn⟩)).size ≤ 300 := by rw [bs_size]; exact HEL.out
                have hYE : ¬ 9223372036854775807 < (bs Y).size + (bs (edT ⟨src, dst, gd, 1, val, syn⟩)).size := by omega
                go_wp2_with fail
                refine ⟨bex W5.out, ?_⟩
                go_wp2_with fail
                refine HR.out.mono ?_
                rintro e w14 ⟨rfl, hb⟩
                have D6 := hid (below_next W5.out hb)
                have D7 := hid (below_next N1.out D6.out)
                clear hb W5 HR D5
                go_wp2_with fail
                refine ⟨bex D6.out, ?_⟩
                go_wp2_with fail
                refine ⟨bex D6.out, ?_⟩
                go_wp2_with fail
                go_roundw
                case rel => exact ⟨j + 1, Y ++ edT ⟨src, dst, gd, 1, val, syn⟩, by omega, str_val (bs_append _ _), by go_num, D7, hid (by rw [HTK2.out])⟩
                case measure => simp [intOf]; omega
              · go_wp2_with fail
                clear s0 s1 s2 s3 s4 s5 s6 s7 s8 s9
                generalize wj.alloc (.cells #[.int .i64 src, .int .i64 dst, .int .i64 gd.kind, .int .i64 gd.val, .slice e1 gd.kids.length e2, .int .i64 2, .int .i64 val.kind, .int .i64 val.val, .slice e3 val.kids.length e4, .int .i64 syn] 47) = w0 at *
                obtain ⟨f, ⟨f0, f1, f2, f3, f4, f5, f6, f7, f8, f9⟩, _⟩ := BX.out
                refine wp_region_over (by kernel_rfl) (by kernel_rfl) ?_; (repeat (go_big_quiet_step ((go_at_call 22; exact Calls.over (Expr.tx_any val 6 _ _ (K7.out).1 (K7.out).2 (TrIn_over HVW.out _) (Expr.Sg_over (Expr.Sg_below N0.out HSG.out) _)))))); refine wpQuiet_nil ?_; rintro _ ⟨xq, rfl⟩
                go_wp2_with fail
                have HAV0 := hid (show (⟨#[120, 121, 122]⟩ : ByteArray).extract 2 3 ++ ⟨#[58, 61]⟩ ++ bs (exprT.txt val) = bs (asgT ⟨src, dst, gd, 2, val, syn⟩) from by
                  rw [show ((⟨#[120, 121, 122]⟩ : ByteArray).extract 2 3 ++ ⟨#[58, 61]⟩ : ByteArray) = bs [122, 58, 61] from rfl, bs_append]
                  rfl)
                obtain ⟨AV, hAV⟩ : ∃ AV, AV = (⟨#[120, 121, 122]⟩ : ByteArray).extract 2 3 ++ ⟨#[58, 61]⟩ ++ bs (exprT.txt val) := ⟨_, rfl⟩
                rw [← hAV] at HAV0
                rw [← hAV]
                have HAV := HAV0
                clear hAV HAV0
                have N0' := hid (below_next N0.out (over_below w0 xq))
                have N1' := hid (below_next N1.out (over_below w0 xq))
                have HGW' := hid (TrIn_over HGW.out xq)
                have BX' := hid (box10_next (over_below w0 xq) BX.out)
                clear N0 N1 HGW BX HVW f f0 f1 f2 f3 f4 f5 f6 f7 f8 f9
                obtain ⟨w9, hw9⟩ : ∃ w9, w9 = w0.over xq := ⟨_, rfl⟩
                rw [← hw9] at N0' N1' HGW' BX'
                rw [← hw9]
                clear hw9
                have HTG := hid (fun (W : World) (M : Below w9.heap.size w9 W) => Expr.tx_any gd 6 W _ (K4.out).1 (K4.out).2 (TrIn_below M HGW'.out) (Expr.Sg_below (below_next N0'.out M) HSG.out))
                have N1 := N1'
                obtain ⟨f, ⟨f0, f1, f2, f3, f4, f5, f6, f7, f8, f9⟩, _⟩ := BX'.out
                refine wp_region_ord (C := fun wZ => ∃ xZ, wZ = World.over _ xZ) [0,1,2,4,5,7,8,10,11,12] (.one 3 (.one 6 (.one 9 (.one 13 (.one 14 (.one 15 (.one 16 (.fre 17 .done)))))))) [17] (by kernel_rfl) (by kernel_rfl) (fun d _ _ _ _ h => by cases d <;> exact h) (bex (Below.refl _ _).drew) ?_; simp only [pick, List.getElem?_cons_succ, List.getElem?_cons_zero]; (repeat (go_big_quiet_step (fail))); refine wpQuiet_nil ?_; simp only [ordW, pick, List.getElem?_cons_succ, List.getElem?_cons_zero]
                have D1 := below_d (Below.refl w9.heap.size w9)
                go_wp2_with fail
                refine (ditoa_any src hs1 _).mono ?_
                rintro e w10 ⟨rfl, hb⟩
                have D2 := hid (below_next D1 hb)
                clear hb D1
                go_wp2_with fail
                refine ⟨bex D2.out, ?_⟩
                go_wp2_with fail
                refine (ditoa_any dst hs2 _).mono ?_
                rintro e w11 ⟨rfl, hb⟩
                have D3 := hid (below_next D2.out hb)
                clear hb D2
                go_wp2_with fail
                refine ⟨bex D3.out, ?_⟩
                go_wp2_with fail
                refine (HTG.out _ D3.out).mono ?_
                rintro e w12 ⟨rfl, hb⟩
                have D4 := hid (below_next D3.out hb)
                clear hb D3
                go_wp2_with fail
                refine ⟨bex D4.out, ?_⟩
                go_wp2_with fail
                refine (syncT_any syn k5 _).mono ?_
                rintro e w13 ⟨rfl, hb⟩
                have D5 := hid (below_next D4.out hb)
                clear hb D4
                go_wp2_with fail
                refine ⟨bex D5.out, ?_⟩
                have W5 := hid (below_next D5.out (below_alloc w13 (.cells #[.string ⟨#[101, 100, 103, 101]⟩, .string (bs (dig src)), .string (bs (dig dst)), .string (bs (exprT.txt gd)), .string (AV), .string (bs (syncT syn))] 9)))
                have HR := hid (HROW.out [[101, 100, 103, 101], dig src, dig dst, exprT.txt gd, asgT ⟨src, dst, gd, 2, val, syn⟩, syncT syn] (w13.alloc (.cells #[.string ⟨#[101, 100, 103, 101]⟩, .string (bs (dig src)), .string (bs (dig dst)), .string (bs (exprT.txt gd)), .string (AV), .string (bs (syncT syn))] 9)) w13.heap.size (by simp) (by simp) (fun j x hj => by
                  match j, hj with
                  | 0, hj => simp at hj; subst hj; exact ⟨by simp; rfl, by simp⟩
                  | 1, hj => simp at hj; subst hj; exact ⟨by simp, by simp [dig]⟩
                  | 2, hj => simp at hj; subst hj; exact ⟨by simp, by simp [dig]⟩
                  | 3, hj => simp at hj; subst hj; exact ⟨by simp, by have := HGL.out; omega⟩
                  | 4, hj => simp at hj; subst hj; exact ⟨by rw [← HAV.out]; simp, by have := HAL.out; omega⟩
                  | 5, hj => simp at hj; subst hj; exact ⟨by simp, by have := sync_len syn; omega⟩
                  | j + 6, hj => simp at hj) (by simp))
                rw [show joinT [[101, 100, 103, 101], dig src, dig dst, exprT.txt gd, asgT ⟨src, dst, gd, 2, val, syn⟩, syncT syn] ++ [10] = edT ⟨src, dst, gd, 2, val, syn⟩ from by simp [joinT, edT]] at HR
                have hEl : (bs (edT ⟨src, dst, gd, 2, val, syn⟩)).size ≤ 300 := by rw [bs_size]; exact HEL.out
                have hYE : ¬ 9223372036854775807 < (bs Y).size + (bs (edT ⟨src, dst, gd, 2, val, syn⟩)).size := by omega
                go_wp2_with fail
                refine ⟨bex W5.out, ?_⟩
                go_wp2_with fail
                refine HR.out.mono ?_
                rintro e w14 ⟨rfl, hb⟩
                have D6 := hid (below_next W5.out hb)
                have D7 := hid (below_next N1.out D6.out)
                clear hb W5 HR D5
                go_wp2_with fail
                refine ⟨bex D6.out, ?_⟩
                go_wp2_with fail
                refine ⟨bex D6.out, ?_⟩
                go_wp2_with fail
                go_roundw
                case rel => exact ⟨j + 1, Y ++ edT ⟨src, dst, gd, 2, val, syn⟩, by omega, str_val (bs_append _ _), by go_num, D7, hid (by rw [HTK2.out])⟩
                case measure => simp [intOf]; omega
          · have HY2 := hid (show Y = X ++ prT q from by
              rw [hY.out, HZ.out, List.take_of_length_le (by omega), List.take_length, List.append_assoc])
            have hje2 : ¬ ((j : Int) < (q.edges.length : Int)) := by omega
            have HBK := hid (below_next B.out B2.out)
            clear hY
            go_wp2_with fail
            go_roundw
            case rel => exact ⟨k + 1, Y, by omega, rfl, by go_num, HBK, hid (by rw [HY2.out, HTK.out])⟩
            case measure => simp [intOf]; omega
      · have HX2 := hid (show X = syT s from by
          rw [hX.out, List.take_of_length_le (by omega)]; rfl)
        have hlt2 : ¬ ((k : Int) < (s.procs.length : Int)) := by omega
        clear hX
        go_wp2_with fail
        go_ret
        exact Ret.mk (str_val (by rw [HX2.out])) B.out
end Sys
end Go.Proofs.YtgopfjnpjkpelaaDoor
namespace Go.Proofs.YtgopfjnpjkpelaaDoor
open Go.RowKit
open Go.Proofs.YtgopfjnpjkpelaaDoor.Sys
set_option linter.unusedVariables false
set_option linter.unusedSimpArgs false

theorem eqS_swap (s t : Sy) : eqS t s = eqS s t := by
  have h1 := eqS_true s t
  have h2 := eqS_true t s
  cases hs : eqS s t with
  | true =>
    have := h1.1 hs
    subst this
    exact hs
  | false =>
    cases ht : eqS t s with
    | false => rfl
    | true =>
      have := h2.1 ht
      subst this
      rw [hs] at ht; cases ht
/-- what the law says of the two texts -/
theorem txt_law (s t : Sy) : (decide ((if okSy s = true then syT s else []) = []) || (decide ((if okSy t = true then syT t else []) = []) || (eqS s t == decide ((if okSy s = true then syT s else []) = (if okSy t = true then syT t else []))))) = true := by
  cases hs : okSy s with
  | false => simp
  | true =>
    cases ht : okSy t with
    | false => simp
    | true =>
      have h : eqS s t = decide (syT s = syT t) := by
        cases he : eqS s t with
        | true => rw [(eqS_true s t).1 he]; simp
        | false =>
          symm
          rw [decide_eq_false_iff_not]
          intro hst
          rw [sy_inj hs ht hst, eqS_refl] at he
          cases he
      simp [h]

set_option maxRecDepth 100000 in
set_option maxHeartbeats 4000000 in
theorem walk_FnSystemSame (w : World) (a : Option Addr) (len cap : Nat) (hb : ByteArg w a len cap) (hg : Expr.Sg w) : Calls Tryd.prog 3 #[.slice a len cap] w (Ret (.bool true) w) := by
  have hcap := hb.2.1
  have hcap1 := hb.1
  unfold maxLen at hcap
  by_cases hlen : len > 1048576
  · have hlen2 : (len : Int) > 1048576 := by omega
    go_enter Tryd.func3, Tryd.ntmps3
    go_wp2_with fail
    go_ret
    exact Ret.mk rfl (by repeat (first | exact Below.refl _ _ | assumption | refine below_a ?_ _ | refine below_o ?_ _ | refine below_d ?_ | refine below_n ?_ _ | refine below_s ?_ (by first | (simp; done) | (simp; omega) | omega) _))
  have hlen2 : ¬ ((len : Int) > 1048576) := by omega
  have HB := hid hb
  have HG := hid hg
  clear hb hg
  go_enter Tryd.func3, Tryd.ntmps3
  go_wp2_with fail
  refine (drawSs_any _ a len cap HB.out).mono ?_
  rintro e w1 ⟨s, t, x, y, rfl, hx, hy, B0⟩
  obtain ⟨ax, cx, bx, dx, rfl, _⟩ := id hx
  obtain ⟨ay, cy, bY, dy, rfl, _⟩ := id hy
  have HX := hid hx
  have HY := hid hy
  have B1 := hid B0
  have HT := hid (txt_law s t)
  have HSW := hid (eqS_swap s t)
  have HRF := hid (eqS_refl s)
  have N0 := hid (below_next (below_alloc w1 (.cells #[.slice ax s.init.length cx, .slice bx s.procs.length dx] 26)) (below_alloc _ (.cells #[.slice ay t.init.length cy, .slice bY t.procs.length dy] 26)))
  have P1 := hid (boxp_next (below_alloc _ (.cells #[.slice ay t.init.length cy, .slice bY t.procs.length dy] 26)) (boxp_at (w := w1) (B := w1.heap.size) (a := .slice ax s.init.length cx) (b := .slice bx s.procs.length dx) (t := 26) rfl))
  have P2 := hid (boxp_at (w := w1.alloc (.cells #[.slice ax s.init.length cx, .slice bx s.procs.length dx] 26)) (B := w1.heap.size + 1) (a := .slice ay t.init.length cy) (b := .slice bY t.procs.length dy) (t := 26) (by simp))
  clear hx hy B0
  go_wp2_with fail
  generalize (w1.alloc (.cells #[.slice ax s.init.length cx, .slice bx s.procs.length dx] 26)).alloc (.cells #[.slice ay t.init.length cy, .slice bY t.procs.length dy] 26) = w2 at *
  have HI := hid (fun (W : World) (M : Below w1.heap.size w1 W) => sameS_any s t W _ _ (HX.out.below M) (HY.out.below M))
  have HI2 := hid (fun (W : World) (M : Below w1.heap.size w1 W) => sameS_any t s W _ _ (HY.out.below M) (HX.out.below M))
  have HI3 := hid (fun (W : World) (M : Below w1.heap.size w1 W) => sameS_any s s W _ _ (HX.out.below M) (HX.out.below M))
  have HS := hid (fun (W : World) (M : Below w1.heap.size w1 W) => specS_any s t W _ _ (HX.out.below M) (HY.out.below M))
  have HF := hid (fun (W : World) (M : Below w1.heap.size w1 W) => fmtSys_any row_any s W _ (HX.out.below M) (Expr.Sg_below (below_next B1.out M) HG.out))
  have HF2 := hid (fun (W : World) (M : Below w1.heap.size w1 W) => fmtSys_any row_any t W _ (HY.out.below M) (Expr.Sg_below (below_next B1.out M) HG.out))
  rw [HSW.out] at HI2
  rw [HRF.out] at HI3
  generalize eqS s t = b at *
  generalize (if okSy s = true then syT s else []) = S at *
  generalize (if okSy t = true then syT t else []) = T at *
  clear HX HY HSW HRF
  obtain ⟨p0, p1, p2, p3, p4⟩ := P1.out
  obtain ⟨q0, q1, q2, q3, q4⟩ := P2.out
  refine (HI.out _ N0.out).mono ?_
  rintro e w3 ⟨rfl, hb⟩
  have P1 := hid (boxp_next hb P1.out)
  have P2 := hid (boxp_next hb P2.out)
  have N1 := hid (below_next N0.out hb)
  clear hb N0 p0 p1 p2 p3 p4 q0 q1 q2 q3 q4
  obtain ⟨p0, p1, p2, p3, p4⟩ := P1.out
  obtain ⟨q0, q1, q2, q3, q4⟩ := P2.out
  go_wp2_with fail
  refine (HS.out _ N1.out).mono ?_
  rintro e w4 ⟨rfl, hb⟩
  have P1 := hid (boxp_next hb P1.out)
  have P2 := hid (boxp_next hb P2.out)
  have N2 := hid (below_next N1.out hb)
  clear hb N1 p0 p1 p2 p3 p4 q0 q1 q2 q3 q4
  obtain ⟨p0, p1, p2, p3, p4⟩ := P1.out
  obtain ⟨q0, q1, q2, q3, q4⟩ := P2.out
  have hbb : (b != b) = false := by simp
  go_wp2_with fail
  refine (HI2.out _ N2.out).mono ?_
  rintro e w5 ⟨rfl, hb⟩
  have P1 := hid (boxp_next hb P1.out)
  have P2 := hid (boxp_next hb P2.out)
  have N3 := hid (below_next N2.out hb)
  clear hb N2 p0 p1 p2 p3 p4 q0 q1 q2 q3 q4
  obtain ⟨p0, p1, p2, p3, p4⟩ := P1.out
  obtain ⟨q0, q1, q2, q3, q4⟩ := P2.out
  go_wp2_with fail
  refine (HI3.out _ N3.out).mono ?_
  rintro e w6 ⟨rfl, hb⟩
  have P1 := hid (boxp_next hb P1.out)
  have P2 := hid (boxp_next hb P2.out)
  have N4 := hid (below_next N3.out hb)
  clear hb N3 p0 p1 p2 p3 p4 q0 q1 q2 q3 q4
  obtain ⟨p0, p1, p2, p3, p4⟩ := P1.out
  obtain ⟨q0, q1, q2, q3, q4⟩ := P2.out
  go_wp2_with fail
  refine (HF.out _ N4.out).mono ?_
  rintro e w7 ⟨rfl, hb⟩
  have P1 := hid (boxp_next hb P1.out)
  have P2 := hid (boxp_next hb P2.out)
  have N5 := hid (below_next N4.out hb)
  clear hb N4 p0 p1 p2 p3 p4 q0 q1 q2 q3 q4
  obtain ⟨p0, p1, p2, p3, p4⟩ := P1.out
  obtain ⟨q0, q1, q2, q3, q4⟩ := P2.out
  go_wp2_with fail
  refine (HF2.out _ N5.out).mono ?_
  rintro e w8 ⟨rfl, hb⟩
  have N6 := hid (below_next B1.out (below_next N5.out hb))
  clear hb N5 p0 p1 p2 p3 p4 q0 q1 q2 q3 q4 P1 P2
  have hS : (bs S).toList = S := by rw [Go.ByteArray.toList_eq]; simp [bs]
  have hT : (bs T).toList = T := by rw [Go.ByteArray.toList_eq]; simp [bs]
  go_wp2_with fail
  all_goals go_ret
  all_goals simp only [hS, hT] at *
  all_goals (refine Ret.mk (bool_val ?_) N6.out)
  all_goals (have HT2 := HT.out; clear HI HI2 HI3 HS HF HF2 HT; simp_all)
  all_goals exact (by by_cases h : S = T <;> simp [h])
end Go.Proofs.YtgopfjnpjkpelaaDoor
namespace Go.Proofs.YtgopfjnpjkpelaaDoor
open Go.ChangeShapes Go.WideShapes Go.RowKit
namespace Expr

theorem str_of {s : ByteArray} {l : List UInt8} (h : s.data.toList = l) : s = ⟨l.toArray⟩ := by
  subst h; cases s; simp
theorem add_none (b o i : Nat) : Addr.add ⟨b, o, none⟩ i = ⟨b, o + i, none⟩ := by unfold Addr.add; split <;> simp_all
theorem gSigns : Tryd.prog.globalNamed "loop.example/ltlcheck/impl.exprSigns" = some 0 := by kernel_rfl
theorem tSigns : (Tryd.prog.globals[0]?).map (·.type) = some 67 := by kernel_rfl
def laid1 : List (String × DataW Unit) := [("math/bits.deBruijn32tab", Rows.laid_math_bits_deBruijn32tab), ("math/bits.deBruijn64tab", Rows.laid_math_bits_deBruijn64tab), ("internal/strconv.uint64pow10", Rows.laid_internal_strconv_uint64pow10), ("loop.example/ltlcheck/impl.exprSigns", Rows.laid_loop_example_ltlcheck_impl_exprSigns)]

theorem Sg_of_laid {W : World} (h : laidMetH Tryd.prog laid1 W) : Sg W := by
  rw [MakeChecks.laidMetH_plain _ _ _ (by kernel_rfl)] at h
  obtain ⟨ps, ⟨_, _, _, _, _, _, _, _, _, _, ⟨_, _, _, _, _, _, _, _, _, _, ⟨_, _, _, _, _, _, _, _, _, _, ⟨g0, t0, cs0, f0, p0, q0, hg0, ht0, hv0, hd0, _, _⟩, _⟩, _⟩, _⟩, _, _⟩ := h
  obtain rfl := Option.some.inj (gSigns.symm.trans hg0)
  obtain rfl := Option.some.inj (tSigns.symm.trans ht0)
  rcases open_strings Tryd.underlying67 Tryd.underlying9 (by kernel_rfl) hd0 with ⟨_, hx⟩ | ⟨a, len, cap, ss, hcs, _, hlc, _, hls, hx, hcell, _⟩
  · simp [Rows.laid_loop_example_ltlcheck_impl_exprSigns] at hx
  simp only [if_true] at hls
  have hv := World.var?_cell hg0 hv0 0
  rw [Array.eq_one_of_toList hcs] at hv
  simp only [Rows.laid_loop_example_ltlcheck_impl_exprSigns, strs, Prod.mk.injEq, DataW.slice.injEq] at hx
  obtain ⟨⟨h1, h2⟩, _⟩ := hx
  have hlen := congrArg List.length h1
  have hlen2 := congrArg List.length h2
  simp at hlen hlen2
  obtain rfl : len = 10 := by omega
  rw [List.take_of_length_le (by omega)] at h1
  have h11 : ss.length = 10 := by omega
  match ss, h11 with
  | [s0, s1, s2, s3, s4, s5, s6, s7, s8, s9], _ =>
    simp only [List.map_cons, List.map_nil, List.cons.injEq, DataW.lit.injEq, Lit.string.injEq, and_true] at h1
    obtain ⟨e0, e1, e2, e3, e4, e5, e6, e7, e8, e9⟩ := h1
    obtain ⟨b, o, s⟩ := a
    have c0 := hcell 0 (by simp)
    have hs : s = none := by simpa [Addr.add] using World.cell?_spot c0
    subst hs
    have ea : ∀ i, Addr.add ⟨b, o, none⟩ i = ⟨b, o + i, none⟩ := add_none b o
    refine ⟨b, o, cap, by simpa using hv, fun i s hi => ?_⟩
    have hlt : i < 10 := by unfold TabAt at hi; omega
    have hc := hcell i (by simpa using hlt)
    rw [ea] at hc
    rw [hc]
    unfold TabAt at hi
    rcases hi with ⟨rfl, rfl⟩ | ⟨rfl, rfl⟩ | ⟨rfl, rfl⟩ | ⟨rfl, rfl⟩ | ⟨rfl, rfl⟩ | ⟨rfl, rfl⟩
    · rw [show s4 = _ from str_of e4.symm]; rfl
    · rw [show s5 = _ from str_of e5.symm]; rfl
    · rw [show s6 = _ from str_of e6.symm]; rfl
    · rw [show s7 = _ from str_of e7.symm]; rfl
    · rw [show s8 = _ from str_of e8.symm]; rfl
    · rw [show s9 = _ from str_of e9.symm]; rfl

/-- The door's own heap meets the condition: three closed facts. -/
theorem door_met (os : Os) (args : Array Value) : laidMetH Tryd.prog laid1 ((World.doorLaid Tryd.prog 400 os).forCall (fun _ _ => 0) ⟨#[], args, []⟩).memory :=
  laidMetH_of_parts3 (fuel := 8) (laidMet_of_run' 8 (by kernel_rfl) (by kernel_rfl)) (by kernel_rfl) (by kernel_rfl)

end Expr
end Go.Proofs.YtgopfjnpjkpelaaDoor
namespace Go.Proofs.YtgopfjnpjkpelaaDoor
open Go.RowKit Go.ChangeShapes

theorem var?_next {P : Program} {W W' : World} (hb : Below W.heap.size W W') {n : String} {cs : Array Value} (h : W.var? P n = some cs) : W'.var? P n = some cs := by
  unfold World.var? at h ⊢
  cases hn : P.globalNamed n with
  | none => rw [hn] at h; cases h
  | some g =>
    rw [hn] at h
    simp only [Option.bind_some] at h ⊢
    have hg : g < W.heap.size := by
      cases hh : W.heap[g]? with
      | none => rw [hh] at h; cases h
      | some o => exact (Array.getElem?_eq_some_iff.1 hh).1
    rw [hb.block g hg]
    exact h

/-- one closed fact: each named variable's type can be read and is a row of the table -/
def rowed (P : Program) (ns : List String) : Bool := ns.all fun n => match P.globalNamed n with
  | none => true
  | some g => match (P.globals[g]?).map (·.type) with
    | none => true
    | some t => P.readableRec t && decide (t < P.types.size)

theorem vars_next {H : Type} {enc : TypeId × Value → H} {P : Program} (hl : laidOutB P = true) {W W' : World} (hb : Below W.heap.size W W') : ∀ {ns : List String} {gs : List (DataW H)} {ps : List MemPlace},
    rowed P ns = true → DataW.TrodVars enc P W (fun _ => true) ns gs ps → DataW.TrodVars enc P W' (fun b => decide (b < W.heap.size)) ns gs ps
  | [], [], _, _, h => h
  | [], _ :: _, _, _, h => absurd h (by intro h; cases h)
  | _ :: _, [], _, _, h => absurd h (by intro h; cases h)
  | n :: ns, d :: ds, ps, hv, h => by
    have hlt := h.lt
    obtain ⟨g, t, cs, fuel, p, q, h1, h2, h3, h4, hs, e⟩ := h
    simp only [rowed, List.all_cons, Bool.and_eq_true] at hv
    obtain ⟨hv1, hv2⟩ := hv
    rw [h1] at hv1
    simp only at hv1
    rw [h2] at hv1
    simp only [Bool.and_eq_true, decide_eq_true_eq] at hv1
    have hp : ∀ x ∈ p, x.block < W.heap.size := fun x hx => hlt x (by rw [e]; simp [hx])
    obtain ⟨m, hm⟩ := WideElems.Trod_stays (v := .agg cs) hl hv1.1 hv1.2 ⟨fuel, h4⟩ (fun x hx => hb.same (hp x hx)) (sp' := fun b => decide (b < W.heap.size)) (fun x hx => by simpa using hp x hx)
    exact ⟨g, t, cs, m, p, q, h1, h2, var?_next hb h3, hm, vars_next hl hb (by simpa [rowed] using hv2) hs, e⟩

theorem vars_next1 {H : Type} {enc : TypeId × Value → H} {P : Program} (hl : laidOutB P = true) {n : String} {g : Nat} {t : TypeId} (hg : P.globalNamed n = some g) (ht : (P.globals[g]?).map (·.type) = some t) (hr : P.readableRec t = true)
    (hrow : t < P.types.size) {W W' : World} (hb : Below W.heap.size W W') {gs : List (DataW H)} {ps : List MemPlace} (h : DataW.TrodVars enc P W (fun _ => true) [n] gs ps) :
    DataW.TrodVars enc P W' (fun b => decide (b < W.heap.size)) [n] gs ps := by
  have hlt := h.lt
  obtain ⟨g', t', cs, fuel, d, p, rfl, h1, h2, h3, h4, rfl⟩ := trodVars_one h
  obtain rfl := Option.some.inj (hg.symm.trans h1)
  obtain rfl := Option.some.inj (ht.symm.trans h2)
  have hp : ∀ x ∈ p, x.block < W.heap.size := fun x hx => hlt x (by simp [hx])
  obtain ⟨m, hm⟩ := WideElems.Trod_stays (v := .agg cs) hl hr hrow ⟨fuel, h4⟩ (fun x hx => hb.same (hp x hx)) (sp' := fun b => decide (b < W.heap.size)) (fun x hx => by simpa using hp x hx)
  exact trodVars_mk1 h1 h2 (var?_next hb h3) hm
end Go.Proofs.YtgopfjnpjkpelaaDoor
namespace Go.Proofs.YtgopfjnpjkpelaaDoor
open Go.RowKit

section
variable {H : Type} {enc : TypeId × Value → H} {P : Program} {w : World} {base : Nat} {spare : Nat → Bool} {held : Bool}

theorem cells1 {a : Addr} {cs : List Value} (h : w.cells? base a 1 = some cs) : ∃ c0, cs = [c0] ∧ w.cell? (a.add 0) = some c0 := by
  obtain ⟨_, hl, hc⟩ := World.cells?_some h
  match cs, hl with
  | [c0], _ => exact ⟨c0, rfl, by simpa using hc 0 (by omega)⟩

theorem bytes_read {S I : TypeId} (hS : P.underlying S = some (.slice I)) (hI : P.underlying I = some (.int .u8)) (cI : P.cellsOf I = 1)
    {fuel : Nat} {a : Option Addr} {len cap : Nat} {x : DataW H × List MemPlace} (h : DataW.trod enc P w base spare held fuel S [.slice a len cap] = some x) : ByteArg w a len cap := by
  rcases DataW.trod_slice hS h with ⟨hc, _⟩ | ⟨a', len', cap', elems, rest, m, hm, hc, _, _, hlc, hcm, hel, hcell, _⟩
  · simp at hc
    obtain ⟨rfl, rfl, rfl⟩ := hc
    exact ⟨Nat.le_refl _, Nat.zero_le _, .inl rfl⟩
  · simp at hc
    obtain ⟨rfl, rfl, rfl⟩ := hc
    refine ⟨hlc, hcm, ?_⟩
    by_cases h0 : len = 0
    · exact .inl h0
    have key : ∀ i, i < len → ∃ n : Int, w.cell? (a'.add i) = some (.int .u8 n) ∧ 0 ≤ n ∧ n ≤ 255 := fun i hi => by
      have hh := hcell i hi
      rw [cI, List.getElem?_eq_getElem (by omega)] at hh
      obtain ⟨cs', h3, h4⟩ := Option.bind_eq_some_iff.1 hh
      obtain ⟨c0, rfl, q0⟩ := cells1 h3
      obtain ⟨n, hn, _, wn⟩ := DataW.trod_int hI h4
      simp only [List.cons.injEq, and_true] at hn
      subst hn
      have hwf : 0 ≤ n ∧ n ≤ 255 := by
        simp [Lit.wf, IntKind.min, IntKind.max, IntKind.signed, IntKind.bits] at wn
        omega
      exact ⟨n, by simpa [Addr.add] using q0, hwf⟩
    obtain ⟨b, o, s⟩ := a'
    obtain ⟨n0, e0, _⟩ := key 0 (by omega)
    have hs : s = none := by simpa [Addr.add] using World.cell?_spot e0
    subst hs
    have ea : ∀ i, Addr.add ⟨b, o, none⟩ i = ⟨b, o + i, none⟩ := fun i => by unfold Addr.add; split <;> simp_all
    have hall : ∀ i, ∃ n : Int, i < len → w.cell? ⟨b, o + i, none⟩ = some (.int .u8 n) ∧ 0 ≤ n ∧ n ≤ 255 := fun i => by
      by_cases hi : i < len
      · obtain ⟨n, hn⟩ := key i hi
        rw [ea] at hn
        exact ⟨n, fun _ => hn⟩
      · exact ⟨0, fun h => absurd h hi⟩
    obtain ⟨f, hf⟩ := Classical.axiomOfChoice hall
    refine .inr ⟨b, o, f, rfl, ?_, hf⟩
    have := (hf 0 (by omega)).1
    exact blt this
end
end Go.Proofs.YtgopfjnpjkpelaaDoor
