/- Joined texts (SySpec2, ShelfJ, ExprTxt, ExprTxtI, EdgeSpecV, EdgeImplV, EvalE, ValsV, SysV): contracts and plain laws. Conditions: those of each theorem. -/
import Derived.Test.YtgopfjnpjkpelaaDoorJY11
import Derived.Test.YtgopfjnpjkpelaaDoorProg
import Derived.Test.YtgopfjnpjkpelaaDoorRows
import Derived.Test.YtgopfjnpjkpelaaDoorJY4
import Derived.Test.YtgopfjnpjkpelaaDoorJY6
import Derived.Test.YtgopfjnpjkpelaaDoorJY1
import Derived.Test.YtgopfjnpjkpelaaDoorJY5
import Derived.Test.YtgopfjnpjkpelaaDoorJY2
import Derived.Test.YtgopfjnpjkpelaaDoorJY10
import Derived.Shelf.Strings.OnBuilder
import Derived.WalkSpells
import Derived.WalkLawsBesides
import Derived.Laws.Concat
import Derived.Laws.IdiomStrings
set_option linter.unusedVariables false
set_option linter.unusedSimpArgs false
namespace Go.Proofs.YtgopfjnpjkpelaaDoor
open Go.RowKit
set_option linter.unusedVariables false
set_option linter.unusedSimpArgs false
namespace Sys
set_option maxRecDepth 100000 in
set_option maxHeartbeats 8000000 in
theorem specS_any (s t : Sy) (w : World) (x y : Value) (hx : SyIn Any w s x) (hy : SyIn Any w t y) : Calls Tryd.prog 6 #[x, y] w (Ret (.bool (eqS s t)) w) := by
  obtain ⟨a, c, b, d, rfl, hc, hc2, hi, hd, hd2, hp⟩ := hx
  obtain ⟨a', c', b', d', rfl, hc', hc2', hi', hd', hd2', hp'⟩ := hy
  have HG := hid (fun (w' : World) (M : Below w.heap.size w w') => Gr.l2Ints_any s.init t.init w' a a' c c' (hi.below M) (hi'.below M) ⟨hc, hc2⟩ ⟨hc', hc2'⟩)
  have HL := hid hp
  have HM := hid hp'
  have E := hid (show eqS s t = (decide (s.init = t.init) && eqPs s.procs t.procs) from by
    show ((s.init == t.init) && eqPs s.procs t.procs) = _
    rw [show (s.init == t.init) = decide (s.init = t.init) by rw [Bool.eq_iff_iff]; simp])
  generalize decide (s.init = t.init) = g at *
  generalize s.init.length = ni at *
  generalize t.init.length = mi at *
  generalize eqS s t = r at *
  generalize s.procs = l at *
  generalize t.procs = m at *
  unfold maxLen at hc2 hc2' hd2 hd2'
  clear hp hp' hi hi'
  go_enter Tryd.func6, Tryd.ntmps6
  go_wp2_with fail
  have h0 := below_next (below_alloc w (.cells #[.slice a ni c, .slice b l.length d] 26)) (below_alloc _ (.cells #[.slice a' mi c', .slice b' m.length d'] 26))
  refine (HG.out _ h0).mono ?_
  rintro e w1 ⟨rfl, hb⟩
  have P1 := hid (boxp_next hb (boxp_next (below_alloc _ (.cells #[.slice a' mi c', .slice b' m.length d'] 26)) (boxp_at (w := w) (B := w.heap.size) (a := .slice a ni c) (b := .slice b l.length d) (t := 26) rfl)))
  have P2 := hid (boxp_next hb (boxp_at (w := w.alloc (.cells #[.slice a ni c, .slice b l.length d] 26)) (B := w.heap.size + 1) (a := .slice a' mi c') (b := .slice b' m.length d') (t := 26) (by simp)))
  have HB := hid (below_next h0 hb)
  clear hb h0 HG
  obtain ⟨p0, p1, p2, p3, p4⟩ := P1.out
  obtain ⟨q0, q1, q2, q3, q4⟩ := P2.out
  cases g with
  | false =>
    have E2 := hid (show r = false by rw [E.out]; rfl)
    clear E
    go_wp2_with fail
    go_ret
    exact Ret.mk (bool_val E2.out.symm) HB.out
  | true =>
    have E2 := hid (show r = eqPs l m by rw [E.out]; rfl)
    clear E
    by_cases hn : l.length = m.length
    · have hn1 : l.length ≤ m.length := by omega
      have hn2 : m.length ≤ l.length := by omega
      have h3 : ((l.length : Int) != (m.length : Int)) = false := by rw [bne_eq_false_iff_eq]; omega
      clear hn
      go_wp2_with fail
      clear p0 p1 p2 p3 p4 q0 q1 q2 q3 q4
      go_loopw [5] (fun i wr => ∃ k : Nat, k ≤ l.length ∧ i = .int .i64 k ∧ Hid (Below w1.heap.size w1 wr) ∧ Hid (eqG eqP (l.drop k) (m.drop k) = eqPs l m)) (fun i _ => l.length - (intOf i).toNat)
      case atStart => exact ⟨0, Nat.zero_le _, rfl, hid (Below.refl _ _), hid rfl⟩
      case round =>
        obtain ⟨k, hk, rfl, B, hr⟩ := hrel
        obtain ⟨wi, rfl⟩ : ∃ wi : World, wi = wr := ⟨_, rfl⟩
        have PA := hid (boxp_next B.out P1.out)
        have PB := hid (boxp_next B.out P2.out)
        obtain ⟨p0, p1, p2, p3, p4⟩ := PA.out
        obtain ⟨q0, q1, q2, q3, q4⟩ := PB.out
        by_cases hlt : k < l.length
        · have hltm : k < m.length := by omega
          obtain ⟨bb, oo, rfl, _, hbb, a1, c1, ⟨g0, g1⟩, hT⟩ := SeqIn.at (PrsIn.below HL.out (below_next HB.out B.out)) hlt
          obtain ⟨bb', oo', rfl, _, hbb', a1', c1', ⟨f0, f1⟩, hU⟩ := SeqIn.at (PrsIn.below HM.out (below_next HB.out B.out)) hltm
          have HR2 := hid (show eqPs l m = (eqP l[k] m[k] && eqG eqP (l.drop (k + 1)) (m.drop (k + 1))) from eqG_drop hlt hltm hr.out)
          have hlt2 : (k : Int) < (l.length : Int) := by omega
          have hlt3 : (k : Int) < (m.length : Int) := by omega
          generalize l[k] = u at *
          generalize m[k] = v at *
          obtain ⟨_, _, he1, _, hc1, hc12, hed⟩ := hT
          obtain ⟨_, _, he2, _, hc1', hc12', hed'⟩ := hU
          simp at he1 he2
          obtain ⟨rfl, rfl⟩ := he1
          obtain ⟨rfl, rfl⟩ := he2
          have HED := hid hed
          have HED' := hid hed'
          have EP := hid (show eqP u v = (decide (u.locs = v.locs) && eqEs u.edges v.edges) from rfl)
          generalize u.edges = es at *
          generalize v.edges = fs at *
          unfold maxLen at hc12 hc12'
          clear hed hed' hr
          have N0 := hid (below_next (below_alloc wi (.cells #[.int .i64 u.locs, .slice a1 es.length c1] 41)) (below_alloc _ (.cells #[.int .i64 v.locs, .slice a1' fs.length c1'] 41)))
          by_cases h1 : u.locs = v.locs
          · have k1 : (u.locs != v.locs) = false := by simpa using h1
            by_cases h2 : es.length = fs.length
            · have hm1 : es.length ≤ fs.length := by omega
              have hm2 : fs.length ≤ es.length := by omega
              have k2 : ((es.length : Int) != (fs.length : Int)) = false := by rw [bne_eq_false_iff_eq]; omega
              have EQ := hid (show eqPs l m = (eqEs es fs && eqG eqP (l.drop (k + 1)) (m.drop (k + 1))) by rw [HR2.out, EP.out, decide_eq_true h1, Bool.true_and])
              have X6 := hid (boxp_next (below_alloc _ (.cells #[.int .i64 v.locs, .slice a1' fs.length c1'] 41)) (boxp_at (w := wi) (B := wi.heap.size) (a := .int .i64 u.locs) (b := .slice a1 es.length c1) (t := 41) rfl))
              have X7 := hid (boxp_at (w := wi.alloc (.cells #[.int .i64 u.locs, .slice a1 es.length c1] 41)) (B := wi.heap.size + 1) (a := .int .i64 v.locs) (b := .slice a1' fs.length c1') (t := 41) (by simp))
              clear h1 h2 HR2 EP
              go_wp2_with fail
              generalize (wi.alloc (.cells #[.int .i64 u.locs, .slice a1 es.length c1] 41)).alloc (.cells #[.int .i64 v.locs, .slice a1' fs.length c1'] 41) = w2 at *
              go_loopw [8] (fun i wr => ∃ j : Nat, j ≤ es.length ∧ i = .int .i64 j ∧ Hid (Below w2.heap.size w2 wr) ∧ Hid (eqG Edge.eqE (es.drop j) (fs.drop j) = eqEs es fs)) (fun i _ => es.length - (intOf i).toNat)
              case atStart => exact ⟨0, Nat.zero_le _, rfl, hid (Below.refl _ _), hid rfl⟩
              case round =>
                obtain ⟨j, hj, rfl, B2, hr2⟩ := hrel
                obtain ⟨wj, rfl⟩ : ∃ wj : World, wj = wr := ⟨_, rfl⟩
                have BJ := hid (below_next HB.out (below_next B.out (below_next N0.out B2.out)))
                have BI := hid (below_next N0.out B2.out)
                obtain ⟨x0, x1, x2, x3, x4⟩ := boxp_next B2.out X6.out
                obtain ⟨y0, y1, y2, y3, y4⟩ := boxp_next B2.out X7.out
                by_cases hje : j < es.length
                · have hjf : j < fs.length := by omega
                  obtain ⟨be, oe, rfl, _, hbe, e1, e2, e3, e4, ⟨s0, s1, s2, s3, s4, s5, s6, s7, s8, s9⟩, hT⟩ := SeqIn.at (EdsIn.below HED.out BI.out) hje
                  obtain ⟨be', oe', rfl, _, hbe', e1', e2', e3', e4', ⟨r0, r1, r2, r3, r4, r5, r6, r7, r8, r9⟩, hU⟩ := SeqIn.at (EdsIn.below HED'.out BI.out) hjf
                  have HR3 := hid (show eqEs es fs = (Edge.eqE es[j] fs[j] && eqG Edge.eqE (es.drop (j + 1)) (fs.drop (j + 1))) from eqG_drop hje hjf hr2.out)
                  have HT := hid hT
                  have HU := hid hU
                  clear hT hU hr2
                  have hje2 : (j : Int) < (es.length : Int) := by omega
                  have hje3 : (j : Int) < (fs.length : Int) := by omega
                  generalize es[j] = ee at *
                  generalize fs[j] = ff at *
                  go_wp2_with fail
                  refine wp_region_over (by kernel_rfl) (by kernel_rfl) ?_; (repeat (go_big_quiet_step ((go_at_call 18; exact Calls.over (Edge.l2_any ee ff _ _ _ (EdIn_below (over_below _ _) HT.out) (EdIn_below (over_below _ _) HU.out)))))); refine wpQuiet_nil ?_; rintro _ ⟨xq, rfl⟩
                  have hbd := below_next B2.out (over_below wj xq)
                  have hbf := below_next BJ.out (over_below wj xq)
                  have HBD := hid hbd
                  have HBF := hid hbf
                  clear hbd hbf s0 s1 s2 s3 s4 s5 s6 s7 s8 s9 r0 r1 r2 r3 r4 r5 r6 r7 r8 r9
                  cases hq : Edge.eqE ee ff with
                  | true =>
                    have HR4 := HR3.out
                    rw [hq, Bool.true_and] at HR4
                    have HR5 := hid HR4.symm; clear HR4 hq HR3
                    go_wp2_with fail
                    go_roundw
                    case rel => exact ⟨j + 1, by omega, by go_num, HBD, HR5⟩
                    case measure => simp [intOf]; omega
                  | false =>
                    have HR4 := HR3.out
                    rw [hq, Bool.false_and] at HR4
                    have HR5 := hid (show r = false by rw [E2.out, EQ.out, HR4]; rfl); clear HR4 hq HR3
                    go_wp2_with fail
                    go_ret
                    exact Ret.mk (bool_val HR5.out.symm) HBF.out
                · have hr3 := hr2.out
                  rw [List.drop_of_length_le (by omega), List.drop_of_length_le (by omega)] at hr3
                  have HR5 := hid (show eqG eqP (l.drop (k + 1)) (m.drop (k + 1)) = eqPs l m by
                    rw [EQ.out, ← hr3]
                    show _ = (true && _)
                    rw [Bool.true_and]); clear hr3 hr2
                  have hje2 : ¬ ((j : Int) < (es.length : Int)) := by omega
                  have HBK := hid (below_next B.out (below_next N0.out B2.out))
                  go_wp2_with fail
                  go_roundw
                  case rel => exact ⟨k + 1, by omega, by go_num, HBK, HR5⟩
                  case measure => simp [intOf]; omega
            · have k2 : ((es.length : Int) != (fs.length : Int)) = true := by rw [bne_iff_ne]; omega
              have E3 := hid (show r = false by rw [E2.out, HR2.out, EP.out, show eqEs es fs = false from eqG_len Edge.eqE es fs h2]; simp)
              have FB := hid (below_next HB.out (below_next B.out N0.out))
              clear h1 h2 HR2 EP
              go_wp2_with fail
              go_ret
              exact Ret.mk (bool_val E3.out.symm) FB.out
          · have k1 : (u.locs != v.locs) = true := by simpa using h1
            have E3 := hid (show r = false by rw [E2.out, HR2.out, EP.out, decide_eq_false h1]; simp)
            have FB := hid (below_next HB.out (below_next B.out N0.out))
            clear h1 HR2 EP
            go_wp2_with fail
            go_ret
            exact Ret.mk (bool_val E3.out.symm) FB.out
        · have hr2 := hr.out
          rw [List.drop_of_length_le (by omega), List.drop_of_length_le (by omega)] at hr2
          have HR2 := hid (show true = r from by rw [E2.out]; exact hr2); clear hr2
          have hlt2 : ¬ ((k : Int) < (l.length : Int)) := by omega
          have FB := hid (below_next HB.out B.out)
          go_wp2_with fail
          go_ret
          exact Ret.mk (bool_val HR2.out) FB.out
    · have E1 := hid (show r = false by rw [E2.out]; exact eqG_len eqP l m hn)
      have h3 : ((l.length : Int) != (m.length : Int)) = true := by rw [bne_iff_ne]; omega
      clear hn
      go_wp2_with fail
      go_ret
      exact Ret.mk (bool_val E1.out.symm) HB.out
end Sys
end Go.Proofs.YtgopfjnpjkpelaaDoor
namespace Go.Proofs
open Go.Shelf
def Tryd.lays156_ren : Go.Shelf.Ren := ⟨fun | 156 => 36 | 165 => 47 | 166 => 48 | 169 => 49 | 240 => 56 | 241 => 57 | 276 => 63 | 277 => 64 | n => n, fun | 31 => 67 | 9 => 9 | 3 => 3 | 4 => 4 | 0 => 0 | 20 => 20 | 72 => 78 | 76 => 82 | 70 => 76 | 37 => 22 | 75 => 81 | 127 => 89 | 164 => 98 | 5 => 5 | 80 => 54 | n => n, fun | n => n⟩
theorem Tryd.lays156 : Go.Proofs.Lays.n156 Tryd.prog Tryd.lays156_ren := {
  mixed := by kernel_rfl
  f156 := Tryd.func36.trans (congrArg some (by kernel_rfl))
  f165 := Tryd.func47.trans (congrArg some (by kernel_rfl))
  f166 := Tryd.func48.trans (congrArg some (by kernel_rfl))
  f169 := Tryd.func49.trans (congrArg some (by kernel_rfl))
  f240 := Tryd.func56.trans (congrArg some (by kernel_rfl))
  f241 := Tryd.func57.trans (congrArg some (by kernel_rfl))
  f276 := Tryd.func63.trans (congrArg some (by kernel_rfl))
  f277 := Tryd.func64.trans (congrArg some (by kernel_rfl))
  t0 := Tryd.underlying0
  a0 := Tryd.isAgg0
  z0 := Tryd.sizeOf0
  v0 := Tryd.zeroValue0
  t3 := Tryd.underlying3
  a3 := Tryd.isAgg3
  z3 := Tryd.sizeOf3
  v3 := Tryd.zeroValue3
  t4 := Tryd.underlying4
  a4 := Tryd.isAgg4
  z4 := Tryd.sizeOf4
  v4 := Tryd.zeroValue4
  t9 := Tryd.underlying9
  a9 := Tryd.isAgg9
  z9 := Tryd.sizeOf9
  v9 := Tryd.zeroValue9
  t20 := Tryd.underlying20
  a20 := Tryd.isAgg20
  z20 := Tryd.sizeOf20
  v20 := Tryd.zeroValue20
  t31 := Tryd.underlying67
  a31 := Tryd.isAgg67
  z31 := Tryd.sizeOf67
  v31 := Tryd.zeroValue67
  t37 := Tryd.underlying22
  a37 := Tryd.isAgg22
  z37 := Tryd.sizeOf22
  v37 := Tryd.zeroValue22
  t70 := Tryd.underlying76
  a70 := Tryd.isAgg76
  z70 := Tryd.sizeOf76
  v70 := Tryd.zeroValue76
  t72 := Tryd.underlying78
  a72 := Tryd.isAgg78
  z72 := Tryd.sizeOf78
  v72 := Tryd.zeroValue78
  t75 := Tryd.underlying81
  a75 := Tryd.isAgg81
  z75 := Tryd.sizeOf81
  v75 := Tryd.zeroValue81
  t76 := Tryd.underlying82
  a76 := Tryd.isAgg82
  z76 := Tryd.sizeOf82
  v76 := Tryd.zeroValue82
  t127 := Tryd.underlying89
  a127 := Tryd.isAgg89
  z127 := Tryd.sizeOf89
  v127 := Tryd.zeroValue89
  t164 := Tryd.underlying98
  a164 := Tryd.isAgg98
  z164 := Tryd.sizeOf98
  v164 := Tryd.zeroValue98 }
theorem Tryd.Builder_Extra_156 : Builder.Extra Tryd.prog Tryd.lays156_ren := {
  sizeBuilder := by kernel_rfl
  liesBuilder := by kernel_rfl
  t5 := Tryd.underlying5
  a5 := Tryd.isAgg5
  z5 := Tryd.sizeOf5
  v5 := Tryd.zeroValue5
  infoByte := by kernel_rfl
  cellsByte := by kernel_rfl
  sizeByte := by kernel_rfl
  neB5 := by decide }
open Go.RowKit in
/-- No element: the empty string; the world is as it was. (Whatever the slice's address and capacity: a nil slice too.) (LAID: no walk: one application.) -/
theorem Tryd.strings_Join_none (a : Option Addr) (c : Nat) (sep : ByteArray) (w : World) :
    Calls Tryd.prog 36 #[.slice a 0 c, .string sep] w fun e w' => e = .returned (.string ⟨#[]⟩) ∧ w' = w := Any.strings_Join_none Tryd.lays156 Tryd.Builder_Extra_156 a c sep w
open Go.RowKit in
/-- strings.Join: "Join concatenates the elements of its first argument to create a single string. The separator string sep is placed between elements in the resulting string.": HOWEVER MANY ELEMENTS. Below the heap's end the world is as it was. (LAID: no walk: one application.) -/
theorem Tryd.strings_Join (bk o c : Nat) (xs : List ByteArray) (sep : ByteArray) (w : World) (hcells : ∀ (j : Nat) x, xs[j]? = some x → w.cell? ⟨bk, o + j, none⟩ = some (.string x)) (hbk : bk < w.heap.size) (hN : xs.length ≤ 140737488355328) (hcap : xs.length ≤ c) (hlen : (Lib.join (xs.map (·.data.toList)) sep.data.toList).length ≤ 140737488355328) :
    Calls Tryd.prog 36 #[.slice (some ⟨bk, o, none⟩) xs.length c, .string sep] w fun e w' => e = .returned (.string ⟨(Lib.join (xs.map (·.data.toList)) sep.data.toList).toArray⟩) ∧ Below w.heap.size w w' := Any.strings_Join Tryd.lays156 Tryd.Builder_Extra_156 bk o c xs sep w hcells hbk hN hcap hlen
end Go.Proofs
namespace Go.Proofs.YtgopfjnpjkpelaaDoor
open Go.RowKit
namespace Expr

/-- the sign of a kind that has operands -/
def SignOf (k : Int) (s : ByteArray) : Prop := (k = 4 ∧ s = ⟨#[38]⟩) ∨ (k = 5 ∧ s = ⟨#[124]⟩) ∨ (k = 6 ∧ s = ⟨#[61]⟩) ∨ (k = 7 ∧ s = ⟨#[60]⟩) ∨ (k = 8 ∧ s = ⟨#[43]⟩) ∨ (k = 9 ∧ s = ⟨#[45]⟩)

/-- the digit of a small number -/
def DecOf (v : Int) (s : ByteArray) : Prop := (v = 0 ∧ s = ⟨#[48]⟩) ∨ (v = 1 ∧ s = ⟨#[49]⟩) ∨ (v = 2 ∧ s = ⟨#[50]⟩) ∨ (v = 3 ∧ s = ⟨#[51]⟩)
theorem conv_digit (w : World) (n : Int) (q : UInt8) (h : (q.toNat : Int) = n) : (convert 22 9 (.slice (some ⟨w.heap.size, 0, none⟩) 1 1)).run Tryd.prog (w.alloc (.cells #[.int .u8 n] 5)) = .ok (.string ⟨#[q]⟩) (w.alloc (.cells #[.int .u8 n] 5)) := by
  subst h
  exact run_convert_bytes_back (P := Tryd.prog) _ 22 9 5 ⟨w.heap.size, 0, none⟩ 1 [q] Tryd.underlying22 Tryd.underlying5 Tryd.underlying9 (fun j hj => by
    obtain rfl : j = 0 := by simpa using hj
    simp [Addr.add])
theorem expr_cases {M : Tr → Prop} (cst : ∀ v s, DecOf v s → M (.mk 1 v [])) (var : ∀ v, (v = 0 ∨ v = 1 ∨ v = 2) → M (.mk 2 v []))
    (un : ∀ t, M t → M (.mk 3 0 [t])) (two : ∀ k s, SignOf k s → ∀ t u, M t → M u → M (.mk k 0 [t, u]))
    (bad : ∀ t, (∀ n : Nat, exprL.shape t n = false) → M t) : ∀ t, M t := Tr.ind fun k v kids ih => by
  by_cases hs : ∃ n : Nat, exprL.shape (.mk k v kids) n = true
  · obtain ⟨n, hs⟩ := hs
    obtain ⟨m, h1, h2, h3, h4, h5, h6, h7⟩ := exprL.shape_mk hs
    rw [exprL_K] at h3
    rw [exprL_most] at h5
    rw [exprL_ar] at h6
    have hk : k = 1 ∨ k = 2 ∨ k = 3 ∨ k = 4 ∨ k = 5 ∨ k = 6 ∨ k = 7 ∨ k = 8 ∨ k = 9 := by omega
    rcases hk with rfl | rfl | rfl | hk
    · obtain rfl := len0 (by simpa using h6)
      simp at h5
      have hv : v = 0 ∨ v = 1 ∨ v = 2 ∨ v = 3 := by omega
      rcases hv with rfl | rfl | rfl | rfl
      · exact cst 0 _ (.inl ⟨rfl, rfl⟩)
      · exact cst 1 _ (.inr (.inl ⟨rfl, rfl⟩))
      · exact cst 2 _ (.inr (.inr (.inl ⟨rfl, rfl⟩)))
      · exact cst 3 _ (.inr (.inr (.inr ⟨rfl, rfl⟩)))
    · obtain rfl := len0 (by simpa using h6)
      simp at h5
      exact var v (by omega)
    · obtain ⟨a, rfl⟩ := len1 (by simpa using h6)
      obtain rfl : v = 0 := by simp at h5; omega
      exact un a (ih a (by simp))
    · have hv : v = 0 := by rcases hk with rfl | rfl | rfl | rfl | rfl | rfl <;> simp at h5 <;> omega
      subst hv
      obtain ⟨a, b, rfl⟩ := len2 (by rcases hk with rfl | rfl | rfl | rfl | rfl | rfl <;> simpa using h6)
      have hx : ∃ s, SignOf k s := by
        unfold SignOf
        rcases hk with rfl | rfl | rfl | rfl | rfl | rfl <;> simp
      obtain ⟨s, hx⟩ := hx
      exact two k s hx a b (ih a (by simp)) (ih b (by simp))
  · refine bad _ fun n => ?_
    cases hq : exprL.shape (.mk k v kids) n
    · rfl
    · exact absurd ⟨n, hq⟩ hs

end Expr
end Go.Proofs.YtgopfjnpjkpelaaDoor
namespace Go.Proofs.YtgopfjnpjkpelaaDoor
open Go.RowKit
namespace Expr

/-- what the table of signs holds, where it is read -/
def TabAt (i : Nat) (s : ByteArray) : Prop := (i = 4 ∧ s = ⟨#[38]⟩) ∨ (i = 5 ∧ s = ⟨#[124]⟩) ∨ (i = 6 ∧ s = ⟨#[61]⟩) ∨ (i = 7 ∧ s = ⟨#[60]⟩) ∨ (i = 8 ∧ s = ⟨#[43]⟩) ∨ (i = 9 ∧ s = ⟨#[45]⟩)
/-- THE TABLE IN MEMORY -/
def Sg (w : World) : Prop := ∃ b o c, w.cell? ⟨0, 0, none⟩ = some (.slice (some ⟨b, o, none⟩) 10 c) ∧ ∀ i s, TabAt i s → w.cell? ⟨b, o + i, none⟩ = some (.string s)
theorem Sg_below {w W : World} (B : Below w.heap.size w W) (h : Sg w) : Sg W := by
  obtain ⟨b, o, c, h1, h2⟩ := h
  exact ⟨b, o, c, (B.cell (p := ⟨0, 0, none⟩) (blt h1)).trans h1, fun i s hi => (B.cell (p := ⟨b, o + i, none⟩) (blt (h2 i s hi))).trans (h2 i s hi)⟩
theorem Sg_over {w : World} (h : Sg w) (y : Over w) : Sg (w.over y) := Sg_below (over_below _ _) h

def TxT (t : Tr) : Prop := ∀ (n : Nat) (w : World) (x : Value), exprL.shape t n = true → nodes t ≤ 15 → TrIn Any w t x → Sg w → Calls Tryd.prog 22 #[x] w (Ret (.string (bs (exprT.txt t))) w)

theorem small_any (v : Int) (s : ByteArray) (hv : DecOf v s) (w : World) : Calls Tryd.prog 58 #[.int .i64 v] w (Ret (.string s) w) := by
  rcases hv with ⟨rfl, rfl⟩ | ⟨rfl, rfl⟩ | ⟨rfl, rfl⟩ | ⟨rfl, rfl⟩
  all_goals
    go_enter Tryd.func58, Tryd.ntmps58
    go_wp2_with fail
    go_ret
    exact Ret.mk (str_val rfl) (Below.refl _ _)
theorem formatInt_any (v : Int) (s : ByteArray) (hv : DecOf v s) (w : World) : Calls Tryd.prog 50 #[.int .i64 v, .int .i64 10] w (Ret (.string s) w) := by
  have H := hid (fun w => small_any v s hv w)
  have h1 : 0 ≤ v := by unfold DecOf at hv; omega
  have h2 : v < 100 := by unfold DecOf at hv; omega
  clear hv
  go_enter Tryd.func50, Tryd.ntmps50
  go_wp2_with fail
  refine (H.out _).mono ?_
  rintro e w1 ⟨rfl, hb⟩
  go_wp2_with fail
  go_ret
  exact Ret.mk rfl hb
theorem itoa1_any (v : Int) (s : ByteArray) (hv : DecOf v s) (w : World) : Calls Tryd.prog 37 #[.int .i64 v] w (Ret (.string s) w) := by
  have H := hid (fun w => formatInt_any v s hv w)
  clear hv
  go_enter Tryd.func37, Tryd.ntmps37
  go_wp2_with fail
  refine (H.out _).mono ?_
  rintro e w1 ⟨rfl, hb⟩
  go_wp2_with fail
  go_ret
  exact Ret.mk rfl hb
theorem itoa_any (v : Int) (s : ByteArray) (hv : DecOf v s) (w : World) : Calls Tryd.prog 21 #[.int .i64 v] w (Ret (.string s) w) := by
  have H := hid (fun w => itoa1_any v s hv w)
  clear hv
  go_enter Tryd.func21, Tryd.ntmps21
  go_wp2_with fail
  refine (H.out _).mono ?_
  rintro e w1 ⟨rfl, hb⟩
  go_wp2_with fail
  go_ret
  exact Ret.mk rfl hb

theorem tx_const (v : Int) (s : ByteArray) (hv : DecOf v s) : TxT (.mk 1 v []) := by
  intro n w x hs hn hx _
  have E := hid (show bs (exprT.txt (.mk 1 v [])) = s by rcases hv with ⟨rfl, rfl⟩ | ⟨rfl, rfl⟩ | ⟨rfl, rfl⟩ | ⟨rfl, rfl⟩ <;> rfl)
  rw [TrIn_mk] at hx
  obtain ⟨a, n', c, rfl, _, _, rfl, hc, hc2, hks⟩ := hx
  clear hs hn hks
  simp only [List.length_nil] at hc ⊢
  go_enter Tryd.func22, Tryd.ntmps22
  go_wp2_with fail
  refine (itoa_any v s hv _).mono ?_
  rintro e w1 ⟨rfl, hb1⟩
  go_wp2_with fail
  go_ret
  refine Ret.mk (str_val ?_) (below_next (below_alloc _ _) hb1)
  rw [E.out]

set_option maxHeartbeats 1000000 in
theorem tx_var (v : Int) (hk : v = 0 ∨ v = 1 ∨ v = 2) : TxT (.mk 2 v []) := by
  intro n w x hs hn hx _
  have E := hid (show exprT.txt (.mk 2 v []) = exprT.pre 2 v from rfl)
  rw [TrIn_mk] at hx
  obtain ⟨a, n', c, rfl, _, _, rfl, hc, hc2, hks⟩ := hx
  clear hs hn hks
  simp only [List.length_nil] at hc ⊢
  rcases hk with rfl | rfl | rfl
  all_goals
    go_enter Tryd.func22, Tryd.ntmps22
    go_wp2_with fail
    go_ret
    refine Ret.mk (str_val ?_) (below_alloc _ _)
    rw [E.out]; rfl

set_option maxHeartbeats 1000000 in
theorem tx_un (t : Tr) (h : TxT t) : TxT (.mk 3 0 [t]) := by
  intro n w x hs hn hx hg
  have E := hid (show bs (exprT.txt (.mk 3 0 [t])) = bs [33] ++ bs (exprT.txt t) by rw [bs_append]; rfl)
  obtain ⟨m, rfl, _, _, _, _, _, hkids⟩ := exprL.shape_mk hs
  rw [TrIn_mk] at hx
  obtain ⟨a, n', c, rfl, _, _, rfl, hc, hc2, hks⟩ := hx
  rw [TrsIn_cons] at hks
  obtain ⟨b, o, c0, c1, c2, rfl, _, g0, g1, g2, hT, _⟩ := hks
  have hb := blt g0
  have hkid := hid (hkids t (by simp))
  have hl := exprT.txt_len t
  simp only [nodes, nodesL] at hn
  have hcn : nodes t ≤ 15 := by omega
  have hl2 : (bs (exprT.txt t)).size ≤ 100 := by rw [bs_size]; omega
  clear hkids hs hl hn
  simp only [List.length_cons, List.length_nil] at hc ⊢
  have H := hid (fun w x (hx : TrIn Any w t x) (hg : Sg w) => h m w x hkid.out hcn hx hg)
  have HG := hid hg
  clear hg
  generalize bs (exprT.txt t) = S at *
  go_enter Tryd.func22, Tryd.ntmps22
  go_wp2_with fail
  refine (H.out _ _ (TrIn_alloc hT _) (Sg_below (below_alloc _ _) HG.out)).mono ?_
  rintro e w1 ⟨rfl, hb1⟩
  go_wp2_with fail
  go_ret
  refine Ret.mk (str_val ?_) (below_next (below_alloc _ _) hb1)
  rw [E.out]; rfl

set_option maxHeartbeats 4000000 in
theorem tx_two (k : Int) (s : ByteArray) (hk : SignOf k s) (t u : Tr) (h : TxT t) (h' : TxT u) : TxT (.mk k 0 [t, u]) := by
  intro n w x hs hn hx hg
  have hpre : bs (exprT.pre k 0) = bs [40] ∧ bs (exprT.mid k) = s := by rcases hk with ⟨rfl, rfl⟩ | ⟨rfl, rfl⟩ | ⟨rfl, rfl⟩ | ⟨rfl, rfl⟩ | ⟨rfl, rfl⟩ | ⟨rfl, rfl⟩ <;> exact ⟨rfl, rfl⟩
  have htab : TabAt k.toNat s := by unfold TabAt; rcases hk with ⟨rfl, rfl⟩ | ⟨rfl, rfl⟩ | ⟨rfl, rfl⟩ | ⟨rfl, rfl⟩ | ⟨rfl, rfl⟩ | ⟨rfl, rfl⟩ <;> simp
  have E := hid (show bs (exprT.txt (.mk k 0 [t, u])) = bs [40] ++ bs (exprT.txt t) ++ s ++ bs (exprT.txt u) ++ bs [41] by simp only [TLang.txt, TLang.txts, nodeTxt, ← bs_append, hpre]; simp only [ByteArray.append_assoc])
  obtain ⟨m, rfl, _, _, _, _, _, hkids⟩ := exprL.shape_mk hs
  rw [TrIn_mk] at hx
  obtain ⟨a, n', c, rfl, _, _, rfl, hc, hc2, hks⟩ := hx
  rw [TrsIn_cons] at hks
  obtain ⟨b, o, c0, c1, c2, rfl, _, g0, g1, g2, hT, hks⟩ := hks
  rw [TrsIn_cons] at hks
  obtain ⟨b', o', d0, d1, d2, hbo, _, f0, f1, f2, hU, _⟩ := hks
  simp only [Option.some.injEq, Addr.mk.injEq, and_true] at hbo
  obtain ⟨rfl, rfl⟩ := hbo
  have hb := blt g0
  have hkid := hid (hkids t (by simp))
  have hkid' := hid (hkids u (by simp))
  have hl := exprT.txt_len t
  have hl' := exprT.txt_len u
  simp only [nodes, nodesL] at hn
  have hp := nodes_pos t
  have hp' := nodes_pos u
  have hcn : nodes t ≤ 15 := by omega
  have hcn' : nodes u ≤ 15 := by omega
  have hl2 : (bs (exprT.txt t)).size ≤ 100 := by rw [bs_size]; omega
  have hl2' : (bs (exprT.txt u)).size ≤ 100 := by rw [bs_size]; omega
  clear hkids hs hpre hl hl' hn hp hp'
  simp only [List.length_cons, List.length_nil] at hc ⊢
  have H := hid (fun w x (hx : TrIn Any w t x) (hg : Sg w) => h m w x hkid.out hcn hx hg)
  have H' := hid (fun w x (hx : TrIn Any w u x) (hg : Sg w) => h' m w x hkid'.out hcn' hx hg)
  have HG := hid hg
  obtain ⟨sb, so, sc, s0, s1⟩ := hg
  have s2 := s1 _ _ htab
  have hsb := blt s2
  have hs0 := blt s0
  clear s1 htab
  generalize bs (exprT.txt t) = S at *
  generalize bs (exprT.txt u) = S' at *
  rcases hk with ⟨rfl, rfl⟩ | ⟨rfl, rfl⟩ | ⟨rfl, rfl⟩ | ⟨rfl, rfl⟩ | ⟨rfl, rfl⟩ | ⟨rfl, rfl⟩
  all_goals
    go_enter Tryd.func22, Tryd.ntmps22
    go_wp2_with fail
    refine wp_gen (fun W => Below w.heap.size w W ∧ Box3 W w.heap.size _ (.int .i64 0) (.slice (some ⟨b, o, none⟩) 2 c)) ⟨below_alloc _ _, box3_new ..⟩ ?_
    rintro W ⟨B, b3⟩
    obtain ⟨k0, k1, k2⟩ := cells_next B hb g0 g1 g2
    obtain ⟨j0, j1, j2⟩ := cells_next B hb f0 f1 f2
    have q0 := (B.cell (p := ⟨0, 0, none⟩) hs0).trans s0
    have q1 := (B.cell (p := ⟨sb, _, none⟩) hsb).trans s2
    simp only [Int.reduceToNat] at q1
    have hbW : b < W.heap.size := Nat.lt_of_lt_of_le hb B.size
    have hbS : sb < W.heap.size := Nat.lt_of_lt_of_le hsb B.size
    have hb0 : 0 < W.heap.size := Nat.lt_of_lt_of_le hs0 B.size
    refine wp_region_over (by kernel_rfl) (by kernel_rfl) ?_; (repeat (go_big_quiet_step ((go_at_call 22; first | with_reducible exact Calls.over (H.out _ _ (TrIn_over (TrIn_below B hT) _) (Sg_over (Sg_below B HG.out) _)) | with_reducible exact Calls.over (H'.out _ _ (TrIn_over (TrIn_below B hU) _) (Sg_over (Sg_below B HG.out) _)))))); refine wpQuiet_nil ?_; rintro _ ⟨xq, rfl⟩
    go_wp2_with fail
    go_ret
    refine Ret.mk (str_val ?_) (below_next B (over_below W xq))
    rw [E.out]; rfl

theorem tx_any : ∀ t, TxT t := expr_cases tx_const tx_var tx_un tx_two (fun t h n w x hs => by rw [h n] at hs; cases hs)

end Expr
end Go.Proofs.YtgopfjnpjkpelaaDoor
namespace Go.Proofs.YtgopfjnpjkpelaaDoor
open Go.RowKit
namespace Edge

/-- the empty expression -/
def none0 : Tr := .mk 0 0 []
theorem none0_in (p : Nat → Prop) (w : World) : TrIn p w none0 (.agg #[.int .i64 0, .int .i64 0, .slice none 0 0]) :=
  (TrIn_mk ..).2 ⟨none, 0, 0, rfl, by unfold i64; omega, by unfold i64; omega, rfl, Nat.le_refl _, Nat.zero_le _, TrsIn_nil _ _ _⟩
def isNone (t : Tr) : Bool := decide (t.kind = 0) && (decide (t.val = 0) && decide (t.kids.length = 0))
theorem isNone_eq (t : Tr) : eqT t none0 = isNone t := by
  rw [Bool.eq_iff_iff, eqT_true]
  simp only [isNone, Bool.and_eq_true, decide_eq_true_eq]
  cases t with
  | mk k v kids => cases kids <;> simp [none0, Tr.kind, Tr.val, Tr.kids]

def okV (e : Ed) (g v : Bool) : Bool := g && (decide (-2 ≤ e.sync ∧ e.sync ≤ 2) && (decide (-1 ≤ e.var ∧ e.var ≤ 2) && (if e.var < 0 then isNone e.val else v)))
/-- is an edge valid among so many locations -/
def okB (e : Ed) (n : Int) : Bool := decide ((0 ≤ e.src ∧ e.src < n) ∧ (0 ≤ e.dst ∧ e.dst < n) ∧ n ≤ 4) && okV e (exprL.valid e.guard) (exprL.valid e.val)

end Edge
end Go.Proofs.YtgopfjnpjkpelaaDoor
namespace Go.Proofs.YtgopfjnpjkpelaaDoor
open Go.RowKit
namespace Edge

set_option maxHeartbeats 4000000 in
theorem edge_any (e : Ed) (n : Int) (w : World) (x : Value) (hx : EdIn Any w e x) : Calls Tryd.prog 35 #[x, .int .i64 n] w (Ret (.bool (okB e n)) w) := by
  obtain ⟨a, c, a', c', rfl, _, _, _, _, hg, hv⟩ := hx
  have HG := hid (fun w' (M : Below w.heap.size w w') => Expr.valid_any e.guard w' _ (TrIn_below M hg))
  have HV := hid (fun w' (M : Below w.heap.size w w') => Expr.valid_any e.val w' _ (TrIn_below M hv))
  have HS := hid (fun w' (M : Below w.heap.size w w') => (show Calls Tryd.prog 29 #[.agg #[.int .i64 e.val.kind, .int .i64 e.val.val, .slice a' e.val.kids.length c'], .agg #[.int .i64 0, .int .i64 0, .slice none 0 0]] w' (Ret (.bool (isNone e.val)) w') by
    have := Expr.same_any e.val w' none0 _ _ (TrIn_below M hv) (none0_in Any w')
    rw [isNone_eq] at this
    exact this))
  clear hg hv
  by_cases h1 : 1 ≤ n ∧ n ≤ 4
  · have H1 := hid h1
    obtain ⟨n1, n2⟩ := h1
    by_cases h2 : 0 ≤ e.src ∧ e.src ≤ n - 1
    · by_cases h3 : 0 ≤ e.dst ∧ e.dst ≤ n - 1
      · have E0 := hid (show okB e n = okV e (exprL.valid e.guard) (exprL.valid e.val) by simp only [okB]; rw [decide_eq_true (by omega), Bool.true_and])
        have H2 := hid h2
        have H3 := hid h3
        clear h2 h3
        generalize exprL.valid e.guard = g at *
        generalize exprL.valid e.val = v at *
        cases g with
        | false =>
          have E := hid (show okB e n = false by rw [E0.out]; rfl)
          go_enter Tryd.func35, Tryd.ntmps35
          go_wp2_with fail
          refine (in_yes H1.out _).mono ?_
          rintro y _ ⟨rfl, rfl⟩
          go_wp2_with fail
          refine (in_yes H2.out _).mono ?_
          rintro y _ ⟨rfl, rfl⟩
          go_wp2_with fail
          refine (in_yes H3.out _).mono ?_
          rintro y _ ⟨rfl, rfl⟩
          go_wp2_with fail
          refine (HG.out _ (below_alloc _ _)).mono ?_
          rintro y w1 ⟨rfl, hb⟩
          have bx := box10_next hb (box10_new ..)
          have B := below_next (below_alloc _ _) hb
          clear hb
          obtain ⟨z, ⟨k0, k1, k2, k3, k4, k5, k6, k7, k8, k9⟩, _⟩ := id bx
          go_wp2_with fail
          go_ret
          exact Ret.mk (bool_val (by rw [E.out])) B
        | true =>
          by_cases h5 : -1 ≤ e.var ∧ e.var ≤ 2
          · have H5 := hid h5
            by_cases h8 : e.var < 0
            · have h9 : ¬ (e.var ≥ 0) := by omega
              have E2 := hid (show okB e n = (decide (-2 ≤ e.sync ∧ e.sync ≤ 2) && isNone e.val) by rw [E0.out]; simp [okV, h5, h8])
              clear h5
              generalize isNone e.val = q at *
              cases q with
              | false =>
                have E := hid (show okB e n = false by rw [E2.out]; simp)
                go_enter Tryd.func35, Tryd.ntmps35
                go_wp2_with fail
                refine (in_yes H1.out _).mono ?_
                rintro y _ ⟨rfl, rfl⟩
                go_wp2_with fail
                refine (in_yes H2.out _).mono ?_
                rintro y _ ⟨rfl, rfl⟩
                go_wp2_with fail
                refine (in_yes H3.out _).mono ?_
                rintro y _ ⟨rfl, rfl⟩
                go_wp2_with fail
                refine (HG.out _ (below_alloc _ _)).mono ?_
                rintro y w1 ⟨rfl, hb⟩
                have bx := box10_next hb (box10_new ..)
                have B := below_next (below_alloc _ _) hb
                clear hb
                obtain ⟨z, ⟨k0, k1, k2, k3, k4, k5, k6, k7, k8, k9⟩, _⟩ := id bx
                go_wp2_with fail
                refine (in_yes H5.out _).mono ?_
                rintro y _ ⟨rfl, rfl⟩
                go_wp2_with fail
                refine (HS.out _ B).mono ?_
                rintro y w2 ⟨rfl, hb⟩
                obtain ⟨z, ⟨k0, k1, k2, k3, k4, k5, k6, k7, k8, k9⟩, _⟩ := box10_next hb bx
                replace B := below_next B hb
                clear hb bx
                go_wp2_with fail
                go_ret
                exact Ret.mk (bool_val (by rw [E.out])) B
              | true =>
                by_cases h7 : -2 ≤ e.sync ∧ e.sync ≤ 2
                · have E := hid (show okB e n = true by rw [E2.out]; simp [h7])
                  have H7 := hid h7
                  clear h7
                  go_enter Tryd.func35, Tryd.ntmps35
                  go_wp2_with fail
                  refine (in_yes H1.out _).mono ?_
                  rintro y _ ⟨rfl, rfl⟩
                  go_wp2_with fail
                  refine (in_yes H2.out _).mono ?_
                  rintro y _ ⟨rfl, rfl⟩
                  go_wp2_with fail
                  refine (in_yes H3.out _).mono ?_
                  rintro y _ ⟨rfl, rfl⟩
                  go_wp2_with fail
                  refine (HG.out _ (below_alloc _ _)).mono ?_
                  rintro y w1 ⟨rfl, hb⟩
                  have bx := box10_next hb (box10_new ..)
                  have B := below_next (below_alloc _ _) hb
                  clear hb
                  obtain ⟨z, ⟨k0, k1, k2, k3, k4, k5, k6, k7, k8, k9⟩, _⟩ := id bx
                  go_wp2_with fail
                  refine (in_yes H5.out _).mono ?_
                  rintro y _ ⟨rfl, rfl⟩
                  go_wp2_with fail
                  refine (HS.out _ B).mono ?_
                  rintro y w2 ⟨rfl, hb⟩
                  obtain ⟨z, ⟨k0, k1, k2, k3, k4, k5, k6, k7, k8, k9⟩, _⟩ := box10_next hb bx
                  replace B := below_next B hb
                  clear hb bx
                  go_wp2_with fail
                  refine (in_yes H7.out _).mono ?_
                  rintro y _ ⟨rfl, rfl⟩
                  go_wp2_with fail
                  go_ret
                  exact Ret.mk (bool_val (by rw [E.out])) B
                · have E := hid (show okB e n = false by rw [E2.out]; simp [h7])
                  have H7 := hid h7
                  clear h7
                  go_enter Tryd.func35, Tryd.ntmps35
                  go_wp2_with fail
                  refine (in_yes H1.out _).mono ?_
                  rintro y _ ⟨rfl, rfl⟩
                  go_wp2_with fail
                  refine (in_yes H2.out _).mono ?_
                  rintro y _ ⟨rfl, rfl⟩
                  go_wp2_with fail
                  refine (in_yes H3.out _).mono ?_
                  rintro y _ ⟨rfl, rfl⟩
                  go_wp2_with fail
                  refine (HG.out _ (below_alloc _ _)).mono ?_
                  rintro y w1 ⟨rfl, hb⟩
                  have bx := box10_next hb (box10_new ..)
                  have B := below_next (below_alloc _ _) hb
                  clear hb
                  obtain ⟨z, ⟨k0, k1, k2, k3, k4, k5, k6, k7, k8, k9⟩, _⟩ := id bx
                  go_wp2_with fail
                  refine (in_yes H5.out _).mono ?_
                  rintro y _ ⟨rfl, rfl⟩
                  go_wp2_with fail
                  refine (HS.out _ B).mono ?_
                  rintro y w2 ⟨rfl, hb⟩
                  obtain ⟨z, ⟨k0, k1, k2, k3, k4, k5, k6, k7, k8, k9⟩, _⟩ := box10_next hb bx
                  replace B := below_next B hb
                  clear hb bx
                  go_wp2_with fail
                  refine (in_no H7.out _).mono ?_
                  rintro y _ ⟨rfl, rfl⟩
                  go_wp2_with fail
                  go_ret
                  exact Ret.mk (bool_val (by rw [E.out])) B
            · have h9 : e.var ≥ 0 := by omega
              have E2 := hid (show okB e n = (decide (-2 ≤ e.sync ∧ e.sync ≤ 2) && v) by rw [E0.out]; simp [okV, h5, h8])
              clear h5
              cases v with
              | false =>
                have E := hid (show okB e n = false by rw [E2.out]; simp)
                go_enter Tryd.func35, Tryd.ntmps35
                go_wp2_with fail
                refine (in_yes H1.out _).mono ?_
                rintro y _ ⟨rfl, rfl⟩
                go_wp2_with fail
                refine (in_yes H2.out _).mono ?_
                rintro y _ ⟨rfl, rfl⟩
                go_wp2_with fail
                refine (in_yes H3.out _).mono ?_
                rintro y _ ⟨rfl, rfl⟩
                go_wp2_with fail
                refine (HG.out _ (below_alloc _ _)).mono ?_
                rintro y w1 ⟨rfl, hb⟩
                have bx := box10_next hb (box10_new ..)
                have B := below_next (below_alloc _ _) hb
                clear hb
                obtain ⟨z, ⟨k0, k1, k2, k3, k4, k5, k6, k7, k8, k9⟩, _⟩ := id bx
                go_wp2_with fail
                refine (in_yes H5.out _).mono ?_
                rintro y _ ⟨rfl, rfl⟩
                go_wp2_with fail
                refine (HV.out _ B).mono ?_
                rintro y w2 ⟨rfl, hb⟩
                obtain ⟨z, ⟨k0, k1, k2, k3, k4, k5, k6, k7, k8, k9⟩, _⟩ := box10_next hb bx
                replace B := below_next B hb
                clear hb bx
                go_wp2_with fail
                go_ret
                exact Ret.mk (bool_val (by rw [E.out])) B
              | true =>
                by_cases h7 : -2 ≤ e.sync ∧ e.sync ≤ 2
                · have E := hid (show okB e n = true by rw [E2.out]; simp [h7])
                  have H7 := hid h7
                  clear h7
                  go_enter Tryd.func35, Tryd.ntmps35
                  go_wp2_with fail
                  refine (in_yes H1.out _).mono ?_
                  rintro y _ ⟨rfl, rfl⟩
                  go_wp2_with fail
                  refine (in_yes H2.out _).mono ?_
                  rintro y _ ⟨rfl, rfl⟩
                  go_wp2_with fail
                  refine (in_yes H3.out _).mono ?_
                  rintro y _ ⟨rfl, rfl⟩
                  go_wp2_with fail
                  refine (HG.out _ (below_alloc _ _)).mono ?_
                  rintro y w1 ⟨rfl, hb⟩
                  have bx := box10_next hb (box10_new ..)
                  have B := below_next (below_alloc _ _) hb
                  clear hb
                  obtain ⟨z, ⟨k0, k1, k2, k3, k4, k5, k6, k7, k8, k9⟩, _⟩ := id bx
                  go_wp2_with fail
                  refine (in_yes H5.out _).mono ?_
                  rintro y _ ⟨rfl, rfl⟩
                  go_wp2_with fail
                  refine (HV.out _ B).mono ?_
                  rintro y w2 ⟨rfl, hb⟩
                  obtain ⟨z, ⟨k0, k1, k2, k3, k4, k5, k6, k7, k8, k9⟩, _⟩ := box10_next hb bx
                  replace B := below_next B hb
                  clear hb bx
                  go_wp2_with fail
                  refine (in_yes H7.out _).mono ?_
                  rintro y _ ⟨rfl, rfl⟩
                  go_wp2_with fail
                  go_ret
                  exact Ret.mk (bool_val (by rw [E.out])) B
                · have E := hid (show okB e n = false by rw [E2.out]; simp [h7])
                  have H7 := hid h7
                  clear h7
                  go_enter Tryd.func35, Tryd.ntmps35
                  go_wp2_with fail
                  refine (in_yes H1.out _).mono ?_
                  rintro y _ ⟨rfl, rfl⟩
                  go_wp2_with fail
                  refine (in_yes H2.out _).mono ?_
                  rintro y _ ⟨rfl, rfl⟩
                  go_wp2_with fail
                  refine (in_yes H3.out _).mono ?_
                  rintro y _ ⟨rfl, rfl⟩
                  go_wp2_with fail
                  refine (HG.out _ (below_alloc _ _)).mono ?_
                  rintro y w1 ⟨rfl, hb⟩
                  have bx := box10_next hb (box10_new ..)
                  have B := below_next (below_alloc _ _) hb
                  clear hb
                  obtain ⟨z, ⟨k0, k1, k2, k3, k4, k5, k6, k7, k8, k9⟩, _⟩ := id bx
                  go_wp2_with fail
                  refine (in_yes H5.out _).mono ?_
                  rintro y _ ⟨rfl, rfl⟩
                  go_wp2_with fail
                  refine (HV.out _ B).mono ?_
                  rintro y w2 ⟨rfl, hb⟩
                  obtain ⟨z, ⟨k0, k1, k2, k3, k4, k5, k6, k7, k8, k9⟩, _⟩ := box10_next hb bx
                  replace B := below_next B hb
                  clear hb bx
                  go_wp2_with fail
                  refine (in_no H7.out _).mono ?_
                  rintro y _ ⟨rfl, rfl⟩
                  go_wp2_with fail
                  go_ret
                  exact Ret.mk (bool_val (by rw [E.out])) B
          · have E := hid (show okB e n = false by rw [E0.out]; simp [okV]; omega)
            have H5 := hid h5
            clear h5
            go_enter Tryd.func35, Tryd.ntmps35
            go_wp2_with fail
            refine (in_yes H1.out _).mono ?_
            rintro y _ ⟨rfl, rfl⟩
            go_wp2_with fail
            refine (in_yes H2.out _).mono ?_
            rintro y _ ⟨rfl, rfl⟩
            go_wp2_with fail
            refine (in_yes H3.out _).mono ?_
            rintro y _ ⟨rfl, rfl⟩
            go_wp2_with fail
            refine (HG.out _ (below_alloc _ _)).mono ?_
            rintro y w1 ⟨rfl, hb⟩
            have bx := box10_next hb (box10_new ..)
            have B := below_next (below_alloc _ _) hb
            clear hb
            obtain ⟨z, ⟨k0, k1, k2, k3, k4, k5, k6, k7, k8, k9⟩, _⟩ := id bx
            go_wp2_with fail
            refine (in_no H5.out _).mono ?_
            rintro y _ ⟨rfl, rfl⟩
            go_wp2_with fail
            go_ret
            exact Ret.mk (bool_val (by rw [E.out])) B
      · have E := hid (show okB e n = false by simp only [okB]; rw [decide_eq_false (by omega), Bool.false_and])
        have H2 := hid h2
        have H3 := hid h3
        clear h2 h3
        go_enter Tryd.func35, Tryd.ntmps35
        go_wp2_with fail
        refine (in_yes H1.out _).mono ?_
        rintro y _ ⟨rfl, rfl⟩
        go_wp2_with fail
        refine (in_yes H2.out _).mono ?_
        rintro y _ ⟨rfl, rfl⟩
        go_wp2_with fail
        refine (in_no H3.out _).mono ?_
        rintro y _ ⟨rfl, rfl⟩
        go_wp2_with fail
        go_ret
        exact Ret.mk (bool_val (by rw [E.out])) (by repeat (first | exact Below.refl _ _ | assumption | refine below_a ?_ _ | refine below_o ?_ _ | refine below_d ?_ | refine below_n ?_ _ | refine below_s ?_ (by first | (simp; done) | (simp; omega) | omega) _))
    · have E := hid (show okB e n = false by simp only [okB]; rw [decide_eq_false (by omega), Bool.false_and])
      have H2 := hid h2
      clear h2
      go_enter Tryd.func35, Tryd.ntmps35
      go_wp2_with fail
      refine (in_yes H1.out _).mono ?_
      rintro y _ ⟨rfl, rfl⟩
      go_wp2_with fail
      refine (in_no H2.out _).mono ?_
      rintro y _ ⟨rfl, rfl⟩
      go_wp2_with fail
      go_ret
      exact Ret.mk (bool_val (by rw [E.out])) (by repeat (first | exact Below.refl _ _ | assumption | refine below_a ?_ _ | refine below_o ?_ _ | refine below_d ?_ | refine below_n ?_ _ | refine below_s ?_ (by first | (simp; done) | (simp; omega) | omega) _))
  · have E := hid (show okB e n = false by simp only [okB]; rw [decide_eq_false (by omega), Bool.false_and])
    have H1 := hid h1
    clear h1
    go_enter Tryd.func35, Tryd.ntmps35
    go_wp2_with fail
    refine (in_no H1.out _).mono ?_
    rintro y _ ⟨rfl, rfl⟩
    go_wp2_with fail
    go_ret
    exact Ret.mk (bool_val (by rw [E.out])) (by repeat (first | exact Below.refl _ _ | assumption | refine below_a ?_ _ | refine below_o ?_ _ | refine below_d ?_ | refine below_n ?_ _ | refine below_s ?_ (by first | (simp; done) | (simp; omega) | omega) _))

end Edge
end Go.Proofs.YtgopfjnpjkpelaaDoor
namespace Go.Proofs.YtgopfjnpjkpelaaDoor
open Go.RowKit
namespace Expr

/-- three numbers from 0 to 3 lie there -/
def Vals (w : World) (a : Option Addr) (l : List Int) : Prop := IntsIn Any w a l ∧ l.length = 3 ∧ ∀ n, n ∈ l → 0 ≤ n ∧ n ≤ 3
theorem Vals.below {w w' : World} {a : Option Addr} {l : List Int} (h : Vals w a l) (hb : Below w.heap.size w w') : Vals w' a l := ⟨h.1.below hb, h.2⟩
theorem Vals.cells {w : World} {a : Option Addr} {l : List Int} (h : Vals w a l) : ∃ b o x y z, l = [x, y, z] ∧ a = some ⟨b, o, none⟩ ∧ b < w.heap.size ∧ w.cell? ⟨b, o, none⟩ = some (.int .i64 x) ∧ w.cell? ⟨b, o + 1, none⟩ = some (.int .i64 y) ∧ w.cell? ⟨b, o + 2, none⟩ = some (.int .i64 z) := by
  obtain ⟨h1, h2, h3⟩ := h
  obtain ⟨x, y, z, rfl⟩ : ∃ x y z, l = [x, y, z] := by
    match l, h2 with
    | [x, y, z], _ => exact ⟨x, y, z, rfl⟩
  obtain ⟨b, o, rfl, hb, _, e0, _⟩ := ints_at (k := 0) h1 (Below.refl _ _) (by simp)
  obtain ⟨b', o', hbo, _, _, e1, _⟩ := ints_at (k := 1) h1 (Below.refl _ _) (by simp)
  obtain ⟨b2, o2, hbo2, _, _, e2, _⟩ := ints_at (k := 2) h1 (Below.refl _ _) (by simp)
  simp only [Option.some.injEq, Addr.mk.injEq, and_true] at hbo hbo2
  obtain ⟨rfl, rfl⟩ := hbo
  obtain ⟨rfl, rfl⟩ := hbo2
  exact ⟨b, o, x, y, z, rfl, rfl, hb, e0, e1, e2⟩
def gOf (l : List Int) (v : Int) : Int := l.getD v.toNat 0
theorem Vals.bd {w : World} {a : Option Addr} {l : List Int} (h : Vals w a l) : ∀ v, 0 ≤ v → v ≤ 2 → 0 ≤ gOf l v ∧ gOf l v ≤ 3 := by
  obtain ⟨b, o, x, y, z, rfl, _⟩ := h.cells
  intro v h1 h2
  have := h.2.2
  have hv : v = 0 ∨ v = 1 ∨ v = 2 := by omega
  rcases hv with rfl | rfl | rfl
  · exact this x (by simp)
  · exact this y (by simp)
  · exact this z (by simp)

def EvT (F : Nat) (t : Tr) : Prop := ∀ (n : Nat) (w : World) (x : Value) (a : Option Addr) (l : List Int) (c : Nat), exprL.shape t n = true → TrIn Any w t x → Vals w a l → 3 ≤ c → c ≤ maxLen → Calls Tryd.prog F #[x, .slice a 3 c] w (Ret (.int .i64 (evalT (gOf l) t)) w)

theorem two_cells {w : World} {t u : Tr} {a : Option Addr} (h : TrsIn Any w [t, u] a) : ∃ b o c0 c1 c2 d0 d1 d2, a = some ⟨b, o, none⟩ ∧ b < w.heap.size ∧ w.cell? ⟨b, o, none⟩ = some c0 ∧ w.cell? ⟨b, o + 1, none⟩ = some c1 ∧ w.cell? ⟨b, o + 2, none⟩ = some c2 ∧
    w.cell? ⟨b, o + 3, none⟩ = some d0 ∧ w.cell? ⟨b, o + 3 + 1, none⟩ = some d1 ∧ w.cell? ⟨b, o + 3 + 2, none⟩ = some d2 ∧ TrIn Any w t (.agg #[c0, c1, c2]) ∧ TrIn Any w u (.agg #[d0, d1, d2]) := by
  rw [TrsIn_cons] at h
  obtain ⟨b, o, c0, c1, c2, rfl, _, g0, g1, g2, hT, h⟩ := h
  rw [TrsIn_cons] at h
  obtain ⟨b', o', d0, d1, d2, hbo, _, f0, f1, f2, hU, _⟩ := h
  simp only [Option.some.injEq, Addr.mk.injEq, and_true] at hbo
  obtain ⟨rfl, rfl⟩ := hbo
  exact ⟨b, o, c0, c1, c2, d0, d1, d2, rfl, blt g0, g0, g1, g2, f0, f1, f2, hT, hU⟩


end Expr
end Go.Proofs.YtgopfjnpjkpelaaDoor
namespace Go.Proofs.YtgopfjnpjkpelaaDoor
open Go.RowKit
namespace Expr

def inV (n : Int) : Bool := decide (0 ≤ n ∧ n ≤ 3)
/-- three numbers from 0 to 3 -/
def okVals (l : List Int) : Bool := l.all inV && decide (l.length = 3)
theorem okVals_vals {w : World} {a : Option Addr} {l : List Int} (h : okVals l = true) (hl : IntsIn Any w a l) : Vals w a l := by
  rw [okVals, Bool.and_eq_true, decide_eq_true_eq] at h
  exact ⟨hl, h.2, fun n hn => by have := List.all_eq_true.1 h.1 n hn; simpa [inV] using this⟩

set_option maxHeartbeats 400000 in
theorem vclo_any (x : Int) (w : World) : Calls Tryd.prog 44 #[.int .i64 x] w (Ret (.bool (!inV x)) w) := by
  go_enter Tryd.func44, Tryd.ntmps44
  go_wp2_with fail
  refine (in_any x 0 3 _).mono ?_
  rintro e w1 ⟨rfl, rfl⟩
  go_wp2_with fail
  go_ret
  exact Ret.mk rfl (Below.refl _ _)

def IxV (bad : Bool) (w : World) (e : Ending) (w' : World) : Prop := ∃ i : Int, e = .returned (.int .i64 i) ∧ decide (0 ≤ i) = bad ∧ Below w.heap.size w w'

set_option maxHeartbeats 1000000 in
theorem vix_any (l : List Int) (w : World) (a : Option Addr) (c : Nat) (hl : IntsIn Any w a l) (hc : l.length ≤ c) (hc2 : c ≤ maxLen) :
    Calls Tryd.prog 54 #[.slice a l.length c, .func (.func 44) #[] #[]] w (IxV (!l.all inV) w) := by
  unfold maxLen at hc2
  go_enter Tryd.func54, Tryd.ntmps54
  go_wp2_with fail
  go_loopw [5, 8] (fun _ i wr => ∃ j : Nat, j ≤ l.length ∧ i = .int .i64 j ∧ Below w.heap.size w wr ∧ Hid ((l.drop j).all inV = l.all inV)) (fun _ i _ => l.length - (intOf i).toNat)
  case atStart => exact ⟨0, Nat.zero_le _, rfl, Below.refl _ _, hid rfl⟩
  case round =>
    obtain ⟨j, hj, rfl, B, hr⟩ := hrel
    by_cases hlt : j < l.length
    · obtain ⟨b, o, rfl, hb, _, g0, hi⟩ := ints_at hl B hlt
      have HR2 := hr.out
      rw [List.drop_eq_getElem_cons hlt, List.all_cons] at HR2
      have HR := hid HR2; clear HR2
      have hlt2 : (j : Int) < (l.length : Int) := by omega
      generalize l[j] = x at *
      go_wp2_with fail
      refine (vclo_any x _).mono ?_
      rintro e w2 ⟨rfl, hb2⟩
      replace B := below_next B hb2
      clear hb2
      cases hq : inV x with
      | true =>
        have HR3 := HR.out
        rw [hq, Bool.true_and] at HR3
        have HR4 := hid HR3; clear HR3 hq
        go_wp2_with fail
        go_roundw
        case rel => exact ⟨j + 1, by omega, by go_num, B, HR4⟩
        case measure => simp [intOf]; omega
      | false =>
        have HR3 := HR.out
        rw [hq, Bool.false_and] at HR3
        have HR4 := hid HR3; clear HR3 hq
        go_wp2_with fail
        go_ret
        exact ⟨j, rfl, by rw [← HR4.out]; simp, B⟩
    · have HR2 := hr.out
      rw [List.drop_of_length_le (by omega), List.all_nil] at HR2
      have HR := hid HR2; clear HR2
      have hlt2 : ¬ ((j : Int) < (l.length : Int)) := by omega
      go_wp2_with fail
      go_ret
      exact ⟨-1, rfl, by rw [← HR.out]; simp, B⟩

set_option maxHeartbeats 400000 in
theorem vcf_any (l : List Int) (w : World) (a : Option Addr) (c : Nat) (hl : IntsIn Any w a l) (hc : l.length ≤ c) (hc2 : c ≤ maxLen) :
    Calls Tryd.prog 43 #[.slice a l.length c, .func (.func 44) #[] #[]] w (Ret (.bool (!l.all inV)) w) := by
  have HH := hid (vix_any l w a c hl hc hc2)
  go_enter Tryd.func43, Tryd.ntmps43
  go_wp2_with fail
  refine HH.out.mono ?_
  rintro e w2 ⟨i, rfl, hi, hb⟩
  have HI := hid hi; clear hi
  go_wp2_with fail
  go_ret
  exact Ret.mk (bool_val HI.out) hb

set_option maxHeartbeats 400000 in
theorem vals_any (l : List Int) (w : World) (a : Option Addr) (c : Nat) (hl : IntsIn Any w a l) (hc : l.length ≤ c) (hc2 : c ≤ maxLen) :
    Calls Tryd.prog 31 #[.slice a l.length c] w (Ret (.bool (okVals l)) w) := by
  by_cases h3 : l.length = 3
  · have E := hid (show okVals l = l.all inV by rw [okVals, decide_eq_true h3, Bool.and_true])
    have e3 : ((l.length : Int) == 3) = true := by rw [beq_iff_eq]; omega
    have HH := hid (vcf_any l w a c hl hc hc2)
    clear h3
    go_enter Tryd.func31, Tryd.ntmps31
    go_wp2_with fail
    refine HH.out.mono ?_
    rintro e w2 ⟨rfl, hb⟩
    go_wp2_with fail
    go_ret
    exact Ret.mk (bool_val (by rw [E.out])) hb
  · have E := hid (show okVals l = false by rw [okVals, decide_eq_false h3, Bool.and_false])
    have e3 : ((l.length : Int) == 3) = false := by rw [beq_eq_false_iff_ne]; omega
    clear h3
    go_enter Tryd.func31, Tryd.ntmps31
    go_wp2_with fail
    go_ret
    exact Ret.mk (bool_val E.out.symm) (Below.refl _ _)

end Expr
end Go.Proofs.YtgopfjnpjkpelaaDoor
namespace Go.Proofs.YtgopfjnpjkpelaaDoor
open Go.RowKit
set_option linter.unusedVariables false
namespace Sys

/-- a valid process; a valid system -/
def okP (q : Pr) : Bool := q.edges.all (fun e => Edge.okB e q.locs) && (decide (1 ≤ q.locs) && (decide (q.locs ≤ 4) && decide (q.edges.length ≤ 6)))
def okSy (s : Sy) : Bool := s.procs.all okP && (Expr.okVals s.init && (decide (1 ≤ s.procs.length) && decide (s.procs.length ≤ 3)))

end Sys
end Go.Proofs.YtgopfjnpjkpelaaDoor
