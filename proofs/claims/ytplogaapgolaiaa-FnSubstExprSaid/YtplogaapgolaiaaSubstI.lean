/- The program's subst: an expression with another one for a variable, in new memory. Conditions: those of each contract. -/
import Derived.Test.YtplogaapgolaiaaExprCopy
import Derived.Test.YtplogaapgolaiaaEvalPlain
import Derived.Test.YtplogaapgolaiaaBox
import Derived.Test.YtplogaapgolaiaaTrPlain
import Derived.Test.YtplogaapgolaiaaGrow
import Derived.Deep.RegionHeld3
import Derived.Deep.DeepCutAuto
import Derived.Deep.CutBlock
namespace Go.Proofs.Ytplogaapgolaiaa
open Go.RowKit
namespace Expr

/-- subst: x, by y -/
def SuT (x : Int) (y : Tr) (t : Tr) : Prop := ∀ (w : World) (u z : Value), TrIn Any w t u → TrIn Any w y z → Small t → Calls Try.prog 45 #[u, .int .i64 x, z] w (RetP (NewTr w.heap.size (subT x y t)) w)

/-- behind the first statement: the new node, its row a clone -/
def Su0 (w : World) (k v : Int) (kids : List Tr) (a : Option Addr) (c : Nat) (Y0 Y1 : Int) (Y2 : Value) (s3 : Value) (wx : World) : Prop := ∃ O a' c', s3 = .pointer (some ⟨O, 0, none⟩) ∧ kids.length ≤ c' ∧ c' ≤ maxLen ∧ Below w.heap.size w wx ∧ Box3 wx w.heap.size (.int .i64 k) (.int .i64 v) (.slice a kids.length c) ∧ Box3 wx (w.heap.size + 1) (.int .i64 Y0) (.int .i64 Y1) Y2 ∧ Box3 wx (w.heap.size + 1 + 1) (.int .i64 0) (.int .i64 0) (.slice none 0 0) ∧
  Box3 wx O (.int .i64 k) (.int .i64 v) (.slice a' kids.length c') ∧ w.heap.size + 1 + 1 < O ∧ (0 < kids.length → ∃ R f, a' = some ⟨R, 0, none⟩ ∧ w.heap.size + 1 + 1 < R ∧ R ≠ O ∧ Row wx R (kids.length * 3) f)

/-- .. and when k nodes of the row are copies -/
def Su1 (w : World) (Y0 Y1 : Int) (Y2 : Value) (O : Nat) (k v : Int) (kids : List Tr) (a' : Option Addr) (c' : Nat) (j : Nat) (wr : World) : Prop := Below w.heap.size w wr ∧ Box3 wr (w.heap.size + 1) (.int .i64 Y0) (.int .i64 Y1) Y2 ∧ Box3 wr (w.heap.size + 1 + 1) (.int .i64 0) (.int .i64 0) (.slice none 0 0) ∧ Box3 wr O (.int .i64 k) (.int .i64 v) (.slice a' kids.length c') ∧
  (0 < kids.length → ∃ R f bs, a' = some ⟨R, 0, none⟩ ∧ w.heap.size + 1 + 1 < R ∧ R ≠ O ∧ Row wr R (kids.length * 3) f ∧ TrsOwn wr f (kids.take j) 0 bs ∧ R ∉ bs ∧ O ∉ bs ∧ ∀ b, b ∈ bs → w.heap.size + 1 + 1 < b)
theorem Su1.step {w wr w2 : World} {Y0 Y1 : Int} {Y2 : Value} {O : Nat} {k v : Int} {kids : List Tr} {R c' j : Nat} {t : Tr} {x y z : Value} (h : Su1 w Y0 Y1 Y2 O k v kids (some ⟨R, 0, none⟩) c' j wr) (ht : kids[j]? = some t) (hnew : NewTr wr.heap.size t (.agg #[x, y, z]) w2) (hb : Below wr.heap.size wr w2) :
    Su1 w Y0 Y1 Y2 O k v kids (some ⟨R, 0, none⟩) c' (j + 1) (((w2.setCell ⟨R, j * 3, none⟩ x).setCell ⟨R, j * 3 + 1, none⟩ y).setCell ⟨R, j * 3 + 2, none⟩ z) := by
  obtain ⟨B, bY, bP, bO, hr⟩ := h
  have hj : j < kids.length := by
    rcases Nat.lt_or_ge j kids.length with h | h
    · exact h
    · rw [List.getElem?_eq_none h] at ht; cases ht
  obtain ⟨R', f, bs, e, hR, hRO, hrow, hown, hRb, hOb, hlt⟩ := hr (by omega)
  simp only [Option.some.injEq, Addr.mk.injEq, and_true] at e
  obtain rfl := e
  obtain ⟨cs, hn, hcs⟩ := hnew
  have hRl := hrow.1
  have hOl := bO.1
  have hRc : R ∉ cs := fun e => by have := hcs R e; omega
  have hOc : O ∉ cs := fun e => by have := hcs O e; omega
  have hr2 := (((hrow.below hb).set (i := j * 3) (by omega) x).set (i := j * 3 + 1) (by omega) y).set (i := j * 3 + 2) (by omega) z
  have s1 := B.size
  refine ⟨(((below_next B hb).setCell (by simp; omega) _).setCell (by simp; omega) _).setCell (by simp; omega) _,
    box3_but (But.set _ R _ _) (by omega) (box3_but (But.set _ R _ _) (by omega) (box3_but (But.set _ R _ _) (by omega) (box3_next hb bY))),
    box3_but (But.set _ R _ _) (by omega) (box3_but (But.set _ R _ _) (by omega) (box3_but (But.set _ R _ _) (by omega) (box3_next hb bP))),
    box3_but (But.set _ R _ _) (Ne.symm hRO) (box3_but (But.set _ R _ _) (Ne.symm hRO) (box3_but (But.set _ R _ _) (Ne.symm hRO) (box3_next hb bO))), fun _ => ⟨R, _, bs ++ cs, rfl, hR, hRO, hr2, ?_, by simp [hRb, hRc], by simp [hOb, hOc], fun b hb' => ?_⟩⟩
  · have hl : kids.take (j + 1) = kids.take j ++ [t] := by rw [List.take_add_one, ht]; rfl
    have hlen : (kids.take j).length = j := by rw [List.length_take]; omega
    rw [hl]
    refine TrsOwn_snoc ?_ ?_ ?_
    · refine TrsOwn_set (TrsOwn_set (TrsOwn_set (TrsOwn_congr (TrsOwn_below hb hown) ?_) hRb _) hRb _) hRb _
      intro i _ hi
      rw [hlen] at hi
      rw [if_neg (by omega), if_neg (by omega), if_neg (by omega)]
    · rw [hlen, Nat.zero_add, if_neg (by omega), if_neg (by omega), if_pos rfl, if_neg (by omega), if_pos rfl, if_pos rfl]
      exact TrOwn_set (TrOwn_set (TrOwn_set hn hRc _) hRc _) hRc _
    · intro b hb' hc
      have h3 := TrOwn_lt.2 _ _ _ _ hown b hb'
      have h4 := hcs b hc
      omega
  · rcases List.mem_append.1 hb' with h3 | h3
    · exact hlt b h3
    · have := hcs b h3; omega
theorem Su1.done {w wr : World} {Y0 Y1 : Int} {Y2 : Value} {O : Nat} {k v : Int} {kids : List Tr} {a' : Option Addr} {c' j : Nat} (h : Su1 w Y0 Y1 Y2 O k v kids a' c' j wr) (hj : kids.length ≤ j) (hk : i64 k) (hv : i64 v) (h1 : kids.length ≤ c') (h2 : c' ≤ maxLen) :
    NewTr (w.heap.size + 3) (.mk k v kids) (.agg #[.int .i64 k, .int .i64 v, .slice a' kids.length c']) wr := by
  obtain ⟨B, bY, bP, bO, hr⟩ := h
  by_cases h0 : 0 < kids.length
  · obtain ⟨R, f, bs, rfl, hR, hRO, hrow, hown, hRb, hOb, hlt⟩ := hr h0
    rw [List.take_of_length_le hj] at hown
    obtain ⟨bs', g1, g2⟩ := TrOwn_new hk hv h1 h2 hrow hown hRb
    exact ⟨bs', g1, fun b hb => by rcases g2 b hb with rfl | h; omega; have := hlt b h; omega⟩
  · have e : kids = [] := List.eq_nil_of_length_eq_zero (by omega)
    subst e
    exact ⟨[], TrOwn_leaf hk hv h2, by simp⟩

set_option maxRecDepth 100000 in
set_option maxHeartbeats 4000000 in
theorem su_of (x : Int) (y : Tr) (k v : Int) (kids : List Tr) (hkx : ¬ (k = 2 ∧ v = x)) (h : ∀ t, t ∈ kids → SuT x y t) : SuT x y (.mk k v kids) := by
  intro w u0 yv hx hy hs
  rw [TrIn_mk] at hx
  obtain ⟨a, n, c, rfl, hk, hv, rfl, hc, hc2, hks⟩ := hx
  obtain ⟨ya, yc, rfl⟩ := TrIn_shape hy
  have hc3 := hc2
  unfold maxLen at hc3
  replace hs : kids.length ≤ 1048576 ∧ SmallL kids := hs
  have hres : subT x y (.mk k v kids) = .mk k v (kids.map (subT x y)) := by rw [subT, if_neg hkx, subL_map]
  have HR := hid hres
  clear hres
  have hml : (kids.map (subT x y)).length = kids.length := List.length_map ..
  have HML := hid hml
  clear hml
  have hcase : ((k == 2) = true ∧ (v == x) = false) ∨ (k == 2) = false := by
    by_cases h2 : k = 2
    · left; refine ⟨by simpa using h2, ?_⟩; rw [beq_eq_false_iff_ne]; intro e; exact hkx ⟨h2, e⟩
    · right; rw [beq_eq_false_iff_ne]; exact h2
  clear hkx
  generalize hm : kids.map (subT x y) = m at *
  have HM := hid hm
  clear hm
  rcases hcase with ⟨hk2, hvx⟩ | hk2
  all_goals
    go_enter Try.func45, Try.ntmps45
    go_upto_region 3 with fail
    go_cut [7] (fun s7 wx => Su0 w k v kids a c y.kind y.val (.slice ya y.kids.length yc) s7 wx)
    case first =>
      refine wp_gen (fun W => Below w.heap.size w W ∧ Box3 W w.heap.size (.int .i64 k) (.int .i64 v) (.slice a kids.length c) ∧ Box3 W (w.heap.size + 1) (.int .i64 y.kind) (.int .i64 y.val) (.slice ya y.kids.length yc) ∧ Box3 W (w.heap.size + 1 + 1) (.int .i64 0) (.int .i64 0) (.slice none 0 0)) ⟨(by repeat (first | exact Below.refl _ _ | assumption | refine below_a ?_ _ | refine below_o ?_ _ | refine below_d ?_ | refine below_n ?_ _ | refine below_s ?_ (by first | (simp; done) | (simp; omega) | omega) _)), box3_next (below_alloc _ _) (box3_next (below_alloc _ _) (box3_new ..)), box3_next (below_alloc _ _) (box3_at (by simp)), box3_at (by simp)⟩ ?_
      rintro W ⟨B, b1, bY, bP⟩
      have hPl := bP.1
      have b2 := b1
      obtain ⟨p0, p1, p2, p3, p4, p5, p6⟩ := b1
      have ne1 : W.heap.size ≠ w.heap.size := by omega
      have ne2 : w.heap.size ≠ W.heap.size := by omega
      have hkW := hid (TrsIn_below B hks)
      go_region_held3 (fun w' => w'.cell? ⟨w.heap.size, 0, none⟩ = some (.int .i64 k) ∧ w'.cell? ⟨w.heap.size, 1, none⟩ = some (.int .i64 v) ∧ w'.cell? ⟨w.heap.size, 2, none⟩ = some (.slice a kids.length c))
        (first | exact ⟨p1, p2, p3⟩ | exact ⟨q1, q2, q3⟩ | go_keep)
        ((go_at_call 64; refine (clone_any kids _ a c (TrsIn_below (by repeat (first | exact Below.refl _ _ | assumption | refine below_a ?_ _ | refine below_o ?_ _ | refine below_d ?_ | refine below_n ?_ _ | refine below_s ?_ (by first | (simp; done) | (simp; omega) | omega) _)) hkW.out) hc hc2 hs.1).mono ?_; rintro e w1 ⟨u, rfl, ⟨a', c', rfl, k1, k2, k3⟩, hb⟩; have q := box3_next hb (box3_next (by repeat (first | exact Below.refl _ _ | assumption | refine below_a ?_ _ | refine below_o ?_ _ | refine below_d ?_ | refine below_n ?_ _ | refine below_s ?_ (by first | (simp; done) | (simp; omega) | omega) _)) b2); have q1 := q.2.1; have q2 := q.2.2.1; have q3 := q.2.2.2.1; have K3 := hid k3; clear k3 q; try (obtain ⟨z0, z1, z2, z3, z4, z5, z6⟩ := box3_next hb (box3_at (B := W.heap.size) rfl))))
      · have hs1 : W.heap.size ≤ w1.heap.size := hb.size
        have hfin := hid (show Su0 w k v kids a c y.kind y.val (.slice ya y.kids.length yc) (.pointer (some ⟨w1.heap.size, 0, none⟩)) (w1.alloc (.cells #[.int .i64 k, .int .i64 v, .slice a' kids.length c'] 25)) from
          ⟨w1.heap.size, a', c', rfl, k1, k2, below_a (below_next (below_d B) hb) _, box3_next (below_alloc _ _) (box3_next hb b2), box3_next (below_alloc _ _) (box3_next hb bY), box3_next (below_alloc _ _) (box3_next hb bP), box3_at rfl, by omega, fun h0 => by
            obtain ⟨R, f, e1, e2, e3, _, _⟩ := K3.out h0
            have e5 : W.heap.size ≤ R := e2
            exact ⟨R, f, e1, by omega, by have := e3.1; omega, e3.below (below_alloc _ _)⟩⟩)
        go_wp2_with fail
        go_meet
        exact hfin.out
      · have hs1 : W.heap.size + 1 ≤ w1.heap.size := by have := hb.size; simp at this; omega
        have hbO : Box3 w1 W.heap.size (.int .i64 0) (.int .i64 0) (.slice none 0 0) := ⟨z0, z1, z2, z3, z4, z5, z6⟩
        have hB1 : Below w.heap.size w w1 := below_next (below_a (below_d B) _) hb
        have hbA : Box3 w1 w.heap.size (.int .i64 k) (.int .i64 v) (.slice a kids.length c) := box3_next hb (box3_next (below_alloc _ _) (show Box3 W.drew w.heap.size (.int .i64 k) (.int .i64 v) (.slice a kids.length c) from b2))
        have hbY : Box3 w1 (w.heap.size + 1) (.int .i64 y.kind) (.int .i64 y.val) (.slice ya y.kids.length yc) := box3_next hb (box3_next (below_alloc _ _) (show Box3 W.drew (w.heap.size + 1) (.int .i64 y.kind) (.int .i64 y.val) (.slice ya y.kids.length yc) from bY))
        have hbP : Box3 w1 (w.heap.size + 1 + 1) (.int .i64 0) (.int .i64 0) (.slice none 0 0) := box3_next hb (box3_next (below_alloc _ _) (show Box3 W.drew (w.heap.size + 1 + 1) (.int .i64 0) (.int .i64 0) (.slice none 0 0) from bP))
        have hfin := hid (show Su0 w k v kids a c y.kind y.val (.slice ya y.kids.length yc) (.pointer (some ⟨W.heap.size, 0, none⟩)) (((w1.setCell ⟨W.heap.size, 0, none⟩ (.int .i64 k)).setCell ⟨W.heap.size, 1, none⟩ (.int .i64 v)).setCell ⟨W.heap.size, 2, none⟩ (.slice a' kids.length c')) from
          ⟨W.heap.size, a', c', rfl, k1, k2, ((hB1.setCell (by simp; omega) _).setCell (by simp; omega) _).setCell (by simp; omega) _,
            box3_but (But.set _ W.heap.size 2 _) ne2 (box3_but (But.set _ W.heap.size 1 _) ne2 (box3_but (But.set _ W.heap.size 0 _) ne2 hbA)), box3_but (But.set _ W.heap.size 2 _) (by omega) (box3_but (But.set _ W.heap.size 1 _) (by omega) (box3_but (But.set _ W.heap.size 0 _) (by omega) hbY)), box3_but (But.set _ W.heap.size 2 _) (by omega) (box3_but (But.set _ W.heap.size 1 _) (by omega) (box3_but (But.set _ W.heap.size 0 _) (by omega) hbP)), box3_set2 (box3_set1 (box3_set0 hbO _) _) _, hPl, fun h0 => by
            obtain ⟨R, f, e1, e2, e3, _, _⟩ := K3.out h0
            have e5 : W.heap.size + 1 ≤ R := by have := e2; simp at this; omega
            exact ⟨R, f, e1, by omega, by omega, ((e3.setOther (by simp; omega) _).setOther (by simp; omega) _).setOther (by simp; omega) _⟩⟩)
        clear z0 z1 z2 z3 z4 z5 z6 hbO hbA hbP hbY
        go_wp2_with fail
        go_meet
        exact hfin.out
    case rest =>
      obtain ⟨O, a', c', rfl, k1, k2, B, b0, bY, bP, bO, hO, hrow⟩ := hcut
      have hst := hid (show Su1 w y.kind y.val (.slice ya y.kids.length yc) O k v m a' c' 0 wc from ⟨B, bY, bP, by rw [HML.out]; exact bO, fun h0 => by
        rw [HML.out] at h0 ⊢
        obtain ⟨R, f, e1, e2, e3, e4⟩ := hrow h0
        exact ⟨R, f, [], e1, e2, e3, e4, by rw [List.take_zero, TrsOwn_nil], by simp, by simp, by simp⟩⟩)
      have b00 := b0
      obtain ⟨p0, p1, p2, p3, p4, p5, p6⟩ := b00
      clear hrow
      go_wp2_with fail
      go_loopw [32] (fun i wr => ∃ j : Nat, j ≤ kids.length ∧ i = .int .i64 j ∧ Su1 w y.kind y.val (.slice ya y.kids.length yc) O k v m a' c' j wr) (fun i _ => kids.length - (intOf i).toNat)
      case atStart => exact ⟨0, Nat.zero_le _, rfl, hst.out⟩
      case round =>
        clear p0 p1 p2 p3 p4 p5 p6 b0 bO bP bY hst B
        obtain ⟨j, hj, rfl, hst⟩ := hrel
        by_cases hlt : j < kids.length
        · have hst2 := hst
          obtain ⟨B, bY, bP, bO, hr⟩ := hst2
          have hml := HML.out
          obtain ⟨R, f, bs, rfl, hR, hRO, hrow, _, _, _, _⟩ := hr (by omega)
          rw [hml] at bO hrow
          clear hml
          obtain ⟨b, o, d0, d1, d2, t, rfl, gb, g0, g1, g2, hT⟩ := TrsIn_round hks B hlt
          obtain ⟨a4, n4, hsh⟩ := TrIn_shape hT.out.1
          simp only [Value.agg.injEq, Array.mk.injEq, List.cons.injEq, and_true] at hsh
          obtain ⟨rfl, rfl, rfl⟩ := hsh
          have hlt2 : (j : Int) < (kids.length : Int) := by omega
          have HS := hid hst
          have HRW := hid hrow
          clear hst hr hrow
          go_wp2_with fail
          refine wp_gen (fun W => Below wr.heap.size wr W ∧ Box3 W wr.heap.size (.int .i64 t.kind) (.int .i64 t.val) (.slice a4 t.kids.length n4)) ⟨below_alloc _ _, box3_new ..⟩ ?_
          rintro W ⟨BW, bV⟩
          have bO2 := box3_next BW bO
          have bY2 := box3_next BW bY
          obtain ⟨v0, v1, v2, v3, v4, v5, v6⟩ := bV
          obtain ⟨o0, o1, o2, o3, o4, o5, o6⟩ := bO2
          obtain ⟨t0, t1, t2, t3, t4, t5, t6⟩ := bY2
          have HT := hid (TrIn_below (below_d BW) hT.out.1)
          have HYT := hid (TrIn_below (below_d (below_next B BW)) hy)
          have hRl := HRW.out.1
          have ne1 : O ≠ R := Ne.symm hRO
          have ne2 : R ≠ wr.heap.size := by omega
          have ne3 : wr.heap.size ≠ R := by omega
          have ne4 : R ≠ w.heap.size + 1 := by omega
          have ne5 : w.heap.size + 1 ≠ R := by omega
          have hsz := BW.size
          go_region_held3 (fun w' => w'.cell? ⟨O, 2, none⟩ = some (.slice (some ⟨R, 0, none⟩) kids.length c') ∧ w'.cell? ⟨wr.heap.size, 0, none⟩ = some (.int .i64 t.kind) ∧ w'.cell? ⟨wr.heap.size, 1, none⟩ = some (.int .i64 t.val) ∧ w'.cell? ⟨wr.heap.size, 2, none⟩ = some (.slice a4 t.kids.length n4) ∧
              w'.cell? ⟨w.heap.size + 1, 0, none⟩ = some (.int .i64 y.kind) ∧ w'.cell? ⟨w.heap.size + 1, 1, none⟩ = some (.int .i64 y.val) ∧ w'.cell? ⟨w.heap.size + 1, 2, none⟩ = some (.slice ya y.kids.length yc))
            (first | exact ⟨o3, v1, v2, v3, t1, t2, t3⟩ | exact ⟨q3, r1, r2, r3, x1, x2, x3⟩ | go_keep)
            ((go_at_call 45; refine (h t hT.out.2.1 _ _ _ HT.out HYT.out (smallL_mem hs.2 hT.out.2.1)).mono ?_; rintro e w2 ⟨u, rfl, hn, hb⟩; obtain ⟨a3, n3, rfl⟩ := TrIn_shape hn.any; have q3 := (box3_next hb (show Box3 W.drew O _ _ _ from ⟨o0, o1, o2, o3, o4, o5, o6⟩)).2.2.2.1; obtain ⟨r0, r1, r2, r3, r4, r5, r6⟩ := box3_next hb (show Box3 W.drew wr.heap.size _ _ _ from ⟨v0, v1, v2, v3, v4, v5, v6⟩); obtain ⟨x0, x1, x2, x3, x4, x5, x6⟩ := box3_next hb (show Box3 W.drew (w.heap.size + 1) _ _ _ from ⟨t0, t1, t2, t3, t4, t5, t6⟩); have hr2 := HRW.out.below (below_next (below_d BW) hb); have s0 := hr2.2.1 (j * 3) (by omega); have s1 := hr2.2.1 (j * 3 + 1) (by omega); have s2 := hr2.2.1 (j * 3 + 2) (by omega); have s3 := hr2.2.2; have s4 := hr2.1; have HN := hid hn; have HB := hid (below_next (below_d BW) hb); clear hn hb hr2))
          have hmj : m[j]? = some (subT x y t) := by rw [← HM.out, List.getElem?_map, hT.out.2.2.2]; rfl
          have hfin := hid (HS.out.step hmj (HN.out.mono hsz) HB.out)
          clear HS HRW s0 s1 s2 s3 s4 q3 r0 r1 r2 r3 r4 r5 r6 x0 x1 x2 x3 x4 x5 x6 hmj
          go_wp2_with fail
          go_roundw
          case rel => exact ⟨j + 1, by omega, by go_num, hfin.out⟩
          case measure => simp [intOf]; omega
        · have hfin := hid (hst.done (by rw [HML.out]; omega) hk hv (by rw [HML.out]; exact k1) k2)
          obtain ⟨B, bY, bP, bO, _⟩ := hst
          have hml := HML.out
          rw [hml] at bO
          clear hml
          have bP2 := bP
          have neO : O ≠ w.heap.size + 1 + 1 := by omega
          have neO2 : w.heap.size + 1 + 1 ≠ O := by omega
          obtain ⟨o0, o1, o2, o3, o4, o5, o6⟩ := bO
          obtain ⟨q0, q1, q2, q3, q4, q5, q6⟩ := bP
          have hlt2 : ¬ ((j : Int) < (kids.length : Int)) := by omega
          have hB := hid B
          clear B
          go_wp2_with fail
          obtain ⟨y0, y1, y2, y3, _⟩ := box3_set2 (box3_set1 (box3_set0 bP2 (.int .i64 k)) (.int .i64 v)) (.slice a' kids.length c'); refine bodyPost_ret (v := .agg #[.int .i64 k, .int .i64 v, .slice a' kids.length c']) (by simp [results, Try.results45, go_sem, y1, y2, y3]) rfl ?_
          have hf := hfin.out
          rw [HML.out] at hf
          rw [HR.out]
          exact RetP.mk ((newTr_set3 hf (by simp) _ _ _).mono (by omega)) (below_set3 hB.out (by omega) _ _ _)

set_option maxHeartbeats 1000000 in
theorem su_var (x : Int) (y : Tr) (hys : Small y) (v : Int) (kids : List Tr) (hvx : v = x) : SuT x y (.mk 2 v kids) := by
  intro w u0 yv hx hyy hs
  obtain ⟨a, c, rfl⟩ := TrIn_shapeMk hx
  obtain ⟨a', c', rfl⟩ := TrIn_shape hyy
  have HR := hid (show subT x y (.mk 2 v kids) = y by rw [subT, if_pos ⟨rfl, hvx⟩])
  have e1 : (v == x) = true := by simpa using hvx
  clear hvx
  go_enter Try.func45, Try.ntmps45
  go_wp2_with fail
  refine (cp_any y _ _ (TrIn_below (by repeat (first | exact Below.refl _ _ | assumption | refine below_a ?_ _ | refine below_o ?_ _ | refine below_d ?_ | refine below_n ?_ _ | refine below_s ?_ (by first | (simp; done) | (simp; omega) | omega) _)) hyy) hys).mono ?_
  rintro e w1 ⟨v1, rfl, hn, hb⟩
  obtain ⟨a2, c2, rfl⟩ := TrIn_shape hn.any
  have HO := hid hn
  have bP := box3_next hb (box3_at (B := w.heap.size + 1 + 1) (by simp))
  have bP' := bP
  obtain ⟨z0, z1, z2, z3, z4, z5, z6⟩ := bP
  have B1 := hid (below_next (show Below w.heap.size w _ from (by repeat (first | exact Below.refl _ _ | assumption | refine below_a ?_ _ | refine below_o ?_ _ | refine below_d ?_ | refine below_n ?_ _ | refine below_s ?_ (by first | (simp; done) | (simp; omega) | omega) _))) hb)
  clear hn hb
  go_wp2_with fail
  obtain ⟨y0, y1, y2, y3, _⟩ := box3_set2 (box3_set1 (box3_set0 bP' (.int .i64 y.kind)) (.int .i64 y.val)) (.slice a2 y.kids.length c2); refine bodyPost_ret (v := .agg #[.int .i64 y.kind, .int .i64 y.val, .slice a2 y.kids.length c2]) (by simp [results, Try.results45, go_sem, y1, y2, y3]) rfl ?_
  rw [HR.out]
  exact RetP.mk ((newTr_set3 HO.out (by simp) _ _ _).mono (by simp; omega)) (below_set3 B1.out (by omega) _ _ _)

/-- .. for every tree -/
theorem su_any (x : Int) (y : Tr) (hys : Small y) : ∀ t, SuT x y t := Tr.ind fun k v kids ih => by
  by_cases h : k = 2 ∧ v = x
  · obtain ⟨rfl, hv⟩ := h
    exact su_var x y hys v kids hv
  · exact su_of x y k v kids h ih

end Expr
end Go.Proofs.Ytplogaapgolaiaa
