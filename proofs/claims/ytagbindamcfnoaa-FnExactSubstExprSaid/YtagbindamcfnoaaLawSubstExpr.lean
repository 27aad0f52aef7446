/- FnExactSubstExpr returns true for all expressions and numbers. Conditions: none. -/
import Derived.Test.YtagbindamcfnoaaExprA
import Derived.Test.YtagbindamcfnoaaExprMark
import Derived.Test.YtagbindamcfnoaaSzPlain
import Derived.Test.YtagbindamcfnoaaSubstY
import Derived.Deep.RegionHeld3
import Derived.Deep.DeepCutAuto
import Derived.Deep.CutBlock
import Derived.Test.YtagbindamcfnoaaMore
namespace Go.Proofs.Ytagbindamcfnoaa
open Go.RowKit
open Go.Proofs.Ytagbindamcfnoaa.Expr

/-- behind 'w0, w1 := spec..' -/
def StW (w : World) (r : Tr) (rb : Bool) (X Y : Value × Value × Value) (s8 s9 : Value) (wx : World) : Prop := ∃ O aW cW bsW, s8 = .pointer (some ⟨O, 0, none⟩) ∧ s9 = .bool rb ∧ Below w.heap.size w wx ∧ Box3 wx w.heap.size X.1 X.2.1 X.2.2 ∧ Box3 wx (w.heap.size + 1) Y.1 Y.2.1 Y.2.2 ∧
  Box3 wx O (.int .i64 r.kind) (.int .i64 r.val) (.slice aW r.kids.length cW) ∧ TrOwn wx r (.agg #[.int .i64 r.kind, .int .i64 r.val, .slice aW r.kids.length cW]) bsW ∧ O ∉ bsW ∧ w.heap.size + 1 < O ∧ ∀ b, b ∈ bsW → w.heap.size + 1 < b
theorem StW.one {w w5 : World} {r : Tr} {rb : Bool} {X Y : Value × Value × Value} {O H : Nat} {aW : Option Addr} {cW : Nat} {u0 u1 u2 : Value} (hN : NewTr H r (.agg #[.int .i64 r.kind, .int .i64 r.val, .slice aW r.kids.length cW]) w5) (hOH : O < H) (h0 : w.heap.size + 1 < O) (B : Below w.heap.size w w5)
    (b1 : Box3 w5 w.heap.size X.1 X.2.1 X.2.2) (bY : Box3 w5 (w.heap.size + 1) Y.1 Y.2.1 Y.2.2) (bO : Box3 w5 O u0 u1 u2) : StW w r rb X Y (.pointer (some ⟨O, 0, none⟩)) (.bool rb) (((w5.setCell ⟨O, 0, none⟩ (.int .i64 r.kind)).setCell ⟨O, 1, none⟩ (.int .i64 r.val)).setCell ⟨O, 2, none⟩ (.slice aW r.kids.length cW)) := by
  obtain ⟨bs, h1, h2⟩ := hN
  have hn : O ∉ bs := fun e => by have := h2 _ e; omega
  exact ⟨O, aW, cW, bs, rfl, rfl, below_set3 B (by omega) _ _ _, box3_but (But.set _ O _ _) (by omega) (box3_but (But.set _ O _ _) (by omega) (box3_but (But.set _ O _ _) (by omega) b1)), box3_but (But.set _ O _ _) (by omega) (box3_but (But.set _ O _ _) (by omega) (box3_but (But.set _ O _ _) (by omega) bY)),
    box3_set2 (box3_set1 (box3_set0 bO _) _) _, TrOwn_set (TrOwn_set (TrOwn_set h1 hn _) hn _) hn _, hn, h0, fun b hb => by have := h2 b hb; omega⟩
theorem StW.two {w w5 : World} {r : Tr} {rb : Bool} {X Y : Value × Value × Value} {H : Nat} {aW : Option Addr} {cW : Nat} {ty : TypeId} (hN : NewTr H r (.agg #[.int .i64 r.kind, .int .i64 r.val, .slice aW r.kids.length cW]) w5) (h0 : w.heap.size + 1 < H) (B : Below w.heap.size w w5)
    (b1 : Box3 w5 w.heap.size X.1 X.2.1 X.2.2) (bY : Box3 w5 (w.heap.size + 1) Y.1 Y.2.1 Y.2.2) : StW w r rb X Y (.pointer (some ⟨w5.heap.size, 0, none⟩)) (.bool rb) (w5.alloc (.cells #[.int .i64 r.kind, .int .i64 r.val, .slice aW r.kids.length cW] ty)) := by
  obtain ⟨bs, h1, h2⟩ := hN
  have hl := TrOwn_lt.1 _ _ _ h1
  have hs := bY.1
  refine ⟨w5.heap.size, aW, cW, bs, rfl, rfl, below_a B _, box3_next (below_alloc ..) b1, box3_next (below_alloc ..) bY, box3_at rfl, TrOwn_below (below_alloc ..) h1, fun e => ?_, by omega, fun b hb => ?_⟩
  · have := hl _ e; omega
  · have := h2 b hb; omega

/-- behind 'h0, h1 := impl..' -/
def StH (w : World) (r : Tr) (rb : Bool) (s8 s9 : Value) (wx : World) : Prop := ∃ O aW cW, s8 = .pointer (some ⟨O, 0, none⟩) ∧ s9 = .bool rb ∧ Below w.heap.size w wx ∧
  Box3 wx O (.int .i64 r.kind) (.int .i64 r.val) (.slice aW r.kids.length cW) ∧ TrIn Any wx r (.agg #[.int .i64 r.kind, .int .i64 r.val, .slice aW r.kids.length cW])
theorem StH.one {w w5 : World} {r : Tr} {rb : Bool} {O H : Nat} {aW : Option Addr} {cW : Nat} {u0 u1 u2 : Value} (hN : NewTr H r (.agg #[.int .i64 r.kind, .int .i64 r.val, .slice aW r.kids.length cW]) w5) (hOH : O < H) (h0 : w.heap.size ≤ O) (B : Below w.heap.size w w5)
    (bO : Box3 w5 O u0 u1 u2) : StH w r rb (.pointer (some ⟨O, 0, none⟩)) (.bool rb) (((w5.setCell ⟨O, 0, none⟩ (.int .i64 r.kind)).setCell ⟨O, 1, none⟩ (.int .i64 r.val)).setCell ⟨O, 2, none⟩ (.slice aW r.kids.length cW)) := by
  obtain ⟨bs, h1, h2⟩ := hN
  have hn : O ∉ bs := fun e => by have := h2 _ e; omega
  exact ⟨O, aW, cW, rfl, rfl, below_set3 B h0 _ _ _, box3_set2 (box3_set1 (box3_set0 bO _) _) _, (TrOwn_set (TrOwn_set (TrOwn_set h1 hn _) hn _) hn _).any⟩
theorem StH.two {w w5 : World} {r : Tr} {rb : Bool} {H : Nat} {aW : Option Addr} {cW : Nat} {ty : TypeId} (hN : NewTr H r (.agg #[.int .i64 r.kind, .int .i64 r.val, .slice aW r.kids.length cW]) w5) (B : Below w.heap.size w w5) :
    StH w r rb (.pointer (some ⟨w5.heap.size, 0, none⟩)) (.bool rb) (w5.alloc (.cells #[.int .i64 r.kind, .int .i64 r.val, .slice aW r.kids.length cW] ty)) :=
  ⟨w5.heap.size, aW, cW, rfl, rfl, below_a B _, box3_at rfl, TrIn_below (below_alloc ..) hN.any⟩

set_option maxRecDepth 100000 in
set_option maxHeartbeats 8000000 in
theorem core_FnExactSubstExpr (t y r : Tr) (xi : Int) (rb : Bool) (hr : nodes r ≤ 1000) (hsm : Small t) (hsy : Small y) (hS : ∀ w u v, TrIn Any w t u → TrIn Any w y v → Calls Try.prog 24 #[u, .int .i64 xi, v] w (RetT w.heap.size r rb w)) (hI : ∀ w u v, TrIn Any w t u → TrIn Any w y v → Calls Try.prog 25 #[u, .int .i64 xi, v] w (RetT w.heap.size r rb w))
    (w : World) (x z : Value) (hx : TrIn Any w t x) (hy : TrIn Any w y z) (hs : 0 ≤ szT t 1048576) (hs2 : 0 ≤ szT y (szT t 1048576)) : Calls Try.prog 6 #[x, .int .i64 xi, z] w (Ret (.bool true) w) := by
  have hx0 := hx
  have hy0 := hy
  obtain ⟨a, c, rfl⟩ := TrIn_shape hx
  obtain ⟨ya, yc, rfl⟩ := TrIn_shape hy
  have hbd := szT_bd t 1048576 (by omega) (by omega)
  have hsz := szT_eq t 1048576 hs
  have hsz2 := szT_eq y _ hs2
  have hp := nodesL_pos t.kids
  have hp2 := nodesL_pos y.kids
  rw [nodesL_kids] at hr
  have hpr := nodesL_pos r.kids
  have hbb : (rb != rb) = false := by simp
  have HS := hid hS
  have HI := hid hI
  have hnt : nodesL t.kids + nodesL y.kids ≤ 1048576 := by omega
  have hs0 : ¬ (szT t 1048576 < 0) := by omega
  have hs1 : ¬ (szT y (szT t 1048576) < 0) := by omega
  clear hS hI hsz hsz2
  go_enter Try.func6, Try.ntmps6
  go_wp2_with fail
  refine (Expr.sz_any t _ _ _ (TrIn_below (by repeat (first | exact Below.refl _ _ | assumption | refine below_a ?_ _ | refine below_o ?_ _ | refine below_d ?_ | refine below_n ?_ _ | refine below_s ?_ (by first | (simp; done) | (simp; omega) | omega) _)) hx) (by omega) (by omega)).mono ?_
  rintro e w1 ⟨rfl, hb⟩
  have b1 := box3_next hb (box3_next (below_alloc ..) (box3_new w (.int .i64 t.kind) (.int .i64 t.val) (.slice a t.kids.length c) 24))
  have bY := box3_next hb (box3_at (B := w.heap.size + 1) (a := .int .i64 y.kind) (b := .int .i64 y.val) (c := .slice ya y.kids.length yc) (t := 24) (by simp))
  have B := below_next (show Below w.heap.size w _ from (by repeat (first | exact Below.refl _ _ | assumption | refine below_a ?_ _ | refine below_o ?_ _ | refine below_d ?_ | refine below_n ?_ _ | refine below_s ?_ (by first | (simp; done) | (simp; omega) | omega) _))) hb
  clear hb
  generalize szT t 1048576 = left at *
  go_wp2_with fail
  refine (Expr.sz_any y _ _ left (TrIn_below B hy) (by omega) (by omega)).mono ?_
  rintro e w2 ⟨rfl, hb⟩
  replace b1 := box3_next hb b1
  replace bY := box3_next hb bY
  replace B := below_next B hb
  clear hb
  go_upto_region 8 with fail
  go_cut [8, 9] (fun s8 s9 wx => StW w r rb (.int .i64 t.kind, .int .i64 t.val, .slice a t.kids.length c) (.int .i64 y.kind, .int .i64 y.val, .slice ya y.kids.length yc) s8 s9 wx)
  case first =>
    have h1 := b1
    have hY := bY
    have hYl := bY.1
    have Bd := below_d B
    have N2 : w.heap.size ≠ w2.heap.size ∧ w2.heap.size ≠ w.heap.size ∧ w.heap.size + 1 ≠ w2.heap.size ∧ w2.heap.size ≠ w.heap.size + 1 := by omega
    go_region_held3 (fun w' => w'.cell? ⟨w.heap.size, 0, none⟩ = some (.int .i64 t.kind) ∧ w'.cell? ⟨w.heap.size, 1, none⟩ = some (.int .i64 t.val) ∧ w'.cell? ⟨w.heap.size, 2, none⟩ = some (.slice a t.kids.length c) ∧
        w'.cell? ⟨w.heap.size + 1, 0, none⟩ = some (.int .i64 y.kind) ∧ w'.cell? ⟨w.heap.size + 1, 1, none⟩ = some (.int .i64 y.val) ∧ w'.cell? ⟨w.heap.size + 1, 2, none⟩ = some (.slice ya y.kids.length yc))
      (first | exact ⟨h1.2.1, h1.2.2.1, h1.2.2.2.1, hY.2.1, hY.2.2.1, hY.2.2.2.1⟩ | exact ⟨k1.2.1, k1.2.2.1, k1.2.2.2.1, kY.2.1, kY.2.2.1, kY.2.2.2.1⟩ | exact ⟨l1.2.1, l1.2.2.1, l1.2.2.2.1, lY.2.1, lY.2.2.1, lY.2.2.2.1⟩ | exact ⟨m1.2.1, m1.2.2.1, m1.2.2.2.1, mY.2.1, mY.2.2.1, mY.2.2.2.1⟩ | go_keep)
      (first
        | (go_at_call_of 13 (Value.agg #[Value.int .i64 t.kind, Value.int .i64 t.val, Value.slice a t.kids.length c]); refine (Expr.to_any t _ _ (TrIn_below (by repeat (first | exact Below.refl _ _ | assumption | refine below_a ?_ _ | refine below_o ?_ _ | refine below_d ?_ | refine below_n ?_ _ | refine below_s ?_ (by first | (simp; done) | (simp; omega) | omega) _)) hx) hsm).mono ?_; rintro e w3 ⟨v1, rfl, hn1, hb⟩; have M3 := below_next (show Below w.heap.size w _ from (by repeat (first | exact Below.refl _ _ | assumption | refine below_a ?_ _ | refine below_o ?_ _ | refine below_d ?_ | refine below_n ?_ _ | refine below_s ?_ (by first | (simp; done) | (simp; omega) | omega) _))) hb; have k1 := box3_next hb (box3_next (show Below w2.heap.size w2 _ from (by repeat (first | exact Below.refl _ _ | assumption | refine below_a ?_ _ | refine below_o ?_ _ | refine below_d ?_ | refine below_n ?_ _ | refine below_s ?_ (by first | (simp; done) | (simp; omega) | omega) _))) h1); have kY := box3_next hb (box3_next (show Below w2.heap.size w2 _ from (by repeat (first | exact Below.refl _ _ | assumption | refine below_a ?_ _ | refine below_o ?_ _ | refine below_d ?_ | refine below_n ?_ _ | refine below_s ?_ (by first | (simp; done) | (simp; omega) | omega) _))) hY); have T3 := hn1.any; have N3 : w.heap.size ≠ w3.heap.size ∧ w3.heap.size ≠ w.heap.size ∧ w.heap.size + 1 ≠ w3.heap.size ∧ w3.heap.size ≠ w.heap.size + 1 := (by have := kY.1; omega); (try (have O3 := box3_next hb (box3_at (B := w2.heap.size) rfl))); have S3 := hid hb.size; clear hb hn1)
        | (go_at_call_of 13 (Value.agg #[Value.int .i64 y.kind, Value.int .i64 y.val, Value.slice ya y.kids.length yc]); refine (Expr.to_any y _ _ (TrIn_below (by repeat (first | exact Below.refl _ _ | assumption | refine below_a ?_ _ | refine below_o ?_ _ | refine below_d ?_ | refine below_n ?_ _ | refine below_s ?_ (by first | (simp; done) | (simp; omega) | omega) _)) hy) hsy).mono ?_; rintro e w4 ⟨v2, rfl, hn2, hb⟩; have M4 := below_next (show Below w.heap.size w _ from (by repeat (first | exact Below.refl _ _ | assumption | refine below_a ?_ _ | refine below_o ?_ _ | refine below_d ?_ | refine below_n ?_ _ | refine below_s ?_ (by first | (simp; done) | (simp; omega) | omega) _))) hb; have l1 := box3_next hb (box3_next (show Below w3.heap.size w3 _ from (by repeat (first | exact Below.refl _ _ | assumption | refine below_a ?_ _ | refine below_o ?_ _ | refine below_d ?_ | refine below_n ?_ _ | refine below_s ?_ (by first | (simp; done) | (simp; omega) | omega) _))) k1); have lY := box3_next hb (box3_next (show Below w3.heap.size w3 _ from (by repeat (first | exact Below.refl _ _ | assumption | refine below_a ?_ _ | refine below_o ?_ _ | refine below_d ?_ | refine below_n ?_ _ | refine below_s ?_ (by first | (simp; done) | (simp; omega) | omega) _))) kY); have T4 := hn2.any; have N4 : w.heap.size ≠ w4.heap.size ∧ w4.heap.size ≠ w.heap.size ∧ w.heap.size + 1 ≠ w4.heap.size ∧ w4.heap.size ≠ w.heap.size + 1 := (by have := lY.1; omega); have TT := TrIn_below hb (TrIn_below (show Below w3.heap.size w3 _ from (by repeat (first | exact Below.refl _ _ | assumption | refine below_a ?_ _ | refine below_o ?_ _ | refine below_d ?_ | refine below_n ?_ _ | refine below_s ?_ (by first | (simp; done) | (simp; omega) | omega) _))) T3); (first | (have O4 := box3_next hb (box3_next (show Below w3.heap.size w3 _ from (by repeat (first | exact Below.refl _ _ | assumption | refine below_a ?_ _ | refine below_o ?_ _ | refine below_d ?_ | refine below_n ?_ _ | refine below_s ?_ (by first | (simp; done) | (simp; omega) | omega) _))) O3)) | (have O4 := box3_next hb (box3_at (B := w3.heap.size) rfl)) | skip); have S4 := hid hb.size; clear hb hn2)
        | (go_at_call 24; refine (HS.out _ _ _ (TrIn_below (by repeat (first | exact Below.refl _ _ | assumption | refine below_a ?_ _ | refine below_o ?_ _ | refine below_d ?_ | refine below_n ?_ _ | refine below_s ?_ (by first | (simp; done) | (simp; omega) | omega) _)) TT) (TrIn_below (by repeat (first | exact Below.refl _ _ | assumption | refine below_a ?_ _ | refine below_o ?_ _ | refine below_d ?_ | refine below_n ?_ _ | refine below_s ?_ (by first | (simp; done) | (simp; omega) | omega) _)) T4)).mono ?_; rintro e w5 ⟨vW, rfl, hW, hb⟩; have M5 := below_next (show Below w.heap.size w _ from (by repeat (first | exact Below.refl _ _ | assumption | refine below_a ?_ _ | refine below_o ?_ _ | refine below_d ?_ | refine below_n ?_ _ | refine below_s ?_ (by first | (simp; done) | (simp; omega) | omega) _))) hb; have m1 := box3_next hb (box3_next (show Below w4.heap.size w4 _ from (by repeat (first | exact Below.refl _ _ | assumption | refine below_a ?_ _ | refine below_o ?_ _ | refine below_d ?_ | refine below_n ?_ _ | refine below_s ?_ (by first | (simp; done) | (simp; omega) | omega) _))) l1); have mY := box3_next hb (box3_next (show Below w4.heap.size w4 _ from (by repeat (first | exact Below.refl _ _ | assumption | refine below_a ?_ _ | refine below_o ?_ _ | refine below_d ?_ | refine below_n ?_ _ | refine below_s ?_ (by first | (simp; done) | (simp; omega) | omega) _))) lY); obtain ⟨aW, cW, rfl⟩ := TrIn_shape hW.any; (first | (have O5 := box3_next hb (box3_next (show Below w4.heap.size w4 _ from (by repeat (first | exact Below.refl _ _ | assumption | refine below_a ?_ _ | refine below_o ?_ _ | refine below_d ?_ | refine below_n ?_ _ | refine below_s ?_ (by first | (simp; done) | (simp; omega) | omega) _))) O4)) | (have O5 := box3_next hb (box3_at (B := w4.heap.size) rfl)) | skip);  have HW := hid hW; (try (obtain ⟨z0, z1, z2, z3, z4, z5, z6⟩ := O5)); clear hb hW))
    all_goals
      have S3' := S3
      have S4' := S4
      have HM := hid (show Below w.heap.size w w5 ∧ Box3 w5 w.heap.size (.int .i64 t.kind) (.int .i64 t.val) (.slice a t.kids.length c) ∧ Box3 w5 (w.heap.size + 1) (.int .i64 y.kind) (.int .i64 y.val) (.slice ya y.kids.length yc) from ⟨M5, m1, mY⟩)
      have HL := hid (show w.heap.size + 1 < w3.heap.size ∧ w.heap.size + 1 < w4.heap.size from ⟨kY.1, lY.1⟩)
      clear k1 kY l1 lY m1 mY M3 M4 M5 h1 hY b1 bY T3 T4 TT Bd B
      go_wp2_with fail
      go_meet
      have S3 := S3'.out
      have S4 := S4'.out
      obtain ⟨l3, l4⟩ := HL.out
      obtain ⟨g1, g2, g3⟩ := HM.out
      first
        | exact StW.two HW.out (by (try simp); omega) g1 g2 g3
        | exact StW.one HW.out (by (try simp only [World.size_alloc] at S3); (try simp only [World.size_alloc] at S4); (try simp only [World.size_alloc]); first | omega | (simp; done) | (simp at *; omega)) (by omega) g1 g2 g3 ⟨z0, z1, z2, z3, z4, z5, z6⟩
  case rest =>
    obtain ⟨O, aW, cW, bsW, rfl, rfl, B, b1, bY, bW, oW, hOW, hO, hlW⟩ := hcut
    have lW := TrOwn_lt.1 _ _ _ oW
    have oW0 := oW
    go_wp2_with fail
    refine (Expr.to_any t _ _ (TrIn_below (by repeat (first | exact Below.refl _ _ | assumption | refine below_a ?_ _ | refine below_o ?_ _ | refine below_d ?_ | refine below_n ?_ _ | refine below_s ?_ (by first | (simp; done) | (simp; omega) | omega) _)) hx) hsm).mono ?_
    rintro e w4 ⟨v2, rfl, hn2, hb⟩
    obtain ⟨a2, c2, rfl⟩ := TrIn_shape hn2.any
    obtain ⟨bsX, oX, gX⟩ := hn2
    have lX := TrOwn_lt.1 _ _ _ oX
    have sC4 := hb.size
    have hWc := bW.1
    have hYc := bY.1
    replace oW := TrOwn_below hb oW
    replace bW := box3_next hb bW
    replace b1 := box3_next hb b1
    replace bY := box3_next hb bY
    replace B := below_next B hb
    clear hb oW0
    go_wp2_with fail
    refine (Expr.to_any y _ _ (TrIn_below (by repeat (first | exact Below.refl _ _ | assumption | refine below_a ?_ _ | refine below_o ?_ _ | refine below_d ?_ | refine below_n ?_ _ | refine below_s ?_ (by first | (simp; done) | (simp; omega) | omega) _)) hy) hsy).mono ?_
    rintro e w5 ⟨v3, rfl, hn3, hb⟩
    obtain ⟨a3, c3, rfl⟩ := TrIn_shape hn3.any
    obtain ⟨bsY, oY, gY⟩ := hn3
    simp only [World.size_alloc] at gY
    have lY := TrOwn_lt.1 _ _ _ oY
    have s45 := hb.size
    simp only [World.size_alloc] at s45
    have bX := box3_next hb (box3_new ..)
    replace hb := below_next (below_alloc ..) hb
    replace oW := TrOwn_below hb oW
    replace oX := TrOwn_below hb oX
    replace bW := box3_next hb bW
    replace b1 := box3_next hb b1
    replace bY := box3_next hb bY
    replace B := below_next B hb
    clear hb
    go_wp2_with fail
    refine (HI.out _ _ _ (TrIn_below (by repeat (first | exact Below.refl _ _ | assumption | refine below_a ?_ _ | refine below_o ?_ _ | refine below_d ?_ | refine below_n ?_ _ | refine below_s ?_ (by first | (simp; done) | (simp; omega) | omega) _)) oX.any) (TrIn_below (by repeat (first | exact Below.refl _ _ | assumption | refine below_a ?_ _ | refine below_o ?_ _ | refine below_d ?_ | refine below_n ?_ _ | refine below_s ?_ (by first | (simp; done) | (simp; omega) | omega) _)) oY.any)).mono ?_
    rintro e w6 ⟨vG, rfl, hG, hb⟩
    obtain ⟨aG, cG, rfl⟩ := TrIn_shape hG.any
    obtain ⟨bsG, oG, gG⟩ := hG
    simp only [World.size_alloc] at gG
    have lG := TrOwn_lt.1 _ _ _ oG
    have s56 := hb.size
    simp only [World.size_alloc] at s56
    have bZ := box3_next hb (box3_new ..)
    replace hb := below_next (below_alloc ..) hb
    replace oW := TrOwn_below hb oW
    replace oX := TrOwn_below hb oX
    replace oY := TrOwn_below hb oY
    replace bW := box3_next hb bW
    replace bX := box3_next hb bX
    replace b1 := box3_next hb b1
    replace bY := box3_next hb bY
    replace B := below_next B hb
    clear hb
    go_wp2_with fail
    refine (Expr.eq_any r _ r _ _ (TrIn_below (by repeat (first | exact Below.refl _ _ | assumption | refine below_a ?_ _ | refine below_o ?_ _ | refine below_d ?_ | refine below_n ?_ _ | refine below_s ?_ (by first | (simp; done) | (simp; omega) | omega) _)) oG.any) (TrIn_below (by repeat (first | exact Below.refl _ _ | assumption | refine below_a ?_ _ | refine below_o ?_ _ | refine below_d ?_ | refine below_n ?_ _ | refine below_s ?_ (by first | (simp; done) | (simp; omega) | omega) _)) oW.any)).mono ?_
    rintro e w7 ⟨rfl, hb⟩
    rw [eqT_refl]
    have bG := box3_next hb (box3_new ..)
    replace hb := below_next (below_alloc ..) hb
    replace oG := TrOwn_below hb oG
    replace oW := TrOwn_below hb oW
    replace oX := TrOwn_below hb oX
    replace oY := TrOwn_below hb oY
    replace bW := box3_next hb bW
    replace bX := box3_next hb bX
    replace bZ := box3_next hb bZ
    replace b1 := box3_next hb b1
    replace bY := box3_next hb bY
    replace B := below_next B hb
    clear hb
    go_wp2_with fail
    have oXi := oX.any
    have Bd := below_d B; have hnd := TrIn_below (below_d (Below.refl w7.heap.size w7)) oXi; have h5 : Box3 w7.drew (w.heap.size) (.int .i64 t.kind) (.int .i64 t.val) (.slice a t.kids.length c) := b1; have h6 : Box3 w7.drew (w4.heap.size) (.int .i64 t.kind) (.int .i64 t.val) (.slice a2 t.kids.length c2) := bX; go_region_held3 (fun w' => w'.cell? ⟨w4.heap.size, 0, none⟩ = some (.int .i64 t.kind) ∧ w'.cell? ⟨w4.heap.size, 1, none⟩ = some (.int .i64 t.val) ∧ w'.cell? ⟨w4.heap.size, 2, none⟩ = some (.slice a2 t.kids.length c2) ∧ w'.cell? ⟨w.heap.size, 0, none⟩ = some (.int .i64 t.kind) ∧ w'.cell? ⟨w.heap.size, 1, none⟩ = some (.int .i64 t.val) ∧ w'.cell? ⟨w.heap.size, 2, none⟩ = some (.slice a t.kids.length c)) (first | exact ⟨h6.2.1, h6.2.2.1, h6.2.2.2.1, h5.2.1, h5.2.2.1, h5.2.2.2.1⟩ | exact ⟨k6.2.1, k6.2.2.1, k6.2.2.2.1, k5.2.1, k5.2.2.1, k5.2.2.2.1⟩ | exact ⟨l6.2.1, l6.2.2.1, l6.2.2.2.1, l5.2.1, l5.2.2.1, l5.2.2.2.1⟩) (first | (go_at_call 13; refine (Expr.to_any t _ _ (TrIn_below Bd hx) hsm).mono ?_; rintro e w81 ⟨v83, rfl, hn83, hb⟩; obtain ⟨a83, c83, rfl⟩ := TrIn_shape hn83.any; have k5 := box3_next hb h5; have k6 := box3_next hb h6; have hm := TrIn_below hb hnd; have M6 := hb; clear hb) | (go_at_call 15; refine (Expr.eq_any t _ t _ _ hm hn83.any).mono ?_; rintro e w82 ⟨rfl, hb⟩; rw [eqT_refl]; have l5 := box3_next hb k5; have l6 := box3_next hb k6; have M7 := below_next M6 hb; clear hb)); clear h5 h6 k5 k6 hm hn83 hnd; have B7 := below_next Bd M7; have M8 := below_next (below_d (Below.refl w7.heap.size w7)) M7; clear Bd M7
    clear B oXi
    replace oG := TrOwn_below M8 oG
    replace oW := TrOwn_below M8 oW
    replace oX := TrOwn_below M8 oX
    replace oY := TrOwn_below M8 oY
    replace bW := box3_next M8 bW
    replace bG := box3_next M8 bG
    replace bY := box3_next M8 bY
    replace bZ := box3_next M8 bZ
    replace b1 := l5
    replace bX := l6
    have B := B7
    clear M8 l5 l6 B7
    obtain ⟨w8, hw8⟩ : ∃ w8, w8 = w82 := ⟨_, rfl⟩
    subst hw8
    go_wp2_with fail
    have oYi := oY.any
    have Bd := below_d B; have hnd := TrIn_below (below_d (Below.refl w8.heap.size w8)) oYi; have h5 : Box3 w8.drew (w.heap.size + 1) (.int .i64 y.kind) (.int .i64 y.val) (.slice ya y.kids.length yc) := bY; have h6 : Box3 w8.drew (w5.heap.size) (.int .i64 y.kind) (.int .i64 y.val) (.slice a3 y.kids.length c3) := bZ; go_region_held3 (fun w' => w'.cell? ⟨w5.heap.size, 0, none⟩ = some (.int .i64 y.kind) ∧ w'.cell? ⟨w5.heap.size, 1, none⟩ = some (.int .i64 y.val) ∧ w'.cell? ⟨w5.heap.size, 2, none⟩ = some (.slice a3 y.kids.length c3) ∧ w'.cell? ⟨w.heap.size + 1, 0, none⟩ = some (.int .i64 y.kind) ∧ w'.cell? ⟨w.heap.size + 1, 1, none⟩ = some (.int .i64 y.val) ∧ w'.cell? ⟨w.heap.size + 1, 2, none⟩ = some (.slice ya y.kids.length yc)) (first | exact ⟨h6.2.1, h6.2.2.1, h6.2.2.2.1, h5.2.1, h5.2.2.1, h5.2.2.2.1⟩ | exact ⟨k6.2.1, k6.2.2.1, k6.2.2.2.1, k5.2.1, k5.2.2.1, k5.2.2.2.1⟩ | exact ⟨l6.2.1, l6.2.2.1, l6.2.2.2.1, l5.2.1, l5.2.2.1, l5.2.2.2.1⟩) (first | (go_at_call 13; refine (Expr.to_any y _ _ (TrIn_below Bd hy) hsy).mono ?_; rintro e w81 ⟨v83, rfl, hn83, hb⟩; obtain ⟨a83, c83, rfl⟩ := TrIn_shape hn83.any; have k5 := box3_next hb h5; have k6 := box3_next hb h6; have hm := TrIn_below hb hnd; have M6 := hb; clear hb) | (go_at_call 15; refine (Expr.eq_any y _ y _ _ hm hn83.any).mono ?_; rintro e w82 ⟨rfl, hb⟩; rw [eqT_refl]; have l5 := box3_next hb k5; have l6 := box3_next hb k6; have M7 := below_next M6 hb; clear hb)); clear h5 h6 k5 k6 hm hn83 hnd; have B7 := below_next Bd M7; have M8 := below_next (below_d (Below.refl w8.heap.size w8)) M7; clear Bd M7
    clear B oYi
    replace oG := TrOwn_below M8 oG
    replace oW := TrOwn_below M8 oW
    replace oX := TrOwn_below M8 oX
    replace oY := TrOwn_below M8 oY
    replace bW := box3_next M8 bW
    replace bG := box3_next M8 bG
    replace b1 := box3_next M8 b1
    replace bX := box3_next M8 bX
    replace bY := l5
    replace bZ := l6
    have B := B7
    clear M8 l5 l6 B7
    go_wp2_with fail
    refine (Expr.mark_any t _ _ 1 bsX oX (by omega) (by omega)).mono ?_
    rintro e w9 ⟨rfl, _, hq⟩
    have nW : ∀ b, b ∈ bsW → b ∉ bsX := fun b h1 h2 => by have := lW b h1; have := gX b h2; omega
    have nG : ∀ b, b ∈ bsG → b ∉ bsX := fun b h1 h2 => by have := gG b h1; have := lX b h2; omega
    have nY : ∀ b, b ∈ bsY → b ∉ bsX := fun b h1 h2 => by have := gY b h1; have := lX b h2; omega
    replace oW := TrOwn_only hq oW nW
    replace oG := TrOwn_only hq oG nG
    replace oY := TrOwn_only hq oY nY
    replace bW := box3_only hq (fun h => by have := gX _ h; omega) bW
    replace bG := box3_only hq (fun h => by have := lX _ h; omega) bG
    replace b1 := box3_only hq (fun h => by have := gX _ h; omega) b1
    replace bY := box3_only hq (fun h => by have := gX _ h; omega) bY
    replace B := hq.new B (fun b h => by have := gX b h; omega)
    replace bZ := box3_only hq (fun h => by have := lX _ h; omega) bZ
    clear hq oX nW nG nY bX
    go_wp2_with fail
    refine (Expr.mark_any y _ _ (1 + 2 * nodesL t.kids) bsY oY (by omega) (by omega)).mono ?_
    rintro e w10 ⟨rfl, _, hq⟩
    have nW : ∀ b, b ∈ bsW → b ∉ bsY := fun b h1 h2 => by have := lW b h1; have := gY b h2; omega
    have nG : ∀ b, b ∈ bsG → b ∉ bsY := fun b h1 h2 => by have := gG b h1; have := lY b h2; omega
    replace oW := TrOwn_only hq oW nW
    replace oG := TrOwn_only hq oG nG
    replace bW := box3_only hq (fun h => by have := gY _ h; omega) bW
    replace bG := box3_only hq (fun h => by have := lY _ h; omega) bG
    replace b1 := box3_only hq (fun h => by have := gY _ h; omega) b1
    replace bY := box3_only hq (fun h => by have := gY _ h; omega) bY
    replace B := hq.new B (fun b h => by have := gY b h; omega)
    clear hq oY nW nG bZ
    go_wp2_with fail
    refine (Expr.eq_any r _ r _ _ oG.any oW.any).mono ?_
    rintro e w11 ⟨rfl, hb⟩
    rw [eqT_refl]
    replace oG := TrOwn_below hb oG
    replace oW := TrOwn_below hb oW
    replace bW := box3_next hb bW
    replace bG := box3_next hb bG
    replace b1 := box3_next hb b1
    replace bY := box3_next hb bY
    replace B := below_next B hb
    clear hb
    go_wp2_with fail
    refine (Expr.mark_any r _ _ 1 bsG oG (by omega) (by omega)).mono ?_
    rintro e w12 ⟨rfl, oM, hq⟩
    have nW : ∀ b, b ∈ bsW → b ∉ bsG := fun b h1 h2 => by have := gG b h2; have := lW b h1; omega
    replace oW := TrOwn_only hq oW nW
    replace bW := box3_only hq (fun h => by have := gG _ h; omega) bW
    replace bG := box3_only hq (fun h => by have := lG _ h; omega) bG
    replace b1 := box3_only hq (fun h => by have := gG _ h; omega) b1
    replace bY := box3_only hq (fun h => by have := gG _ h; omega) bY
    replace B := hq.new B (fun b h => by have := gG b h; omega)
    clear hq oG nW
    go_wp2_with fail
    refine (Expr.held_any r _ _ 1 oM.any (by omega) (by omega)).mono ?_
    rintro e w13 ⟨rfl, hb⟩
    replace oM := TrOwn_below hb oM
    replace oW := TrOwn_below hb oW
    replace bW := box3_next hb bW
    replace bG := box3_next hb bG
    replace b1 := box3_next hb b1
    replace bY := box3_next hb bY
    replace B := below_next B hb
    clear hb
    have nn : (1 + 2 * nodesL r.kids != 1 + 2 * nodesL r.kids) = false := by simp
    have hx3 := TrIn_below B hx
    have hy3 := TrIn_below B hy
    go_upto_region 31 with fail
    go_cut [17, 18] (fun s17 s18 wx => StH w13 r rb s17 s18 wx)
    case first =>
      have h1 := b1
      have hY := bY
      have hYl := bY.1
      have Bd := below_d (Below.refl w13.heap.size w13)
      have N2 : w.heap.size ≠ w13.heap.size ∧ w13.heap.size ≠ w.heap.size ∧ w.heap.size + 1 ≠ w13.heap.size ∧ w13.heap.size ≠ w.heap.size + 1 := by omega
      clear oM oW bW bG
      go_region_held3 (fun w' => w'.cell? ⟨w.heap.size, 0, none⟩ = some (.int .i64 t.kind) ∧ w'.cell? ⟨w.heap.size, 1, none⟩ = some (.int .i64 t.val) ∧ w'.cell? ⟨w.heap.size, 2, none⟩ = some (.slice a t.kids.length c) ∧
          w'.cell? ⟨w.heap.size + 1, 0, none⟩ = some (.int .i64 y.kind) ∧ w'.cell? ⟨w.heap.size + 1, 1, none⟩ = some (.int .i64 y.val) ∧ w'.cell? ⟨w.heap.size + 1, 2, none⟩ = some (.slice ya y.kids.length yc))
        (first | exact ⟨h1.2.1, h1.2.2.1, h1.2.2.2.1, hY.2.1, hY.2.2.1, hY.2.2.2.1⟩ | exact ⟨k1.2.1, k1.2.2.1, k1.2.2.2.1, kY.2.1, kY.2.2.1, kY.2.2.2.1⟩ | exact ⟨l1.2.1, l1.2.2.1, l1.2.2.2.1, lY.2.1, lY.2.2.1, lY.2.2.2.1⟩ | exact ⟨m1.2.1, m1.2.2.1, m1.2.2.2.1, mY.2.1, mY.2.2.1, mY.2.2.2.1⟩ | go_keep)
        (first
          | (go_at_call_of 13 (Value.agg #[Value.int .i64 t.kind, Value.int .i64 t.val, Value.slice a t.kids.length c]); refine (Expr.to_any t _ _ (TrIn_below (by repeat (first | exact Below.refl _ _ | assumption | refine below_a ?_ _ | refine below_o ?_ _ | refine below_d ?_ | refine below_n ?_ _ | refine below_s ?_ (by first | (simp; done) | (simp; omega) | omega) _)) hx3) hsm).mono ?_; rintro e w23 ⟨v21, rfl, hn1, hb⟩; have M3 := below_next (show Below w13.heap.size w13 _ from (by repeat (first | exact Below.refl _ _ | assumption | refine below_a ?_ _ | refine below_o ?_ _ | refine below_d ?_ | refine below_n ?_ _ | refine below_s ?_ (by first | (simp; done) | (simp; omega) | omega) _))) hb; have k1 := box3_next hb (box3_next (show Below w13.heap.size w13 _ from (by repeat (first | exact Below.refl _ _ | assumption | refine below_a ?_ _ | refine below_o ?_ _ | refine below_d ?_ | refine below_n ?_ _ | refine below_s ?_ (by first | (simp; done) | (simp; omega) | omega) _))) h1); have kY := box3_next hb (box3_next (show Below w13.heap.size w13 _ from (by repeat (first | exact Below.refl _ _ | assumption | refine below_a ?_ _ | refine below_o ?_ _ | refine below_d ?_ | refine below_n ?_ _ | refine below_s ?_ (by first | (simp; done) | (simp; omega) | omega) _))) hY); have T3 := hn1.any; have N3 : w.heap.size ≠ w23.heap.size ∧ w23.heap.size ≠ w.heap.size ∧ w.heap.size + 1 ≠ w23.heap.size ∧ w23.heap.size ≠ w.heap.size + 1 := (by have := kY.1; omega); (try (have O3 := box3_next hb (box3_at (B := w13.heap.size) rfl))); have S3 := hid hb.size; clear hb hn1)
          | (go_at_call_of 13 (Value.agg #[Value.int .i64 y.kind, Value.int .i64 y.val, Value.slice ya y.kids.length yc]); refine (Expr.to_any y _ _ (TrIn_below (by repeat (first | exact Below.refl _ _ | assumption | refine below_a ?_ _ | refine below_o ?_ _ | refine below_d ?_ | refine below_n ?_ _ | refine below_s ?_ (by first | (simp; done) | (simp; omega) | omega) _)) hy3) hsy).mono ?_; rintro e w24 ⟨v22, rfl, hn2, hb⟩; have M4 := below_next (show Below w13.heap.size w13 _ from (by repeat (first | exact Below.refl _ _ | assumption | refine below_a ?_ _ | refine below_o ?_ _ | refine below_d ?_ | refine below_n ?_ _ | refine below_s ?_ (by first | (simp; done) | (simp; omega) | omega) _))) hb; have l1 := box3_next hb (box3_next (show Below w23.heap.size w23 _ from (by repeat (first | exact Below.refl _ _ | assumption | refine below_a ?_ _ | refine below_o ?_ _ | refine below_d ?_ | refine below_n ?_ _ | refine below_s ?_ (by first | (simp; done) | (simp; omega) | omega) _))) k1); have lY := box3_next hb (box3_next (show Below w23.heap.size w23 _ from (by repeat (first | exact Below.refl _ _ | assumption | refine below_a ?_ _ | refine below_o ?_ _ | refine below_d ?_ | refine below_n ?_ _ | refine below_s ?_ (by first | (simp; done) | (simp; omega) | omega) _))) kY); have T4 := hn2.any; have N4 : w.heap.size ≠ w24.heap.size ∧ w24.heap.size ≠ w.heap.size ∧ w.heap.size + 1 ≠ w24.heap.size ∧ w24.heap.size ≠ w.heap.size + 1 := (by have := lY.1; omega); have TT := TrIn_below hb (TrIn_below (show Below w23.heap.size w23 _ from (by repeat (first | exact Below.refl _ _ | assumption | refine below_a ?_ _ | refine below_o ?_ _ | refine below_d ?_ | refine below_n ?_ _ | refine below_s ?_ (by first | (simp; done) | (simp; omega) | omega) _))) T3); (first | (have O4 := box3_next hb (box3_next (show Below w23.heap.size w23 _ from (by repeat (first | exact Below.refl _ _ | assumption | refine below_a ?_ _ | refine below_o ?_ _ | refine below_d ?_ | refine below_n ?_ _ | refine below_s ?_ (by first | (simp; done) | (simp; omega) | omega) _))) O3)) | (have O4 := box3_next hb (box3_at (B := w23.heap.size) rfl)) | skip); have S4 := hid hb.size; clear hb hn2)
          | (go_at_call 25; refine (HI.out _ _ _ (TrIn_below (by repeat (first | exact Below.refl _ _ | assumption | refine below_a ?_ _ | refine below_o ?_ _ | refine below_d ?_ | refine below_n ?_ _ | refine below_s ?_ (by first | (simp; done) | (simp; omega) | omega) _)) TT) (TrIn_below (by repeat (first | exact Below.refl _ _ | assumption | refine below_a ?_ _ | refine below_o ?_ _ | refine below_d ?_ | refine below_n ?_ _ | refine below_s ?_ (by first | (simp; done) | (simp; omega) | omega) _)) T4)).mono ?_; rintro e w25 ⟨vH, rfl, hH, hb⟩; have M5 := below_next (show Below w13.heap.size w13 _ from (by repeat (first | exact Below.refl _ _ | assumption | refine below_a ?_ _ | refine below_o ?_ _ | refine below_d ?_ | refine below_n ?_ _ | refine below_s ?_ (by first | (simp; done) | (simp; omega) | omega) _))) hb; have m1 := box3_next hb (box3_next (show Below w24.heap.size w24 _ from (by repeat (first | exact Below.refl _ _ | assumption | refine below_a ?_ _ | refine below_o ?_ _ | refine below_d ?_ | refine below_n ?_ _ | refine below_s ?_ (by first | (simp; done) | (simp; omega) | omega) _))) l1); have mY := box3_next hb (box3_next (show Below w24.heap.size w24 _ from (by repeat (first | exact Below.refl _ _ | assumption | refine below_a ?_ _ | refine below_o ?_ _ | refine below_d ?_ | refine below_n ?_ _ | refine below_s ?_ (by first | (simp; done) | (simp; omega) | omega) _))) lY); obtain ⟨aH, cH, rfl⟩ := TrIn_shape hH.any; (first | (have O5 := box3_next hb (box3_next (show Below w24.heap.size w24 _ from (by repeat (first | exact Below.refl _ _ | assumption | refine below_a ?_ _ | refine below_o ?_ _ | refine below_d ?_ | refine below_n ?_ _ | refine below_s ?_ (by first | (simp; done) | (simp; omega) | omega) _))) O4)) | (have O5 := box3_next hb (box3_at (B := w24.heap.size) rfl)) | skip);  have HH := hid hH; (try (obtain ⟨z0, z1, z2, z3, z4, z5, z6⟩ := O5)); clear hb hH))
      all_goals
        have S3' := S3
        have S4' := S4
        have HM := hid M5
        have HS3 := hid (show w13.heap.size ≤ w23.heap.size ∧ w13.heap.size ≤ w24.heap.size from ⟨M3.size, M4.size⟩)
        clear k1 kY l1 lY m1 mY M3 M4 M5 h1 hY b1 bY T3 T4 TT Bd B
        go_wp2_with fail
        go_meet
        have S3 := S3'.out
        have S4 := S4'.out
        obtain ⟨l3, l4⟩ := HS3.out
        have g1 := HM.out
        first
          | exact StH.two HH.out g1
          | exact StH.one HH.out (by (try simp only [World.size_alloc] at S3); (try simp only [World.size_alloc] at S4); (try simp only [World.size_alloc]); first | omega | (simp; done) | (simp at *; omega)) (by omega) g1 ⟨z0, z1, z2, z3, z4, z5, z6⟩
    case rest =>
      obtain ⟨Oh, aH, cH, rfl, rfl, hb, bH, oH⟩ := hcut
      replace oM := TrOwn_below hb oM
      replace oW := TrOwn_below hb oW
      replace bW := box3_next hb bW
      replace bG := box3_next hb bG
      replace B := below_next B hb
      clear hb b1 bY hx3 hy3
      go_wp2_with fail
      refine (Expr.eq_any r _ r _ _ oH oW.any).mono ?_
      rintro e w15 ⟨rfl, hb⟩
      rw [eqT_refl]
      replace oM := TrOwn_below hb oM
      replace bG := box3_next hb bG
      replace B := below_next B hb
      clear hb oH oW bW bH
      go_wp2_with fail
      refine (Expr.held_any r _ _ 1 oM.any (by omega) (by omega)).mono ?_
      rintro e w16 ⟨rfl, hb⟩
      replace B := below_next B hb
      clear hb
      go_wp2_with fail
      go_ret
      exact Ret.mk rfl B

set_option maxHeartbeats 1000000 in
theorem walk_FnExactSubstExpr (t y : Tr) (xi : Int) (w : World) (x z : Value) (hx : TrIn Any w t x) (hy : TrIn Any w y z) : Calls Try.prog 6 #[x, .int .i64 xi, z] w (Ret (.bool true) w) := by
  by_cases hs : szT t 1048576 < 0
  · obtain ⟨a, c, rfl⟩ := TrIn_shape hx
    obtain ⟨ya, yc, rfl⟩ := TrIn_shape hy
    have hbd := szT_bd t 1048576 (by omega) (by omega)
    go_enter Try.func6, Try.ntmps6
    go_wp2_with fail
    refine (Expr.sz_any t _ _ _ (TrIn_below (by repeat (first | exact Below.refl _ _ | assumption | refine below_a ?_ _ | refine below_o ?_ _ | refine below_d ?_ | refine below_n ?_ _ | refine below_s ?_ (by first | (simp; done) | (simp; omega) | omega) _)) hx) (by omega) (by omega)).mono ?_
    rintro e w1 ⟨rfl, hb⟩
    replace hb := below_next (show Below w.heap.size w _ from (by repeat (first | exact Below.refl _ _ | assumption | refine below_a ?_ _ | refine below_o ?_ _ | refine below_d ?_ | refine below_n ?_ _ | refine below_s ?_ (by first | (simp; done) | (simp; omega) | omega) _))) hb
    go_wp2_with fail
    go_ret
    exact Ret.mk rfl hb
  · have hbd := szT_bd t 1048576 (by omega) (by omega)
    have hbd2 := szT_bd y (szT t 1048576) (by omega) (by omega)
    have hsm := small_of_sz t 1048576 (by omega) (by omega)
    by_cases hs2 : szT y (szT t 1048576) < 0
    · obtain ⟨a, c, rfl⟩ := TrIn_shape hx
      obtain ⟨ya, yc, rfl⟩ := TrIn_shape hy
      generalize hl : szT t 1048576 = left at *
      replace hl := hid hl
      go_enter Try.func6, Try.ntmps6
      go_wp2_with fail
      refine (Expr.sz_any t _ _ _ (TrIn_below (by repeat (first | exact Below.refl _ _ | assumption | refine below_a ?_ _ | refine below_o ?_ _ | refine below_d ?_ | refine below_n ?_ _ | refine below_s ?_ (by first | (simp; done) | (simp; omega) | omega) _)) hx) (by omega) (by omega)).mono ?_
      rintro e w1 ⟨rfl, hb⟩
      rw [hl.out]
      have bY := box3_next hb (box3_at (B := w.heap.size + 1) (a := .int .i64 y.kind) (b := .int .i64 y.val) (c := .slice ya y.kids.length yc) (t := 24) (by simp))
      replace hb := below_next (show Below w.heap.size w _ from (by repeat (first | exact Below.refl _ _ | assumption | refine below_a ?_ _ | refine below_o ?_ _ | refine below_d ?_ | refine below_n ?_ _ | refine below_s ?_ (by first | (simp; done) | (simp; omega) | omega) _))) hb
      go_wp2_with fail
      refine (Expr.sz_any y _ _ left (TrIn_below hb hy) (by omega) (by omega)).mono ?_
      rintro e w2 ⟨rfl, hb2⟩
      replace hb := below_next hb hb2
      go_wp2_with fail
      go_ret
      exact Ret.mk rfl hb
    · have hsy := small_of_sz y (szT t 1048576) (by omega) (by omega)
      exact core_FnExactSubstExpr t y (Expr.subV xi t y) xi (Expr.subOk xi t y) (Expr.subV_small xi t y) hsm hsy (fun w u v hu hv => Expr.specSubst_any xi t y w u v hu hv hsm hsy) (fun w u v hu hv => Expr.subst_any xi t y w u v hu hv hsm hsy) w x z hx hy (by omega) (by omega)
end Go.Proofs.Ytagbindamcfnoaa
