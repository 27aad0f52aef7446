/- FnExactBasicFormulas returns true for every tree. Conditions: none. -/
import Derived.Test.YtobmgfgefccnoaaFormulaA
import Derived.Test.YtobmgfgefccnoaaFormulaMark
import Derived.Test.YtobmgfgefccnoaaBox
import Derived.Test.YtobmgfgefccnoaaSzPlain
import Derived.Test.YtobmgfgefccnoaaBasY
import Derived.Test.YtobmgfgefccnoaaRowNew
import Derived.Deep.RegionHeld3
namespace Go.Proofs.Ytobmgfgefccnoaa
open Go.RowKit
open Go.Proofs.Ytobmgfgefccnoaa.Formula

set_option maxRecDepth 100000 in
set_option maxHeartbeats 4000000 in
theorem core_FnExactBasicFormulas (t : Tr) (r : List Tr) (rb : Bool) (hr : nodesL r ≤ 1000000) (hsm : Small t) (hS : ∀ w x, TrIn Any w t x → Calls Try.prog 29 #[x] w (RetR w.heap.size r rb w)) (hI : ∀ w x, TrIn Any w t x → Calls Try.prog 30 #[x] w (RetR w.heap.size r rb w))
    (w : World) (x : Value) (hx : TrIn Any w t x) (hs : 0 ≤ szT t 1048576) : Calls Try.prog 8 #[x] w (Ret (.bool true) w) := by
  have hx0 := hx
  obtain ⟨a, c, rfl⟩ := TrIn_shape hx
  have hbd := szT_bd t 1048576 (by omega) (by omega)
  have hsz := szT_eq t 1048576 hs
  have hp := nodesL_pos t.kids
  have HS := hid hS
  have HI := hid hI
  have HSZ := hid hsz
  have hnt : nodesL t.kids ≤ 1048576 := by omega
  have hs0 : ¬ (szT t 1048576 < 0) := by omega
  have hpr := nodesL_pos r
  have hbb : (rb != rb) = false := by simp
  clear hS hI hsz
  go_enter Try.func8, Try.ntmps8
  go_wp2_with fail
  refine (Formula.sz_any t _ _ _ (TrIn_alloc hx _) (by omega) (by omega)).mono ?_
  rintro e w1 ⟨rfl, hb⟩
  have b1 := box3_next hb (box3_new ..)
  have B := below_next (below_alloc ..) hb
  clear hb
  go_wp2_with fail
  refine (Formula.to_any t _ _ (TrIn_below B hx) hsm).mono ?_
  rintro e w2 ⟨v1, rfl, hn1, hb⟩
  replace b1 := box3_next hb b1
  replace B := below_next B hb
  clear hb
  obtain ⟨a1, c1, rfl⟩ := TrIn_shape hn1.any
  go_wp2_with fail
  refine (HS.out _ _ hn1.any).mono ?_
  rintro e w3 ⟨vW, rfl, ⟨aW, cW, bsW, rfl, cW1, cW2, oW, gW⟩, hb⟩
  have lW := oW.lt
  replace b1 := box3_next hb b1
  replace B := below_next B hb
  have l13 : w.heap.size < w3.heap.size := b1.1
  clear hb hn1
  go_wp2_with fail
  refine (Formula.to_any t _ _ (TrIn_below (by repeat (first | exact Below.refl _ _ | assumption | refine below_a ?_ _ | refine below_o ?_ _ | refine below_d ?_ | refine below_n ?_ _ | refine below_s ?_ (by first | (simp; done) | (simp; omega) | omega) _)) hx) hsm).mono ?_
  rintro e w4 ⟨v2, rfl, hn2, hb⟩
  obtain ⟨a2, c2, rfl⟩ := TrIn_shape hn2.any
  obtain ⟨bsX, oX, gX⟩ := hn2
  have lX := TrOwn_lt.1 _ _ _ oX
  have s34 := hb.size
  replace oW := oW.below hb
  replace b1 := box3_next hb b1
  replace B := below_next B hb
  clear hb
  go_wp2_with fail
  refine (HI.out _ _ (TrIn_below (by repeat (first | exact Below.refl _ _ | assumption | refine below_a ?_ _ | refine below_o ?_ _ | refine below_d ?_ | refine below_n ?_ _ | refine below_s ?_ (by first | (simp; done) | (simp; omega) | omega) _)) oX.any)).mono ?_
  rintro e w5 ⟨vG, rfl, ⟨aG, cG, bsG, rfl, cG1, cG2, oG, gG⟩, hb⟩
  simp only [World.size_alloc] at gG
  have lG := oG.lt
  have s45 := hb.size
  simp only [World.size_alloc] at s45
  have bX := box3_next hb (box3_new ..)
  replace hb := below_next (below_alloc ..) hb
  replace oW := oW.below hb
  replace oX := TrOwn_below hb oX
  replace b1 := box3_next hb b1
  replace B := below_next B hb
  clear hb
  go_wp2_with fail
  refine (Formula.eqL_any r _ r _ _ _ _ oG.any oW.any cG1 cG2 cW1 cW2).mono ?_
  rintro e w6 ⟨rfl, hb⟩
  rw [eqL_refl]
  replace oG := oG.below hb
  replace oW := oW.below hb
  replace oX := TrOwn_below hb oX
  replace bX := box3_next hb bX
  replace b1 := box3_next hb b1
  replace B := below_next B hb
  clear hb
  go_wp2_with fail
  have oXi := oX.any
  have Bd := below_d B; have hnd := TrIn_below (below_d (Below.refl w6.heap.size w6)) oXi; have h5 : Box3 w6.drew (w.heap.size) (.int .i64 t.kind) (.int .i64 t.val) (.slice a t.kids.length c) := b1; have h6 : Box3 w6.drew (w4.heap.size) (.int .i64 t.kind) (.int .i64 t.val) (.slice a2 t.kids.length c2) := bX; go_region_held3 (fun w' => w'.cell? ⟨w4.heap.size, 0, none⟩ = some (.int .i64 t.kind) ∧ w'.cell? ⟨w4.heap.size, 1, none⟩ = some (.int .i64 t.val) ∧ w'.cell? ⟨w4.heap.size, 2, none⟩ = some (.slice a2 t.kids.length c2) ∧ w'.cell? ⟨w.heap.size, 0, none⟩ = some (.int .i64 t.kind) ∧ w'.cell? ⟨w.heap.size, 1, none⟩ = some (.int .i64 t.val) ∧ w'.cell? ⟨w.heap.size, 2, none⟩ = some (.slice a t.kids.length c)) (first | exact ⟨h6.2.1, h6.2.2.1, h6.2.2.2.1, h5.2.1, h5.2.2.1, h5.2.2.2.1⟩ | exact ⟨k6.2.1, k6.2.2.1, k6.2.2.2.1, k5.2.1, k5.2.2.1, k5.2.2.2.1⟩ | exact ⟨l6.2.1, l6.2.2.1, l6.2.2.2.1, l5.2.1, l5.2.2.1, l5.2.2.2.1⟩) (first | (go_at_call 13; refine (Formula.to_any t _ _ (TrIn_below Bd hx) hsm).mono ?_; rintro e w81 ⟨v83, rfl, hn83, hb⟩; obtain ⟨a83, c83, rfl⟩ := TrIn_shape hn83.any; have k5 := box3_next hb h5; have k6 := box3_next hb h6; have hm := TrIn_below hb hnd; have M6 := hb; clear hb) | (go_at_call 15; refine (Formula.eq_any t _ t _ _ hm hn83.any).mono ?_; rintro e w82 ⟨rfl, hb⟩; rw [eqT_refl]; have l5 := box3_next hb k5; have l6 := box3_next hb k6; have M7 := below_next M6 hb; clear hb)); clear h5 h6 k5 k6 hm hn83 hnd; have B7 := below_next Bd M7; have M8 := below_next (below_d (Below.refl w6.heap.size w6)) M7; clear Bd M7
  clear B oXi
  replace oG := oG.below M8
  replace oW := oW.below M8
  replace oX := TrOwn_below M8 oX
  replace b1 := l5
  clear M8 bX l5 l6
  go_wp2_with fail
  refine (Formula.mark_any t _ _ 1 bsX oX (by omega) (by omega)).mono ?_
  rintro e w9 ⟨rfl, _, hO⟩
  have nW : ∀ b, b ∈ bsW → b ∉ bsX := fun b h1 h2 => by have := lW b h1; have := gX b h2; omega
  have nG : ∀ b, b ∈ bsG → b ∉ bsX := fun b h1 h2 => by have := gG b h1; have := lX b h2; omega
  replace b1 := box3_only hO (fun h => by have := gX _ h; omega) b1
  replace oW := oW.only hO nW
  replace oG := oG.only hO nG
  replace B7 := hO.new B7 (fun b h => by have := gX b h; omega)
  clear hO oX nW nG
  go_wp2_with fail
  refine (Formula.eqL_any r _ r _ _ _ _ oG.any oW.any cG1 cG2 cW1 cW2).mono ?_
  rintro e w10 ⟨rfl, hb⟩
  rw [eqL_refl]
  replace oG := oG.below hb
  replace oW := oW.below hb
  replace b1 := box3_next hb b1
  replace B7 := below_next B7 hb
  clear hb
  go_wp2_with fail
  refine (Formula.markRow_any r _ aG cG 1 bsG oG cG1 cG2 (by omega) (by omega)).mono ?_
  rintro e w11 ⟨rfl, oM, hO⟩
  have nW : ∀ b, b ∈ bsW → b ∉ bsG := fun b h1 h2 => by have := gG b h2; have := lW b h1; omega
  replace b1 := box3_only hO (fun h => by have := gG _ h; omega) b1
  replace oW := oW.only hO nW
  replace B7 := hO.new B7 (fun b h => by have := gG b h; omega)
  clear hO oG nW
  go_wp2_with fail
  refine (Formula.heldRow_any r _ aG cG 1 oM.any cG1 cG2 (by omega) (by omega)).mono ?_
  rintro e w12 ⟨rfl, hb⟩
  replace oM := oM.below hb
  replace oW := oW.below hb
  replace b1 := box3_next hb b1
  replace B7 := below_next B7 hb
  clear hb
  have nn : (1 + 2 * nodesL r != 1 + 2 * nodesL r) = false := by simp
  go_wp2_with fail
  refine (Formula.to_any t _ _ (TrIn_below B7 hx) hsm).mono ?_
  rintro e w13 ⟨v4, rfl, hn4, hb⟩
  replace oM := oM.below hb
  replace oW := oW.below hb
  replace B7 := below_next B7 hb
  clear hb b1
  go_wp2_with fail
  refine (HI.out _ _ hn4.any).mono ?_
  rintro e w14 ⟨vH, rfl, ⟨aH, cH, bsH, rfl, cH1, cH2, oH, gH⟩, hb⟩
  replace oM := oM.below hb
  replace oW := oW.below hb
  replace B7 := below_next B7 hb
  clear hb hn4
  go_wp2_with fail
  refine (Formula.eqL_any r _ r _ _ _ _ oH.any oW.any cH1 cH2 cW1 cW2).mono ?_
  rintro e w15 ⟨rfl, hb⟩
  rw [eqL_refl]
  replace oM := oM.below hb
  replace B7 := below_next B7 hb
  clear hb oH oW
  go_wp2_with fail
  refine (Formula.heldRow_any r _ aG cG 1 oM.any cG1 cG2 (by omega) (by omega)).mono ?_
  rintro e w16 ⟨rfl, hb⟩
  replace B7 := below_next B7 hb
  clear hb
  go_wp2_with fail
  go_ret
  exact Ret.mk rfl B7

theorem walk_FnExactBasicFormulas (t : Tr) (w : World) (x : Value) (hx : TrIn Any w t x) : Calls Try.prog 8 #[x] w (Ret (.bool true) w) := by
  by_cases hs : szT t 1048576 < 0
  · obtain ⟨a, c, rfl⟩ := TrIn_shape hx
    have hbd := szT_bd t 1048576 (by omega) (by omega)
    go_enter Try.func8, Try.ntmps8
    go_wp2_with fail
    refine (Formula.sz_any t _ _ _ (TrIn_alloc hx _) (by omega) (by omega)).mono ?_
    rintro e w1 ⟨rfl, hb⟩
    go_wp2_with fail
    go_ret
    exact Ret.mk rfl (below_next (below_alloc _ _) hb)
  · have hsm := small_of_sz t 1048576 (by omega) (by omega)
    exact core_FnExactBasicFormulas t (basV t) (basOk t) (basV_nodes t) hsm (fun w x hx => specBas_any t w x hx hsm) (fun w x hx => bas_any t w x hx hsm) w x hx (by omega)
end Go.Proofs.Ytobmgfgefccnoaa
