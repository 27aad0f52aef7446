/- FnExactSystemValid returns true for every system. Conditions: none. -/
import Derived.Test.YtchlpeflfiecdaaSysVI
import Derived.Test.YtchlpeflfiecdaaSysEq
import Derived.Test.YtchlpeflfiecdaaSysTo2
import Derived.Deep.RegionHeld3
namespace Go.Proofs.Ytchlpeflfiecdaa
open Go.RowKit
open Go.Proofs.Ytchlpeflfiecdaa.Sys

theorem NewSy_any {B : Nat} {s : Sy} {v : Value} {w : World} (h : NewSy B s v w) : SyIn Any w s v := SyIn.any h

set_option maxRecDepth 100000 in
set_option maxHeartbeats 2000000 in
theorem walk_FnExactSystemValid (t : Sy) (w : World) (x : Value) (hx : SyIn Any w t x) : Calls Try.prog 4 #[x] w (Ret (.bool true) w) := by
  have hbd := Sys.szS_bd t 1048576 (by omega) (by omega)
  have HX := hid hx
  have HSZ := hid (fun (W : World) (M : Below w.heap.size w W) => Sys.szS_any t W x 1048576 (hx.below M) (by omega) (by omega))
  have HSM := hid (fun (h : 0 ≤ Sys.szS t 1048576) => Sys.small_of_sz t h)
  obtain ⟨a, c, b, d, rfl⟩ := hx.shape
  generalize Sys.szS t 1048576 = g at *
  clear hx
  by_cases hs : g < 0
  · go_enter Try.func4, Try.ntmps4
    go_wp2_with fail
    refine (HSZ.out _ (by repeat (first | exact Below.refl _ _ | assumption | refine below_a ?_ _ | refine below_o ?_ _ | refine below_d ?_ | refine below_n ?_ _ | refine below_s ?_ (by first | (simp; done) | (simp; omega) | omega) _))).mono ?_
    rintro e w1 ⟨rfl, hb⟩
    go_wp2_with fail
    go_ret
    exact Ret.mk rfl (below_next (by repeat (first | exact Below.refl _ _ | assumption | refine below_a ?_ _ | refine below_o ?_ _ | refine below_d ?_ | refine below_n ?_ _ | refine below_s ?_ (by first | (simp; done) | (simp; omega) | omega) _)) hb)
  · have hsm := hid (HSM.out (by omega))
    clear HSM
    go_enter Try.func4, Try.ntmps4
    go_wp2_with fail
    refine (HSZ.out _ (by repeat (first | exact Below.refl _ _ | assumption | refine below_a ?_ _ | refine below_o ?_ _ | refine below_d ?_ | refine below_n ?_ _ | refine below_s ?_ (by first | (simp; done) | (simp; omega) | omega) _))).mono ?_
    rintro e w1 ⟨rfl, hb⟩
    have P := hid (box2_next hb (box2_at (w := w) (a := .slice a t.init.length c) (b := .slice b t.procs.length d) (t := 40) rfl))
    have B := hid (below_next (below_alloc _ _) hb)
    clear hb
    obtain ⟨p0, p1, p2, _⟩ := id P.out
    go_wp2_with fail
    refine (Sys.toS_any t _ _ (HX.out.below B.out) hsm.out).mono ?_
    rintro e w2 ⟨v1, rfl, hn1, hb⟩
    replace P := hid (box2_next hb P.out)
    replace B := hid (below_next B.out hb)
    clear hb p0 p1 p2
    go_wp2_with fail
    refine (Sys.specValid_any t _ _ (NewSy_any hn1)).mono ?_
    rintro e w3 ⟨rfl, hb⟩
    replace P := hid (box2_next hb P.out)
    replace B := hid (below_next B.out hb)
    clear hb hn1
    obtain ⟨p0, p1, p2, _⟩ := id P.out
    go_wp2_with fail
    refine (Sys.toS_any t _ _ (HX.out.below B.out) hsm.out).mono ?_
    rintro e w4 ⟨v2, rfl, hn2, hb⟩
    replace P := hid (box2_next hb P.out)
    replace B := hid (below_next B.out hb)
    have N2 := hid (NewSy_any hn2)
    obtain ⟨a2, c2, b2, d2, rfl⟩ := N2.out.shape
    clear hb p0 p1 p2 hn2
    go_wp2_with fail
    refine (Sys.valid_any t _ _ (N2.out.below (below_alloc _ _))).mono ?_
    rintro e w5 ⟨rfl, hb⟩
    have X0 := hid (box2_next hb (box2_at (w := w4) (a := .slice a2 t.init.length c2) (b := .slice b2 t.procs.length d2) (t := 45) rfl))
    replace hb := below_next (below_alloc ..) hb
    replace N2 := hid (N2.out.below hb)
    replace P := hid (box2_next hb P.out)
    replace B := hid (below_next B.out hb)
    clear hb
    have e1 : (okSy t != okSy t) = false := by simp
    generalize okSy t = ov at *
    go_wp2_with fail
    have h1 := box2_next (below_d (Below.refl _ _)) P.out
    have h2 := box2_next (below_d (Below.refl _ _)) X0.out
    have Bd := below_d B.out
    have hm := N2.out.below (below_d (Below.refl _ _))
    go_region_held3 (fun w' => w'.cell? ⟨w.heap.size, 0, none⟩ = some (.slice a t.init.length c) ∧ w'.cell? ⟨w.heap.size, 1, none⟩ = some (.slice b t.procs.length d) ∧ w'.cell? ⟨w4.heap.size, 0, none⟩ = some (.slice a2 t.init.length c2) ∧ w'.cell? ⟨w4.heap.size, 1, none⟩ = some (.slice b2 t.procs.length d2))
      (first | exact ⟨h1.2.1, h1.2.2.1, h2.2.1, h2.2.2.1⟩ | exact ⟨k1.2.1, k1.2.2.1, k2.2.1, k2.2.2.1⟩ | exact ⟨l1.2.1, l1.2.2.1, l2.2.1, l2.2.2.1⟩)
      (first
        | (go_at_call 19; have HT := Sys.toS_any t _ _ (HX.out.below Bd) hsm.out; refine HT.mono ?_; clear HT; rintro e w6 ⟨v3, rfl, hn3, hb⟩; have N3 := hid (NewSy_any hn3); obtain ⟨a3, c3, b3, d3, rfl⟩ := N3.out.shape; have k1 := box2_next hb h1; have k2 := box2_next hb h2; have hm3 := hm.below hb; have B6 := below_next Bd hb; clear hb hn3)
        | (go_at_call 21; have HT := Sys.eqS_any t t _ _ _ hm3 N3.out; refine HT.mono ?_; clear HT; rintro e w7 ⟨rfl, hb⟩; rw [eqS_refl]; have l1 := box2_next hb k1; have l2 := box2_next hb k2; have B7 := below_next B6 hb; clear hb))
    go_wp2_with fail
    go_ret
    exact Ret.mk rfl B7
end Go.Proofs.Ytchlpeflfiecdaa
