/- FnExactEdgeValid returns true for every edge and number. Conditions: none. -/
import Derived.Test.YtchlpeflfiecdaaEdgeTo
import Derived.Test.YtchlpeflfiecdaaEdgeImplV
import Derived.Deep.RegionHeld3
namespace Go.Proofs.Ytchlpeflfiecdaa
open Go.RowKit

set_option maxRecDepth 100000 in
set_option maxHeartbeats 1000000 in
theorem walk_FnExactEdgeValid (t : Ed) (n : Int) (w : World) (x : Value) (hx : EdIn Any w t x) : Calls Try.prog 3 #[x, .int .i64 n] w (Ret (.bool true) w) := by
  have hbd := Edge.szE_bd t 1048576 (by omega) (by omega)
  have HX := hid hx
  obtain ⟨a, c, a', c', rfl, i1, i2, i3, i4, hg, hv⟩ := hx
  clear i1 i2 i3 i4 hg hv
  by_cases hs : Edge.szE t 1048576 < 0
  · go_enter Try.func3, Try.ntmps3
    go_wp2_with fail
    refine (Edge.sz_any t _ _ _ (EdIn_below (below_alloc _ _) HX.out) (by omega) (by omega)).mono ?_
    rintro e w1 ⟨rfl, hb⟩
    go_wp2_with fail
    go_ret
    exact Ret.mk rfl (below_next (below_alloc _ _) hb)
  · have hsm := hid (Edge.smallE_of_sz t 1048576 (by omega) (by omega) (by omega))
    go_enter Try.func3, Try.ntmps3
    go_wp2_with fail
    refine (Edge.sz_any t _ _ _ (EdIn_below (below_alloc _ _) HX.out) (by omega) (by omega)).mono ?_
    rintro e w1 ⟨rfl, hb⟩
    have b1 := box10_next hb (box10_new ..)
    have B := below_next (below_alloc ..) hb
    clear hb
    obtain ⟨z, ⟨p0, p1, p2, p3, p4, p5, p6, p7, p8, p9⟩, _⟩ := id b1
    go_wp2_with fail
    refine (Edge.to_any t _ _ (EdIn_below B HX.out) hsm.out).mono ?_
    rintro e w2 ⟨v1, rfl, hn1, hb⟩
    replace b1 := box10_next hb b1
    replace B := below_next B hb
    clear hb z p0 p1 p2 p3 p4 p5 p6 p7 p8 p9
    obtain ⟨z, ⟨p0, p1, p2, p3, p4, p5, p6, p7, p8, p9⟩, _⟩ := id b1
    go_wp2_with fail
    refine (Edge.specEdge_any t n _ _ hn1.any).mono ?_
    rintro e w3 ⟨rfl, hb⟩
    replace b1 := box10_next hb b1
    replace B := below_next B hb
    clear hb hn1 z p0 p1 p2 p3 p4 p5 p6 p7 p8 p9
    obtain ⟨z, ⟨p0, p1, p2, p3, p4, p5, p6, p7, p8, p9⟩, _⟩ := id b1
    go_wp2_with fail
    refine (Edge.to_any t _ _ (EdIn_below B HX.out) hsm.out).mono ?_
    rintro e w4 ⟨v2, rfl, hn2, hb⟩
    replace b1 := box10_next hb b1
    replace B := below_next B hb
    clear hb z p0 p1 p2 p3 p4 p5 p6 p7 p8 p9
    obtain ⟨a2, c2, a2', c2', rfl, i1, i2, i3, i4, hg, hv⟩ := id hn2
    clear i1 i2 i3 i4 hg hv
    obtain ⟨z, ⟨p0, p1, p2, p3, p4, p5, p6, p7, p8, p9⟩, _⟩ := id b1
    go_wp2_with fail
    refine (Edge.edge_any t n _ _ (EdIn_below (below_alloc _ _) hn2.any)).mono ?_
    rintro e w5 ⟨rfl, hb⟩
    have b2 := box10_next hb (box10_new ..)
    replace hb := below_next (below_alloc ..) hb
    have hn2' := EdIn_below hb hn2.any
    replace b1 := box10_next hb b1
    replace B := below_next B hb
    clear hb hn2 z p0 p1 p2 p3 p4 p5 p6 p7 p8 p9
    go_wp2_with fail
    have Bd := below_d B
    have hnd := EdIn_below (below_d (Below.refl w5.heap.size w5)) hn2'
    have h5 := box10_next (below_d (Below.refl w5.heap.size w5)) b1
    have h6 := box10_next (below_d (Below.refl w5.heap.size w5)) b2
    go_region_held3 (fun w' => (w'.cell? ⟨w4.heap.size, 0, none⟩ = some (.int .i64 t.src) ∧ w'.cell? ⟨w4.heap.size, 1, none⟩ = some (.int .i64 t.dst) ∧ w'.cell? ⟨w4.heap.size, 2, none⟩ = some (.int .i64 t.guard.kind) ∧ w'.cell? ⟨w4.heap.size, 3, none⟩ = some (.int .i64 t.guard.val) ∧ w'.cell? ⟨w4.heap.size, 4, none⟩ = some (.slice a2 t.guard.kids.length c2) ∧ w'.cell? ⟨w4.heap.size, 5, none⟩ = some (.int .i64 t.var) ∧ w'.cell? ⟨w4.heap.size, 6, none⟩ = some (.int .i64 t.val.kind) ∧ w'.cell? ⟨w4.heap.size, 7, none⟩ = some (.int .i64 t.val.val) ∧ w'.cell? ⟨w4.heap.size, 8, none⟩ = some (.slice a2' t.val.kids.length c2') ∧ w'.cell? ⟨w4.heap.size, 9, none⟩ = some (.int .i64 t.sync)) ∧ (w'.cell? ⟨w.heap.size, 0, none⟩ = some (.int .i64 t.src) ∧ w'.cell? ⟨w.heap.size, 1, none⟩ = some (.int .i64 t.dst) ∧ w'.cell? ⟨w.heap.size, 2, none⟩ = some (.int .i64 t.guard.kind) ∧ w'.cell? ⟨w.heap.size, 3, none⟩ = some (.int .i64 t.guard.val) ∧ w'.cell? ⟨w.heap.size, 4, none⟩ = some (.slice a t.guard.kids.length c) ∧ w'.cell? ⟨w.heap.size, 5, none⟩ = some (.int .i64 t.var) ∧ w'.cell? ⟨w.heap.size, 6, none⟩ = some (.int .i64 t.val.kind) ∧ w'.cell? ⟨w.heap.size, 7, none⟩ = some (.int .i64 t.val.val) ∧ w'.cell? ⟨w.heap.size, 8, none⟩ = some (.slice a' t.val.kids.length c') ∧ w'.cell? ⟨w.heap.size, 9, none⟩ = some (.int .i64 t.sync)))
      (first | exact ⟨h6.2.1, h5.2.1⟩ | exact ⟨k6.2.1, k5.2.1⟩ | exact ⟨l6.2.1, l5.2.1⟩)
      (first
        | (go_at_call 14; have HT := Edge.to_any t _ _ (EdIn_below Bd HX.out) hsm.out; refine HT.mono ?_; clear HT; rintro e w6 ⟨v3, rfl, hn3, hb⟩; have hn3' := hn3.any; obtain ⟨a3, c3, a3', c3', rfl, i1, i2, i3, i4, hg, hv⟩ := hn3; clear i1 i2 i3 i4 hg hv; have k5 := box10_next hb h5; have k6 := box10_next hb h6; have hm := EdIn_below hb hnd; have B6 := below_next Bd hb; clear hb)
        | (go_at_call 16; have HE := Edge.eq_any t t _ _ _ hm hn3'; refine HE.mono ?_; clear HE; rintro e w7 ⟨rfl, hb⟩; rw [Edge.eqE_refl]; have l5 := box10_next hb k5; have l6 := box10_next hb k6; have B7 := below_next B6 hb; clear hb))
    go_wp2_with fail
    go_ret
    exact Ret.mk rfl B7
end Go.Proofs.Ytchlpeflfiecdaa
