/- FnExactParseBranching returns true for every text. Conditions: none. -/
import Derived.Test.YtobmgfgefccnoaaBranchingA
import Derived.Test.YtobmgfgefccnoaaBranchingMark
import Derived.Test.YtobmgfgefccnoaaBox
import Derived.Test.YtobmgfgefccnoaaSzPlain
import Derived.Test.YtobmgfgefccnoaaParseBX
import Derived.Deep.RegionHeld3
namespace Go.Proofs.Ytobmgfgefccnoaa
open Go.RowKit
open Go.Proofs.Ytobmgfgefccnoaa.Branching

theorem str_bs (S : ByteArray) : S = bs S.data.toList := by cases S; rfl

set_option maxRecDepth 100000 in
set_option maxHeartbeats 4000000 in
theorem core_FnExactParseBranching (S : ByteArray) (hS0 : S.size ≤ 1048576) (r : Tr) (rb : Bool) (hr : nodes r ≤ 1000) (hS : ∀ w, Calls Try.prog 36 #[.string S] w (RetT w.heap.size r rb w)) (hI : ∀ w, Calls Try.prog 37 #[.string S] w (RetT w.heap.size r rb w))
    (w : World) : Calls Try.prog 10 #[.string S] w (Ret (.bool true) w) := by
  rw [nodesL_kids] at hr
  have hpr := nodesL_pos r.kids
  have hbb : (rb != rb) = false := by simp
  have HS := hid hS
  have HI := hid hI
  have hs0 : ¬ ((S.size : Int) > 1048576) := by omega
  clear hS hI
  go_enter Try.func10, Try.ntmps10
  go_wp2_with fail
  refine (HS.out _).mono ?_
  rintro e w3 ⟨vW, rfl, hW, hb⟩
  obtain ⟨aW, cW, rfl⟩ := TrIn_shape hW.any
  have B := hb
  have hW3 := hb.size
  clear hb
  go_wp2_with fail
  have bW0 := box3_new w3 (.int .i64 r.kind) (.int .i64 r.val) (.slice aW r.kids.length cW) 50
  refine (HI.out _).mono ?_
  rintro e w5 ⟨vG, rfl, hG, hb⟩
  obtain ⟨aG, cG, rfl⟩ := TrIn_shape hG.any
  obtain ⟨bsW, oW, _⟩ := hW
  have lW := TrOwn_lt.1 _ _ _ oW
  obtain ⟨bsG, oG, gG⟩ := hG
  simp only [World.size_alloc] at gG
  have lG := TrOwn_lt.1 _ _ _ oG
  have s35 := hb.size
  simp only [World.size_alloc] at s35
  have bW := box3_next hb bW0
  replace hb := below_next (below_alloc ..) hb
  replace oW := TrOwn_below hb oW
  replace B := below_next B hb
  clear hb bW0
  go_wp2_with fail
  refine (Branching.eq_any r _ r _ _ (TrIn_below (by repeat (first | exact Below.refl _ _ | assumption | refine below_a ?_ _ | refine below_o ?_ _ | refine below_d ?_ | refine below_n ?_ _ | refine below_s ?_ (by first | (simp; done) | (simp; omega) | omega) _)) oG.any) (TrIn_below (by repeat (first | exact Below.refl _ _ | assumption | refine below_a ?_ _ | refine below_o ?_ _ | refine below_d ?_ | refine below_n ?_ _ | refine below_s ?_ (by first | (simp; done) | (simp; omega) | omega) _)) oW.any)).mono ?_
  rintro e w6 ⟨rfl, hb⟩
  rw [eqT_refl]
  have bG := box3_next hb (box3_new w5 (.int .i64 r.kind) (.int .i64 r.val) (.slice aG r.kids.length cG) 50)
  replace hb := below_next (below_alloc ..) hb
  replace oG := TrOwn_below hb oG
  replace oW := TrOwn_below hb oW
  replace bW := box3_next hb bW
  replace B7 := below_next B hb
  clear hb B
  go_wp2_with fail
  refine (Branching.mark_any r _ _ 1 bsG oG (by omega) (by omega)).mono ?_
  rintro e w11 ⟨rfl, oM, hO⟩
  have nW : ∀ b, b ∈ bsW → b ∉ bsG := fun b h1 h2 => by have := gG b h2; have := lW b h1; omega
  have mW : w3.heap.size ∉ bsG := fun h => by have := gG _ h; omega
  have mG : w5.heap.size ∉ bsG := fun h => by have := lG _ h; omega
  replace oW := TrOwn_only hO oW nW
  replace bW := box3_only hO mW bW
  replace bG := box3_only hO mG bG
  replace B7 := hO.new B7 (fun b h => by have := gG b h; omega)
  clear hO oG nW mW mG
  go_wp2_with fail
  refine (Branching.held_any r _ _ 1 oM.any (by omega) (by omega)).mono ?_
  rintro e w12 ⟨rfl, hb⟩
  replace oM := TrOwn_below hb oM
  replace oW := TrOwn_below hb oW
  replace bW := box3_next hb bW
  replace bG := box3_next hb bG
  replace B7 := below_next B7 hb
  clear hb
  have nn : (1 + 2 * nodesL r.kids != 1 + 2 * nodesL r.kids) = false := by simp
  go_wp2_with fail
  refine (HI.out _).mono ?_
  rintro e w14 ⟨vH, rfl, hH, hb⟩
  obtain ⟨aH, cH, rfl⟩ := TrIn_shape hH.any
  replace oM := TrOwn_below hb oM
  replace oW := TrOwn_below hb oW
  replace bW := box3_next hb bW
  replace bG := box3_next hb bG
  replace B7 := below_next B7 hb
  clear hb
  go_wp2_with fail
  refine (Branching.eq_any r _ r _ _ (TrIn_below (by repeat (first | exact Below.refl _ _ | assumption | refine below_a ?_ _ | refine below_o ?_ _ | refine below_d ?_ | refine below_n ?_ _ | refine below_s ?_ (by first | (simp; done) | (simp; omega) | omega) _)) hH.any) (TrIn_below (by repeat (first | exact Below.refl _ _ | assumption | refine below_a ?_ _ | refine below_o ?_ _ | refine below_d ?_ | refine below_n ?_ _ | refine below_s ?_ (by first | (simp; done) | (simp; omega) | omega) _)) oW.any)).mono ?_
  rintro e w15 ⟨rfl, hb⟩
  rw [eqT_refl]
  replace hb := below_next (below_alloc ..) hb
  replace oM := TrOwn_below hb oM
  replace bG := box3_next hb bG
  replace B7 := below_next B7 hb
  clear hb hH oW bW
  go_wp2_with fail
  refine (Branching.held_any r _ _ 1 oM.any (by omega) (by omega)).mono ?_
  rintro e w16 ⟨rfl, hb⟩
  replace B7 := below_next B7 hb
  clear hb
  go_wp2_with fail
  go_ret
  exact Ret.mk rfl B7

theorem walk_FnExactParseBranching (S : ByteArray) (w : World) : Calls Try.prog 10 #[.string S] w (Ret (.bool true) w) := by
  by_cases hs : S.size ≤ 1048576
  · have e := str_bs S
    have hl : S.data.toList.length ≤ 1048576 := by rw [e, bs_size] at hs; exact hs
    refine core_FnExactParseBranching S hs (parV S.data.toList) (parOk S.data.toList) (parV_nodes _) (fun w => ?_) (fun w => ?_) w
    · have := specParse_any S.data.toList w hl
      rw [← e] at this
      exact this
    · have := parse_any S.data.toList w hl
      rw [← e] at this
      exact this
  · have hs0 : (S.size : Int) > 1048576 := by omega
    go_enter Try.func10, Try.ntmps10
    go_wp2_with fail
    go_ret
    exact Ret.mk rfl (Below.refl _ _)
end Go.Proofs.Ytobmgfgefccnoaa
