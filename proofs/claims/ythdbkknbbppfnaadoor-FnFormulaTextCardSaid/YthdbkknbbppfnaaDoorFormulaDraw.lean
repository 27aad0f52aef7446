/- The reference's own makers of trees: l5True, l5Copy: what each returns. Conditions: those of each contract. -/
import Derived.Test.YthdbkknbbppfnaaDoorRows
import Derived.Test.YthdbkknbbppfnaaDoorGrow
import Derived.WalkSpells
import Derived.WalkLawsBesides
import Derived.Deep.QuietTactic
import Derived.BigQuiet
import Derived.Test.YthdbkknbbppfnaaDoorDraw
import Derived.Test.YthdbkknbbppfnaaDoorTrPlain
namespace Go.Proofs.YthdbkknbbppfnaaDoor
open Go.RowKit
namespace Formula

theorem rowInfo : (Tryd.prog.info? 25).map (fun i => (i.zero, i.size, i.bytes)) = some (some (.agg #[.int .i64 0, .int .i64 0, .slice none 0 0]), 3, 40) := by kernel_rfl

set_option maxHeartbeats 400000 in
theorem true_any (w : World) : Calls Tryd.prog 38 #[] w (RetP (NewTr w.heap.size (.mk 1 0 [])) w) := by
  go_enter Tryd.func38, Tryd.ntmps38
  go_wp2_with fail
  refine bodyPost_ret (v := .agg #[.int .i64 1, .int .i64 0, .slice none 0 0]) (by simp [results, Tryd.results38, go_sem]) rfl ?_
  exact RetP.mk (leaf_new _ _ (by unfold i64; omega) (by unfold i64; omega)) (by repeat (first | exact Below.refl _ _ | assumption | refine below_a ?_ _ | refine below_o ?_ _ | refine below_d ?_ | refine below_n ?_ _ | refine below_s ?_ (by first | (simp; done) | (simp; omega) | omega) _))

def CopyT (t : Tr) : Prop := ∀ (w : World) (x : Value), TrIn Any w t x → Small t → Calls Tryd.prog 37 #[x] w (RetP (OwnN w.heap.size 25 t) w)

set_option maxHeartbeats 1000000 in
set_option maxRecDepth 100000 in
theorem copy_of (k v : Int) (kids : List Tr) (h : ∀ t, t ∈ kids → CopyT t) : CopyT (.mk k v kids) := by
  intro w x hx hs
  have hx0 := hx
  rw [TrIn_mk] at hx
  obtain ⟨a, n, c, rfl, hk, hv, rfl, hc, hc2, hks⟩ := hx
  unfold maxLen at hc2
  replace hs : kids.length ≤ 1048576 ∧ SmallL kids := hs
  go_enter Tryd.func37, Tryd.ntmps37
  go_wp2_with fail
  go_loopw [4] (fun i wr => ∃ (j : Nat) (u : Value), j ≤ kids.length ∧ i = .int .i64 j ∧ Below w.heap.size w wr ∧ Box3 wr w.heap.size (.int .i64 k) (.int .i64 v) (.slice a kids.length c) ∧
    Box3 wr (w.heap.size + 1) (.int .i64 0) (.int .i64 0) (.slice none 0 0) ∧ Box3 wr (w.heap.size + 1 + 1) (.int .i64 k) (.int .i64 v) u ∧ OwnRow (w.heap.size + 1 + 1 + 1) 25 u (kids.take j) wr) (fun i _ => kids.length - (intOf i).toNat)
  case atStart =>
    refine ⟨0, .slice none 0 0, Nat.zero_le _, rfl, (by repeat (first | exact Below.refl _ _ | assumption | refine below_a ?_ _ | refine below_o ?_ _ | refine below_d ?_ | refine below_n ?_ _ | refine below_s ?_ (by first | (simp; done) | (simp; omega) | omega) _)), ?_, ?_, ?_, OwnRow.nil _ _ _⟩
    · exact box3_next (below_alloc _ _) (box3_next (below_alloc _ _) (box3_new ..))
    · exact box3_next (below_alloc _ _) (box3_at (by simp))
    · exact box3_at (by simp)
  case round =>
    obtain ⟨j, u, hj, rfl, hb, b0, b1, b2, ho⟩ := hrel
    by_cases hlt : j < kids.length
    · obtain ⟨b, o, rfl, gb0, _⟩ := TrsIn_addr hks (by omega)
      obtain ⟨b', o', c0, c1, c2, t, hbo, gb, g0, g1, g2, hT⟩ := TrsIn_round hks hb hlt
      obtain ⟨rfl, rfl⟩ : b = b' ∧ o = o' := by simpa using hbo
      have hlt2 : (j : Int) < (kids.length : Int) := by omega
      have b2l : w.heap.size + 1 + 1 + 1 ≤ wr.heap.size := b2.1
      have b0' := b0
      have b2' := b2
      obtain ⟨p0, p1, p2, p3, p4, p5, p6⟩ := b0'
      obtain ⟨q0, q1, q2, q3, q4, q5, q6⟩ := b2'
      obtain ⟨B, hB⟩ : ∃ B, B = w.heap.size + 1 + 1 + 1 := ⟨_, rfl⟩
      have f0 : ∀ x, (wr.overX B B x).cell? ⟨w.heap.size + 1 + 1, 2, none⟩ = some u := fun x => by rw [overX_cell _ _ _ _ _ _ (by omega) (by omega)]; exact q3
      have f1 : ∀ x, (wr.overX B B x).cell? ⟨w.heap.size, 2, none⟩ = some (.slice (some ⟨b, o, none⟩) kids.length c) := fun x => by rw [overX_cell _ _ _ _ _ _ (by omega) (by omega)]; exact p3
      have f2 : ∀ x, (wr.overX B B x).cell? ⟨b, o + j * 3, none⟩ = some c0 := fun x => by rw [overX_cell _ _ _ _ _ _ (by omega) (by omega)]; exact g0
      have f3 : ∀ x, (wr.overX B B x).cell? ⟨b, o + j * 3 + 1, none⟩ = some c1 := fun x => by rw [overX_cell _ _ _ _ _ _ (by omega) (by omega)]; exact g1
      have f4 : ∀ x, (wr.overX B B x).cell? ⟨b, o + j * 3 + 2, none⟩ = some c2 := fun x => by rw [overX_cell _ _ _ _ _ _ (by omega) (by omega)]; exact g2
      go_wp2_with fail
      refine wp_region_tail (C := fun wZ => ∃ xZ, wZ = World.overX _ (B) (B) xZ) [0,1,2,3,4,5,6] [7,8,9,10,11] (11) (by kernel_rfl) (by kernel_rfl) (fun d _ _ _ _ h => by cases d <;> exact h) (ButX.refl _ _ _).drew.ex ?_; simp only [pick, List.getElem?_cons_succ, List.getElem?_cons_zero]; (repeat (go_big_quiet_step (fail))); refine wpQuiet_nil ?_; simp only [tailW]
      go_wp2_with fail
      refine (h t hT.out.2.1 _ _ (TrIn_below (below_d (Below.refl _ _)) hT.out.1) (smallL_mem hs.2 hT.out.2.1)).mono ?_
      rintro e w1 ⟨v1, rfl, hn0, hb1⟩
      have hn := hn0.new; clear hn0
      obtain ⟨a1, n1, rfl⟩ := TrIn_shape hn.any
      have hb2 : ButX B B wr w1 := ButX.next (ButX.refl B B wr).drew hb1 (by simp; omega)
      have s1 := hb1.size
      simp at s1
      go_wp2_with fail
      refine ⟨hb2.ex, ?_⟩
      go_wp2_with fail
      refine ⟨(hb2.next (below_alloc _ _) (by omega)).ex, ?_⟩
      have hk1 : Keep (w.heap.size + 1 + 1 + 1) wr w1 := (Keep.drew wr).trans (Keep.below hb1)
      refine wp_append_node rfl (.tmp 18) (.tmp 25) 23 rfl 25 Tryd.underlying23 rowInfo (by rfl) (by rfl) (by intro x hx; simp at hx; rcases hx with rfl | rfl | rfl <;> rfl) ho b2l hk1 (Nat.le_refl _) hn (by simp only [List.length_take]; omega) ?_
      intro a2 n2 m2 w3 ho3' hb4 _ _
      have hb3 : ButX B B wr w3 := hb2.trans (ButX.ofB (hB ▸ hb4))
      have hk3 : kids.take j ++ [t] = kids.take (j + 1) := by rw [List.take_add_one, hT.out.2.2.2]; rfl
      rw [hk3] at ho3'
      have B3 : Below w.heap.size w w3 := hb.trans ⟨hb3.os, hb3.tape, hb3.output, hb3.size, fun k hk => hb3.block k (by omega) (by omega)⟩
      have r1 := box3_butx hb3 (by omega) (by omega) b1
      have r0 := box3_butx hb3 (by omega) (by omega) b0
      have r2 := box3_butx hb3 (by omega) (by omega) b2
      have HO := hid ho3'
      have hw3 : B ≤ w3.heap.size := by have := hb3.size; omega
      clear ho ho3' hn hb1 hb2 hb4 hk1 f0 f1 f2 f3 f4 p0 p1 p2 p3 p4 p5 p6 q0 q1 q2 q3 q4 q5 q6 b0 b1 b2
      obtain ⟨q0, q1, q2, q3, q4, q5, q6⟩ := r2
      have r2 : Box3 w3 (w.heap.size + 1 + 1) (.int .i64 k) (.int .i64 v) u := ⟨q0, q1, q2, q3, q4, q5, q6⟩
      refine ⟨hb3.ex, ?_⟩
      go_wp2_with fail
      refine ⟨hb3.ex, ?_⟩
      go_wp2_with fail
      go_roundw
      case rel => exact ⟨j + 1, .slice a2 n2 m2, by omega, by go_num, B3.setCell (by simp; omega) _, box3_but (But.set w3 (w.heap.size + 1 + 1) 2 _) (by omega) r0, box3_but (But.set w3 (w.heap.size + 1 + 1) 2 _) (by omega) r1, box3_set2 r2 _, HO.out.keep (Keep.set _ (by simp) _)⟩
      case measure => simp [intOf]; omega
    · have hlt2 : ¬ ((j : Int) < (kids.length : Int)) := by omega
      obtain rfl : j = kids.length := by omega
      rw [List.take_length] at ho
      obtain ⟨a2, n2, m2, rfl⟩ : ∃ a2 n2 m2, u = .slice a2 n2 m2 := by obtain ⟨a2, m2, h2, _⟩ := ho.shape; exact ⟨_, _, _, h2⟩
      have HO := hid ho
      clear ho
      go_wp2_with fail
      refine bodyPost_ret (v := .agg #[.int .i64 k, .int .i64 v, .slice a2 n2 m2]) (by simp [results, Tryd.results37, go_sem, b1]) rfl ?_
      exact RetP.mk ⟨_, rfl, hk, hv, (HO.out.keep (((Keep.set _ (by simp) _).trans (Keep.set _ (by simp) _)).trans (Keep.set _ (by simp) _))).mono (by omega)⟩ (by repeat (first | exact Below.refl _ _ | assumption | refine below_a ?_ _ | refine below_o ?_ _ | refine below_d ?_ | refine below_n ?_ _ | refine below_s ?_ (by first | (simp; done) | (simp; omega) | omega) _))

theorem copy_any : ∀ t, CopyT t := Tr.ind copy_of

end Formula
end Go.Proofs.YthdbkknbbppfnaaDoor
