/- The reference's l1Subst: what it returns. Conditions: those of each contract. -/
import Derived.Test.YtffadknollkgiaaRows
import Derived.Test.YtffadknollkgiaaGrow
import Derived.Test.YtffadknollkgiaaBox
import Derived.Test.YtffadknollkgiaaEvalPlain
import Derived.WalkSpells
import Derived.WalkLawsBesides
import Derived.Deep.QuietTactic
import Derived.BigQuiet
namespace Go.Proofs.Ytffadknollkgiaa
open Go.RowKit
namespace Expr

theorem rowInfo : (Try.prog.info? 25).map (fun i => (i.zero, i.size, i.bytes)) = some (some (.agg #[.int .i64 0, .int .i64 0, .slice none 0 0]), 3, 40) := by kernel_rfl

/-- l1Subst of t: x, by stand for what is put for the variable x: the tree r -/
def SbT (x : Int) (y r : Tr) (t : Tr) : Prop := ∀ (w : World) (v u : Value), TrIn Any w t v → TrIn Any w y u → Small t → Calls Try.prog 85 #[v, .int .i64 x, u] w (RetP (OwnN w.heap.size 25 (subT x r t)) w)

set_option maxHeartbeats 1000000 in
set_option maxRecDepth 100000 in
theorem sb_of (x : Int) (y r : Tr) (k v : Int) (kids : List Tr) (hkx : ¬ (k = 2 ∧ v = x)) (h : ∀ t, t ∈ kids → SbT x y r t) : SbT x y r (.mk k v kids) := by
  intro w xv yv hx hy hs
  have hx0 := hx
  rw [TrIn_mk] at hx
  obtain ⟨a, n, c, rfl, hk, hv, rfl, hc, hc2, hks⟩ := hx
  obtain ⟨a', c', rfl⟩ := TrIn_shape hy
  unfold maxLen at hc2
  replace hs : kids.length ≤ 1048576 ∧ SmallL kids := hs
  have hres : subT x r (.mk k v kids) = .mk k v (kids.map (subT x r)) := by rw [subT, if_neg hkx, subL_map]
  have HR := hid hres
  clear hres
  obtain ⟨kd, kdv, hkd⟩ : ∃ kd kdv, kd = y.kind ∧ kdv = y.val := ⟨_, _, rfl, rfl⟩
  have hcase : (k = 2 ∧ (v == x) = false) ∨ (k == 2) = false := by
    by_cases h2 : k = 2
    · left; refine ⟨h2, ?_⟩; rw [beq_eq_false_iff_ne]; intro e; exact hkx ⟨h2, e⟩
    · right; rw [beq_eq_false_iff_ne]; exact h2
  clear hkx hkd kd kdv
  rcases hcase with ⟨rfl, hvx⟩ | hk2
  all_goals
    go_enter Try.func85, Try.ntmps85
    go_wp2_with fail
    go_loopw [8] (fun i wr => ∃ (j : Nat) (u : Value), j ≤ kids.length ∧ i = .int .i64 j ∧ Below w.heap.size w wr ∧ Box3 wr w.heap.size (.int .i64 _) (.int .i64 v) (.slice a kids.length c) ∧ Box3 wr (w.heap.size + 1) (.int .i64 y.kind) (.int .i64 y.val) (.slice a' y.kids.length c') ∧
      Box3 wr (w.heap.size + 1 + 1) (.int .i64 0) (.int .i64 0) (.slice none 0 0) ∧ Box3 wr (w.heap.size + 1 + 1 + 1) (.int .i64 _) (.int .i64 v) u ∧ OwnRow (w.heap.size + 1 + 1 + 1 + 1) 25 u ((kids.map (subT x r)).take j) wr) (fun i _ => kids.length - (intOf i).toNat)
    case atStart =>
      refine ⟨0, .slice none 0 0, Nat.zero_le _, rfl, (by repeat (first | exact Below.refl _ _ | assumption | refine below_a ?_ _ | refine below_o ?_ _ | refine below_d ?_ | refine below_n ?_ _ | refine below_s ?_ (by first | (simp; done) | (simp; omega) | omega) _)), ?_, ?_, ?_, ?_, OwnRow.nil _ _ _⟩
      · exact box3_next (below_alloc _ _) (box3_next (below_alloc _ _) (box3_next (below_alloc _ _) (box3_new ..)))
      · exact box3_next (below_alloc _ _) (box3_next (below_alloc _ _) (box3_at (by simp)))
      · exact box3_next (below_alloc _ _) (box3_at (by simp))
      · exact box3_at (by simp)
    case round =>
      obtain ⟨j, u, hj, rfl, hb, b0, bY, b1, b2, ho⟩ := hrel
      by_cases hlt : j < kids.length
      · obtain ⟨b, o, rfl, gb0, _⟩ := TrsIn_addr hks (by omega)
        obtain ⟨b', o', c0, c1, c2, t, hbo, gb, g0, g1, g2, hT⟩ := TrsIn_round hks hb hlt
        obtain ⟨rfl, rfl⟩ : b = b' ∧ o = o' := by simpa using hbo
        have hlt2 : (j : Int) < (kids.length : Int) := by omega
        have b2l : w.heap.size + 1 + 1 + 1 + 1 ≤ wr.heap.size := b2.1
        have b0' := b0
        have b2' := b2
        have bY' := bY
        obtain ⟨p0, p1, p2, p3, p4, p5, p6⟩ := b0'
        obtain ⟨q0, q1, q2, q3, q4, q5, q6⟩ := b2'
        obtain ⟨r0, r1, r2, r3, r4, r5, r6⟩ := bY'
        obtain ⟨B, hB⟩ : ∃ B, B = w.heap.size + 1 + 1 + 1 + 1 := ⟨_, rfl⟩
        have f0 : ∀ x, (wr.overX B B x).cell? ⟨w.heap.size + 1 + 1 + 1, 2, none⟩ = some u := fun x => by rw [overX_cell _ _ _ _ _ _ (by omega) (by omega)]; exact q3
        have f1 : ∀ x, (wr.overX B B x).cell? ⟨w.heap.size, 2, none⟩ = some (.slice (some ⟨b, o, none⟩) kids.length c) := fun x => by rw [overX_cell _ _ _ _ _ _ (by omega) (by omega)]; exact p3
        have f2 : ∀ x, (wr.overX B B x).cell? ⟨b, o + j * 3, none⟩ = some c0 := fun x => by rw [overX_cell _ _ _ _ _ _ (by omega) (by omega)]; exact g0
        have f3 : ∀ x, (wr.overX B B x).cell? ⟨b, o + j * 3 + 1, none⟩ = some c1 := fun x => by rw [overX_cell _ _ _ _ _ _ (by omega) (by omega)]; exact g1
        have f4 : ∀ x, (wr.overX B B x).cell? ⟨b, o + j * 3 + 2, none⟩ = some c2 := fun x => by rw [overX_cell _ _ _ _ _ _ (by omega) (by omega)]; exact g2
        have f5 : ∀ x, (wr.overX B B x).cell? ⟨w.heap.size + 1, 0, none⟩ = some (.int .i64 y.kind) := fun x => by rw [overX_cell _ _ _ _ _ _ (by omega) (by omega)]; exact r1
        have f6 : ∀ x, (wr.overX B B x).cell? ⟨w.heap.size + 1, 1, none⟩ = some (.int .i64 y.val) := fun x => by rw [overX_cell _ _ _ _ _ _ (by omega) (by omega)]; exact r2
        have f7 : ∀ x, (wr.overX B B x).cell? ⟨w.heap.size + 1, 2, none⟩ = some (.slice a' y.kids.length c') := fun x => by rw [overX_cell _ _ _ _ _ _ (by omega) (by omega)]; exact r3
        go_wp2_with fail
        refine wp_region_tail (C := fun wZ => ∃ xZ, wZ = World.overX _ (B) (B) xZ) [0,1,2,3,4,5,6,7,8] [9,10,11,12,13] (13) (by kernel_rfl) (by kernel_rfl) (fun d _ _ _ _ h => by cases d <;> exact h) (ButX.refl _ _ _).drew.ex ?_; simp only [pick, List.getElem?_cons_succ, List.getElem?_cons_zero]; (repeat (go_big_quiet_step (fail))); refine wpQuiet_nil ?_; simp only [tailW]
        go_wp2_with fail
        refine (h t hT.out.2.1 _ _ _ (TrIn_below (below_d (Below.refl _ _)) hT.out.1) (TrIn_below (below_d hb) hy) (smallL_mem hs.2 hT.out.2.1)).mono ?_
        rintro e w1 ⟨v1, rfl, hn0, hb1⟩
        have hn := hn0.new; clear hn0
        obtain ⟨a1, n1, rfl⟩ := TrIn_shape hn.any
        have hb2 : ButX B B wr w1 := ButX.next (ButX.refl B B wr).drew hb1 (by simp; omega)
        have s1 := hb1.size
        simp at s1
        go_wp2_with fail
        refine ⟨hb2.ex, ?_⟩
        go_wp2_with fail
        refine ⟨(hb2.next (below_alloc _ _) (by omega)).ex, ?_⟩
        have hk1 : Keep (w.heap.size + 1 + 1 + 1 + 1) wr w1 := (Keep.drew wr).trans (Keep.below hb1)
        refine wp_append_node rfl (.tmp 34) (.tmp 43) 23 rfl 25 Try.underlying23 rowInfo (by rfl) (by rfl) (by intro x hx; simp at hx; rcases hx with rfl | rfl | rfl <;> rfl) ho b2l hk1 (Nat.le_refl _) hn (by simp only [List.length_take, List.length_map]; omega) ?_
        intro a2 n2 m2 w3 ho3' hb4 _ _
        have hb3 : ButX B B wr w3 := hb2.trans (ButX.ofB (hB ▸ hb4))
        have hk3 : (kids.map (subT x r)).take j ++ [subT x r t] = (kids.map (subT x r)).take (j + 1) := by rw [List.take_add_one, List.getElem?_map, hT.out.2.2.2]; rfl
        rw [hk3] at ho3'
        have B3 : Below w.heap.size w w3 := hb.trans ⟨hb3.os, hb3.tape, hb3.output, hb3.size, fun k hk => hb3.block k (by omega) (by omega)⟩
        have t1 := box3_butx hb3 (by omega) (by omega) b1
        have t0 := box3_butx hb3 (by omega) (by omega) b0
        have tY := box3_butx hb3 (by omega) (by omega) bY
        have t2 := box3_butx hb3 (by omega) (by omega) b2
        have HO := hid ho3'
        have hw3 : B ≤ w3.heap.size := by have := hb3.size; omega
        clear ho ho3' hn hb1 hb2 hb4 hk1 f0 f1 f2 f3 f4 f5 f6 f7 p0 p1 p2 p3 p4 p5 p6 q0 q1 q2 q3 q4 q5 q6 r0 r1 r2 r3 r4 r5 r6 b0 b1 b2 bY hk3
        have t2' := t2
        obtain ⟨q0, q1, q2, q3, q4, q5, q6⟩ := t2
        refine ⟨hb3.ex, ?_⟩
        go_wp2_with fail
        refine ⟨hb3.ex, ?_⟩
        go_wp2_with fail
        go_roundw
        case rel => exact ⟨j + 1, .slice a2 n2 m2, by omega, by go_num, B3.setCell (by simp; omega) _, box3_but (But.set w3 (w.heap.size + 1 + 1 + 1) 2 _) (by omega) t0, box3_but (But.set w3 (w.heap.size + 1 + 1 + 1) 2 _) (by omega) tY, box3_but (But.set w3 (w.heap.size + 1 + 1 + 1) 2 _) (by omega) t1, box3_set2 t2' _, HO.out.keep (Keep.set _ (by simp) _)⟩
        case measure => simp [intOf]; omega
      · have hlt2 : ¬ ((j : Int) < (kids.length : Int)) := by omega
        obtain rfl : j = kids.length := by omega
        have hfull : (kids.map (subT x r)).take kids.length = kids.map (subT x r) := List.take_of_length_le (by simp)
        rw [hfull] at ho
        obtain ⟨a2, n2, m2, rfl⟩ : ∃ a2 n2 m2, u = .slice a2 n2 m2 := by obtain ⟨a2, m2, h2, _⟩ := ho.shape; exact ⟨_, _, _, h2⟩
        have HO := hid ho
        clear ho hfull
        go_wp2_with fail
        refine bodyPost_ret (v := .agg #[.int .i64 _, .int .i64 v, .slice a2 n2 m2]) (by simp [results, Try.results85, go_sem, b1]; rfl) rfl ?_
        rw [HR.out]
        exact RetP.mk ⟨_, rfl, hk, hv, (HO.out.keep (((Keep.set _ (by simp) _).trans (Keep.set _ (by simp) _)).trans (Keep.set _ (by simp) _))).mono (by omega)⟩ (by repeat (first | exact Below.refl _ _ | assumption | refine below_a ?_ _ | refine below_o ?_ _ | refine below_d ?_ | refine below_n ?_ _ | refine below_s ?_ (by first | (simp; done) | (simp; omega) | omega) _))

mutual
theorem sub_none (x : Int) (r : Tr) : ∀ t, occT x t = false → subT x r t = t
  | .mk k v kids, h => by
    simp only [occT, Bool.or_eq_false_iff, Bool.and_eq_false_iff, beq_eq_false_iff_ne] at h
    rw [subT, if_neg (by rintro ⟨h1, h2⟩; rcases h.1 with h3 | h3 <;> contradiction), subL_none x r kids h.2]
theorem subL_none (x : Int) (r : Tr) : ∀ l, occL x l = false → subL x r l = l
  | [], _ => by simp [subL]
  | t :: ts, h => by
    simp only [occL, Bool.or_eq_false_iff] at h
    simp only [subL]
    rw [sub_none x r t h.1, subL_none x r ts h.2]
end
theorem occL_mem {x : Int} {t : Tr} : ∀ {l : List Tr}, occL x l = false → t ∈ l → occT x t = false
  | u :: us, h, hm => by
    simp only [occL, Bool.or_eq_false_iff] at h
    cases hm with
    | head => exact h.1
    | tail _ hm => exact occL_mem h.2 hm
theorem cps_any (y r : Tr) : ∀ t, occT (-1) t = false → SbT (-1) y r t := by
  refine Tr.ind fun k v kids ih h => ?_
  simp only [occT, Bool.or_eq_false_iff, Bool.and_eq_false_iff, beq_eq_false_iff_ne] at h
  exact sb_of (-1) y r k v kids (by rintro ⟨h1, h2⟩; rcases h.1 with h3 | h3 <;> contradiction) fun t ht => ih t ht (occL_mem h.2 ht)

set_option maxHeartbeats 1000000 in
theorem sb_var (x : Int) (y : Tr) (hy : occT (-1) y = false) (hys : Small y) (v : Int) (kids : List Tr) (hvx : v = x) : SbT x y y (.mk 2 v kids) := by
  intro w xv yv hx hyy hs
  obtain ⟨a, c, rfl⟩ := TrIn_shapeMk hx
  obtain ⟨a', c', rfl⟩ := TrIn_shape hyy
  have HR := hid (show subT x y (.mk 2 v kids) = y by rw [subT, if_pos ⟨rfl, hvx⟩])
  have e1 : (v == x) = true := by simpa using hvx
  have HC := hid (fun w v' u hv hu => cps_any (.mk 0 0 []) y y hy w v' u hv hu hys)
  clear hvx
  go_enter Try.func85, Try.ntmps85
  have hne := hid (sub_none (-1) y y hy)
  go_wp2_with fail
  refine (HC.out _ _ _ (TrIn_below (by repeat (first | exact Below.refl _ _ | assumption | refine below_a ?_ _ | refine below_o ?_ _ | refine below_d ?_ | refine below_n ?_ _ | refine below_s ?_ (by first | (simp; done) | (simp; omega) | omega) _)) hyy) (leaf_new 0 _ (by unfold i64; omega) (by unfold i64; omega)).any).mono ?_
  rintro e w1 ⟨v1, rfl, hn, hb⟩
  rw [hne.out] at hn
  obtain ⟨u, rfl, i1, i2, ho⟩ := hn
  obtain ⟨a2, c2, rfl, _⟩ := ho.shape
  have HO := hid ho
  have bP := box3_next hb (box3_at (B := w.heap.size + 1 + 1) (by simp))
  have bP' := bP
  obtain ⟨z0, z1, z2, z3, z4, z5, z6⟩ := bP
  have B1 := hid (below_next (show Below w.heap.size w _ from (by repeat (first | exact Below.refl _ _ | assumption | refine below_a ?_ _ | refine below_o ?_ _ | refine below_d ?_ | refine below_n ?_ _ | refine below_s ?_ (by first | (simp; done) | (simp; omega) | omega) _))) hb)
  clear ho hb
  go_wp2_with fail
  obtain ⟨y0, y1, y2, y3, _⟩ := box3_set2 (box3_set1 (box3_set0 bP' (.int .i64 y.kind)) (.int .i64 y.val)) (.slice a2 y.kids.length c2); refine bodyPost_ret (v := .agg #[.int .i64 y.kind, .int .i64 y.val, .slice a2 y.kids.length c2]) (by simp [results, Try.results85, go_sem, y1, y2, y3]) rfl ?_
  rw [HR.out]
  exact RetP.mk ⟨_, rfl, i1, i2, (HO.out.keep (((Keep.set _ (by simp) _).trans (Keep.set _ (by simp) _)).trans (Keep.set _ (by simp) _))).mono (by simp; omega)⟩ (below_set3 B1.out (by omega) _ _ _)

/-- .. for every tree -/
theorem sb_any (x : Int) (y : Tr) (hy : occT (-1) y = false) (hys : Small y) : ∀ t, SbT x y y t := Tr.ind fun k v kids ih => by
  by_cases h : k = 2 ∧ v = x
  · obtain ⟨rfl, hv⟩ := h
    exact sb_var x y hy hys v kids hv
  · exact sb_of x y y k v kids h ih

mutual
theorem noneg : ∀ (t : Tr) (d : Int), exprL.shape t d = true → occT (-1) t = false
  | .mk k v kids, d, h => by
    simp only [Lang.shape, Bool.and_eq_true, decide_eq_true_eq, Lang.okB_iff] at h
    simp only [occT, Bool.or_eq_false_iff, Bool.and_eq_false_iff, beq_eq_false_iff_ne]
    exact ⟨.inr (by omega), nonegL kids (d - 1) h.2.2⟩
theorem nonegL : ∀ (l : List Tr) (d : Int), exprL.shapeL l d = true → occL (-1) l = false
  | [], _, _ => by simp [occL]
  | t :: ts, d, h => by
    simp only [Lang.shapeL, Bool.and_eq_true] at h
    simp only [occL, Bool.or_eq_false_iff]
    exact ⟨noneg t d h.1, nonegL ts d h.2⟩
end
theorem noneg_valid {t : Tr} (h : exprL.valid t = true) : occT (-1) t = false := noneg t 6 (by rw [Lang.valid, Bool.and_eq_true] at h; exact h.1)

end Expr
end Go.Proofs.Ytffadknollkgiaa
