/- Joined texts (Box, SubstS, DrawsPlain, ExprRandom, SubstX, ExprDraws): contracts and plain laws. Conditions: those of each theorem. -/
import Derived.Test.YtdmieedfddgmjaaJE1
import Derived.Test.YtdmieedfddgmjaaJE5
import Derived.Test.YtdmieedfddgmjaaRows
import Derived.Test.YtdmieedfddgmjaaJE4
import Derived.Test.YtdmieedfddgmjaaJE7
import Derived.Test.YtdmieedfddgmjaaJE0
import Derived.Test.YtdmieedfddgmjaaJE3
import Derived.WalkSpells
import Derived.WalkLawsBesides
import Derived.Deep.QuietTactic
import Derived.BigQuiet
set_option linter.unusedVariables false
set_option linter.unusedSimpArgs false
namespace Go.Proofs.Ytdmieedfddgmjaa
open Go.RowKit

theorem newTr_set3 {B P : Nat} {t : Tr} {v : Value} {w : World} (h : NewTr B t v w) (hP : P < B) (u0 u1 u2 : Value) : NewTr B t v (((w.setCell ⟨P, 0, none⟩ u0).setCell ⟨P, 1, none⟩ u1).setCell ⟨P, 2, none⟩ u2) := by
  obtain ⟨bs, h1, h2⟩ := h
  have hn : P ∉ bs := fun e => by have := h2 _ e; omega
  exact ⟨bs, TrOwn_set (TrOwn_set (TrOwn_set h1 hn _) hn _) hn _, h2⟩
theorem below_set3 {B P : Nat} {w W : World} (h : Below B w W) (hP : B ≤ P) (u0 u1 u2 : Value) : Below B w (((W.setCell ⟨P, 0, none⟩ u0).setCell ⟨P, 1, none⟩ u1).setCell ⟨P, 2, none⟩ u2) := ((h.setCell hP _).setCell hP _).setCell hP _
theorem row_three (w : World) (x y z : Value) (t : TypeId) : Row (w.alloc (.cells #[x, y, z] t)) w.heap.size 3 (fun i => #[x, y, z].getD i undef) :=
  ⟨by simp, fun i hi => by
    rw [World.cell?_alloc_new]
    match i, hi with
    | 0, _ => rfl
    | 1, _ => rfl
    | 2, _ => rfl, fun i => by simp⟩
theorem row_six (w : World) (x y z x' y' z' : Value) (t : TypeId) : Row (w.alloc (.cells #[x, y, z, x', y', z'] t)) w.heap.size 6 (fun i => #[x, y, z, x', y', z'].getD i undef) :=
  ⟨by simp, fun i hi => by
    rw [World.cell?_alloc_new]
    match i, hi with
    | 0, _ => rfl
    | 1, _ => rfl
    | 2, _ => rfl
    | 3, _ => rfl
    | 4, _ => rfl
    | 5, _ => rfl, fun i => by simp⟩
theorem TrIn_shapeMk {p : Nat → Prop} {w : World} {k v : Int} {kids : List Tr} {x : Value} (h : TrIn p w (.mk k v kids) x) : ∃ a c, x = .agg #[.int .i64 k, .int .i64 v, .slice a kids.length c] := TrIn_shape h
theorem box3_only {S : List Nat} {w w' : World} (h : Only S w w') {B : Nat} {a b c : Value} (hd : B ∉ S) (hb : Box3 w B a b c) : Box3 w' B a b c := by
  have e := h.block B hb.1 hd
  refine ⟨Nat.lt_of_lt_of_le hb.1 h.size, ?_, ?_, ?_, ?_, ?_, ?_⟩
  · rw [World.cell?_of_block (w := w) (a := ⟨B, 0, none⟩) e]; exact hb.2.1
  · rw [World.cell?_of_block (w := w) (a := ⟨B, 1, none⟩) e]; exact hb.2.2.1
  · rw [World.cell?_of_block (w := w) (a := ⟨B, 2, none⟩) e]; exact hb.2.2.2.1
  · rw [World.frozen?_of_block (w := w) (a := ⟨B, 0, none⟩) e]; exact hb.2.2.2.2.1
  · rw [World.frozen?_of_block (w := w) (a := ⟨B, 1, none⟩) e]; exact hb.2.2.2.2.2.1
  · rw [World.frozen?_of_block (w := w) (a := ⟨B, 2, none⟩) e]; exact hb.2.2.2.2.2.2
theorem newTr_over {B : Nat} {t : Tr} {v : Value} {w w' : World} (h : NewTr B t v w) (hb : Below w.heap.size w w') : NewTr B t v w' := h.below hb

end Go.Proofs.Ytdmieedfddgmjaa
namespace Go.Proofs.Ytdmieedfddgmjaa
open Go.RowKit
namespace Expr

theorem rowInfo : (Try.prog.info? 43).map (fun i => (i.zero, i.size, i.bytes)) = some (some (.agg #[.int .i64 0, .int .i64 0, .slice none 0 0]), 3, 40) := by kernel_rfl

/-- l1Subst of t: x, by stand for what is put for the variable x: the tree r -/
def SbT (x : Int) (y r : Tr) (t : Tr) : Prop := ∀ (w : World) (v u : Value), TrIn Any w t v → TrIn Any w y u → Small t → Calls Try.prog 56 #[v, .int .i64 x, u] w (RetP (OwnN w.heap.size 43 (subT x r t)) w)

set_option maxHeartbeats 1000000 in
set_option maxRecDepth 100000 in
theorem sb_of (x : Int) (y r : Tr) (k v : Int) (kids : List Tr) (hkx : ¬ (k = 2 ∧ v = x)) (h : ∀ t, t ∈ kids → SbT x y r t) : SbT x y r (.mk k v kids) := by
  intro w xv yv hx hy hs
  have hx0 := hx
  rw [TrIn_mk] at hx
  obtain ⟨a, n, c, rfl, hk, hv, rfl, hc, hc2, hks⟩ := hx
  obtain ⟨a', c', rfl⟩ := TrIn_shape hy
  unfold maxLen at hc2
  replace hs : kids.length ≤ 1048576 ∧ SmallL kids := hs
  have hres : subT x r (.mk k v kids) = .mk k v (kids.map (subT x r)) := by rw [subT, if_neg hkx, subL_map]
  have HR := hid hres
  clear hres
  obtain ⟨kd, kdv, hkd⟩ : ∃ kd kdv, kd = y.kind ∧ kdv = y.val := ⟨_, _, rfl, rfl⟩
  have hcase : (k = 2 ∧ (v == x) = false) ∨ (k == 2) = false := by
    by_cases h2 : k = 2
    · left; refine ⟨h2, ?_⟩; rw [beq_eq_false_iff_ne]; intro e; exact hkx ⟨h2, e⟩
    · right; rw [beq_eq_false_iff_ne]; exact h2
  clear hkx hkd kd kdv
  rcases hcase with ⟨rfl, hvx⟩ | hk2
  all_goals
    go_enter Try.func56, Try.ntmps56
    go_wp2_with fail
    go_loopw [8] (fun i wr => ∃ (j : Nat) (u : Value), j ≤ kids.length ∧ i = .int .i64 j ∧ Below w.heap.size w wr ∧ Box3 wr w.heap.size (.int .i64 _) (.int .i64 v) (.slice a kids.length c) ∧ Box3 wr (w.heap.size + 1) (.int .i64 y.kind) (.int .i64 y.val) (.slice a' y.kids.length c') ∧
      Box3 wr (w.heap.size + 1 + 1) (.int .i64 0) (.int .i64 0) (.slice none 0 0) ∧ Box3 wr (w.heap.size + 1 + 1 + 1) (.int .i64 _) (.int .i64 v) u ∧ OwnRow (w.heap.size + 1 + 1 + 1 + 1) 43 u ((kids.map (subT x r)).take j) wr) (fun i _ => kids.length - (intOf i).toNat)
    case atStart =>
      refine ⟨0, .slice none 0 0, Nat.zero_le _, rfl, (by repeat (first | exact Below.refl _ _ | assumption | refine below_a ?_ _ | refine below_o ?_ _ | refine below_d ?_ | refine below_n ?_ _ | refine below_s ?_ (by first | (simp; done) | (simp; omega) | omega) _)), ?_, ?_, ?_, ?_, OwnRow.nil _ _ _⟩
      · exact box3_next (below_alloc _ _) (box3_next (below_alloc _ _) (box3_next (below_alloc _ _) (box3_new ..)))
      · exact box3_next (below_alloc _ _) (box3_next (below_alloc _ _) (box3_at (by simp)))
      · exact box3_next (below_alloc _ _) (box3_at (by simp))
      · exact box3_at (by simp)
    case round =>
      obtain ⟨j, u, hj, rfl, hb, b0, bY, b1, b2, ho⟩ := hrel
      by_cases hlt : j < kids.length
      · obtain ⟨b, o, rfl, gb0, _⟩ := TrsIn_addr hks (by omega)
        obtain ⟨b', o', c0, c1, c2, t, hbo, gb, g0, g1, g2, hT⟩ := TrsIn_round hks hb hlt
        obtain ⟨rfl, rfl⟩ : b = b' ∧ o = o' := by simpa using hbo
        have hlt2 : (j : Int) < (kids.length : Int) := by omega
        have b2l : w.heap.size + 1 + 1 + 1 + 1 ≤ wr.heap.size := b2.1
        have b0' := b0
        have b2' := b2
        have bY' := bY
        obtain ⟨p0, p1, p2, p3, p4, p5, p6⟩ := b0'
        obtain ⟨q0, q1, q2, q3, q4, q5, q6⟩ := b2'
        obtain ⟨r0, r1, r2, r3, r4, r5, r6⟩ := bY'
        obtain ⟨B, hB⟩ : ∃ B, B = w.heap.size + 1 + 1 + 1 + 1 := ⟨_, rfl⟩
        have f0 : ∀ x, (wr.overX B B x).cell? ⟨w.heap.size + 1 + 1 + 1, 2, none⟩ = some u := fun x => by rw [overX_cell _ _ _ _ _ _ (by omega) (by omega)]; exact q3
        have f1 : ∀ x, (wr.overX B B x).cell? ⟨w.heap.size, 2, none⟩ = some (.slice (some ⟨b, o, none⟩) kids.length c) := fun x => by rw [overX_cell _ _ _ _ _ _ (by omega) (by omega)]; exact p3
        have f2 : ∀ x, (wr.overX B B x).cell? ⟨b, o + j * 3, none⟩ = some c0 := fun x => by rw [overX_cell _ _ _ _ _ _ (by omega) (by omega)]; exact g0
        have f3 : ∀ x, (wr.overX B B x).cell? ⟨b, o + j * 3 + 1, none⟩ = some c1 := fun x => by rw [overX_cell _ _ _ _ _ _ (by omega) (by omega)]; exact g1
        have f4 : ∀ x, (wr.overX B B x).cell? ⟨b, o + j * 3 + 2, none⟩ = some c2 := fun x => by rw [overX_cell _ _ _ _ _ _ (by omega) (by omega)]; exact g2
        have f5 : ∀ x, (wr.overX B B x).cell? ⟨w.heap.size + 1, 0, none⟩ = some (.int .i64 y.kind) := fun x => by rw [overX_cell _ _ _ _ _ _ (by omega) (by omega)]; exact r1
        have f6 : ∀ x, (wr.overX B B x).cell? ⟨w.heap.size + 1, 1, none⟩ = some (.int .i64 y.val) := fun x => by rw [overX_cell _ _ _ _ _ _ (by omega) (by omega)]; exact r2
        have f7 : ∀ x, (wr.overX B B x).cell? ⟨w.heap.size + 1, 2, none⟩ = some (.slice a' y.kids.length c') := fun x => by rw [overX_cell _ _ _ _ _ _ (by omega) (by omega)]; exact r3
        go_wp2_with fail
        refine wp_region_tail (C := fun wZ => ∃ xZ, wZ = World.overX _ (B) (B) xZ) [0,1,2,3,4,5,6,7,8] [9,10,11,12,13] (13) (by kernel_rfl) (by kernel_rfl) (fun d _ _ _ _ h => by cases d <;> exact h) (ButX.refl _ _ _).drew.ex ?_; simp only [pick, List.getElem?_cons_succ, List.getElem?_cons_zero]; (repeat (go_big_quiet_step (fail))); refine wpQuiet_nil ?_; simp only [tailW]
        go_wp2_with fail
        refine (h t hT.out.2.1 _ _ _ (TrIn_below (below_d (Below.refl _ _)) hT.out.1) (TrIn_below (below_d hb) hy) (smallL_mem hs.2 hT.out.2.1)).mono ?_
        rintro e w1 ⟨v1, rfl, hn0, hb1⟩
        have hn := hn0.new; clear hn0
        obtain ⟨a1, n1, rfl⟩ := TrIn_shape hn.any
        have hb2 : ButX B B wr w1 := ButX.next (ButX.refl B B wr).drew hb1 (by simp; omega)
        have s1 := hb1.size
        simp at s1
        go_wp2_with fail
        refine ⟨hb2.ex, ?_⟩
        go_wp2_with fail
        refine ⟨(hb2.next (below_alloc _ _) (by omega)).ex, ?_⟩
        have hk1 : Keep (w.heap.size + 1 + 1 + 1 + 1) wr w1 := (Keep.drew wr).trans (Keep.below hb1)
        refine wp_append_node rfl (.tmp 34) (.tmp 43) 32 rfl 43 Try.underlying32 rowInfo (by rfl) (by rfl) (by intro x hx; simp at hx; rcases hx with rfl | rfl | rfl <;> rfl) ho b2l hk1 (Nat.le_refl _) hn (by simp only [List.length_take, List.length_map]; omega) ?_
        intro a2 n2 m2 w3 ho3' hb4 _ _
        have hb3 : ButX B B wr w3 := hb2.trans (ButX.ofB (hB ▸ hb4))
        have hk3 : (kids.map (subT x r)).take j ++ [subT x r t] = (kids.map (subT x r)).take (j + 1) := by rw [List.take_add_one, List.getElem?_map, hT.out.2.2.2]; rfl
        rw [hk3] at ho3'
        have B3 : Below w.heap.size w w3 := hb.trans ⟨hb3.os, hb3.tape, hb3.output, hb3.size, fun k hk => hb3.block k (by omega) (by omega)⟩
        have t1 := box3_butx hb3 (by omega) (by omega) b1
        have t0 := box3_butx hb3 (by omega) (by omega) b0
        have tY := box3_butx hb3 (by omega) (by omega) bY
        have t2 := box3_butx hb3 (by omega) (by omega) b2
        have HO := hid ho3'
        have hw3 : B ≤ w3.heap.size := by have := hb3.size; omega
        clear ho ho3' hn hb1 hb2 hb4 hk1 f0 f1 f2 f3 f4 f5 f6 f7 p0 p1 p2 p3 p4 p5 p6 q0 q1 q2 q3 q4 q5 q6 r0 r1 r2 r3 r4 r5 r6 b0 b1 b2 bY hk3
        have t2' := t2
        obtain ⟨q0, q1, q2, q3, q4, q5, q6⟩ := t2
        refine ⟨hb3.ex, ?_⟩
        go_wp2_with fail
        refine ⟨hb3.ex, ?_⟩
        go_wp2_with fail
        go_roundw
        case rel => exact ⟨j + 1, .slice a2 n2 m2, by omega, by go_num, B3.setCell (by simp; omega) _, box3_but (But.set w3 (w.heap.size + 1 + 1 + 1) 2 _) (by omega) t0, box3_but (But.set w3 (w.heap.size + 1 + 1 + 1) 2 _) (by omega) tY, box3_but (But.set w3 (w.heap.size + 1 + 1 + 1) 2 _) (by omega) t1, box3_set2 t2' _, HO.out.keep (Keep.set _ (by simp) _)⟩
        case measure => simp [intOf]; omega
      · have hlt2 : ¬ ((j : Int) < (kids.length : Int)) := by omega
        obtain rfl : j = kids.length := by omega
        have hfull : (kids.map (subT x r)).take kids.length = kids.map (subT x r) := List.take_of_length_le (by simp)
        rw [hfull] at ho
        obtain ⟨a2, n2, m2, rfl⟩ : ∃ a2 n2 m2, u = .slice a2 n2 m2 := by obtain ⟨a2, m2, h2, _⟩ := ho.shape; exact ⟨_, _, _, h2⟩
        have HO := hid ho
        clear ho hfull
        go_wp2_with fail
        refine bodyPost_ret (v := .agg #[.int .i64 _, .int .i64 v, .slice a2 n2 m2]) (by simp [results, Try.results56, go_sem, b1]; rfl) rfl ?_
        rw [HR.out]
        exact RetP.mk ⟨_, rfl, hk, hv, (HO.out.keep (((Keep.set _ (by simp) _).trans (Keep.set _ (by simp) _)).trans (Keep.set _ (by simp) _))).mono (by omega)⟩ (by repeat (first | exact Below.refl _ _ | assumption | refine below_a ?_ _ | refine below_o ?_ _ | refine below_d ?_ | refine below_n ?_ _ | refine below_s ?_ (by first | (simp; done) | (simp; omega) | omega) _))

mutual
theorem sub_none (x : Int) (r : Tr) : ∀ t, occT x t = false → subT x r t = t
  | .mk k v kids, h => by
    simp only [occT, Bool.or_eq_false_iff, Bool.and_eq_false_iff, beq_eq_false_iff_ne] at h
    rw [subT, if_neg (by rintro ⟨h1, h2⟩; rcases h.1 with h3 | h3 <;> contradiction), subL_none x r kids h.2]
theorem subL_none (x : Int) (r : Tr) : ∀ l, occL x l = false → subL x r l = l
  | [], _ => by simp [subL]
  | t :: ts, h => by
    simp only [occL, Bool.or_eq_false_iff] at h
    simp only [subL]
    rw [sub_none x r t h.1, subL_none x r ts h.2]
end
theorem occL_mem {x : Int} {t : Tr} : ∀ {l : List Tr}, occL x l = false → t ∈ l → occT x t = false
  | u :: us, h, hm => by
    simp only [occL, Bool.or_eq_false_iff] at h
    cases hm with
    | head => exact h.1
    | tail _ hm => exact occL_mem h.2 hm
theorem cps_any (y r : Tr) : ∀ t, occT (-1) t = false → SbT (-1) y r t := by
  refine Tr.ind fun k v kids ih h => ?_
  simp only [occT, Bool.or_eq_false_iff, Bool.and_eq_false_iff, beq_eq_false_iff_ne] at h
  exact sb_of (-1) y r k v kids (by rintro ⟨h1, h2⟩; rcases h.1 with h3 | h3 <;> contradiction) fun t ht => ih t ht (occL_mem h.2 ht)

set_option maxHeartbeats 1000000 in
theorem sb_var (x : Int) (y : Tr) (hy : occT (-1) y = false) (hys : Small y) (v : Int) (kids : List Tr) (hvx : v = x) : SbT x y y (.mk 2 v kids) := by
  intro w xv yv hx hyy hs
  obtain ⟨a, c, rfl⟩ := TrIn_shapeMk hx
  obtain ⟨a', c', rfl⟩ := TrIn_shape hyy
  have HR := hid (show subT x y (.mk 2 v kids) = y by rw [subT, if_pos ⟨rfl, hvx⟩])
  have e1 : (v == x) = true := by simpa using hvx
  have HC := hid (fun w v' u hv hu => cps_any (.mk 0 0 []) y y hy w v' u hv hu hys)
  clear hvx
  go_enter Try.func56, Try.ntmps56
  have hne := hid (sub_none (-1) y y hy)
  go_wp2_with fail
  refine (HC.out _ _ _ (TrIn_below (by repeat (first | exact Below.refl _ _ | assumption | refine below_a ?_ _ | refine below_o ?_ _ | refine below_d ?_ | refine below_n ?_ _ | refine below_s ?_ (by first | (simp; done) | (simp; omega) | omega) _)) hyy) (leaf_new 0 _ (by unfold i64; omega) (by unfold i64; omega)).any).mono ?_
  rintro e w1 ⟨v1, rfl, hn, hb⟩
  rw [hne.out] at hn
  obtain ⟨u, rfl, i1, i2, ho⟩ := hn
  obtain ⟨a2, c2, rfl, _⟩ := ho.shape
  have HO := hid ho
  have bP := box3_next hb (box3_at (B := w.heap.size + 1 + 1) (by simp))
  have bP' := bP
  obtain ⟨z0, z1, z2, z3, z4, z5, z6⟩ := bP
  have B1 := hid (below_next (show Below w.heap.size w _ from (by repeat (first | exact Below.refl _ _ | assumption | refine below_a ?_ _ | refine below_o ?_ _ | refine below_d ?_ | refine below_n ?_ _ | refine below_s ?_ (by first | (simp; done) | (simp; omega) | omega) _))) hb)
  clear ho hb
  go_wp2_with fail
  obtain ⟨y0, y1, y2, y3, _⟩ := box3_set2 (box3_set1 (box3_set0 bP' (.int .i64 y.kind)) (.int .i64 y.val)) (.slice a2 y.kids.length c2); refine bodyPost_ret (v := .agg #[.int .i64 y.kind, .int .i64 y.val, .slice a2 y.kids.length c2]) (by simp [results, Try.results56, go_sem, y1, y2, y3]) rfl ?_
  rw [HR.out]
  exact RetP.mk ⟨_, rfl, i1, i2, (HO.out.keep (((Keep.set _ (by simp) _).trans (Keep.set _ (by simp) _)).trans (Keep.set _ (by simp) _))).mono (by simp; omega)⟩ (below_set3 B1.out (by omega) _ _ _)

/-- .. for every tree -/
theorem sb_any (x : Int) (y : Tr) (hy : occT (-1) y = false) (hys : Small y) : ∀ t, SbT x y y t := Tr.ind fun k v kids ih => by
  by_cases h : k = 2 ∧ v = x
  · obtain ⟨rfl, hv⟩ := h
    exact sb_var x y hy hys v kids hv
  · exact sb_of x y y k v kids h ih

mutual
theorem noneg : ∀ (t : Tr) (d : Int), exprL.shape t d = true → occT (-1) t = false
  | .mk k v kids, d, h => by
    simp only [Lang.shape, Bool.and_eq_true, decide_eq_true_eq, Lang.okB_iff] at h
    simp only [occT, Bool.or_eq_false_iff, Bool.and_eq_false_iff, beq_eq_false_iff_ne]
    exact ⟨.inr (by omega), nonegL kids (d - 1) h.2.2⟩
theorem nonegL : ∀ (l : List Tr) (d : Int), exprL.shapeL l d = true → occL (-1) l = false
  | [], _, _ => by simp [occL]
  | t :: ts, d, h => by
    simp only [Lang.shapeL, Bool.and_eq_true] at h
    simp only [occL, Bool.or_eq_false_iff]
    exact ⟨noneg t d h.1, nonegL ts d h.2⟩
end
theorem noneg_valid {t : Tr} (h : exprL.valid t = true) : occT (-1) t = false := noneg t 6 (by rw [Lang.valid, Bool.and_eq_true] at h; exact h.1)

end Expr
end Go.Proofs.Ytdmieedfddgmjaa
namespace Go.Proofs.Ytdmieedfddgmjaa
open Go.RowKit

/-- what a drawing call comes to: a new tree of at most M nodes; at most K picks -/
def DrawPost (B K : Nat) (M : Int) (R p : Nat) (w : World) (e : Ending) (w' : World) : Prop :=
  ∃ v t p', e = .returned v ∧ NewTr w.heap.size t v w' ∧ nodes t ≤ M ∧ But w R w' ∧ Rd B w' R p' ∧ p' ≤ p + K

theorem DrawPost.ret {B K : Nat} {M : Int} {R p p' N : Nat} {w W : World} {t : Tr} {x : Value} (hn : NewTr N t x W) (hN : w.heap.size < N) (hM : nodes t ≤ M) (hb : But w R W) (hr : Rd B W R p') (hp : p' ≤ p + K) (hB : B ≤ w.heap.size) (u0 u1 u2 : Value) :
    DrawPost B K M R p w (.returned x) (((W.setCell ⟨w.heap.size, 0, none⟩ u0).setCell ⟨w.heap.size, 1, none⟩ u1).setCell ⟨w.heap.size, 2, none⟩ u2) :=
  ⟨x, t, p', rfl, (hn.keep (((Keep.set _ hN _).trans (Keep.set _ hN _)).trans (Keep.set _ hN _))).mono (Nat.le_of_lt hN), hM, But.setNew (But.setNew (But.setNew hb (Nat.le_refl _) _) (Nat.le_refl _) _) (Nat.le_refl _) _,
    ((hr.set hB _).set hB _).set hB _, hp⟩

theorem nodesL_snoc : ∀ (l : List Tr) (t : Tr), nodesL (l ++ [t]) = nodesL l + nodes t
  | [], t => by simp [nodesL]
  | u :: us, t => by rw [List.cons_append]; simp only [nodesL]; rw [nodesL_snoc us t]; omega

theorem DrawPost.at {B K : Nat} {M : Int} {R p p' N b : Nat} {w W : World} {t : Tr} {x : Value} (hn : NewTr N t x W) (hN : b < N) (hbw : w.heap.size ≤ b) (hM : nodes t ≤ M) (hb : But w R W) (hr : Rd B W R p') (hp : p' ≤ p + K) (hB : B ≤ w.heap.size) (u0 u1 u2 : Value) :
    DrawPost B K M R p w (.returned x) (((W.setCell ⟨b, 0, none⟩ u0).setCell ⟨b, 1, none⟩ u1).setCell ⟨b, 2, none⟩ u2) :=
  ⟨x, t, p', rfl, (hn.keep (((Keep.set _ hN _).trans (Keep.set _ hN _)).trans (Keep.set _ hN _))).mono (by omega), hM, But.setNew (But.setNew (But.setNew hb hbw _) hbw _) hbw _,
    ((hr.set (Nat.le_trans hB hbw) _).set (Nat.le_trans hB hbw) _).set (Nat.le_trans hB hbw) _, hp⟩
theorem nodes_kids (t : Tr) : nodes t = 1 + nodesL t.kids := by cases t; rfl
mutual
theorem small_nodes : ∀ t : Tr, nodes t ≤ 1048576 → Small t
  | .mk _ _ kids, h => by
    simp only [nodes] at h
    have hl := len_nodes kids
    exact ⟨by omega, smallL_nodes kids (by omega)⟩
theorem smallL_nodes : ∀ l : List Tr, nodesL l ≤ 1048576 → SmallL l
  | [], _ => trivial
  | t :: ts, h => by
    simp only [nodesL] at h
    have h1 := nodesL_pos ts
    have h2 := nodes_pos t
    exact ⟨small_nodes t (by omega), smallL_nodes ts (by omega)⟩
theorem len_nodes : ∀ l : List Tr, (l.length : Int) ≤ nodesL l
  | [] => by simp [nodesL]
  | t :: ts => by
    simp only [nodesL, List.length_cons]
    have h1 := len_nodes ts
    have h2 := nodes_pos t
    omega
end

end Go.Proofs.Ytdmieedfddgmjaa
namespace Go.Proofs.Ytdmieedfddgmjaa
open Go.RowKit
namespace Expr

def RandT (d : Nat) (K : Nat) (M : Int) : Prop := ∀ (w : World) (R B p : Nat), Rd B w R p → p + K ≤ 1000000 → Calls Try.prog 65 #[.pointer (some ⟨R, 0, none⟩), .int .i64 d] w (DrawPost B K M R p w)

set_option maxRecDepth 100000 in
set_option maxHeartbeats 1000000 in
theorem rand1 : RandT 1 3 1 := by
  intro w R B p hr hp
  have hB := hr.lt
  go_enter Try.func65, Try.ntmps65
  go_wp2_with fail
  refine (pick_any B _ _ R p (hr.next (below_alloc _ _)) (by omega) (by omega) (by omega)).mono ?_
  rintro e w1 ⟨i, rfl, _, hb1, hr1⟩
  have c4 := box3_butx (ButX.but (B := w.heap.size + 1) hb1 (by simp)) (by omega) (by omega) (box3_new w (.int .i64 0) (.int .i64 0) (.slice none 0 0) 43)
  have c4l : w.heap.size < w1.heap.size := c4.1
  have B1 : But w R w1 := (But.of (below_alloc w _)).trans hb1
  clear hb1
  by_cases hi : i = 0
  · subst hi
    go_wp2_with fail
    refine (pick_any B _ _ R (p + 1) hr1 (by omega) (by omega) (by omega)).mono ?_
    rintro e w2 ⟨n, rfl, ⟨hn1, hn2, _⟩, hb2, hr2⟩
    have hn3 := hn2 (by omega)
    have c4 := box3_but hb2 (by omega) c4
    have B2 := B1.trans hb2
    have hf := hid (fun u0 u1 u2 => DrawPost.ret (w := w) (K := 3) (M := 1) (leaf_new (w.heap.size + 1) w2 (k := 1) (v := n) (by unfold i64; omega) (by unfold i64; omega)) (by omega) (by simp [nodes, nodesL]) B2 hr2 (p := p) (by omega) hB.2 u0 u1 u2)
    clear hr2 B2 hb2 hr1 B1
    go_wp2_with fail
    refine bodyPost_ret (v := .agg #[.int .i64 1, .int .i64 n, .slice none 0 0]) (by simp [results, Try.results65, go_sem, c4]) rfl ?_
    exact hf.out _ _ _
  · have hi2 : (i == 0) = false := by simpa using hi
    go_wp2_with fail
    refine (num_new [0, 1, 0, 2] 0 2 (by simp) (by decide) (by decide) B w1 _ R (p + 1) hr1 (by omega)).mono ?_
    rintro e w2 ⟨n, rfl, ⟨hn1, hn2⟩, hb2, hr2⟩
    have c4 := box3_but hb2 (by omega) (box3_next (below_alloc _ _) c4)
    have B2 := (B1.next (below_alloc _ _)).trans hb2
    have hf := hid (fun u0 u1 u2 => DrawPost.ret (w := w) (K := 3) (M := 1) (leaf_new (w.heap.size + 1) w2 (k := 2) (v := n) (by unfold i64; omega) (by unfold i64; omega)) (by omega) (by simp [nodes, nodesL]) B2 hr2 (p := p) (by omega) hB.2 u0 u1 u2)
    clear hr2 B2 hb2 hr1 B1
    go_wp2_with fail
    refine bodyPost_ret (v := .agg #[.int .i64 2, .int .i64 n, .slice none 0 0]) (by simp [results, Try.results65, go_sem, c4]) rfl ?_
    exact hf.out _ _ _

set_option maxRecDepth 100000 in
set_option maxHeartbeats 4000000 in
theorem randS (d K : Nat) (M : Int) (h : RandT d K M) (hM : 1 ≤ M) (hd : 1 ≤ d) (hd3 : d ≤ 10) : RandT (d + 1) (2 * K + 3) (2 * M + 1) := by
  intro w R B p hr hp
  have hB := hr.lt
  have hd2 : ¬ (((d + 1 : Nat) : Int) < 2) := by omega
  go_enter Try.func65, Try.ntmps65
  go_wp2_with fail
  refine (pick_any B _ _ R p (hr.next (below_alloc _ _)) (by omega) (by omega) (by omega)).mono ?_
  rintro e w1 ⟨i, rfl, _, hb1, hr1⟩
  have c4 := box3_butx ((ButX.but (B := w.heap.size + 1) hb1 (by simp))) (by omega) (by omega) (box3_new w (.int .i64 0) (.int .i64 0) (.slice none 0 0) 43)
  have c4l : w.heap.size < w1.heap.size := c4.1
  have B1 : But w R w1 := (But.of (below_alloc w _)).trans hb1
  clear hb1
  by_cases hi : i = 0
  · subst hi
    go_wp2_with fail
    refine (pick_any B _ _ R (p + 1) hr1 (by omega) (by omega) (by omega)).mono ?_
    rintro e w1' ⟨i', rfl, _, hb1, hr2'⟩
    replace c4 := box3_but hb1 (by omega) c4
    have c4l' : w.heap.size < w1'.heap.size := c4.1
    have B1' : But w R w1' := B1.trans hb1
    clear hb1 hr1 B1
    by_cases hi' : i' = 0
    · subst hi'
      go_wp2_with fail
      refine (pick_any B _ _ R (p + 1 + 1) hr2' (by omega) (by omega) (by omega)).mono ?_
      rintro e w2 ⟨n, rfl, ⟨hn1, hn2, _⟩, hb2, hr2⟩
      have hn3 := hn2 (by omega)
      have c4 := box3_but hb2 (by omega) c4
      have B2 := B1'.trans hb2
      have hf := hid (fun u0 u1 u2 => DrawPost.ret (w := w) (K := 2 * K + 3) (M := 2 * M + 1) (leaf_new (w.heap.size + 1) w2 (k := 1) (v := n) (by unfold i64; omega) (by unfold i64; omega)) (by omega) (by simp only [nodes, nodesL]; omega) B2 hr2 (p := p) (by omega) hB.2 u0 u1 u2)
      clear hr2 B2 hb2 hr2' B1'
      go_wp2_with fail
      refine bodyPost_ret (v := .agg #[.int .i64 1, .int .i64 n, .slice none 0 0]) (by simp [results, Try.results65, go_sem, c4]) rfl ?_
      exact hf.out _ _ _
    · have hi2 : (i' == 0) = false := by simpa using hi'
      go_wp2_with fail
      refine (num_new [0, 1, 0, 2] 0 2 (by simp) (by decide) (by decide) B w1' _ R (p + 1 + 1) hr2' (by omega)).mono ?_
      rintro e w2 ⟨n, rfl, ⟨hn1, hn2⟩, hb2, hr2⟩
      have c4 := box3_but hb2 (by omega) (box3_next (below_alloc _ _) c4)
      have B2 := (B1'.next (below_alloc _ _)).trans hb2
      have hf := hid (fun u0 u1 u2 => DrawPost.ret (w := w) (K := 2 * K + 3) (M := 2 * M + 1) (leaf_new (w.heap.size + 1) w2 (k := 2) (v := n) (by unfold i64; omega) (by unfold i64; omega)) (by omega) (by simp only [nodes, nodesL]; omega) B2 hr2 (p := p) (by omega) hB.2 u0 u1 u2)
      clear hr2 B2 hb2 hr2' B1'
      go_wp2_with fail
      refine bodyPost_ret (v := .agg #[.int .i64 2, .int .i64 n, .slice none 0 0]) (by simp [results, Try.results65, go_sem, c4]) rfl ?_
      exact hf.out _ _ _

  · have hi2 : (i == 0) = false := by simpa using hi
    go_wp2_with fail
    refine (num_new [6, 8, 7, 4, 3, 5, 9] 3 9 (by simp) (by decide) (by decide) B w1 _ R (p + 1) hr1 (by omega)).mono ?_
    rintro e w2 ⟨k, rfl, ⟨hk1, hk2⟩, hb2, hr2⟩
    replace c4 := box3_but hb2 (by omega) (box3_next (below_alloc _ _) c4)
    have B2 := (B1.next (below_alloc _ _)).trans hb2
    have c4l2 : w.heap.size < w2.heap.size := c4.1
    clear hb2 hr1 B1
    go_wp2_with fail
    have cF : Box3 (w2.alloc (.cells #[.int .i64 k, .int .i64 0, .slice none 0 0] 43)) w2.heap.size (.int .i64 k) (.int .i64 0) (.slice none 0 0) := box3_new ..
    have hA : 1 ≤ arityV k ∧ arityV k ≤ 2 := by unfold arityV; split; omega; split; omega; split; omega; omega
    refine (arity_any k _).mono ?_
    rintro e w3 ⟨rfl, hb3⟩
    replace cF := box3_next hb3 cF
    replace c4 := box3_next hb3 (box3_next (below_alloc _ _) c4)
    replace B2 := (B2.next (below_alloc _ _)).next hb3
    replace hr2 := (hr2.next (below_alloc _ _)).next hb3
    clear hb3
    generalize arityV k = A at *
    go_wp2_with fail
    go_loopw [7] (fun i wr => ∃ (j : Nat) (u : Value) (l : List Tr) (p1 : Nat), i = .int .i64 (A - j) ∧ l.length = j ∧ ((j = 0 ∧ nodesL l ≤ 0 ∧ p1 ≤ p + 2) ∨ (j = 1 ∧ nodesL l ≤ M ∧ p1 ≤ p + 2 + K) ∨ (j = 2 ∧ nodesL l ≤ 2 * M ∧ p1 ≤ p + 2 + 2 * K)) ∧ (j : Int) ≤ A ∧
      But w R wr ∧ Box3 wr w.heap.size (.int .i64 0) (.int .i64 0) (.slice none 0 0) ∧ Box3 wr w2.heap.size (.int .i64 k) (.int .i64 0) u ∧ OwnRow (w2.heap.size + 1) 43 u l wr ∧ Rd B wr R p1) (fun i _ => (intOf i).toNat)
    case atStart => exact ⟨0, .slice none 0 0, [], p + 2, by simp, rfl, .inl ⟨rfl, by simp [nodesL], by omega⟩, by omega, B2, c4, cF, OwnRow.nil _ _ _, hr2⟩
    case round =>
      clear B2 c4 cF hr2
      obtain ⟨j, u, l, p1, rfl, hl, hbd, hjA, B2, c4, cF, ho, hr2⟩ := hrel
      by_cases hlt : (j : Int) < A
      · have hgt : A - (j : Int) > 0 := by omega
        have cF' := cF
        obtain ⟨q0, q1, q2, q3, q4, q5, q6⟩ := cF'
        have f0 : ∀ x, (wr.overX (w2.heap.size + 1) R x).cell? ⟨w2.heap.size, 2, none⟩ = some u := fun x => by rw [overX_cell _ _ _ _ _ _ (by omega) (by omega)]; exact q3
        go_wp2_with fail
        refine wp_region_tail (C := fun wZ => ∃ xZ, wZ = World.overX _ (w2.heap.size + 1) (R) xZ) [0,1,2,3,4] [5,6,7,8,9] (9) (by kernel_rfl) (by kernel_rfl) (fun d _ _ _ _ h => by cases d <;> exact h) (ButX.refl _ _ _).drew.ex ?_; simp only [pick, List.getElem?_cons_succ, List.getElem?_cons_zero]; (repeat (go_big_quiet_step (fail))); refine wpQuiet_nil ?_; simp only [tailW]
        go_wp2_with fail
        refine (h wr.drew R B p1 (hr2.next (below_d (Below.refl _ _))) (by omega)).mono ?_
        rintro e w4 ⟨v, t, p2, rfl, hn, hnt, hb4, hr4, hp2⟩
        obtain ⟨a1, n1, rfl⟩ := TrIn_shape hn.any
        have x4 : ButX (w2.heap.size + 1) R wr w4 := (ButX.refl _ _ wr).drew.trans (ButX.but hb4 q0)
        go_wp2_with fail
        refine ⟨x4.ex, ?_⟩
        go_wp2_with fail
        have s4 := x4.size
        refine ⟨(x4.next (below_alloc _ _) (by omega)).ex, ?_⟩
        refine wp_append_node rfl (.tmp 37) (.tmp 42) 32 rfl 43 Try.underlying32 rowInfo (by rfl) (by rfl) (by intro x hx; simp at hx; rcases hx with rfl | rfl | rfl <;> rfl) ho q0
          ((Keep.drew wr).trans (Keep.but hb4 (by omega))) (Nat.le_refl _) hn (by omega) ?_
        intro a2 n2 m2 w5 ho5 hb5 _ _
        have x5 : ButX (w2.heap.size + 1) R wr w5 := x4.trans (ButX.ofB hb5)
        have c4' := box3_butx x5 (by omega) (by omega) c4
        have cF' := box3_butx x5 (by omega) (by omega) cF
        have hr5 : Rd B w5 R p2 := hr4.keep hb5.size fun b hb => hb5.block b (by omega)
        have B5 : But w R w5 := ⟨x5.os.trans B2.os, x5.tape.trans B2.tape, x5.output.trans B2.output, Nat.le_trans B2.size x5.size, fun k hk hd => (x5.block k (by omega) hd).trans (B2.block k hk hd)⟩
        have HO := hid ho5
        have hl5 : (l ++ [t]).length = j + 1 := by simp [hl]
        have hn5 : nodesL (l ++ [t]) ≤ nodesL l + M := by rw [nodesL_snoc]; omega
        have hxx := x5.ex
        clear ho ho5 hn hb4 hb5 x4 x5 f0 q0 q1 q2 q3 q4 q5 q6 hr4 hr2 B2 c4 cF
        have cF := cF'
        obtain ⟨q0, q1, q2, q3, q4, q5, q6⟩ := cF'
        refine ⟨hxx, ?_⟩
        go_wp2_with fail
        refine ⟨hxx, ?_⟩
        go_wp2_with fail
        go_roundw
        case rel => exact ⟨j + 1, .slice a2 n2 m2, l ++ [t], p2, by go_num, hl5, by omega, by omega, But.setNew B5 (by simp; omega) _, box3_but (But.set w5 w2.heap.size 2 _) (by omega) c4', box3_set2 cF _, HO.out.keep (Keep.set _ (by simp) _), hr5.set (by simp; omega) _⟩
        case measure => simp [intOf]; omega
      · obtain ⟨a2, n2, m2, rfl⟩ : ∃ a2 n2 m2, u = .slice a2 n2 m2 := by obtain ⟨a2, m2, h2, _⟩ := ho.shape; exact ⟨_, _, _, h2⟩
        have hgt : ¬ (A - (j : Int) > 0) := by omega
        have hf := hid (fun u0 u1 u2 => DrawPost.ret (w := w) (K := 2 * K + 3) (M := 2 * M + 1) (ho.node (k := k) (v := 0) (by unfold i64; omega) (by unfold i64; omega)) (by omega) (by simp only [nodes]; omega) B2 hr2 (p := p) (by omega) hB.2 u0 u1 u2)
        clear hr2 B2 ho
        go_wp2_with fail
        refine bodyPost_ret (v := .agg #[.int .i64 k, .int .i64 0, .slice a2 n2 m2]) (by simp [results, Try.results65, go_sem, c4]) rfl ?_
        exact hf.out _ _ _

theorem rand_any : RandT 4 45 31 := by
  have h2 := randS 1 3 1 rand1 (by omega) (by omega) (by omega)
  have h3 := randS 2 _ _ h2 (by omega) (by omega) (by omega)
  have h4 := randS 3 _ _ h3 (by omega) (by omega) (by omega)
  intro w R B p hr hp
  refine (h4 w R B p hr (by omega)).mono ?_
  rintro e w' ⟨v, t, p', rfl, hn, hm, hb, hr', hp'⟩
  exact ⟨v, t, p', rfl, hn, by omega, hb, hr', by omega⟩
theorem rand_le (d : Int) (h1 : 2 ≤ d) (h2 : d ≤ 4) (w : World) (R B p : Nat) (hr : Rd B w R p) (hp : p + 45 ≤ 1000000) : Calls Try.prog 65 #[.pointer (some ⟨R, 0, none⟩), .int .i64 d] w (DrawPost B 45 31 R p w) := by
  have h2' := randS 1 3 1 rand1 (by omega) (by omega) (by omega)
  have h3' := randS 2 _ _ h2' (by omega) (by omega) (by omega)
  have hw : ∀ {K M w' e}, K ≤ 45 → M ≤ 31 → DrawPost B K M R p w e w' → DrawPost B 45 31 R p w e w' := by
    rintro K M w' e hK hM ⟨v, t, p', rfl, hn, hm, hb, hr', hp'⟩
    exact ⟨v, t, p', rfl, hn, by omega, hb, hr', by omega⟩
  rcases (by omega : d = 2 ∨ d = 3 ∨ d = 4) with rfl | rfl | rfl
  · exact (h2' w R B p hr (by omega)).mono fun e w' h => hw (by omega) (by omega) h
  · exact (h3' w R B p hr (by omega)).mono fun e w' h => hw (by omega) (by omega) h
  · exact rand_any w R B p hr hp

end Expr
end Go.Proofs.Ytdmieedfddgmjaa
namespace Go.Proofs.Ytdmieedfddgmjaa
open Go.RowKit
namespace Expr

/-- a tree of one's own, and whether there is one -/
def RetT (B : Nat) (t : Tr) (b : Bool) (w : World) (e : Ending) (w' : World) : Prop := ∃ v, e = .returned (.tuple #[v, .bool b]) ∧ NewTr B t v w' ∧ Below w.heap.size w w'
theorem RetT.mk {B : Nat} {t t' : Tr} {b b' : Bool} {v : Value} {w w' : World} (h : NewTr B t' v w') (ht : t = t') (hb : b = b') (hw : Below w.heap.size w w') : RetT B t b w (.returned (.tuple #[v, .bool b'])) w' := ⟨v, by rw [hb], ht ▸ h, hw⟩
def zeroT : Tr := .mk 0 0 []
theorem zero_new (B : Nat) (w : World) : NewTr B zeroT (.agg #[.int .i64 0, .int .i64 0, .slice none 0 0]) w := leaf_new _ _ (by unfold i64; omega) (by unfold i64; omega)

def subOk (x : Int) (t y : Tr) : Bool := exprL.valid t && (exprL.valid y && (inB x 0 2 && exprL.valid (subT x y t)))
def subV (x : Int) (t y : Tr) : Tr := if subOk x t y = true then subT x y t else zeroT
theorem subV_small (x : Int) (t y : Tr) : nodes (subV x t y) ≤ 1000 := by
  unfold subV
  split
  · rename_i h
    simp only [subOk, Bool.and_eq_true] at h
    have := h.2.2.2
    rw [Lang.valid, Bool.and_eq_true, decide_eq_true_eq, exprL_N] at this
    omega
  · simp [zeroT, nodes, nodesL]

end Expr
end Go.Proofs.Ytdmieedfddgmjaa
namespace Go.Proofs.Ytdmieedfddgmjaa
open Go.RowKit
namespace Expr

/-- what a call of l1Expr comes to: a new, valid tree -/
def FormPost (B : Nat) (R p : Nat) (w : World) (e : Ending) (w' : World) : Prop :=
  ∃ v t p', e = .returned v ∧ NewTr w.heap.size t v w' ∧ nodes t ≤ 31 ∧ exprL.valid t = true ∧ But w R w' ∧ Rd B w' R p' ∧ p' ≤ p + 47
theorem FormPost.ret {B : Nat} {R p p' N : Nat} {w W : World} {t : Tr} {x : Value} (hn : NewTr N t x W) (hN : w.heap.size < N) (hM : nodes t ≤ 31) (hv : exprL.valid t = true) (hb : But w R W) (hr : Rd B W R p') (hp : p' ≤ p + 47) (hB : B ≤ w.heap.size) (u0 u1 u2 : Value) :
    FormPost B R p w (.returned x) (((W.setCell ⟨w.heap.size, 0, none⟩ u0).setCell ⟨w.heap.size, 1, none⟩ u1).setCell ⟨w.heap.size, 2, none⟩ u2) :=
  ⟨x, t, p', rfl, (hn.keep (((Keep.set _ hN _).trans (Keep.set _ hN _)).trans (Keep.set _ hN _))).mono (Nat.le_of_lt hN), hM, hv, But.setNew (But.setNew (But.setNew hb (Nat.le_refl _) _) (Nat.le_refl _) _) (Nat.le_refl _) _,
    ((hr.set hB _).set hB _).set hB _, hp⟩

mutual
theorem sub_nodes : ∀ t, nodes (subT (-1) zeroT t) ≤ nodes t
  | .mk k v kids => by
    simp only [subT]
    split
    · have := nodesL_pos kids; simp only [zeroT, nodes, nodesL]; omega
    · have := subL_nodes kids; simp only [nodes]; omega
theorem subL_nodes : ∀ l, nodesL (subL (-1) zeroT l) ≤ nodesL l
  | [] => by simp [subL]
  | t :: ts => by have := sub_nodes t; have := subL_nodes ts; simp only [subL, nodesL]; omega
end
theorem leaf_valid {n : Int} (h0 : 0 ≤ n) (h2 : n ≤ 2) : exprL.valid (.mk 2 n []) = true := by
  rcases (by omega : n = 0 ∨ n = 1 ∨ n = 2) with rfl | rfl | rfl <;> kernel_rfl
set_option maxRecDepth 100000 in
set_option maxHeartbeats 1000000 in
theorem form_any (w : World) (R B p : Nat) (hr : Rd B w R p) (hp : p + 47 ≤ 1000000) : Calls Try.prog 61 #[.pointer (some ⟨R, 0, none⟩)] w (FormPost B R p w) := by
  have hB := hr.lt
  go_enter Try.func61, Try.ntmps61
  go_wp2_with fail
  refine (num_at [3, 2, 3, 4] 2 4 (by simp) (by decide) (by decide) B _ _ _ R p (by simp) (hr.next (below_alloc _ _)) (by omega)).mono ?_
  rintro e w1 ⟨d, rfl, ⟨hd1, hd2⟩, hb1, hr1⟩
  have c4 := box3_but hb1 (by omega) (box3_next (below_alloc _ _) (box3_new w (.int .i64 0) (.int .i64 0) (.slice none 0 0) 43))
  have B1 := ((But.of (D := R) (below_alloc w _)).next (below_alloc _ _)).trans hb1
  clear hb1
  go_wp2_with fail
  refine (rand_le d hd1 hd2 _ R B (p + 1) hr1 (by omega)).mono ?_
  rintro e w2 ⟨v, t, p2, rfl, hn, hnt, hb2, hr2, hp2⟩
  have hN : w.heap.size < w1.heap.size := c4.1
  replace c4 := box3_but hb2 (by omega) c4
  replace B1 := B1.trans hb2
  obtain ⟨a1, n1, rfl⟩ := TrIn_shape hn.any
  clear hb2 hr1
  go_wp2_with fail
  refine (specValid_any t _ _ (hn.below (below_alloc _ _)).any).mono ?_
  rintro e w3 ⟨rfl, hb3⟩
  replace hn := (hn.below (below_alloc _ _)).below hb3
  replace c4 := box3_next hb3 (box3_next (below_alloc _ _) c4)
  have cf := box3_next hb3 (box3_at (t := 43) (a := .int .i64 t.kind) (b := .int .i64 t.val) (c := .slice a1 t.kids.length n1) (w := w2) rfl)
  replace B1 := (B1.next (below_alloc _ _)).next hb3
  replace hr2 := (hr2.next (below_alloc _ _)).next hb3
  clear hb3
  cases hv : exprL.valid t with
  | true =>
    have hf := hid (fun u0 u1 u2 => FormPost.ret (w := w) hn hN hnt hv B1 hr2 (p := p) (by omega) hB.2 u0 u1 u2)
    clear hr2 B1 hn hv
    go_wp2_with fail
    refine bodyPost_ret (v := .agg #[.int .i64 t.kind, .int .i64 t.val, .slice a1 t.kids.length n1]) (by simp [results, Try.results61, go_sem, c4]) rfl ?_
    exact hf.out _ _ _
  | false =>
    clear hv
    go_wp2_with fail
    refine (pick_any B _ _ R p2 hr2 (by omega) (by omega) (by omega)).mono ?_
    rintro e w4 ⟨n, rfl, ⟨hn1, hn2, _⟩, hb4, hr4⟩
    have hn3 := hn2 (by omega)
    replace c4 := box3_but hb4 (by omega) c4
    replace B1 := B1.trans hb4
    have hf := hid (fun u0 u1 u2 => FormPost.ret (w := w) (leaf_new (w.heap.size + 1) w4 (k := 2) (v := n) (by unfold i64; omega) (by unfold i64; omega)) (by omega) (by simp [nodes, nodesL]) (leaf_valid hn1 (by omega)) B1 hr4 (p := p) (by omega) hB.2 u0 u1 u2)
    clear hr4 B1 hn hb4 hr2
    go_wp2_with fail
    refine bodyPost_ret (v := .agg #[.int .i64 2, .int .i64 n, .slice none 0 0]) (by simp [results, Try.results61, go_sem, c4]) rfl ?_
    exact hf.out _ _ _

set_option maxRecDepth 100000 in
set_option maxHeartbeats 2000000 in
theorem mut_any (w : World) (R B p : Nat) (t : Tr) (x : Value) (hx : TrIn Any w t x) (hm : nodes t ≤ 1000) (hr : Rd B w R p) (hp : p + 2 ≤ 1000000) : Calls Try.prog 43 #[.pointer (some ⟨R, 0, none⟩), x] w (DrawPost B 2 (nodes t + 1) R p w) := by
  have hB := hr.lt
  have hx0 := hx
  obtain ⟨a, c, rfl⟩ := TrIn_shape hx
  go_enter Try.func43, Try.ntmps43
  go_wp2_with fail
  refine (sb_any (-1) zeroT (by kernel_rfl) ⟨by simp, trivial⟩ t _ _ _ (TrIn_alloc (TrIn_alloc hx0 _) _) (zero_new 0 _).any (small_nodes t (by omega))).mono ?_
  rintro e w1 ⟨v, rfl, ⟨u, rfl, hi1, hi2, ho⟩, hb1⟩
  have hm1 := sub_nodes t
  clear hx hx0
  generalize subT (-1) zeroT t = t1 at *
  obtain ⟨a2, n2, m2, rfl⟩ : ∃ a2 n2 m2, u = .slice a2 n2 m2 := by obtain ⟨a2, m2, h2, _⟩ := ho.shape; exact ⟨_, _, _, h2⟩
  have B1 := ((But.of (D := R) (below_alloc w _)).next (below_alloc _ _)).next hb1
  have hr1 := ((hr.next (below_alloc _ _)).next (below_alloc _ _)).next hb1
  have c4 := box3_next hb1 (box3_at (w := w.alloc _) (B := w.heap.size + 1) (a := .int .i64 0) (b := .int .i64 0) (c := .slice none 0 0) (t := 43) (by simp))
  clear hb1
  go_wp2_with fail
  refine (pick_any B _ _ R p (hr1.next (below_alloc _ _)) (by omega) (by omega) (by omega)).mono ?_
  rintro e w2 ⟨i, rfl, _, hb2, hr2⟩
  have hsz := c4.1
  replace c4 := box3_but hb2 (by omega) (box3_next (below_alloc _ _) c4)
  have cf := box3_but hb2 (by omega) (box3_at (t := 43) (a := .int .i64 t1.kind) (b := .int .i64 t1.val) (c := .slice a2 n2 m2) (w := w1) rfl)
  simp only [World.size_alloc] at ho
  have K2 : Keep (w.heap.size + 1 + 1) w1 w2 := (Keep.alloc w1 _).trans (Keep.but hb2 (by omega))
  replace B1 := (B1.next (below_alloc _ _)).trans hb2
  clear hb2 hr1
  have hw1 : w1.heap.size < w2.heap.size := cf.1
  by_cases i0 : i = 0
  · subst i0
    go_wp2_with fail
    refine (num_new [0, 10, -1, 1, 2, 3, 4] (-1) 10 (by simp) (by decide) (by decide) B w2 _ R (p + 1) hr2 (by omega)).mono ?_
    rintro e w3 ⟨k, rfl, ⟨hk1, hk2⟩, hb3, hr3⟩
    replace c4 := box3_but hb3 (by omega) (box3_next (below_alloc _ _) c4)
    replace cf := box3_but hb3 (by omega) (box3_next (below_alloc _ _) cf)
    replace B1 := (B1.next (below_alloc _ _)).trans hb3
    have K3 : Keep (w.heap.size + 1 + 1) w1 w3 := (K2.trans (Keep.alloc w2 _)).trans (Keep.but hb3 (by omega))
    have hn := fun v => (ho.keep (K3.setHi (a := ⟨w1.heap.size, 0, none⟩) (Nat.le_refl _) v)).node (k := k) (v := t1.val) (by unfold i64; omega) hi2
    have hf := hid (fun v u0 u1 u2 => DrawPost.at (w := w) (K := 2) (M := nodes t + 1) (b := w.heap.size + 1) (hn v) (by omega) (by omega) (by rw [nodes_kids t1] at hm1; simp only [nodes]; omega) (B1.setNew (a := ⟨w1.heap.size, 0, none⟩) (by simp; omega) v) (hr3.set (a := ⟨w1.heap.size, 0, none⟩) (by simp; omega) v) (p := p) (by omega) hB.2 u0 u1 u2)
    clear hr2 hr3 B1 ho hb3 K2 K3 hn
    go_wp2_with fail
    refine bodyPost_ret (v := .agg #[.int .i64 k, .int .i64 t1.val, .slice a2 n2 m2]) (by simp [results, Try.results43, go_sem, c4]) rfl ?_
    exact hf.out _ _ _ _
  have e0 : (i == 0) = false := by simpa using i0
  by_cases i1 : i = 1
  · subst i1
    go_wp2_with fail
    refine (num_new [-1, 4, 3, 9223372036854775807] (-1) 9223372036854775807 (by simp) (by decide) (by decide) B w2 _ R (p + 1) hr2 (by omega)).mono ?_
    rintro e w3 ⟨k, rfl, ⟨hk1, hk2⟩, hb3, hr3⟩
    replace c4 := box3_but hb3 (by omega) (box3_next (below_alloc _ _) c4)
    replace cf := box3_but hb3 (by omega) (box3_next (below_alloc _ _) cf)
    replace B1 := (B1.next (below_alloc _ _)).trans hb3
    have K3 : Keep (w.heap.size + 1 + 1) w1 w3 := (K2.trans (Keep.alloc w2 _)).trans (Keep.but hb3 (by omega))
    have hn := fun v => (ho.keep (K3.setHi (a := ⟨w1.heap.size, 1, none⟩) (Nat.le_refl _) v)).node (k := t1.kind) (v := k) hi1 (by unfold i64; omega)
    have hf := hid (fun v u0 u1 u2 => DrawPost.at (w := w) (K := 2) (M := nodes t + 1) (b := w.heap.size + 1) (hn v) (by omega) (by omega) (by rw [nodes_kids t1] at hm1; simp only [nodes]; omega) (B1.setNew (a := ⟨w1.heap.size, 1, none⟩) (by simp; omega) v) (hr3.set (a := ⟨w1.heap.size, 1, none⟩) (by simp; omega) v) (p := p) (by omega) hB.2 u0 u1 u2)
    clear hr2 hr3 B1 ho hb3 K2 K3 hn
    go_wp2_with fail
    refine bodyPost_ret (v := .agg #[.int .i64 t1.kind, .int .i64 k, .slice a2 n2 m2]) (by simp [results, Try.results43, go_sem, c4]) rfl ?_
    exact hf.out _ _ _ _
  have e1 : (i == 1) = false := by simpa using i1
  by_cases i2 : i = 2
  · subst i2
    obtain ⟨D, hD1, hD2, hD3⟩ : ∃ D, D ≠ w1.heap.size ∧ w.heap.size + 1 + 1 ≤ D ∧ ∀ k, (Value.slice a2 n2 m2).ownBlock = some k → k = D := by
      cases hu : (Value.slice a2 n2 m2).ownBlock with
      | none => exact ⟨w2.heap.size, by omega, by omega, by simp⟩
      | some k =>
        obtain ⟨xs, bs, o1, _⟩ := ho
        have := o1.lt k hu
        exact ⟨k, by omega, this.1, by simp⟩
    have hl : t1.kids.length ≤ 1048576 := by have := nodes_kids t1; have := len_nodes t1.kids; omega
    have hleaf := leaf_new w2.heap.size w2 (k := 1) (v := 0) (by unfold i64; omega) (by unfold i64; omega)
    have cf' := cf
    obtain ⟨q0, q1, q2, q3, q4, q5, q6⟩ := cf'
    go_wp2_with (refine wp_append_node rfl (.tmp 26) (.tmp 28) 32 rfl 43 Try.underlying32 rowInfo (by rfl) (by rfl) (by intro x hx; simp at hx; rcases hx with rfl | rfl | rfl <;> rfl) ho (by omega) K2 (Nat.le_of_lt hw1) hleaf hl ?_)
    intro a5 n5 m5 w5 ho5 hb5 hbD hav
    have B52 := hbD D hD3
    have c4' := box3_but B52 (by omega) c4
    have cf' := box3_but B52 (by omega) cf
    have hr5 : Rd B w5 R (p + 1) := hr2.keep hb5.size fun b hb => hb5.block b (by omega)
    have B5 : But w R w5 := ⟨B52.os.trans B1.os, B52.tape.trans B1.tape, B52.output.trans B1.output, Nat.le_trans B1.size B52.size, fun k hk hd => (B52.block k (by have := B1.size; omega) (by omega)).trans (B1.block k hk hd)⟩
    have hs5 := hb5.size
    have hn := fun v => (hav w1.heap.size 2 v (Nat.le_refl _) hw1).node hi1 hi2
    have hf := hid (fun v u0 u1 u2 => DrawPost.at (w := w) (K := 2) (M := nodes t + 1) (b := w.heap.size + 1) (hn v) (by omega) (by omega) (by rw [nodes_kids t1] at hm1; simp only [nodes, nodesL_snoc, nodesL]; omega) (B5.setNew (a := ⟨w1.heap.size, 2, none⟩) (by simp; omega) v) (hr5.set (a := ⟨w1.heap.size, 2, none⟩) (by simp; omega) v) (p := p) (by omega) hB.2 u0 u1 u2)
    clear hr2 hr5 B1 B5 ho ho5 hb5 hbD hav K2 B52 hn c4 cf q0 q1 q2 q3 q4 q5 q6
    have cf := cf'
    have c4 := c4'
    obtain ⟨q0, q1, q2, q3, q4, q5, q6⟩ := cf'
    go_wp2_with fail
    refine bodyPost_ret (v := .agg #[.int .i64 t1.kind, .int .i64 t1.val, .slice a5 n5 m5]) (by simp [results, Try.results43, go_sem, c4]) rfl ?_
    exact hf.out _ _ _ _
  have e2 : (i == 2) = false := by simpa using i2
  by_cases i3 : i = 3
  · subst i3
    have hf := hid (fun u0 u1 u2 => DrawPost.at (w := w) (K := 2) (M := nodes t + 1) (b := w.heap.size + 1) (leaf_new (w.heap.size + 1 + 1) w2 (k := 0) (v := 0) (by unfold i64; omega) (by unfold i64; omega)) (by omega) (by omega) (by have := nodes_pos t; simp only [nodes, nodesL]; omega) B1 hr2 (p := p) (by omega) hB.2 u0 u1 u2)
    clear hr2 B1 ho K2
    go_wp2_with fail
    refine bodyPost_ret (v := .agg #[.int .i64 0, .int .i64 0, .slice none 0 0]) (by simp [results, Try.results43, go_sem, c4]) rfl ?_
    exact hf.out _ _ _
  have e3 : (i == 3) = false := by simpa using i3
  have hn := (ho.keep K2).node hi1 hi2
  have hf := hid (fun u0 u1 u2 => DrawPost.at (w := w) (K := 2) (M := nodes t + 1) (b := w.heap.size + 1) hn (by omega) (by omega) (by rw [nodes_kids t1] at hm1; simp only [nodes]; omega) B1 hr2 (p := p) (by omega) hB.2 u0 u1 u2)
  clear hr2 B1 ho K2 hn
  go_wp2_with fail
  refine bodyPost_ret (v := .agg #[.int .i64 t1.kind, .int .i64 t1.val, .slice a2 n2 m2]) (by simp [results, Try.results43, go_sem, c4]) rfl ?_
  exact hf.out _ _ _

/-- what the law's argument comes to -/
def Drawn (w : World) (v : Value) (w' : World) : Prop := ∃ t, NewTr w.heap.size t v w' ∧ nodes t ≤ 32

end Expr
end Go.Proofs.Ytdmieedfddgmjaa
