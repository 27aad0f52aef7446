/- The reference's l3Take: an edge taken, in memory of one's own. Conditions: those of the contract. -/
import Derived.Test.YtffadknollkgiaazReadyV
import Derived.Test.YtffadknollkgiaaJS3
import Derived.Test.YtffadknollkgiaaJS2
set_option linter.unusedVariables false
set_option linter.unusedSimpArgs false
namespace Go.Proofs.Ytffadknollkgiaa
open Go.RowKit
set_option linter.unusedVariables false
set_option linter.unusedSimpArgs false

/-- a row of numbers at the start of a block that may be written -/
def RowI (w : World) (g : Nat) (l : List Int) : Prop := Row w g l.length (fun i => (l.map (Value.int .i64)).getD i undef)
theorem RowI.set {w : World} {g q : Nat} {l : List Int} (h : RowI w g l) (hq : q < l.length) (n : Int) : RowI (w.setCell ⟨g, q, none⟩ (.int .i64 n)) g (l.set q n) := by
  have h5 := Row.set h hq (.int .i64 n)
  unfold RowI
  simp only [List.length_set]
  refine h5.congr fun i hi => ?_
  show (if i = q then _ else (l.map (Value.int .i64)).getD i undef) = ((l.set q n).map (Value.int .i64)).getD i undef
  rw [List.getD_eq_getElem?_getD, List.getD_eq_getElem?_getD, List.getElem?_map, List.getElem?_map, List.getElem?_set]
  by_cases hiq : i = q
  · subst hiq; simp [hi]
  · rw [if_neg hiq, if_neg (Ne.symm hiq)]
theorem RowI.keep {w w' : World} {g : Nat} {l : List Int} (h : RowI w g l) (hs : w.heap.size ≤ w'.heap.size) (he : w'.heap[g]? = w.heap[g]?) : RowI w' g l := Row.kept h hs he
theorem RowI.next {w w' : World} {g : Nat} {l : List Int} (h : RowI w g l) (hb : Below w.heap.size w w') : RowI w' g l := Row.below h hb
theorem RowI.other {w : World} {g : Nat} {l : List Int} (h : RowI w g l) {a : Addr} (ha : g ≠ a.block) (v : Value) : RowI (w.setCell a v) g l := Row.setOther h ha v
theorem RowI.ints {p : Nat → Prop} {w : World} {g : Nat} {l : List Int} (h : RowI w g l) (hi : ∀ n, n ∈ l → i64 n) (hp : p g) : IntsIn p w (some ⟨g, 0, none⟩) l :=
  ⟨.inr ⟨g, 0, rfl, hp, h.1, fun i v hv => by
    rw [Nat.zero_add]
    have hlt : i < l.length := by have := (List.getElem?_eq_some_iff.1 hv).1; simpa using this
    rw [h.2.1 i hlt]
    show some ((l.map (Value.int .i64)).getD i undef) = _
    rw [List.getD_eq_getElem?_getD, hv]; rfl⟩, hi⟩
theorem RowI.at {w : World} {g q : Nat} {l : List Int} (h : RowI w g l) (hq : q < l.length) : ∃ v, w.cell? ⟨g, q, none⟩ = some v ∧ w.frozen? ⟨g, q, none⟩ = false := ⟨_, h.2.1 q hq, h.2.2 q⟩
theorem OwnI.rowI {B g n c : Nat} {l : List Int} {w : World} (h : OwnI B (.slice (some ⟨g, 0, none⟩) n c) l w) : RowI w g l := by
  rcases h.row with ⟨_, e⟩ | ⟨g', c', e, _, _, _, h4⟩
  · simp at e
  · simp at e
    obtain ⟨rfl, _, _⟩ := e
    exact h4
/-- the values behind an edge -/
def takeV (vs : List Int) (e : Ed) : List Int := if 0 ≤ e.var then vs.set e.var.toNat (evalT (Expr.gOf vs) e.val) else vs
theorem only_new {S : List Nat} {w W : World} (h : Only S w W) {a : Addr} (ha : w.heap.size ≤ a.block) (u : Value) : Only S w (W.setCell a u) :=
  ⟨h.os, h.tape, h.output, by simpa using h.size, fun b hb hn => by rw [Below.heap_setCell _ _ _ _ (by omega)]; exact h.block b hb hn⟩
def TakePost (g1 g2 c1 c2 : Nat) (ls vs : List Int) (w : World) (e : Ending) (w' : World) : Prop :=
  e = .returned (.agg #[.slice (some ⟨g1, 0, none⟩) ls.length c1, .slice (some ⟨g2, 0, none⟩) vs.length c2]) ∧ RowI w' g1 ls ∧ RowI w' g2 vs ∧ Only [g1, g2] w w'

set_option maxRecDepth 100000 in
set_option maxHeartbeats 4000000 in
theorem take_any (ls vs : List Int) (e : Ed) (pn : Nat) (w : World) (x : Value) (g1 g2 c1 c2 : Nat) (hne : g1 ≠ g2) (h1 : RowI w g1 ls) (h2 : RowI w g2 vs) (hc1 : ls.length ≤ c1 ∧ c1 ≤ maxLen) (hc2 : vs.length ≤ c2 ∧ c2 ≤ maxLen) (hp : pn < ls.length) (hl : ls.length ≤ 1000)
    (hv : Expr.okVals vs = true) (hvi : ∀ n, n ∈ vs → i64 n) (hvar : e.var ≤ 2) (hval : 0 ≤ e.var → exprL.shape e.val 6 = true) (hx : EdIn (fun b => b ≠ g1) w e x) :
    Calls Try.prog 97 #[.agg #[.slice (some ⟨g1, 0, none⟩) ls.length c1, .slice (some ⟨g2, 0, none⟩) vs.length c2], .int .i64 pn, x] w (TakePost g1 g2 c1 c2 (ls.set pn e.dst) (takeV vs e) w) := by
  obtain ⟨a1, n1, a2, n2, rfl, i1, i2, i3, i4, hg, ht⟩ := hx
  have hl1 := h1.1
  have hl2 := h2.1
  have h3 : vs.length = 3 := by rw [Expr.okVals, Bool.and_eq_true, decide_eq_true_eq] at hv; exact hv.2
  have hpi : (pn : Int) < (ls.length : Int) := by omega
  obtain ⟨v1, r1, r2⟩ := h1.at hp
  have HV := hid hv
  have HVI := hid hvi
  have HVAL := hid hval
  have H3 := hid h3
  clear h3
  have b0 : BoxP (((w.alloc (.cells #[.slice (some ⟨g1, 0, none⟩) ls.length c1, .slice (some ⟨g2, 0, none⟩) vs.length c2] 50)).alloc (.cells #[.int .i64 e.src, .int .i64 e.dst, .int .i64 e.guard.kind, .int .i64 e.guard.val, .slice a1 e.guard.kids.length n1, .int .i64 e.var, .int .i64 e.val.kind, .int .i64 e.val.val, .slice a2 e.val.kids.length n2, .int .i64 e.sync] 27)).alloc (.cells #[.slice none 0 0, .slice none 0 0] 50)) w.heap.size (.slice (some ⟨g1, 0, none⟩) ls.length c1) (.slice (some ⟨g2, 0, none⟩) vs.length c2) := boxp_next (below_alloc _ _) (boxp_next (below_alloc _ _) (boxp_at rfl))
  have b1 : Box10 (((w.alloc (.cells #[.slice (some ⟨g1, 0, none⟩) ls.length c1, .slice (some ⟨g2, 0, none⟩) vs.length c2] 50)).alloc (.cells #[.int .i64 e.src, .int .i64 e.dst, .int .i64 e.guard.kind, .int .i64 e.guard.val, .slice a1 e.guard.kids.length n1, .int .i64 e.var, .int .i64 e.val.kind, .int .i64 e.val.val, .slice a2 e.val.kids.length n2, .int .i64 e.sync] 27)).alloc (.cells #[.slice none 0 0, .slice none 0 0] 50)) (w.heap.size + 1) (.int .i64 e.src) (.int .i64 e.dst) (.int .i64 e.guard.kind) (.int .i64 e.guard.val) (.slice a1 e.guard.kids.length n1) (.int .i64 e.var) (.int .i64 e.val.kind) (.int .i64 e.val.val) (.slice a2 e.val.kids.length n2) (.int .i64 e.sync) := box10_next (below_alloc _ _) (box10_at (by simp) _ _ _ _ _ _ _ _ _ _ _)
  have b2 : BoxP (((w.alloc (.cells #[.slice (some ⟨g1, 0, none⟩) ls.length c1, .slice (some ⟨g2, 0, none⟩) vs.length c2] 50)).alloc (.cells #[.int .i64 e.src, .int .i64 e.dst, .int .i64 e.guard.kind, .int .i64 e.guard.val, .slice a1 e.guard.kids.length n1, .int .i64 e.var, .int .i64 e.val.kind, .int .i64 e.val.val, .slice a2 e.val.kids.length n2, .int .i64 e.sync] 27)).alloc (.cells #[.slice none 0 0, .slice none 0 0] 50)) (w.heap.size + 1 + 1) (.slice none 0 0) (.slice none 0 0) := boxp_at (by simp)
  have hA := below_next (below_next (below_alloc w (.cells #[.slice (some ⟨g1, 0, none⟩) ls.length c1, .slice (some ⟨g2, 0, none⟩) vs.length c2] 50)) (below_alloc _ (.cells #[.int .i64 e.src, .int .i64 e.dst, .int .i64 e.guard.kind, .int .i64 e.guard.val, .slice a1 e.guard.kids.length n1, .int .i64 e.var, .int .i64 e.val.kind, .int .i64 e.val.val, .slice a2 e.val.kids.length n2, .int .i64 e.sync] 27))) (below_alloc _ (.cells #[.slice none 0 0, .slice none 0 0] 50))
  go_enter Try.func97, Try.ntmps97
  go_upto_region 1 with fail
  refine wp_gen (fun W => BoxP W w.heap.size (.slice (some ⟨g1, 0, none⟩) ls.length c1) (.slice (some ⟨g2, 0, none⟩) vs.length c2) ∧ Box10 W (w.heap.size + 1) (.int .i64 e.src) (.int .i64 e.dst) (.int .i64 e.guard.kind) (.int .i64 e.guard.val) (.slice a1 e.guard.kids.length n1) (.int .i64 e.var) (.int .i64 e.val.kind) (.int .i64 e.val.val) (.slice a2 e.val.kids.length n2) (.int .i64 e.sync) ∧ BoxP W (w.heap.size + 1 + 1) (.slice none 0 0) (.slice none 0 0) ∧ Below w.heap.size w W) ⟨b0, b1, b2, hA⟩ ?_
  clear b0 b1 b2 hA
  rintro W0 ⟨b0, b1, b2, hA⟩
  have R1 := h1.next hA
  have R2 := h2.next hA
  have hT := TrIn_below hA ht
  clear r1 r2 hv hvi hval hg ht
  obtain ⟨v1, r1, r2⟩ := R1.at hp
  have X0 := hid (boxp_set b0 (p := ⟨g1, pn, none⟩) (show w.heap.size ≠ g1 by omega) (.int .i64 e.dst))
  have X1 := hid (box10_but (But.set W0 g1 pn (.int .i64 e.dst)) (show w.heap.size + 1 ≠ g1 by omega) b1)
  have X2 := hid (boxp_set b2 (p := ⟨g1, pn, none⟩) (show w.heap.size + 1 + 1 ≠ g1 by omega) (.int .i64 e.dst))
  have R1' := hid (R1.set hp e.dst)
  have R2' := hid (R2.other (a := ⟨g1, pn, none⟩) (Ne.symm hne) (.int .i64 e.dst))
  have hT' := hid ((TrIn_frame (q := fun b => b ≠ g1) (w' := W0.setCell ⟨g1, pn, none⟩ (.int .i64 e.dst)) fun b hb _ => ⟨hb, Below.heap_setCell _ _ _ _ hb⟩).1 _ _ hT)
  have O1 := hid ((Only.below (S := [g1, g2]) hA).set (a := ⟨g1, pn, none⟩) (by simp) (.int .i64 e.dst))
  obtain ⟨x0, x1, x2, x3, x4⟩ := b0
  obtain ⟨yl, ⟨y0, y1, y2, y3, y4, y5, y6, y7, y8, y9⟩, _⟩ := b1
  clear R1 R2 hT b2
  go_upto_region 2 with fail
  refine wp_gen (fun W => BoxP W w.heap.size (.slice (some ⟨g1, 0, none⟩) ls.length c1) (.slice (some ⟨g2, 0, none⟩) vs.length c2) ∧ Box10 W (w.heap.size + 1) (.int .i64 e.src) (.int .i64 e.dst) (.int .i64 e.guard.kind) (.int .i64 e.guard.val) (.slice a1 e.guard.kids.length n1) (.int .i64 e.var) (.int .i64 e.val.kind) (.int .i64 e.val.val) (.slice a2 e.val.kids.length n2) (.int .i64 e.sync) ∧ BoxP W (w.heap.size + 1 + 1) (.slice none 0 0) (.slice none 0 0) ∧ RowI W g1 (ls.set pn e.dst) ∧ RowI W g2 vs ∧ TrIn (fun b => b ≠ g1) W e.val (.agg #[.int .i64 e.val.kind, .int .i64 e.val.val, .slice a2 e.val.kids.length n2]) ∧ Only [g1, g2] w W) ⟨X0.out, X1.out, X2.out, R1'.out, R2'.out, hT'.out, O1.out⟩ ?_
  clear X0 X1 X2 R1' R2' hT' O1 r1 r2 x0 x1 x2 x3 x4 yl y0 y1 y2 y3 y4 y5 y6 y7 y8 y9 hA
  rintro W1 ⟨b0, b1, b2, R1, R2, hT, O1⟩
  have X0 := hid b0
  have X1 := hid b1
  have X2 := hid b2
  have HR1 := hid R1
  have HR2 := hid R2
  have HT := hid hT
  have HO := hid O1
  obtain ⟨x0, x1, x2, x3, x4⟩ := b0
  obtain ⟨yl, ⟨y0, y1, y2, y3, y4, y5, y6, y7, y8, y9⟩, _⟩ := b1
  obtain ⟨z0, z1, z2, z3, z4⟩ := id b2
  clear R1 hT O1 b2
  have hls : (ls.set pn e.dst).length = ls.length := List.length_set
  have HLS := hid hls
  clear hls
  by_cases hvr : 0 ≤ e.var
  · obtain ⟨vn, hvn⟩ := Int.eq_ofNat_of_zero_le hvr
    have HTV := hid (show takeV vs e = vs.set vn (evalT (Expr.gOf vs) e.val) by rw [takeV, if_pos hvr, hvn, Int.toNat_natCast])
    have hvv : vn < vs.length := by have := H3.out; omega
    have hvv2 : (vn : Int) < (vs.length : Int) := by omega
    rw [hvn] at y5
    obtain ⟨v2, q1, q2⟩ := R2.at hvv
    have HEV := hid (fun (W : World) (M : Below W1.heap.size W1 W) => by
      have h := Expr.sv_any e.val 6 W (.agg #[.int .i64 e.val.kind, .int .i64 e.val.val, .slice a2 e.val.kids.length n2]) (some ⟨g2, 0, none⟩) vs c2 (HVAL.out hvr) (TrIn_below M ((TrIn_frame (q := Any) fun b _ _ => ⟨trivial, rfl⟩).1 _ _ HT.out)) ((Expr.okVals_vals HV.out (HR2.out.ints HVI.out trivial)).below M) (by have := H3.out; omega) hc2.2
      rw [← H3.out] at h
      exact h)
    clear hvn hvr R2 HV HVI HVAL q1 q2
    generalize evalT (Expr.gOf vs) e.val = r at *
    go_wp2_with fail
    refine wp_region_ord (C := fun wZ => ∃ xZ, wZ = World.over _ xZ) [0,1,2,3,4,5,6,7] (.one 8 (.fre 9 (.fre 10 .done))) [9,10] (by kernel_rfl) (by kernel_rfl) (fun d _ _ _ _ h => by cases d <;> exact h) (bex (Below.refl _ _).drew) ?_; simp only [pick, List.getElem?_cons_succ, List.getElem?_cons_zero]; (repeat (go_big_quiet_step (fail))); refine wpQuiet_nil ?_; simp only [ordW, pick, List.getElem?_cons_succ, List.getElem?_cons_zero]
    have hd := below_d (Below.refl W1.heap.size W1)
    go_wp2_with fail
    refine (HEV.out _ hd).mono ?_
    rintro y W2 ⟨rfl, hb⟩
    have B2 := hid (below_next hd hb)
    have T0 := boxp_next B2.out X0.out
    have T2 := boxp_next B2.out X2.out
    have gl : g2 < W1.heap.size := HR2.out.1
    have U1 := (HR1.out.next B2.out).other (a := ⟨g2, vn, none⟩) hne (.int .i64 r)
    have U2 := (HR2.out.next B2.out).set hvv r
    have UO := (HO.out.trans (Only.below B2.out)).set (a := ⟨g2, vn, none⟩) (by simp) (.int .i64 r)
    obtain ⟨v3, q1, q2⟩ := (HR2.out.next B2.out).at hvv
    have F1 := hid ((U1.other (a := ⟨w.heap.size + 1 + 1, 0, none⟩) (show g1 ≠ w.heap.size + 1 + 1 by omega) (.slice (some ⟨g1, 0, none⟩) ls.length c1)).other (a := ⟨w.heap.size + 1 + 1, 1, none⟩) (show g1 ≠ w.heap.size + 1 + 1 by omega) (.slice (some ⟨g2, 0, none⟩) vs.length c2))
    have F2 := hid ((U2.other (a := ⟨w.heap.size + 1 + 1, 0, none⟩) (show g2 ≠ w.heap.size + 1 + 1 by omega) (.slice (some ⟨g1, 0, none⟩) ls.length c1)).other (a := ⟨w.heap.size + 1 + 1, 1, none⟩) (show g2 ≠ w.heap.size + 1 + 1 by omega) (.slice (some ⟨g2, 0, none⟩) vs.length c2))
    have FO := hid (only_new (only_new UO (a := ⟨w.heap.size + 1 + 1, 0, none⟩) (show w.heap.size ≤ w.heap.size + 1 + 1 by omega) (.slice (some ⟨g1, 0, none⟩) ls.length c1)) (a := ⟨w.heap.size + 1 + 1, 1, none⟩) (show w.heap.size ≤ w.heap.size + 1 + 1 by omega) (.slice (some ⟨g2, 0, none⟩) vs.length c2))
    have TT := hid (boxp_set1 (boxp_set0 (boxp_set T2 (p := ⟨g2, vn, none⟩) (show w.heap.size + 1 + 1 ≠ g2 by omega) (.int .i64 r)) (.slice (some ⟨g1, 0, none⟩) ls.length c1)) (.slice (some ⟨g2, 0, none⟩) vs.length c2))
    clear hb hd U1 U2 UO HR1 HR2 HT HO X0 X1 X2 x0 x1 x2 x3 x4 yl y0 y1 y2 y3 y4 y5 y6 y7 y8 y9 z0 z1 z2 z3 z4
    obtain ⟨x0, x1, x2, x3, x4⟩ := T0
    obtain ⟨z0, z1, z2, z3, z4⟩ := T2
    go_wp2_with fail
    refine ⟨bex B2.out, ?_⟩
    go_wp2_with fail
    obtain ⟨_, t0, t1, _, _⟩ := TT.out
    refine bodyPost_ret (v := .agg #[.slice (some ⟨g1, 0, none⟩) ls.length c1, .slice (some ⟨g2, 0, none⟩) vs.length c2]) (by simp [results, Try.results97, go_sem, t0, t1]) rfl ?_
    refine ⟨by rw [HLS.out, HTV.out, List.length_set], F1.out, by rw [HTV.out]; exact F2.out, FO.out⟩
  · have HTV := hid (show takeV vs e = vs by rw [takeV, if_neg hvr])
    have F1 := hid ((HR1.out.other (a := ⟨w.heap.size + 1 + 1, 0, none⟩) (show g1 ≠ w.heap.size + 1 + 1 by omega) (.slice (some ⟨g1, 0, none⟩) ls.length c1)).other (a := ⟨w.heap.size + 1 + 1, 1, none⟩) (show g1 ≠ w.heap.size + 1 + 1 by omega) (.slice (some ⟨g2, 0, none⟩) vs.length c2))
    have F2 := hid ((HR2.out.other (a := ⟨w.heap.size + 1 + 1, 0, none⟩) (show g2 ≠ w.heap.size + 1 + 1 by omega) (.slice (some ⟨g1, 0, none⟩) ls.length c1)).other (a := ⟨w.heap.size + 1 + 1, 1, none⟩) (show g2 ≠ w.heap.size + 1 + 1 by omega) (.slice (some ⟨g2, 0, none⟩) vs.length c2))
    have FO := hid (only_new (only_new HO.out (a := ⟨w.heap.size + 1 + 1, 0, none⟩) (show w.heap.size ≤ w.heap.size + 1 + 1 by omega) (.slice (some ⟨g1, 0, none⟩) ls.length c1)) (a := ⟨w.heap.size + 1 + 1, 1, none⟩) (show w.heap.size ≤ w.heap.size + 1 + 1 by omega) (.slice (some ⟨g2, 0, none⟩) vs.length c2))
    have TT := hid (boxp_set1 (boxp_set0 X2.out (.slice (some ⟨g1, 0, none⟩) ls.length c1)) (.slice (some ⟨g2, 0, none⟩) vs.length c2))
    clear HR1 HR2 HT HO X0 X1 X2 R2 HV HVI HVAL
    go_wp2_with fail
    obtain ⟨_, t0, t1, _, _⟩ := TT.out
    refine bodyPost_ret (v := .agg #[.slice (some ⟨g1, 0, none⟩) ls.length c1, .slice (some ⟨g2, 0, none⟩) vs.length c2]) (by simp [results, Try.results97, go_sem, t0, t1]) rfl ?_
    refine ⟨by rw [HLS.out, HTV.out], F1.out, by rw [HTV.out]; exact F2.out, FO.out⟩
end Go.Proofs.Ytffadknollkgiaa
