/- Joined texts (TakeV, Draw, RowOne): contracts and plain laws. Conditions: those of each theorem. -/
import Derived.Test.YtdmieedfddgmjaaJE5
import Derived.Test.YtdmieedfddgmjaaJE6
import Derived.Test.YtdmieedfddgmjaaRows
import Derived.Test.YtdmieedfddgmjaaJE0
import Derived.Test.YtdmieedfddgmjaaJE1
import Derived.WalkSpells
import Derived.WalkLawsBesides
set_option linter.unusedVariables false
set_option linter.unusedSimpArgs false
namespace Go.Proofs.Ytdmieedfddgmjaa
open Go.RowKit
set_option linter.unusedVariables false
set_option linter.unusedSimpArgs false

/-- a row of numbers at the start of a block that may be written -/
def RowI (w : World) (g : Nat) (l : List Int) : Prop := Row w g l.length (fun i => (l.map (Value.int .i64)).getD i undef)
theorem RowI.set {w : World} {g q : Nat} {l : List Int} (h : RowI w g l) (hq : q < l.length) (n : Int) : RowI (w.setCell ⟨g, q, none⟩ (.int .i64 n)) g (l.set q n) := by
  have h5 := Row.set h hq (.int .i64 n)
  unfold RowI
  simp only [List.length_set]
  refine h5.congr fun i hi => ?_
  show (if i = q then _ else (l.map (Value.int .i64)).getD i undef) = ((l.set q n).map (Value.int .i64)).getD i undef
  rw [List.getD_eq_getElem?_getD, List.getD_eq_getElem?_getD, List.getElem?_map, List.getElem?_map, List.getElem?_set]
  by_cases hiq : i = q
  · subst hiq; simp [hi]
  · rw [if_neg hiq, if_neg (Ne.symm hiq)]
theorem RowI.keep {w w' : World} {g : Nat} {l : List Int} (h : RowI w g l) (hs : w.heap.size ≤ w'.heap.size) (he : w'.heap[g]? = w.heap[g]?) : RowI w' g l := Row.kept h hs he
theorem RowI.next {w w' : World} {g : Nat} {l : List Int} (h : RowI w g l) (hb : Below w.heap.size w w') : RowI w' g l := Row.below h hb
theorem RowI.other {w : World} {g : Nat} {l : List Int} (h : RowI w g l) {a : Addr} (ha : g ≠ a.block) (v : Value) : RowI (w.setCell a v) g l := Row.setOther h ha v
theorem RowI.ints {p : Nat → Prop} {w : World} {g : Nat} {l : List Int} (h : RowI w g l) (hi : ∀ n, n ∈ l → i64 n) (hp : p g) : IntsIn p w (some ⟨g, 0, none⟩) l :=
  ⟨.inr ⟨g, 0, rfl, hp, h.1, fun i v hv => by
    rw [Nat.zero_add]
    have hlt : i < l.length := by have := (List.getElem?_eq_some_iff.1 hv).1; simpa using this
    rw [h.2.1 i hlt]
    show some ((l.map (Value.int .i64)).getD i undef) = _
    rw [List.getD_eq_getElem?_getD, hv]; rfl⟩, hi⟩
theorem RowI.at {w : World} {g q : Nat} {l : List Int} (h : RowI w g l) (hq : q < l.length) : ∃ v, w.cell? ⟨g, q, none⟩ = some v ∧ w.frozen? ⟨g, q, none⟩ = false := ⟨_, h.2.1 q hq, h.2.2 q⟩
theorem OwnI.rowI {B g n c : Nat} {l : List Int} {w : World} (h : OwnI B (.slice (some ⟨g, 0, none⟩) n c) l w) : RowI w g l := by
  rcases h.row with ⟨_, e⟩ | ⟨g', c', e, _, _, _, h4⟩
  · simp at e
  · simp at e
    obtain ⟨rfl, _, _⟩ := e
    exact h4
/-- the values behind an edge -/
def takeV (vs : List Int) (e : Ed) : List Int := if 0 ≤ e.var then vs.set e.var.toNat (evalT (Expr.gOf vs) e.val) else vs
theorem only_new {S : List Nat} {w W : World} (h : Only S w W) {a : Addr} (ha : w.heap.size ≤ a.block) (u : Value) : Only S w (W.setCell a u) :=
  ⟨h.os, h.tape, h.output, by simpa using h.size, fun b hb hn => by rw [Below.heap_setCell _ _ _ _ (by omega)]; exact h.block b hb hn⟩
def TakePost (g1 g2 c1 c2 : Nat) (ls vs : List Int) (w : World) (e : Ending) (w' : World) : Prop :=
  e = .returned (.agg #[.slice (some ⟨g1, 0, none⟩) ls.length c1, .slice (some ⟨g2, 0, none⟩) vs.length c2]) ∧ RowI w' g1 ls ∧ RowI w' g2 vs ∧ Only [g1, g2] w w'

set_option maxRecDepth 100000 in
set_option maxHeartbeats 4000000 in
theorem take_any (ls vs : List Int) (e : Ed) (pn : Nat) (w : World) (x : Value) (g1 g2 c1 c2 : Nat) (hne : g1 ≠ g2) (h1 : RowI w g1 ls) (h2 : RowI w g2 vs) (hc1 : ls.length ≤ c1 ∧ c1 ≤ maxLen) (hc2 : vs.length ≤ c2 ∧ c2 ≤ maxLen) (hp : pn < ls.length) (hl : ls.length ≤ 1000)
    (hv : Expr.okVals vs = true) (hvi : ∀ n, n ∈ vs → i64 n) (hvar : e.var ≤ 2) (hval : 0 ≤ e.var → exprL.shape e.val 6 = true) (hx : EdIn (fun b => b ≠ g1) w e x) :
    Calls Try.prog 60 #[.agg #[.slice (some ⟨g1, 0, none⟩) ls.length c1, .slice (some ⟨g2, 0, none⟩) vs.length c2], .int .i64 pn, x] w (TakePost g1 g2 c1 c2 (ls.set pn e.dst) (takeV vs e) w) := by
  obtain ⟨a1, n1, a2, n2, rfl, i1, i2, i3, i4, hg, ht⟩ := hx
  have hl1 := h1.1
  have hl2 := h2.1
  have h3 : vs.length = 3 := by rw [Expr.okVals, Bool.and_eq_true, decide_eq_true_eq] at hv; exact hv.2
  have hpi : (pn : Int) < (ls.length : Int) := by omega
  obtain ⟨v1, r1, r2⟩ := h1.at hp
  have HV := hid hv
  have HVI := hid hvi
  have HVAL := hid hval
  have H3 := hid h3
  clear h3
  have b0 : BoxP (((w.alloc (.cells #[.slice (some ⟨g1, 0, none⟩) ls.length c1, .slice (some ⟨g2, 0, none⟩) vs.length c2] 30)).alloc (.cells #[.int .i64 e.src, .int .i64 e.dst, .int .i64 e.guard.kind, .int .i64 e.guard.val, .slice a1 e.guard.kids.length n1, .int .i64 e.var, .int .i64 e.val.kind, .int .i64 e.val.val, .slice a2 e.val.kids.length n2, .int .i64 e.sync] 89)).alloc (.cells #[.slice none 0 0, .slice none 0 0] 30)) w.heap.size (.slice (some ⟨g1, 0, none⟩) ls.length c1) (.slice (some ⟨g2, 0, none⟩) vs.length c2) := boxp_next (below_alloc _ _) (boxp_next (below_alloc _ _) (boxp_at rfl))
  have b1 : Box10 (((w.alloc (.cells #[.slice (some ⟨g1, 0, none⟩) ls.length c1, .slice (some ⟨g2, 0, none⟩) vs.length c2] 30)).alloc (.cells #[.int .i64 e.src, .int .i64 e.dst, .int .i64 e.guard.kind, .int .i64 e.guard.val, .slice a1 e.guard.kids.length n1, .int .i64 e.var, .int .i64 e.val.kind, .int .i64 e.val.val, .slice a2 e.val.kids.length n2, .int .i64 e.sync] 89)).alloc (.cells #[.slice none 0 0, .slice none 0 0] 30)) (w.heap.size + 1) (.int .i64 e.src) (.int .i64 e.dst) (.int .i64 e.guard.kind) (.int .i64 e.guard.val) (.slice a1 e.guard.kids.length n1) (.int .i64 e.var) (.int .i64 e.val.kind) (.int .i64 e.val.val) (.slice a2 e.val.kids.length n2) (.int .i64 e.sync) := box10_next (below_alloc _ _) (box10_at (by simp) _ _ _ _ _ _ _ _ _ _ _)
  have b2 : BoxP (((w.alloc (.cells #[.slice (some ⟨g1, 0, none⟩) ls.length c1, .slice (some ⟨g2, 0, none⟩) vs.length c2] 30)).alloc (.cells #[.int .i64 e.src, .int .i64 e.dst, .int .i64 e.guard.kind, .int .i64 e.guard.val, .slice a1 e.guard.kids.length n1, .int .i64 e.var, .int .i64 e.val.kind, .int .i64 e.val.val, .slice a2 e.val.kids.length n2, .int .i64 e.sync] 89)).alloc (.cells #[.slice none 0 0, .slice none 0 0] 30)) (w.heap.size + 1 + 1) (.slice none 0 0) (.slice none 0 0) := boxp_at (by simp)
  have hA := below_next (below_next (below_alloc w (.cells #[.slice (some ⟨g1, 0, none⟩) ls.length c1, .slice (some ⟨g2, 0, none⟩) vs.length c2] 30)) (below_alloc _ (.cells #[.int .i64 e.src, .int .i64 e.dst, .int .i64 e.guard.kind, .int .i64 e.guard.val, .slice a1 e.guard.kids.length n1, .int .i64 e.var, .int .i64 e.val.kind, .int .i64 e.val.val, .slice a2 e.val.kids.length n2, .int .i64 e.sync] 89))) (below_alloc _ (.cells #[.slice none 0 0, .slice none 0 0] 30))
  go_enter Try.func60, Try.ntmps60
  go_upto_region 1 with fail
  refine wp_gen (fun W => BoxP W w.heap.size (.slice (some ⟨g1, 0, none⟩) ls.length c1) (.slice (some ⟨g2, 0, none⟩) vs.length c2) ∧ Box10 W (w.heap.size + 1) (.int .i64 e.src) (.int .i64 e.dst) (.int .i64 e.guard.kind) (.int .i64 e.guard.val) (.slice a1 e.guard.kids.length n1) (.int .i64 e.var) (.int .i64 e.val.kind) (.int .i64 e.val.val) (.slice a2 e.val.kids.length n2) (.int .i64 e.sync) ∧ BoxP W (w.heap.size + 1 + 1) (.slice none 0 0) (.slice none 0 0) ∧ Below w.heap.size w W) ⟨b0, b1, b2, hA⟩ ?_
  clear b0 b1 b2 hA
  rintro W0 ⟨b0, b1, b2, hA⟩
  have R1 := h1.next hA
  have R2 := h2.next hA
  have hT := TrIn_below hA ht
  clear r1 r2 hv hvi hval hg ht
  obtain ⟨v1, r1, r2⟩ := R1.at hp
  have X0 := hid (boxp_set b0 (p := ⟨g1, pn, none⟩) (show w.heap.size ≠ g1 by omega) (.int .i64 e.dst))
  have X1 := hid (box10_but (But.set W0 g1 pn (.int .i64 e.dst)) (show w.heap.size + 1 ≠ g1 by omega) b1)
  have X2 := hid (boxp_set b2 (p := ⟨g1, pn, none⟩) (show w.heap.size + 1 + 1 ≠ g1 by omega) (.int .i64 e.dst))
  have R1' := hid (R1.set hp e.dst)
  have R2' := hid (R2.other (a := ⟨g1, pn, none⟩) (Ne.symm hne) (.int .i64 e.dst))
  have hT' := hid ((TrIn_frame (q := fun b => b ≠ g1) (w' := W0.setCell ⟨g1, pn, none⟩ (.int .i64 e.dst)) fun b hb _ => ⟨hb, Below.heap_setCell _ _ _ _ hb⟩).1 _ _ hT)
  have O1 := hid ((Only.below (S := [g1, g2]) hA).set (a := ⟨g1, pn, none⟩) (by simp) (.int .i64 e.dst))
  obtain ⟨x0, x1, x2, x3, x4⟩ := b0
  obtain ⟨yl, ⟨y0, y1, y2, y3, y4, y5, y6, y7, y8, y9⟩, _⟩ := b1
  clear R1 R2 hT b2
  go_upto_region 2 with fail
  refine wp_gen (fun W => BoxP W w.heap.size (.slice (some ⟨g1, 0, none⟩) ls.length c1) (.slice (some ⟨g2, 0, none⟩) vs.length c2) ∧ Box10 W (w.heap.size + 1) (.int .i64 e.src) (.int .i64 e.dst) (.int .i64 e.guard.kind) (.int .i64 e.guard.val) (.slice a1 e.guard.kids.length n1) (.int .i64 e.var) (.int .i64 e.val.kind) (.int .i64 e.val.val) (.slice a2 e.val.kids.length n2) (.int .i64 e.sync) ∧ BoxP W (w.heap.size + 1 + 1) (.slice none 0 0) (.slice none 0 0) ∧ RowI W g1 (ls.set pn e.dst) ∧ RowI W g2 vs ∧ TrIn (fun b => b ≠ g1) W e.val (.agg #[.int .i64 e.val.kind, .int .i64 e.val.val, .slice a2 e.val.kids.length n2]) ∧ Only [g1, g2] w W) ⟨X0.out, X1.out, X2.out, R1'.out, R2'.out, hT'.out, O1.out⟩ ?_
  clear X0 X1 X2 R1' R2' hT' O1 r1 r2 x0 x1 x2 x3 x4 yl y0 y1 y2 y3 y4 y5 y6 y7 y8 y9 hA
  rintro W1 ⟨b0, b1, b2, R1, R2, hT, O1⟩
  have X0 := hid b0
  have X1 := hid b1
  have X2 := hid b2
  have HR1 := hid R1
  have HR2 := hid R2
  have HT := hid hT
  have HO := hid O1
  obtain ⟨x0, x1, x2, x3, x4⟩ := b0
  obtain ⟨yl, ⟨y0, y1, y2, y3, y4, y5, y6, y7, y8, y9⟩, _⟩ := b1
  obtain ⟨z0, z1, z2, z3, z4⟩ := id b2
  clear R1 hT O1 b2
  have hls : (ls.set pn e.dst).length = ls.length := List.length_set
  have HLS := hid hls
  clear hls
  by_cases hvr : 0 ≤ e.var
  · obtain ⟨vn, hvn⟩ := Int.eq_ofNat_of_zero_le hvr
    have HTV := hid (show takeV vs e = vs.set vn (evalT (Expr.gOf vs) e.val) by rw [takeV, if_pos hvr, hvn, Int.toNat_natCast])
    have hvv : vn < vs.length := by have := H3.out; omega
    have hvv2 : (vn : Int) < (vs.length : Int) := by omega
    rw [hvn] at y5
    obtain ⟨v2, q1, q2⟩ := R2.at hvv
    have HEV := hid (fun (W : World) (M : Below W1.heap.size W1 W) => by
      have h := Expr.sv_any e.val 6 W (.agg #[.int .i64 e.val.kind, .int .i64 e.val.val, .slice a2 e.val.kids.length n2]) (some ⟨g2, 0, none⟩) vs c2 (HVAL.out hvr) (TrIn_below M ((TrIn_frame (q := Any) fun b _ _ => ⟨trivial, rfl⟩).1 _ _ HT.out)) ((Expr.okVals_vals HV.out (HR2.out.ints HVI.out trivial)).below M) (by have := H3.out; omega) hc2.2
      rw [← H3.out] at h
      exact h)
    clear hvn hvr R2 HV HVI HVAL q1 q2
    generalize evalT (Expr.gOf vs) e.val = r at *
    go_wp2_with fail
    refine wp_region_ord (C := fun wZ => ∃ xZ, wZ = World.over _ xZ) [0,1,2,3,4,5,6,7] (.one 8 (.fre 9 (.fre 10 .done))) [9,10] (by kernel_rfl) (by kernel_rfl) (fun d _ _ _ _ h => by cases d <;> exact h) (bex (Below.refl _ _).drew) ?_; simp only [pick, List.getElem?_cons_succ, List.getElem?_cons_zero]; (repeat (go_big_quiet_step (fail))); refine wpQuiet_nil ?_; simp only [ordW, pick, List.getElem?_cons_succ, List.getElem?_cons_zero]
    have hd := below_d (Below.refl W1.heap.size W1)
    go_wp2_with fail
    refine (HEV.out _ hd).mono ?_
    rintro y W2 ⟨rfl, hb⟩
    have B2 := hid (below_next hd hb)
    have T0 := boxp_next B2.out X0.out
    have T2 := boxp_next B2.out X2.out
    have gl : g2 < W1.heap.size := HR2.out.1
    have U1 := (HR1.out.next B2.out).other (a := ⟨g2, vn, none⟩) hne (.int .i64 r)
    have U2 := (HR2.out.next B2.out).set hvv r
    have UO := (HO.out.trans (Only.below B2.out)).set (a := ⟨g2, vn, none⟩) (by simp) (.int .i64 r)
    obtain ⟨v3, q1, q2⟩ := (HR2.out.next B2.out).at hvv
    have F1 := hid ((U1.other (a := ⟨w.heap.size + 1 + 1, 0, none⟩) (show g1 ≠ w.heap.size + 1 + 1 by omega) (.slice (some ⟨g1, 0, none⟩) ls.length c1)).other (a := ⟨w.heap.size + 1 + 1, 1, none⟩) (show g1 ≠ w.heap.size + 1 + 1 by omega) (.slice (some ⟨g2, 0, none⟩) vs.length c2))
    have F2 := hid ((U2.other (a := ⟨w.heap.size + 1 + 1, 0, none⟩) (show g2 ≠ w.heap.size + 1 + 1 by omega) (.slice (some ⟨g1, 0, none⟩) ls.length c1)).other (a := ⟨w.heap.size + 1 + 1, 1, none⟩) (show g2 ≠ w.heap.size + 1 + 1 by omega) (.slice (some ⟨g2, 0, none⟩) vs.length c2))
    have FO := hid (only_new (only_new UO (a := ⟨w.heap.size + 1 + 1, 0, none⟩) (show w.heap.size ≤ w.heap.size + 1 + 1 by omega) (.slice (some ⟨g1, 0, none⟩) ls.length c1)) (a := ⟨w.heap.size + 1 + 1, 1, none⟩) (show w.heap.size ≤ w.heap.size + 1 + 1 by omega) (.slice (some ⟨g2, 0, none⟩) vs.length c2))
    have TT := hid (boxp_set1 (boxp_set0 (boxp_set T2 (p := ⟨g2, vn, none⟩) (show w.heap.size + 1 + 1 ≠ g2 by omega) (.int .i64 r)) (.slice (some ⟨g1, 0, none⟩) ls.length c1)) (.slice (some ⟨g2, 0, none⟩) vs.length c2))
    clear hb hd U1 U2 UO HR1 HR2 HT HO X0 X1 X2 x0 x1 x2 x3 x4 yl y0 y1 y2 y3 y4 y5 y6 y7 y8 y9 z0 z1 z2 z3 z4
    obtain ⟨x0, x1, x2, x3, x4⟩ := T0
    obtain ⟨z0, z1, z2, z3, z4⟩ := T2
    go_wp2_with fail
    refine ⟨bex B2.out, ?_⟩
    go_wp2_with fail
    obtain ⟨_, t0, t1, _, _⟩ := TT.out
    refine bodyPost_ret (v := .agg #[.slice (some ⟨g1, 0, none⟩) ls.length c1, .slice (some ⟨g2, 0, none⟩) vs.length c2]) (by simp [results, Try.results60, go_sem, t0, t1]) rfl ?_
    refine ⟨by rw [HLS.out, HTV.out, List.length_set], F1.out, by rw [HTV.out]; exact F2.out, FO.out⟩
  · have HTV := hid (show takeV vs e = vs by rw [takeV, if_neg hvr])
    have F1 := hid ((HR1.out.other (a := ⟨w.heap.size + 1 + 1, 0, none⟩) (show g1 ≠ w.heap.size + 1 + 1 by omega) (.slice (some ⟨g1, 0, none⟩) ls.length c1)).other (a := ⟨w.heap.size + 1 + 1, 1, none⟩) (show g1 ≠ w.heap.size + 1 + 1 by omega) (.slice (some ⟨g2, 0, none⟩) vs.length c2))
    have F2 := hid ((HR2.out.other (a := ⟨w.heap.size + 1 + 1, 0, none⟩) (show g2 ≠ w.heap.size + 1 + 1 by omega) (.slice (some ⟨g1, 0, none⟩) ls.length c1)).other (a := ⟨w.heap.size + 1 + 1, 1, none⟩) (show g2 ≠ w.heap.size + 1 + 1 by omega) (.slice (some ⟨g2, 0, none⟩) vs.length c2))
    have FO := hid (only_new (only_new HO.out (a := ⟨w.heap.size + 1 + 1, 0, none⟩) (show w.heap.size ≤ w.heap.size + 1 + 1 by omega) (.slice (some ⟨g1, 0, none⟩) ls.length c1)) (a := ⟨w.heap.size + 1 + 1, 1, none⟩) (show w.heap.size ≤ w.heap.size + 1 + 1 by omega) (.slice (some ⟨g2, 0, none⟩) vs.length c2))
    have TT := hid (boxp_set1 (boxp_set0 X2.out (.slice (some ⟨g1, 0, none⟩) ls.length c1)) (.slice (some ⟨g2, 0, none⟩) vs.length c2))
    clear HR1 HR2 HT HO X0 X1 X2 R2 HV HVI HVAL
    go_wp2_with fail
    obtain ⟨_, t0, t1, _, _⟩ := TT.out
    refine bodyPost_ret (v := .agg #[.slice (some ⟨g1, 0, none⟩) ls.length c1, .slice (some ⟨g2, 0, none⟩) vs.length c2]) (by simp [results, Try.results60, go_sem, t0, t1]) rfl ?_
    refine ⟨by rw [HLS.out, HTV.out], F1.out, by rw [HTV.out]; exact F2.out, FO.out⟩
end Go.Proofs.Ytdmieedfddgmjaa
namespace Go.Proofs.Ytdmieedfddgmjaa
open Go.RowKit

/-- the bytes of a slice, in a block below B -/
def BytesIn (B D : Nat) (w : World) (a : Option Addr) (len : Nat) : Prop := len = 0 ∨ ∃ (b o : Nat) (f : Nat → Int), a = some ⟨b, o, none⟩ ∧ b < B ∧ b ≠ D ∧ ∀ i, i < len → w.cell? ⟨b, o + i, none⟩ = some (.int .u8 (f i)) ∧ 0 ≤ f i ∧ f i ≤ 255
theorem BytesIn.butx {B D : Nat} {w w' : World} (h : ButX B D w w') {a : Option Addr} {len : Nat} (hb : BytesIn B D w a len) : BytesIn B D w' a len := by
  rcases hb with hb | ⟨b, o, f, rfl, hl, hd, hf⟩
  · exact .inl hb
  · exact .inr ⟨b, o, f, rfl, hl, hd, fun i hi => ⟨by rw [h.cell hl hd]; exact (hf i hi).1, (hf i hi).2⟩⟩

/-- block R is a random source that has been asked p times; it lies in blocks below B -/
def Rd (B : Nat) (w : World) (R : Nat) (p : Nat) : Prop := ∃ a len cap, len ≤ 2000 ∧ len ≤ cap ∧ cap ≤ maxLen ∧ (R < B ∧ B ≤ w.heap.size) ∧ w.cell? ⟨R, 0, none⟩ = some (.slice a len cap) ∧ w.cell? ⟨R, 1, none⟩ = some (.int .i64 p) ∧
  w.frozen? ⟨R, 0, none⟩ = false ∧ w.frozen? ⟨R, 1, none⟩ = false ∧ BytesIn B R w a len

theorem Rd.keep {B : Nat} {w w' : World} {R p : Nat} (hr : Rd B w R p) (hs : w.heap.size ≤ w'.heap.size) (h : ∀ b, b < B → w'.heap[b]? = w.heap[b]?) : Rd B w' R p := by
  obtain ⟨a, len, cap, h1, h2, h3, h4, h5, h6, h7, h8, h9⟩ := hr
  have hR := h R h4.1
  refine ⟨a, len, cap, h1, h2, h3, ⟨h4.1, by omega⟩, by rw [World.cell?_of_block (w := w) (a := ⟨R, 0, none⟩) hR]; exact h5, by rw [World.cell?_of_block (w := w) (a := ⟨R, 1, none⟩) hR]; exact h6, by rw [World.frozen?_of_block (w := w) (a := ⟨R, 0, none⟩) hR]; exact h7,
    by rw [World.frozen?_of_block (w := w) (a := ⟨R, 1, none⟩) hR]; exact h8, ?_⟩
  rcases h9 with h9 | ⟨b, o, f, rfl, hl, hd, hf⟩
  · exact .inl h9
  · exact .inr ⟨b, o, f, rfl, hl, hd, fun i hi => ⟨by rw [World.cell?_of_block (w := w) (a := ⟨b, o + i, none⟩) (h b hl)]; exact (hf i hi).1, (hf i hi).2⟩⟩
theorem Rd.lt {B : Nat} {w : World} {R p : Nat} (hr : Rd B w R p) : R < B ∧ B ≤ w.heap.size := by
  obtain ⟨a, len, cap, h1, h2, h3, h4, _⟩ := hr; exact h4
theorem Rd.next {B : Nat} {w w' : World} {R p : Nat} (h : Below w.heap.size w w') (hr : Rd B w R p) : Rd B w' R p := hr.keep h.size fun b hb => h.block b (Nat.lt_of_lt_of_le hb hr.lt.2)
theorem Rd.grown {B : Nat} {w w' : World} {R p : Nat} {row : Option Nat} (hr : Rd B w R p) (hg : w.grownBy w' row) (h : ∀ k, row = some k → B ≤ k) : Rd B w' R p :=
  hr.keep hg.size fun b hb => hg.block b (Nat.lt_of_lt_of_le hb hr.lt.2) (fun e => by have := h b e.symm; omega)
theorem Rd.set {B : Nat} {w : World} {R p : Nat} (hr : Rd B w R p) {a : Addr} (ha : B ≤ a.block) (v : Value) : Rd B (w.setCell a v) R p :=
  hr.keep (by simp) fun b hb => Below.heap_setCell _ _ _ _ (by omega)

/-- of two small numbers that are not negative, the exclusive or is none either -/
theorem xor_nonneg {a b : Int} (ha : 0 ≤ a) (ha2 : a < 4611686018427387904) (hb : 0 ≤ b) (hb2 : b < 4611686018427387904) : 0 ≤ bits .xor .i64 a b := by
  obtain ⟨a, rfl⟩ := Int.eq_ofNat_of_zero_le ha
  obtain ⟨b, rfl⟩ := Int.eq_ofNat_of_zero_le hb
  have hx : a ^^^ b < 2 ^ 62 := Nat.xor_lt_two_pow (by omega) (by omega)
  have h1 : (BitVec.ofInt 64 (a : Int)).toNat = a := by
    rw [BitVec.ofInt_natCast, BitVec.toNat_ofNat]; exact Nat.mod_eq_of_lt (by omega)
  have h2 : (BitVec.ofInt 64 (b : Int)).toNat = b := by
    rw [BitVec.ofInt_natCast, BitVec.toNat_ofNat]; exact Nat.mod_eq_of_lt (by omega)
  have : bits .xor .i64 (a : Int) (b : Int) = ((a ^^^ b : Nat) : Int) := by
    show IntKind.i64.wrap ((BitVec.ofInt 64 (a : Int) ^^^ BitVec.ofInt 64 (b : Int)).toNat : Int) = _
    rw [BitVec.toNat_xor, h1, h2]
    exact IntWalk.i64_in _ (by omega)
  rw [this]
  omega

/-- what a call of pick comes to -/
def PickPost (B : Nat) (n : Int) (R p : Nat) (w : World) (e : Ending) (w' : World) : Prop :=
  ∃ i : Int, e = .returned (.int .i64 i) ∧ (0 ≤ i ∧ (1 ≤ n → i < n) ∧ (n < 1 → i = 0)) ∧ But w R w' ∧ Rd B w' R (p + 1)

set_option maxRecDepth 100000 in
set_option maxHeartbeats 2000000 in
theorem pick_any (B : Nat) (n : Int) (w : World) (R p : Nat) (hr : Rd B w R p) (hp : p ≤ 1000000) (hn : n ≤ 1000000) (hn0 : -1000000 ≤ n) : Calls Try.prog 42 #[.pointer (some ⟨R, 0, none⟩), .int .i64 n] w (PickPost B n R p w) := by
  obtain ⟨a, len, cap, h1, h2, h3, h4, h5, h6, h7, h8, h9⟩ := hr
  have hset : ∀ nq, But w R ((w.setCell ⟨R, 1, none⟩ (.int .i64 ((p : Int) + 1))).drewN nq) ∧ Rd B ((w.setCell ⟨R, 1, none⟩ (.int .i64 ((p : Int) + 1))).drewN nq) R (p + 1) := fun nq => by
    have hb : But w R ((w.setCell ⟨R, 1, none⟩ (.int .i64 ((p : Int) + 1))).drewN nq) := (But.set w R 1 _).drewN nq
    refine ⟨hb, a, len, cap, h1, h2, h3, by simpa using h4, ?_, ?_, by simpa using h7, by simpa using h8, h9.butx (ButX.but hb h4.2)⟩
    · rw [World.cell?_drewN, World.cell?_setCell_other _ _ _ _ (by simp)]; exact h5
    · rw [World.cell?_drewN]; exact World.cell?_setCell_same _ _ _ h6
  have HS := hid hset; clear hset
  by_cases c1 : n < 1
  · go_enter Try.func42, Try.ntmps42
    go_wp2_with fail
    go_ret
    exact ⟨0, rfl, ⟨by omega, by omega, fun _ => rfl⟩, HS.out 0⟩
  rcases h9 with rfl | ⟨b, o, f, rfl, hl, hd, hf⟩
  · go_enter Try.func42, Try.ntmps42
    go_wp2_with fail
    go_ret
    exact ⟨0, rfl, ⟨by omega, by omega, fun _ => rfl⟩, HS.out 0⟩
  by_cases c0 : len = 0
  · subst c0
    go_enter Try.func42, Try.ntmps42
    go_wp2_with fail
    go_ret
    exact ⟨0, rfl, ⟨by omega, by omega, fun _ => rfl⟩, HS.out 0⟩
  have e0 : ((len : Int) == 0) = false := by rw [beq_eq_false_iff_ne]; omega
  have hdd : R ≠ b := Ne.symm hd
  by_cases c2 : p < len
  · have g := hf p c2
    obtain ⟨g1, g2, g3⟩ := g
    have g4 : (w.setCell ⟨R, 1, none⟩ (.int .i64 ((p : Int) + 1))).cell? ⟨b, o + p, none⟩ = some (.int .u8 (f p)) := by
      rw [World.cell?_setCell_other _ _ _ _ (by intro h; exact hdd (congrArg Addr.block h))]; exact g1
    clear hf
    go_enter Try.func42, Try.ntmps42
    go_wp2_with fail
    go_ret
    exact ⟨_, rfl, ⟨Int.emod_nonneg _ (by omega), fun _ => Int.emod_lt_of_pos _ (by omega), by omega⟩, HS.out 0⟩
  · have m1 : p % len < len := Nat.mod_lt _ (by omega)
    have m2 : (p * 7 + 3) % len < len := Nat.mod_lt _ (by omega)
    have m3 : p / len ≤ p := Nat.div_le_self _ _
    obtain ⟨g1, g2, g3⟩ := hf _ m1
    obtain ⟨k1, k2, k3⟩ := hf _ m2
    have g4 : (w.setCell ⟨R, 1, none⟩ (.int .i64 ((p : Int) + 1))).cell? ⟨b, o + p % len, none⟩ = some (.int .u8 (f (p % len))) := by
      rw [World.cell?_setCell_other _ _ _ _ (by intro h; exact hdd (congrArg Addr.block h))]; exact g1
    have k4 : (w.setCell ⟨R, 1, none⟩ (.int .i64 ((p : Int) + 1))).cell? ⟨b, o + (p * 7 + 3) % len, none⟩ = some (.int .u8 (f ((p * 7 + 3) % len))) := by
      rw [World.cell?_setCell_other _ _ _ _ (by intro h; exact hdd (congrArg Addr.block h))]; exact k1
    have z0 : (0 : Int) < (len : Int) := by omega
    clear hf
    go_enter Try.func42, Try.ntmps42
    go_wp2_with fail
    have d1 : (p : Int) / (len : Int) ≤ 1000000 := by have := Int.ediv_le_self (a := (p : Int)) (len : Int) (by omega); omega
    have d0 : 0 ≤ (p : Int) / (len : Int) := Int.ediv_nonneg (by omega) (by omega)
    have i1 : 0 ≤ ((p : Int) * 7 + 3) % (len : Int) := Int.emod_nonneg _ (by omega)
    have i2 : ((p : Int) * 7 + 3) % (len : Int) < (len : Int) := Int.emod_lt_of_pos _ (by omega)
    have j1 : 0 ≤ (p : Int) % (len : Int) := Int.emod_nonneg _ (by omega)
    have j2 : (p : Int) % (len : Int) < (len : Int) := Int.emod_lt_of_pos _ (by omega)
    generalize f (p % len) = u at *
    generalize f ((p * 7 + 3) % len) = v at *
    generalize hq : (p : Int) / (len : Int) = q at *
    have T3 : Int.tdiv (p : Int) (len : Int) = q := by rw [Int.tdiv_eq_ediv_of_nonneg (by omega)]; exact hq
    have T1 : Int.tmod (p : Int) (len : Int) = (p : Int) % (len : Int) := Int.tmod_eq_emod_of_nonneg (by omega)
    have T2 : Int.tmod ((p : Int) * 7 + 3) (len : Int) = ((p : Int) * 7 + 3) % (len : Int) := Int.tmod_eq_emod_of_nonneg (by omega)
    have W1 : IntKind.i64.wrap ((p : Int) * 7) = (p : Int) * 7 := IntWalk.i64_in _ (by omega)
    have W2 : IntKind.i64.wrap ((p : Int) * 7 + 3) = (p : Int) * 7 + 3 := IntWalk.i64_in _ (by omega)
    have W3 : IntKind.i64.wrap (u * 131) = u * 131 := IntWalk.i64_in _ (by omega)
    have W4 : IntKind.i64.wrap (v * 1117) = v * 1117 := IntWalk.i64_in _ (by omega)
    have W5 : IntKind.i64.wrap (u * 131 + v * 1117) = u * 131 + v * 1117 := IntWalk.i64_in _ (by omega)
    have W6 : IntKind.i64.wrap ((p : Int) * 29) = (p : Int) * 29 := IntWalk.i64_in _ (by omega)
    have W7 : IntKind.i64.wrap (u * 131 + v * 1117 + (p : Int) * 29) = u * 131 + v * 1117 + (p : Int) * 29 := IntWalk.i64_in _ (by omega)
    have W8 : IntKind.i64.wrap (q * 53) = q * 53 := IntWalk.i64_in _ (by omega)
    have W9 : IntKind.i64.wrap (u * 131 + v * 1117 + (p : Int) * 29 + q * 53) = u * 131 + v * 1117 + (p : Int) * 29 + q * 53 := IntWalk.i64_in _ (by omega)
    refine wp_region_quiet_lit (by kernel_rfl) (by kernel_rfl) ?_
    repeat (go_big_quiet_step (fail))
    refine wpQuiet_nil ?_
    intro _ hw'
    obtain ⟨nq, hw''⟩ := hw'
    subst hw''
    clear W1 W2 W3 W4 W5 W6 W7 W8 W9 T1 T2 T3
    go_wp2_with fail
    go_ret
    have hx : 0 ≤ u * 131 + v * 1117 + (p : Int) * 29 + q * 53 := by omega
    have hy : u * 131 + v * 1117 + (p : Int) * 29 + q * 53 < 1000000000 := by omega
    have hxor := xor_nonneg (a := u * 131 + v * 1117 + (p : Int) * 29 + q * 53) (b := (u * 131 + v * 1117 + (p : Int) * 29 + q * 53) / 64) hx (by omega) (by omega) (by omega)
    refine ⟨_, rfl, ⟨?_, fun _ => ?_, fun h => by omega⟩, HS.out _⟩
    · rw [Int.tmod_eq_emod_of_nonneg hxor]; exact Int.emod_nonneg _ (by omega)
    · rw [Int.tmod_eq_emod_of_nonneg hxor]; exact Int.emod_lt_of_pos _ (by omega)

/-- what a call of num comes to, of a list whose numbers are all between lo and hi -/
def NumPost (B : Nat) (lo hi : Int) (R p : Nat) (w : World) (e : Ending) (w' : World) : Prop :=
  ∃ i : Int, e = .returned (.int .i64 i) ∧ (lo ≤ i ∧ i ≤ hi) ∧ But w R w' ∧ Rd B w' R (p + 1)

set_option maxHeartbeats 400000 in
theorem num_any (B0 : Nat) (lo hi : Int) (w : World) (R p : Nat) (B len : Nat) (g : Nat → Int) (hr : Rd B0 w R p) (hp : p ≤ 1000000) (h0 : 0 < len) (hl : len ≤ 100) (hB : B ≠ R) (hB2 : B < w.heap.size) (hc : ∀ i, i < len → w.cell? ⟨B, i, none⟩ = some (.int .i64 (g i)) ∧ lo ≤ g i ∧ g i ≤ hi) :
    Calls Try.prog 44 #[.pointer (some ⟨R, 0, none⟩), .slice (some ⟨B, 0, none⟩) len len] w (NumPost B0 lo hi R p w) := by
  go_enter Try.func44, Try.ntmps44
  go_wp2_with fail
  refine (pick_any _ _ _ R p hr hp (by omega) (by omega)).mono ?_
  rintro e w1 ⟨i, rfl, ⟨i0, i1, _⟩, hbut, hrd⟩
  obtain ⟨k, rfl⟩ := Int.eq_ofNat_of_zero_le i0
  have hk : k < len := by have := i1 (by omega); omega
  have hk2 : (k : Int) < (len : Int) := by omega
  obtain ⟨c1, c2, c3⟩ := hc k hk
  rw [← hbut.cell hB2 hB] at c1
  clear hc i1
  go_wp2_with fail
  go_ret
  exact ⟨_, rfl, ⟨c2, c3⟩, hbut, hrd⟩

/-- .. of a list of some numbers, just made -/
theorem num_new (ns : List Int) (lo hi : Int) (hn : ∀ n ∈ ns, lo ≤ n ∧ n ≤ hi) (h0 : 0 < ns.length) (h1 : ns.length ≤ 100) (B0 : Nat) (w : World) (t : TypeId) (R p : Nat) (hr : Rd B0 w R p) (hp : p ≤ 1000000) :
    Calls Try.prog 44 #[.pointer (some ⟨R, 0, none⟩), .slice (some ⟨w.heap.size, 0, none⟩) ns.length ns.length] (w.alloc (.cells (ns.map (Value.int .i64)).toArray t)) (NumPost B0 lo hi R p (w.alloc (.cells (ns.map (Value.int .i64)).toArray t))) := by
  have hl := hr.lt
  refine num_any B0 lo hi _ R p w.heap.size ns.length (fun i => ns.getD i 0) (hr.next (below_alloc _ _)) hp h0 h1 (by omega) (by simp) fun i hi => ?_
  rw [World.cell?_alloc_new]
  have e : ns[i]? = some (ns.getD i 0) := by rw [List.getD_eq_getElem?_getD, List.getElem?_eq_getElem hi]; rfl
  refine ⟨?_, hn _ (List.mem_of_getElem? e)⟩
  rw [List.getElem?_toArray, List.getElem?_map, e]
  rfl

theorem num_at (ns : List Int) (lo hi : Int) (hn : ∀ n ∈ ns, lo ≤ n ∧ n ≤ hi) (h0 : 0 < ns.length) (h1 : ns.length ≤ 100) (B0 : Nat) (w : World) (t : TypeId) (b R p : Nat) (hb : b = w.heap.size) (hr : Rd B0 w R p) (hp : p ≤ 1000000) :
    Calls Try.prog 44 #[.pointer (some ⟨R, 0, none⟩), .slice (some ⟨b, 0, none⟩) ns.length ns.length] (w.alloc (.cells (ns.map (Value.int .i64)).toArray t)) (NumPost B0 lo hi R p (w.alloc (.cells (ns.map (Value.int .i64)).toArray t))) := by
  subst hb; exact num_new ns lo hi hn h0 h1 B0 w t R p hr hp

/-- the bytes of an argument -/
def ByteArg (w : World) (a : Option Addr) (len cap : Nat) : Prop := len ≤ cap ∧ cap ≤ maxLen ∧ (len = 0 ∨ ∃ (b o : Nat) (f : Nat → Int), a = some ⟨b, o, none⟩ ∧ b < w.heap.size ∧ ∀ i, i < len → w.cell? ⟨b, o + i, none⟩ = some (.int .u8 (f i)) ∧ 0 ≤ f i ∧ f i ≤ 255)
theorem ByteArg.next {w w' : World} (h : Below w.heap.size w w') {a : Option Addr} {len cap : Nat} (hb : ByteArg w a len cap) : ByteArg w' a len cap := by
  obtain ⟨h1, h2, hb⟩ := hb
  refine ⟨h1, h2, ?_⟩
  rcases hb with hb | ⟨b, o, f, rfl, hl, hf⟩
  · exact .inl hb
  · exact .inr ⟨b, o, f, rfl, Nat.lt_of_lt_of_le hl h.size, fun i hi => ⟨by rw [h.cell (p := ⟨b, o + i, none⟩) hl]; exact (hf i hi).1, (hf i hi).2⟩⟩
theorem ByteArg.new {w : World} {a : Option Addr} {len cap m : Nat} (hb : ByteArg w a len cap) (hm : m ≤ len) (hm2 : m ≤ 2000) (t : TypeId) : Rd (w.heap.size + 1) (w.alloc (.cells #[.slice a m cap, .int .i64 0] t)) w.heap.size 0 := by
  obtain ⟨h1, h2, hb⟩ := hb
  refine ⟨a, m, cap, hm2, by omega, h2, by simp, by simp, by simp, by simp, by simp, ?_⟩
  rcases hb with hb | ⟨b, o, f, rfl, hl, hf⟩
  · exact .inl (by omega)
  · exact .inr ⟨b, o, f, rfl, by omega, by omega, fun i hi => ⟨by rw [World.cell?_alloc_lt (h := by exact hl)]; exact (hf i (by omega)).1, (hf i (by omega)).2⟩⟩

set_option maxHeartbeats 400000 in
theorem open_any (w : World) (a : Option Addr) (len cap : Nat) (hb : ByteArg w a len cap) : Calls Try.prog 27 #[.slice a len cap] w (RetP (fun v w' => ∃ R B, v = .pointer (some ⟨R, 0, none⟩) ∧ w.heap.size ≤ R ∧ Rd B w' R 0) w) := by
  have hcap := hb.1
  have hcap2 := hb.2.1
  unfold maxLen at hcap2
  by_cases h : 2000 < len
  · have h1 : 2000 ≤ cap := by omega
    have hR := hid (hb.new (m := 2000) (by omega) (by omega) 74)
    go_enter Try.func27, Try.ntmps27
    go_wp2_with fail
    go_ret
    exact RetP.mk ⟨_, _, rfl, Nat.le_refl _, hR.out⟩ (below_alloc _ _)
  · have hR := hid (hb.new (m := len) (by omega) (by omega) 74)
    go_enter Try.func27, Try.ntmps27
    go_wp2_with fail
    go_ret
    exact RetP.mk ⟨_, _, rfl, Nat.le_refl _, hR.out⟩ (below_alloc _ _)

end Go.Proofs.Ytdmieedfddgmjaa
namespace Go.Proofs.Ytdmieedfddgmjaa
open Go.RowKit
set_option linter.unusedVariables false
set_option linter.unusedSimpArgs false

theorem OwnI.ints3 {B : Nat} {p : Nat → Prop} {a : Option Addr} {n c : Nat} {l : List Int} {w : World} (h : OwnI B (.slice a n c) l w) (hi : ∀ n, n ∈ l → i64 n) (hp : ∀ g, (Value.slice a n c).ownBlock = some g → p g) : IntsIn p w a l := by
  obtain ⟨h1, h2⟩ := h.ints2 hi
  rcases h.row with ⟨rfl, _⟩ | ⟨g, c', e, _⟩
  · exact ⟨.inl rfl, h2⟩
  · simp at e
    obtain ⟨rfl, _, _⟩ := e
    rcases h1 with h1 | ⟨b, o, he, _, h3, h4⟩
    · exact ⟨.inl h1, h2⟩
    · simp at he
      obtain ⟨rfl, rfl⟩ := he
      exact ⟨.inr ⟨g, 0, rfl, hp g rfl, h3, h4⟩, h2⟩

theorem row_one (W : World) (x : Int) (h : i64 x) : IntsIn Any (W.alloc (.cells #[.int .i64 x] 3)) (some ⟨W.heap.size, 0, none⟩) [x] := ⟨.inr ⟨W.heap.size, 0, rfl, trivial, by simp, fun i v hi => by
    cases i with
    | zero => simp at hi; subst hi; simp
    | succ i => simp at hi⟩, fun m hm => by simp at hm; subst hm; exact h⟩
theorem below_set2 {B X : Nat} {w W : World} (h : Below B w W) (hX : B ≤ X) (u0 u1 : Value) : Below B w ((W.setCell ⟨X, 0, none⟩ u0).setCell ⟨X, 1, none⟩ u1) := Below.setCell (Below.setCell h (show B ≤ X from hX) _) (show B ≤ X from hX) _
end Go.Proofs.Ytdmieedfddgmjaa
