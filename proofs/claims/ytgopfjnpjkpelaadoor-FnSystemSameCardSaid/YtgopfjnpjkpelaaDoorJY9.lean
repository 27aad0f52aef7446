/- Joined texts (SysCopy, StoreAny, RowOne, SysMutSt): contracts and plain laws. Conditions: those of each theorem. -/
import Derived.Test.YtgopfjnpjkpelaaDoorJY8
import Derived.Test.YtgopfjnpjkpelaaDoorJY3
import Derived.Test.YtgopfjnpjkpelaaDoorJY5
set_option linter.unusedVariables false
set_option linter.unusedSimpArgs false
namespace Go.Proofs.YtgopfjnpjkpelaaDoor
open Go.RowKit
set_option linter.unusedVariables false
set_option linter.unusedSimpArgs false

/-- a system being copied into its variable S; the source's variable is w.heap.size -/
def SyCp (w : World) (S : Nat) (M : Int) (K : Nat) (x0 x1 : Value) (l : List Int) (vi vp : Value) (prs : List Pr) (W : World) : Prop :=
  BoxP W S vi vp ∧ OwnI (w.heap.size + 1 + 1) vi l W ∧ (∀ g, vi.ownBlock = some g → g < S) ∧ PrsSt S M K vp prs W ∧ Below w.heap.size w W ∧ BoxP W w.heap.size x0 x1 ∧ BoxP W (w.heap.size + 1) (.slice none 0 0) (.slice none 0 0) ∧ w.heap.size + 1 < S
theorem SyCp.next {w W W' : World} {S : Nat} {M : Int} {K : Nat} {x0 x1 : Value} {l : List Int} {vi vp : Value} {prs : List Pr} (h : SyCp w S M K x0 x1 l vi vp prs W) (hb : Below W.heap.size W W') : SyCp w S M K x0 x1 l vi vp prs W' := by
  obtain ⟨h1, h2, h3, h4, h5, h6, h7, h8⟩ := h
  exact ⟨boxp_next hb h1, h2.next hb, h3, h4.next hb, below_next h5 hb, boxp_next hb h6, boxp_next hb h7, h8⟩
theorem SyCp.app {w W W' : World} {S : Nat} {M : Int} {K : Nat} {x0 x1 : Value} {l : List Int} {vi vp v' : Value} {prs : List Pr} {q : Pr} {c : List Value} {ces : List (List Value)} (h : SyCp w S M K x0 x1 l vi vp prs W) (h2 : AllR (PrC (fun b => S < b ∧ vp.ownBlock ≠ some b) W) prs ces) (he : PrC (fun b => S < b ∧ vp.ownBlock ≠ some b) W q c)
    (h4 : q.edges.length ≤ K ∧ ∀ e, e ∈ q.edges → nodes e.guard ≤ M ∧ nodes e.val ≤ M) (h' : OwnR 41 2 (S + 1) v' (ces ++ [c]) W') (hg : W.grownBy W' vp.ownBlock) (hv : v'.ownBlock = vp.ownBlock ∨ v'.ownBlock = some W.heap.size) :
    SyCp w S M K x0 x1 l vi v' (prs ++ [q]) (W'.setCell ⟨S, 1, none⟩ v') := by
  obtain ⟨i1, i2, i3, h6, h7, h8, h9, i4⟩ := h
  have hblk := h6.blk
  have hk : ∀ b, b ≤ S → b < W.heap.size → W'.heap[b]? = W.heap[b]? := fun b hb hl => hg.block b hl (fun e => by have := (hblk b e.symm).1; omega)
  have hS : ∀ b, b ≠ S → (W'.setCell ⟨S, 1, none⟩ v').heap[b]? = W'.heap[b]? := fun b hb => Below.heap_setCell _ _ _ _ hb
  refine ⟨boxp_set1 (boxp_keep hg.size (hk S (Nat.le_refl _) i1.1) i1) _, i2.keep (fun g e _ hl => (hS g (by have := i3 g e; omega)).trans (hk g (by have := i3 g e; omega) hl)), i3, (PrsSt.app h2 h6.2 he h4 h' hg hv).set (Nat.le_refl _) _, ?_, boxp_set (boxp_keep hg.size (hk _ (by omega) h8.1) h8) (by simp; omega) _, boxp_set (boxp_keep hg.size (hk _ (by omega) h9.1) h9) (by simp; omega) _, i4⟩
  exact Below.setCell (w := W') ⟨hg.os.trans h7.os, hg.tape.trans h7.tape, hg.output.trans h7.output, Nat.le_trans h7.size hg.size, fun k hk1 => (hk k (by omega) (by have := h7.size; omega)).trans (h7.block k hk1)⟩ (show w.heap.size ≤ S by omega) _
theorem cp_tr {E : Nat} {t : Tr} {x u : Value} {w : World} {a : Addr} (ha : a.block ≤ E) (h : TrIn (fun b => E < b) w t x) : TrIn (fun b => E < b) (w.setCell a u) t x :=
  (TrIn_frame fun b hb hl => ⟨hb, Below.heap_setCell _ _ _ _ (by omega)⟩).1 t x h
/-- an edge just made, as ten cells -/
theorem edc_cp {W W' : World} {V : Nat} {M : Int} {x : Ed} {a a' : Option Addr} {c c' : Nat} {ve : Value} (h : EdIn (fun b => W.heap.size ≤ b) W' x (.agg (x.cells a c a' c').toArray)) (h1 : nodes x.guard ≤ M) (h2 : nodes x.val ≤ M) (hV : V < W.heap.size) (hv : ∀ g, ve.ownBlock = some g → g < W.heap.size) :
    EdC (fun b => V < b ∧ ve.ownBlock ≠ some b) W' M x (x.cells a c a' c') := edc_new h h1 h2 hV hv
theorem below_trans2 {w w1 w2 : World} (h : Below w.heap.size w w1) (h2 : Below w1.heap.size w1 w2) : Below w.heap.size w w2 := below_next h h2
theorem cp_len {l prs : List Pr} {j : Nat} {q : Pr} {n : Int} {eds : List Ed} (h : prs.map (fun q : Pr => q.edges.length) = (l.take j).map (fun q : Pr => q.edges.length)) (hq : l[j]? = some q) (he : eds.length = q.edges.length) :
    (prs ++ [(⟨n, eds⟩ : Pr)]).map (fun q : Pr => q.edges.length) = (l.take (j + 1)).map (fun q : Pr => q.edges.length) := by
  rw [List.map_append, h, List.take_add_one, hq]
  simp [he]
theorem cp_len0 {l prs : List Pr} {j : Nat} (h : prs.map (fun q : Pr => q.edges.length) = (l.take j).map (fun q : Pr => q.edges.length)) : prs.length ≤ l.length := by
  have := congrArg List.length h
  simp at this
  omega
/-- what a copy comes to -/
def CopyPost (s : Sy) (M : Int) (K : Nat) (w : World) (e : Ending) (w' : World) : Prop :=
  ∃ vi vp l prs S, e = .returned (.agg #[vi, vp]) ∧ OwnI (w.heap.size + 1 + 1) vi l w' ∧ (∀ g, vi.ownBlock = some g → g < S) ∧ l = s.init ∧ PrsSt S M K vp prs w' ∧ prs.map (fun q : Pr => q.edges.length) = s.procs.map (fun q : Pr => q.edges.length) ∧ Below w.heap.size w w' ∧ w.heap.size + 1 < S ∧ S < w'.heap.size

open Go.Proofs.YtgopfjnpjkpelaaDoor.Expr in
set_option maxRecDepth 100000 in
set_option maxHeartbeats 4000000 in
theorem copy_any (s : Sy) (w : World) (x : Value) (M : Int) (K : Nat) (hx : SyIn Any w s x) (hK : s.procs.length ≤ K ∧ K ≤ 1000) (hb : ∀ q, q ∈ s.procs → q.edges.length ≤ K ∧ ∀ e, e ∈ q.edges → nodes e.guard ≤ M ∧ nodes e.val ≤ M) (hM : M ≤ 1000000) (hi0 : s.init.length ≤ 1000) (hnil : ∀ a n c y, x = .agg #[.slice a n c, y] → a = none → c = 0) :
    Calls Tryd.prog 26 #[x] w (CopyPost s M K w) := by
  obtain ⟨a, c, b, d, rfl, hc, hc2, hi, hd, hd2, hp⟩ := hx
  have HP := hid hp
  have HBD := hid hb
  unfold maxLen at hd2
  go_enter Tryd.func26, Tryd.ntmps26
  have hi2 := ((hi.below (below_alloc w (.cells #[.slice a s.init.length c, .slice b s.procs.length d] 26))).below (below_alloc _ (.cells #[.slice none 0 0, .slice none 0 0] 26))).below (below_alloc _ (.cells #[] 3))
  have hcn := hnil _ _ _ _ rfl
  have hO : OwnI (w.heap.size + 1 + 1) (.slice (some ⟨w.heap.size + 1 + 1, 0, none⟩) 0 0) [] (((w.alloc (.cells #[.slice a s.init.length c, .slice b s.procs.length d] 26)).alloc (.cells #[.slice none 0 0, .slice none 0 0] 26)).alloc (.cells #[] 3)) := by
    have h := OwnI.made ((w.alloc (.cells #[.slice a s.init.length c, .slice b s.procs.length d] 26)).alloc (.cells #[.slice none 0 0, .slice none 0 0] 26))
    simp only [World.size_alloc] at h
    exact h
  go_wp2_with (at_builtin; refine wp_app_own rfl _ _ rfl (w.heap.size + 1 + 1) (.slice (some ⟨w.heap.size + 1 + 1, 0, none⟩) 0 0) [] s.init a c rfl rfl hcn hO (by simp) hi2 (by simp) (by omega) ?_; intro v' w1 hv' hg; obtain ⟨b1, d1, rfl, q1, q2, q3⟩ := hv'.shape; have HV := hid hv'; have HG := hid hg; clear hv' hg)
  have HV2 := hid (show OwnI (w.heap.size + 1 + 1) (.slice b1 s.init.length d1) s.init w1 by simpa using HV.out)
  have hB0 : Below w.heap.size w (((w.alloc (.cells #[.slice a s.init.length c, .slice b s.procs.length d] 26)).alloc (.cells #[.slice none 0 0, .slice none 0 0] 26)).alloc (.cells #[] 3)) := below_next (below_next (below_alloc _ _) (below_alloc _ _)) (below_alloc _ _)
  have hB1 : Below w.heap.size w w1 := ⟨HG.out.os.trans hB0.os, HG.out.tape.trans hB0.tape, HG.out.output.trans hB0.output, Nat.le_trans hB0.size HG.out.size, fun k hk => (HG.out.block k (Nat.lt_of_lt_of_le hk hB0.size) (fun e => by simp [Value.ownBlock] at e; omega)).trans (hB0.block k hk)⟩
  have hX0 := boxp_keep HG.out.size (HG.out.block w.heap.size (by simp; omega) (fun e => by simp [Value.ownBlock] at e; omega)) (boxp_next (below_alloc _ (.cells #[] 3)) (boxp_next (below_alloc _ (.cells #[.slice none 0 0, .slice none 0 0] 26)) (boxp_at (w := w) (a := .slice a s.init.length c) (b := .slice b s.procs.length d) (t := 26) rfl)))
  have hX1 := boxp_keep HG.out.size (HG.out.block (w.heap.size + 1) (by simp) (fun e => by simp [Value.ownBlock] at e)) (boxp_next (below_alloc _ (.cells #[] 3)) (boxp_at (w := w.alloc (.cells #[.slice a s.init.length c, .slice b s.procs.length d] 26)) (B := w.heap.size + 1) (a := .slice none 0 0) (b := .slice none 0 0) (t := 26) (by simp)))
  have HC := hid (show SyCp w w1.heap.size M K (.slice a s.init.length c) (.slice b s.procs.length d) s.init (.slice b1 s.init.length d1) (.slice none 0 0) [] (w1.alloc (.cells #[.slice b1 s.init.length d1, .slice none 0 0] 26)) from
    ⟨boxp_at rfl, HV2.out.next (below_alloc _ _), fun g hg => (HV2.out.blk g hg).2, PrsSt.nil _ _ _ _, below_next hB1 (below_alloc _ _), boxp_next (below_alloc _ _) hX0, boxp_next (below_alloc _ _) hX1, hX1.1⟩)
  clear hB0 hB1 hX0 hX1 HV HV2 HG hO hi2
  obtain ⟨S, hS⟩ : ∃ S, S = w1.heap.size := ⟨_, rfl⟩
  rw [← hS] at HC
  rw [← hS]
  refine wp_gen (fun W => SyCp w S M K (.slice a s.init.length c) (.slice b s.procs.length d) s.init (.slice b1 s.init.length d1) (.slice none 0 0) [] W) HC.out ?_
  rintro W0 h1
  replace HC := hid h1
  clear h1 hS
  go_loopw [4] (fun i wr => ∃ (j : Nat) (vp : Value) (prs : List Pr), j ≤ s.procs.length ∧ i = .int .i64 j ∧ Hid (prs.map (fun q : Pr => q.edges.length) = (s.procs.take j).map (fun q : Pr => q.edges.length)) ∧ Hid (SyCp w S M K (.slice a s.init.length c) (.slice b s.procs.length d) s.init (.slice b1 s.init.length d1) vp prs wr)) (fun i _ => s.procs.length - (intOf i).toNat)
  case atStart => exact ⟨0, _, [], Nat.zero_le _, rfl, hid (by simp), HC⟩
  case round =>
    obtain ⟨j, vp, prs, hj, rfl, HL, HC2⟩ := hrel
    obtain ⟨wo, rfl⟩ : ∃ wo : World, wo = wr := ⟨_, rfl⟩
    clear HC
    by_cases hlt : j < s.procs.length
    · obtain ⟨b', o, rfl, _, hb, a1, c1, ⟨g0, g1⟩, hT⟩ := SeqIn.at (PrsIn.below HP.out HC2.out.2.2.2.2.1) hlt
      have HT := hid hT
      have G0 := hid g0
      have G1 := hid g1
      have HBQ := hid (HBD.out s.procs[j] (by simp))
      have HQ := hid (List.getElem?_eq_getElem hlt)
      clear hT
      have hlt2 : (j : Int) < (s.procs.length : Int) := by omega
      generalize s.procs[j] = q at *
      obtain ⟨x0, x1, x2, x3, x4⟩ := id HC2.out.2.2.2.2.2.1
      go_upto_region 6 with fail
      obtain ⟨V, hV⟩ : ∃ V, V = wo.heap.size := ⟨_, rfl⟩
      rw [← hV]
      refine wp_gen (fun W => Below wo.heap.size wo W ∧ BoxP W V (.int .i64 q.locs) (.slice none 0 0)) ⟨below_alloc _ _, boxp_at hV⟩ ?_
      rintro W7 ⟨h1, h2⟩
      have HB7 := hid h1
      have HX7 := hid h2
      have hSV : S < V := by have := HC2.out.1.1; omega
      have hVs : wo.heap.size ≤ V := by omega
      clear h1 h2 hV x0 x1 x2 x3 x4 g0 g1
      go_wp2_with fail
      go_loopw [6] (fun i wi => ∃ (k : Nat) (ve : Value) (eds : List Ed), k ≤ q.edges.length ∧ i = .int .i64 k ∧ Hid (eds.length = k) ∧ Hid (BoxP wi V (.int .i64 q.locs) ve) ∧ Hid (EdsSt V M ve eds wi) ∧ Hid (Below wo.heap.size wo wi)) (fun i _ => q.edges.length - (intOf i).toNat)
      case atStart => exact ⟨0, _, [], Nat.zero_le _, rfl, hid rfl, HX7, hid (EdsSt.nil _ _ _), HB7⟩
      case round =>
        obtain ⟨k, ve, eds, hk, rfl, HEL, HX, HE, HB⟩ := hrel
        obtain ⟨a2, c2, he, i1, i2, i3, i4⟩ := HT.out
        simp only [Value.agg.injEq, Array.mk.injEq, List.cons.injEq, and_true, Value.slice.injEq, true_and] at he
        obtain ⟨rfl, rfl⟩ := he
        unfold maxLen at i3
        have g0 := (HB.out.cell (p := ⟨b', o + j * 2, none⟩) hb).trans G0.out
        have g1 := (HB.out.cell (p := ⟨b', o + j * 2 + 1, none⟩) hb).trans G1.out
        have hbw := Nat.lt_of_lt_of_le hb HB.out.size
        obtain ⟨x0, x1, x2, x3, x4⟩ := boxp_next HB.out HC2.out.2.2.2.2.2.1
        clear HX7 HB7
        by_cases hlt3 : k < q.edges.length
        · obtain ⟨be, oe, rfl, _, hbe, ea, ec, ea2, ec2, ⟨c0, c1', c2', c3, c4, c5, c6, c7, c8, c9⟩, hEd⟩ := SeqIn.at (EdsIn.below i4 HB.out) hlt3
          have HEd := hid hEd
          have HBE := hid (HBQ.out.2 q.edges[k] (by simp))
          clear hEd i4
          have hlt4 : (k : Int) < (q.edges.length : Int) := by omega
          generalize q.edges[k] = ed at *
          go_upto_region 10 with fail
          obtain ⟨E, hE⟩ : ∃ E, E = wr.heap.size := ⟨_, rfl⟩
          rw [← hE]
          refine wp_gen (fun W => Below wr.heap.size wr W ∧ Box10 W E (.int .i64 ed.src) (.int .i64 ed.dst) (.int .i64 ed.guard.kind) (.int .i64 ed.guard.val) (.slice ea ed.guard.kids.length ec) (.int .i64 ed.var) (.int .i64 ed.val.kind) (.int .i64 ed.val.val) (.slice ea2 ed.val.kids.length ec2) (.int .i64 ed.sync)) ⟨below_alloc _ _, box10_at hE _ _ _ _ _ _ _ _ _ _ _⟩ ?_
          rintro W8 ⟨h1, h2⟩
          have HB8 := hid h1
          have HX8 := hid h2
          have hEs : wr.heap.size ≤ E := by omega
          have hVE : V < E := by have := HX.out.1; omega
          clear h1 h2 hE x0 x1 x2 x3 x4 g0 g1 c0 c1' c2' c3 c4 c5 c6 c7 c8 c9
          obtain ⟨_, _, _, _, he2, j1, j2, j3, j4, hg, hv⟩ := HEd.out
          simp only [Value.agg.injEq, Array.mk.injEq, List.cons.injEq, and_true, Value.slice.injEq, true_and] at he2
          obtain ⟨⟨rfl, rfl⟩, rfl, rfl⟩ := he2
          have HG := hid hg
          have HV := hid hv
          clear hg hv HEd
          obtain ⟨xl, ⟨x0, x1, x2, x3, x4, x5, x6, x7, x8, x9⟩, ⟨f0, f1, f2, f3, f4, f5, f6, f7, f8, f9⟩⟩ := id HX8.out
          go_wp2_with fail
          refine (sb_any (-1) zeroT (by kernel_rfl) ⟨by simp, trivial⟩ ed.guard _ _ _ (TrIn_below HB8.out HG.out) (zero_new 0 _).any (small_nodes _ (by have := HBE.out; omega))).mono ?_
          rintro e w9 ⟨v, rfl, ⟨u, rfl, hi1, hi2, ho⟩, hb9⟩
          obtain ⟨tg, htg⟩ : ∃ t, t = subT (-1) zeroT ed.guard := ⟨_, rfl⟩
          have hgm : nodes tg ≤ M := by rw [htg]; exact Int.le_trans (sub_nodes _) HBE.out.1
          rw [← htg] at hi1 hi2 ho ⊢
          obtain ⟨ag, cg, rfl, _⟩ := ho.shape
          have hE8 : E < W8.heap.size := HX8.out.1
          have hTg := (TrIn_frame (q := fun b => E < b) (w' := w9) fun b hb hl => ⟨by have := hb; omega, rfl⟩).1 _ _ (NewTr_ge (OwnN.new (x := .agg #[.int .i64 tg.kind, .int .i64 tg.val, .slice ag tg.kids.length cg]) ⟨_, rfl, hi1, hi2, ho⟩))
          have hX9 := box10_next hb9 HX8.out
          have hB9 := below_next HB8.out hb9
          have HS9 := hid (show Below wr.heap.size wr (((w9.setCell ⟨E, 2, none⟩ (.int .i64 tg.kind)).setCell ⟨E, 3, none⟩ (.int .i64 tg.val)).setCell ⟨E, 4, none⟩ (.slice ag tg.kids.length cg)) ∧ Box10 (((w9.setCell ⟨E, 2, none⟩ (.int .i64 tg.kind)).setCell ⟨E, 3, none⟩ (.int .i64 tg.val)).setCell ⟨E, 4, none⟩ (.slice ag tg.kids.length cg)) E (.int .i64 ed.src) (.int .i64 ed.dst) (.int .i64 tg.kind) (.int .i64 tg.val) (.slice ag tg.kids.length cg) (.int .i64 ed.var) (.int .i64 ed.val.kind) (.int .i64 ed.val.val) (.slice ea2 ed.val.kids.length ec2) (.int .i64 ed.sync) ∧ TrIn (fun b => E < b) (((w9.setCell ⟨E, 2, none⟩ (.int .i64 tg.kind)).setCell ⟨E, 3, none⟩ (.int .i64 tg.val)).setCell ⟨E, 4, none⟩ (.slice ag tg.kids.length cg)) tg (.agg #[.int .i64 tg.kind, .int .i64 tg.val, .slice ag tg.kids.length cg]) from
            ⟨Below.setCell (Below.setCell (Below.setCell hB9 (show wr.heap.size ≤ E from hEs) _) (show wr.heap.size ≤ E from hEs) _) (show wr.heap.size ≤ E from hEs) _, box10_set4 (box10_set3 (box10_set2 hX9 _) _) _, cp_tr (Nat.le_refl _) (cp_tr (Nat.le_refl _) (cp_tr (Nat.le_refl _) hTg))⟩)
          clear hTg hB9 ho hb9 HX8 HB8 HG x0 x1 x2 x3 x4 x5 x6 x7 x8 x9 xl f0 f1 f2 f3 f4 f5 f6 f7 f8 f9 hE8 htg
          obtain ⟨xl, ⟨x0, x1, x2, x3, x4, x5, x6, x7, x8, x9⟩, ⟨f0, f1, f2, f3, f4, f5, f6, f7, f8, f9⟩⟩ := hX9
          go_upto_region 11 with fail
          refine wp_gen (fun W => Below wr.heap.size wr W ∧ Box10 W E (.int .i64 ed.src) (.int .i64 ed.dst) (.int .i64 tg.kind) (.int .i64 tg.val) (.slice ag tg.kids.length cg) (.int .i64 ed.var) (.int .i64 ed.val.kind) (.int .i64 ed.val.val) (.slice ea2 ed.val.kids.length ec2) (.int .i64 ed.sync) ∧ TrIn (fun b => E < b) W tg (.agg #[.int .i64 tg.kind, .int .i64 tg.val, .slice ag tg.kids.length cg])) HS9.out ?_
          clear HS9 x0 x1 x2 x3 x4 x5 x6 x7 x8 x9 xl f0 f1 f2 f3 f4 f5 f6 f7 f8 f9
          rintro W9 ⟨h1, h2, h3⟩
          have HB9 := hid h1
          have HX9 := hid h2
          have HT9 := hid h3
          obtain ⟨xl, ⟨x0, x1, x2, x3, x4, x5, x6, x7, x8, x9⟩, ⟨f0, f1, f2, f3, f4, f5, f6, f7, f8, f9⟩⟩ := h2
          clear h1 h3
          go_wp2_with fail
          refine (sb_any (-1) zeroT (by kernel_rfl) ⟨by simp, trivial⟩ ed.val _ _ _ (TrIn_below HB9.out HV.out) (zero_new 0 _).any (small_nodes _ (by have := HBE.out; omega))).mono ?_
          rintro e wA ⟨v, rfl, ⟨u, rfl, hi1, hi2, ho⟩, hbA⟩
          obtain ⟨tv, htv⟩ : ∃ t, t = subT (-1) zeroT ed.val := ⟨_, rfl⟩
          have hvm : nodes tv ≤ M := by rw [htv]; exact Int.le_trans (sub_nodes _) HBE.out.2
          rw [← htv] at hi1 hi2 ho ⊢
          obtain ⟨av, cv, rfl, _⟩ := ho.shape
          have hEA : E < W9.heap.size := HX9.out.1
          have hTv := (TrIn_frame (q := fun b => E < b) (w' := wA) fun b hb hl => ⟨by have := hb; omega, rfl⟩).1 _ _ (NewTr_ge (OwnN.new (x := .agg #[.int .i64 tv.kind, .int .i64 tv.val, .slice av tv.kids.length cv]) ⟨_, rfl, hi1, hi2, ho⟩))
          have hTg := TrIn_below hbA HT9.out
          have hXA := box10_next hbA HX9.out
          have hBA := below_next HB9.out hbA
          have HSA := hid (show Below wr.heap.size wr (((wA.setCell ⟨E, 6, none⟩ (.int .i64 tv.kind)).setCell ⟨E, 7, none⟩ (.int .i64 tv.val)).setCell ⟨E, 8, none⟩ (.slice av tv.kids.length cv)) ∧ Box10 (((wA.setCell ⟨E, 6, none⟩ (.int .i64 tv.kind)).setCell ⟨E, 7, none⟩ (.int .i64 tv.val)).setCell ⟨E, 8, none⟩ (.slice av tv.kids.length cv)) E (.int .i64 ed.src) (.int .i64 ed.dst) (.int .i64 tg.kind) (.int .i64 tg.val) (.slice ag tg.kids.length cg) (.int .i64 ed.var) (.int .i64 tv.kind) (.int .i64 tv.val) (.slice av tv.kids.length cv) (.int .i64 ed.sync) ∧ TrIn (fun b => E < b) (((wA.setCell ⟨E, 6, none⟩ (.int .i64 tv.kind)).setCell ⟨E, 7, none⟩ (.int .i64 tv.val)).setCell ⟨E, 8, none⟩ (.slice av tv.kids.length cv)) tg (.agg #[.int .i64 tg.kind, .int .i64 tg.val, .slice ag tg.kids.length cg]) ∧ TrIn (fun b => E < b) (((wA.setCell ⟨E, 6, none⟩ (.int .i64 tv.kind)).setCell ⟨E, 7, none⟩ (.int .i64 tv.val)).setCell ⟨E, 8, none⟩ (.slice av tv.kids.length cv)) tv (.agg #[.int .i64 tv.kind, .int .i64 tv.val, .slice av tv.kids.length cv]) from
            ⟨Below.setCell (Below.setCell (Below.setCell hBA (show wr.heap.size ≤ E from hEs) _) (show wr.heap.size ≤ E from hEs) _) (show wr.heap.size ≤ E from hEs) _, box10_set8 (box10_set7 (box10_set6 hXA _) _) _, cp_tr (Nat.le_refl _) (cp_tr (Nat.le_refl _) (cp_tr (Nat.le_refl _) hTg)), cp_tr (Nat.le_refl _) (cp_tr (Nat.le_refl _) (cp_tr (Nat.le_refl _) hTv))⟩)
          clear hTg hTv hBA ho hbA HX9 HB9 HT9 HV x0 x1 x2 x3 x4 x5 x6 x7 x8 x9 xl f0 f1 f2 f3 f4 f5 f6 f7 f8 f9 hEA htv
          obtain ⟨xl, ⟨x0, x1, x2, x3, x4, x5, x6, x7, x8, x9⟩, ⟨f0, f1, f2, f3, f4, f5, f6, f7, f8, f9⟩⟩ := hXA
          go_upto_region 12 with fail
          refine wp_gen (fun W => Below wr.heap.size wr W ∧ Box10 W E (.int .i64 ed.src) (.int .i64 ed.dst) (.int .i64 tg.kind) (.int .i64 tg.val) (.slice ag tg.kids.length cg) (.int .i64 ed.var) (.int .i64 tv.kind) (.int .i64 tv.val) (.slice av tv.kids.length cv) (.int .i64 ed.sync) ∧ TrIn (fun b => E < b) W tg (.agg #[.int .i64 tg.kind, .int .i64 tg.val, .slice ag tg.kids.length cg]) ∧ TrIn (fun b => E < b) W tv (.agg #[.int .i64 tv.kind, .int .i64 tv.val, .slice av tv.kids.length cv])) HSA.out ?_
          clear HSA x0 x1 x2 x3 x4 x5 x6 x7 x8 x9 xl f0 f1 f2 f3 f4 f5 f6 f7 f8 f9
          rintro WA ⟨hBn, h2, hTg, hTv⟩
          have hx : EdIn (fun b => wr.heap.size ≤ b) WA ⟨ed.src, ed.dst, tg, ed.var, tv, ed.sync⟩ (.agg (Ed.cells ⟨ed.src, ed.dst, tg, ed.var, tv, ed.sync⟩ ag cg av cv).toArray) :=
            ⟨ag, cg, av, cv, rfl, j1, j2, j3, j4, (TrIn_frame fun b hb hl => ⟨by have := hb; omega, rfl⟩).1 _ _ hTg, (TrIn_frame fun b hb hl => ⟨by have := hb; omega, rfl⟩).1 _ _ hTv⟩
          obtain ⟨va, vc, rfl, _⟩ := HE.out.shape
          have hEC := edc_cp (ve := .slice va eds.length vc) (M := M) hx hgm hvm HX.out.1 (fun g hg => (HE.out.blk g hg).2)
          obtain ⟨x, hxe⟩ : ∃ x : Ed, x = ⟨ed.src, ed.dst, tg, ed.var, tv, ed.sync⟩ := ⟨_, rfl⟩
          have HXn := hid (boxp_next hBn HX.out)
          have HEn := hid (HE.out.next hBn)
          have HBn := hid (below_trans2 HB.out hBn)
          clear hTg hTv hBn hx HX HE HB
          rw [← hxe] at hEC
          have hce : x.cells ag cg av cv = [.int .i64 ed.src, .int .i64 ed.dst, .int .i64 tg.kind, .int .i64 tg.val, .slice ag tg.kids.length cg, .int .i64 ed.var, .int .i64 tv.kind, .int .i64 tv.val, .slice av tv.kids.length cv, .int .i64 ed.sync] := by rw [hxe]; rfl
          rw [hce] at hEC
          have hel : eds.length ≤ 1000 := by have := HEL.out; have := HBQ.out.1; omega
          have HEC := hid (hEC.frame (w' := WA.alloc (.cells #[.int .i64 ed.src, .int .i64 ed.dst, .int .i64 tg.kind, .int .i64 tg.val, .slice ag tg.kids.length cg, .int .i64 ed.var, .int .i64 tv.kind, .int .i64 tv.val, .slice av tv.kids.length cv, .int .i64 ed.sync] 47)) fun b hb hl => ⟨hb, (below_alloc WA _).block b hl⟩)
          obtain ⟨ces, hO, hAll⟩ := HEn.out.next (below_alloc WA (.cells #[.int .i64 ed.src, .int .i64 ed.dst, .int .i64 tg.kind, .int .i64 tg.val, .slice ag tg.kids.length cg, .int .i64 ed.var, .int .i64 tv.kind, .int .i64 tv.val, .slice av tv.kids.length cv, .int .i64 ed.sync] 47))
          have HAll := hid hAll
          have hcl := hAll.len
          have HEB := hid HEn.out.blk
          have HXA := hid (boxp_next (below_alloc WA (.cells #[.int .i64 ed.src, .int .i64 ed.dst, .int .i64 tg.kind, .int .i64 tg.val, .slice ag tg.kids.length cg, .int .i64 ed.var, .int .i64 tv.kind, .int .i64 tv.val, .slice av tv.kids.length cv, .int .i64 ed.sync] 47)) HXn.out)
          have HBA := hid (below_next HBn.out (below_alloc WA (.cells #[.int .i64 ed.src, .int .i64 ed.dst, .int .i64 tg.kind, .int .i64 tg.val, .slice ag tg.kids.length cg, .int .i64 ed.var, .int .i64 tv.kind, .int .i64 tv.val, .slice av tv.kids.length cv, .int .i64 ed.sync] 47)))
          obtain ⟨xl, ⟨x0, x1, x2, x3, x4, x5, x6, x7, x8, x9⟩, ⟨f0, f1, f2, f3, f4, f5, f6, f7, f8, f9⟩⟩ := h2
          obtain ⟨y0, y1, y2, y3, y4⟩ := id HXn.out
          clear hEC hAll HEn HBn hce
          go_wp2_with (at_builtin; refine wp_app_edge rfl _ _ rfl (V + 1) (.slice va eds.length vc) ces [.int .i64 ed.src, .int .i64 ed.dst, .int .i64 tg.kind, .int .i64 tg.val, .slice ag tg.kids.length cg, .int .i64 ed.var, .int .i64 tv.kind, .int .i64 tv.val, .slice av tv.kids.length cv, .int .i64 ed.sync] WA.heap.size 1 rfl rfl hO (Nat.succ_le_of_lt HXA.out.1) (cells_new _ _ _) rfl (by intro u hu; simp only [List.mem_cons, List.not_mem_nil, or_false] at hu; rcases hu with rfl | rfl | rfl | rfl | rfl | rfl | rfl | rfl | rfl | rfl <;> rfl) (by omega) ?_; intro v' wB hv' hg hbk; have HEn := hid (EdsSt.app (ve := .slice va eds.length vc) HAll.out HEC.out hv' hg hbk); have hne : ∀ g, (Value.slice va eds.length vc).ownBlock = some g → g ≠ V := fun g h => by { have := HEB.out g h; omega }; have HXB := hid (boxp_keep hg.size (hg.block V HXA.out.1 (fun e => hne V e.symm rfl)) HXA.out); have HBB := hid (show Below wo.heap.size wo wB from ⟨hg.os.trans HBA.out.os, hg.tape.trans HBA.out.tape, hg.output.trans HBA.out.output, Nat.le_trans HBA.out.size hg.size, fun k hk => (hg.block k (Nat.lt_of_lt_of_le hk HBA.out.size) (fun e => by have := (HEB.out k e.symm).1; omega)).trans (HBA.out.block k hk)⟩); obtain ⟨a', c', hve, _⟩ := HEn.out.shape; rw [List.length_append, List.length_singleton] at hve; subst hve; obtain ⟨z0, z1, z2, z3, z4⟩ := id HXB.out; clear HEB HAll HEC hv' hg hbk hne HXA HBA hO hcl x0 x1 x2 x3 x4 x5 x6 x7 x8 x9 f0 f1 f2 f3 f4 f5 f6 f7 f8 f9 y0 y1 y2 y3 y4 xl)
          go_roundw
          case rel => exact ⟨k + 1, _, eds ++ [x], hlt3, by go_num, hid (by rw [List.length_append, List.length_singleton, HEL.out]), hid (boxp_set1 HXB.out _), hid (HEn.out.set (Nat.le_refl _) _), hid (Below.setCell HBB.out (by simp; omega) _)⟩
          case measure => simp [intOf, wrap64]; omega
        · obtain rfl : k = q.edges.length := by omega
          clear hlt3 hk
          go_upto_region 13 with fail
          clear x0 x1 x2 x3 x4 g0 g1
          have HSn := hid (HC2.out.next (show Below wo.heap.size wo wr from HB.out))
          obtain ⟨va, vc, rfl, e1, e2, e3, e4⟩ := HE.out.shape
          have hPo : ∀ g, vp.ownBlock = some g → g < wo.heap.size := fun g h => (HC2.out.2.2.2.1.blk g h).2
          have hP := HSn.out.2.2.2.1
          have hPb := hP.blk
          have hPC : PrC (fun b => S < b ∧ vp.ownBlock ≠ some b) wr ⟨q.locs, eds⟩ [.int .i64 q.locs, .slice va eds.length vc] :=
            ⟨va, vc, rfl, ⟨va, vc, rfl, i1, e1, e2, e3.frame (Nat.le_refl _) fun b hb hl => ⟨⟨by have := hb; omega, fun e => by have := hPo b e; have := hb; omega⟩, rfl⟩⟩, e4⟩
          have HPC := hid (hPC.frame (w' := wr.alloc (.cells #[.int .i64 q.locs, .slice va eds.length vc] 41)) (by simp) fun b hb hl => ⟨hb, (below_alloc wr _).block b hl⟩)
          obtain ⟨⟨cps, hO, hAll⟩, _⟩ := hP.next (below_alloc wr (.cells #[.int .i64 q.locs, .slice va eds.length vc] 41))
          have HAll := hid hAll
          have hcl := hAll.len
          have hbd := hid HE.out.bnd
          have HSA := hid (HSn.out.next (below_alloc wr (.cells #[.int .i64 q.locs, .slice va eds.length vc] 41)))
          have hXS := HSn.out.1
          have hXA := boxp_next (below_alloc wr (.cells #[.int .i64 q.locs, .slice va eds.length vc] 41)) hXS
          obtain ⟨pa, pc, rfl, _⟩ := hP.shape
          have hpl : prs.length ≤ 1000 := by have := cp_len0 HL.out; omega
          have hel : eds.length ≤ K := by have := HEL.out; have := HBQ.out.1; omega
          clear hPC hAll HSn HB HE e1 e2 e3 e4 hP
          obtain ⟨y0, y1, y2, y3, y4⟩ := id HX.out
          obtain ⟨x0, x1, x2, x3, x4⟩ := id hXS
          clear HX
          go_wp2_with (at_builtin; refine wp_app_proc rfl _ _ rfl (S + 1) (.slice pa prs.length pc) cps [.int .i64 q.locs, .slice va eds.length vc] wr.heap.size 1 rfl rfl hO (by simp; omega) (cells_new wr [.int .i64 q.locs, .slice va eds.length vc] _) rfl (by intro u hu; simp at hu; rcases hu with rfl | rfl <;> rfl) (by omega) ?_; intro v' wB hv' hg hbk; have HSB := hid (HSA.out.app HAll.out HPC.out ⟨hel, hbd.out⟩ hv' hg hbk); have hsh := hv'.shape; obtain ⟨va', vc', hva', _⟩ := hsh; rw [List.length_append, hcl] at hva'; simp only [List.length_singleton] at hva'; subst hva'; obtain ⟨z0, z1, z2, z3, z4⟩ := boxp_keep hg.size (hg.block S hXA.1 (fun e => by have := (hPb S e.symm).1; omega)) hXA; clear hv' hg hbk x0 x1 x2 x3 x4)
          go_roundw
          case rel => exact ⟨j + 1, .slice va' (prs.length + 1) vc', prs ++ [⟨q.locs, eds⟩], hlt, by go_num, hid (cp_len HL.out HQ.out HEL.out), HSB⟩
          case measure => simp [intOf, wrap64]; omega
    · obtain rfl : j = s.procs.length := by omega
      obtain ⟨h1, h2, h3, h4, h5, h6, h7, h8⟩ := HC2.out
      obtain ⟨pa, pc, rfl, _⟩ := h4.shape
      have HF := hid (show CopyPost s M K w (.returned (.agg #[.slice b1 s.init.length d1, .slice pa prs.length pc])) ((wo.setCell ⟨w.heap.size + 1, 0, none⟩ (.slice b1 s.init.length d1)).setCell ⟨w.heap.size + 1, 1, none⟩ (.slice pa prs.length pc)) from
        ⟨_, _, _, prs, S, rfl, h2.keep (fun g _ hb _ => (Below.heap_setCell _ _ _ _ (show g ≠ w.heap.size + 1 by omega)).trans (Below.heap_setCell _ _ _ _ (show g ≠ w.heap.size + 1 by omega))), h3, rfl, (h4.set (show w.heap.size + 1 ≤ S by omega) _).set (show w.heap.size + 1 ≤ S by omega) _, by simpa using HL.out, Below.setCell (Below.setCell h5 (show w.heap.size ≤ w.heap.size + 1 by omega) _) (show w.heap.size ≤ w.heap.size + 1 by omega) _, h8, by simpa using h1.1⟩)
      obtain ⟨x0, x1, x2, x3, x4⟩ := h1
      obtain ⟨y0, y1, y2, y3, y4⟩ := h7
      obtain ⟨z0, z1, z2, z3, z4⟩ := h6
      clear h2 h3 h4 h5 HC2 HL
      go_wp2_with fail
      refine bodyPost_ret (v := .agg #[.slice b1 s.init.length d1, .slice pa prs.length pc]) (by simp [results, Tryd.results26, go_sem, y0, y1, y2, y3, y4]) rfl ?_
      exact HF.out
end Go.Proofs.YtgopfjnpjkpelaaDoor
namespace Go.Proofs.YtgopfjnpjkpelaaDoor
open Go.RowKit
set_option linter.unusedVariables false
set_option linter.unusedSimpArgs false

/-- the store at a of u: an int for an int, or a readable row of nodes for a slice; new nodes count less than C -/
def StOk (P : Nat → Prop) (w : World) (a : Addr) (u : Value) (C : Int) : Prop := 1 ≤ C ∧
  ((∃ k n, w.cell? a = some (.int .i64 k) ∧ u = .int .i64 n ∧ i64 n) ∨
   (∃ A l c A' c' kids, w.cell? a = some (.slice A l c) ∧ u = .slice A' (kids : List Tr).length c' ∧ kids.length ≤ c' ∧ c' ≤ maxLen ∧ TrsIn P (w.setCell a u) kids A' ∧ 1 + nodesL kids ≤ C))
theorem StOk.int {P : Nat → Prop} {w : World} {a : Addr} {u : Value} {C : Int} (h : StOk P w a u C) {p : Addr} {k : Int} (hc : w.cell? p = some (.int .i64 k)) (hk : i64 k) : ∃ k', (w.setCell a u).cell? p = some (.int .i64 k') ∧ i64 k' := by
  by_cases e : a = p
  · subst e
    rcases h.2 with ⟨_, n, h1, rfl, h3⟩ | ⟨_, _, _, _, _, _, h1, _⟩
    · exact ⟨n, World.cell?_setCell_same _ _ _ hc, h3⟩
    · rw [hc] at h1; simp at h1
  · exact ⟨k, by rw [World.cell?_setCell_other _ _ _ _ e]; exact hc, hk⟩
theorem StOk.row {P : Nat → Prop} {w : World} {a : Addr} {u : Value} {C : Int} (h : StOk P w a u C) {p : Addr} {A : Option Addr} {c : Nat} {kids kids' : List Tr} (hc : w.cell? p = some (.slice A kids.length c)) (h1 : kids.length ≤ c) (h2 : c ≤ maxLen) (h3 : TrsIn P (w.setCell a u) kids' A) (h4 : kids'.length = kids.length) (h5 : nodesL kids' ≤ C * nodesL kids) :
    ∃ A' c' ks, (w.setCell a u).cell? p = some (.slice A' (ks : List Tr).length c') ∧ ks.length ≤ c' ∧ c' ≤ maxLen ∧ TrsIn P (w.setCell a u) ks A' ∧ 1 + nodesL ks ≤ C * (1 + nodesL kids) := by
  have hn := nodesL_pos kids
  have hC := h.1
  have hm : 0 ≤ C * nodesL kids := Int.mul_nonneg (by omega) (by omega)
  by_cases e : a = p
  · subst e
    rcases h.2 with ⟨_, _, i1, _⟩ | ⟨_, _, _, A', c', ks, _, rfl, i3, i4, i5, i6⟩
    · rw [hc] at i1; simp at i1
    · exact ⟨A', c', ks, World.cell?_setCell_same _ _ _ hc, i3, i4, i5, by rw [Int.mul_add]; omega⟩
  · exact ⟨A, c, kids', by rw [World.cell?_setCell_other _ _ _ _ e, h4]; exact hc, by omega, h2, h3, by rw [Int.mul_add]; omega⟩

theorem StOk.both {P : Nat → Prop} {w : World} {a : Addr} {u : Value} {C : Int} (h : StOk P w a u C) :
    (∀ t x, TrIn P w t x → ∃ t', TrIn P (w.setCell a u) t' x ∧ t'.kind = t.kind ∧ t'.val = t.val ∧ t'.kids.length = t.kids.length ∧ nodesL t'.kids ≤ C * nodesL t.kids) ∧
    (∀ l A, TrsIn P w l A → ∃ l', TrsIn P (w.setCell a u) l' A ∧ l'.length = l.length ∧ nodesL l' ≤ C * nodesL l) := by
  refine Tr.both (P := fun t => ∀ x, TrIn P w t x → ∃ t', TrIn P (w.setCell a u) t' x ∧ t'.kind = t.kind ∧ t'.val = t.val ∧ t'.kids.length = t.kids.length ∧ nodesL t'.kids ≤ C * nodesL t.kids)
    (Q := fun l => ∀ A, TrsIn P w l A → ∃ l', TrsIn P (w.setCell a u) l' A ∧ l'.length = l.length ∧ nodesL l' ≤ C * nodesL l) ?_ ?_ ?_
  · intro k v kids ih x hx
    rw [TrIn_mk] at hx
    obtain ⟨A, n, c, rfl, h1, h2, h3, h4, h5, h6⟩ := hx
    obtain ⟨l', i1, i2, i3⟩ := ih A h6
    exact ⟨.mk k v l', (TrIn_mk ..).2 ⟨A, n, c, rfl, h1, h2, by omega, h4, h5, i1⟩, rfl, rfl, i2, i3⟩
  · intro A _
    exact ⟨[], by simp [TrsIn_nil], rfl, by simp [nodesL]⟩
  · intro t ts iht ihts A hx
    rw [TrsIn_cons] at hx
    obtain ⟨b, o, c0, c1, c2, rfl, hpb, h0, h1, h2, h3, h4⟩ := hx
    obtain ⟨t', j1, j2, j3, j4, j5⟩ := iht _ h3
    obtain ⟨ts', k1, k2, k3⟩ := ihts _ h4
    obtain ⟨tk, tv, tkids⟩ := t
    rw [TrIn_mk] at h3
    obtain ⟨B, n, c, he, g1, g2, rfl, g4, g5, g6⟩ := h3
    simp only [Value.agg.injEq, Array.mk.injEq, List.cons.injEq, and_true] at he
    obtain ⟨rfl, rfl, rfl⟩ := he
    obtain ⟨sk, sv, skids⟩ := t'
    rw [TrIn_mk] at j1
    obtain ⟨B', n', d', he', _, _, rfl, _, _, g6'⟩ := j1
    simp only [Value.agg.injEq, Array.mk.injEq, List.cons.injEq, and_true, Value.slice.injEq] at he'
    obtain ⟨_, _, rfl, _, rfl⟩ := he'
    obtain ⟨k', m1, m2⟩ := h.int h0 g1
    obtain ⟨v', m3, m4⟩ := h.int h1 g2
    obtain ⟨A', c', ks, m5, m6, m7, m8, m9⟩ := h.row h2 g4 g5 g6' j4 j5
    refine ⟨.mk k' v' ks :: ts', (TrsIn_cons ..).2 ⟨b, o, _, _, _, rfl, hpb, m1, m3, m5, (TrIn_mk ..).2 ⟨A', _, c', rfl, m2, m4, rfl, m6, m7, m8⟩, k1⟩, by simp [k2], ?_⟩
    simp only [nodesL, nodes, Int.mul_add] at m9 ⊢
    omega

/-- for each element one that is related to it -/
theorem choose_all {T : Type} : ∀ (l : List T) (P : Nat → T → T → Prop), (∀ i t, l[i]? = some t → ∃ t', P i t t') → ∃ l' : List T, l'.length = l.length ∧ ∀ i t', l'[i]? = some t' → ∃ t, l[i]? = some t ∧ P i t t'
  | [], P, _ => ⟨[], rfl, by simp⟩
  | t :: ts, P, h => by
    obtain ⟨t', h1⟩ := h 0 t (by simp)
    obtain ⟨ts', h2, h3⟩ := choose_all ts (fun i => P (i + 1)) (fun i u hu => h (i + 1) u (by simpa using hu))
    refine ⟨t' :: ts', by simp [h2], fun i u hu => ?_⟩
    cases i with
    | zero => simp at hu; subst hu; exact ⟨t, by simp, h1⟩
    | succ i => simpa using h3 i u (by simpa using hu)
theorem StOk.ed {P : Nat → Prop} {w : World} {a : Addr} {u : Value} {C : Int} (h : StOk P w a u C) {e : Ed} {b o : Nat} (hx : EdAt P w e b o) : ∃ e', EdAt P (w.setCell a u) e' b o ∧ nodes e'.guard ≤ C * nodes e.guard ∧ nodes e'.val ≤ C * nodes e.val := by
  obtain ⟨A, c, A', c', ⟨h0, h1, h2, h3, h4, h5, h6, h7, h8, h9⟩, ⟨B, n, B', n', he, i1, i2, i3, i4, i5, i6⟩⟩ := hx
  simp only [Value.agg.injEq, Array.mk.injEq, List.cons.injEq, and_true, Value.slice.injEq, true_and] at he
  obtain ⟨⟨rfl, rfl⟩, rfl, rfl⟩ := he
  obtain ⟨src, dst, g, var, v, sync⟩ := e
  obtain ⟨gk, gv, gs⟩ := g
  obtain ⟨vk, vv, vs⟩ := v
  rw [TrIn_mk] at i5 i6
  obtain ⟨_, _, _, e1, p1, p2, rfl, p4, p5, p6⟩ := i5
  obtain ⟨_, _, _, e2, q1, q2, rfl, q4, q5, q6⟩ := i6
  simp only [Tr.kind, Tr.val, Tr.kids, Value.agg.injEq, Array.mk.injEq, List.cons.injEq, and_true, Value.slice.injEq, true_and] at e1 e2 h0 h1 h2 h3 h4 h5 h6 h7 h8 h9
  obtain ⟨rfl, rfl⟩ := e1
  obtain ⟨rfl, rfl⟩ := e2
  obtain ⟨l1, j1, j2, j3⟩ := h.both.2 _ _ p6
  obtain ⟨l2, k1, k2, k3⟩ := h.both.2 _ _ q6
  obtain ⟨s0, m0, n0⟩ := h.int h0 i1
  obtain ⟨s1, m1, n1⟩ := h.int h1 i2
  obtain ⟨s2, m2, n2⟩ := h.int h2 p1
  obtain ⟨s3, m3, n3⟩ := h.int h3 p2
  obtain ⟨s5, m5, n5⟩ := h.int h5 i3
  obtain ⟨s6, m6, n6⟩ := h.int h6 q1
  obtain ⟨s7, m7, n7⟩ := h.int h7 q2
  obtain ⟨s9, m9, n9⟩ := h.int h9 i4
  obtain ⟨A4, c4, t4, r0, r1, r2, r3, r4⟩ := h.row h4 p4 p5 j1 j2 j3
  obtain ⟨A8, c8, t8, u0, u1, u2, u3, u4⟩ := h.row h8 q4 q5 k1 k2 k3
  exact ⟨⟨s0, s1, .mk s2 s3 t4, s5, .mk s6 s7 t8, s9⟩, ⟨A4, c4, A8, c8, ⟨m0, m1, m2, m3, r0, m5, m6, m7, u0, m9⟩, ⟨A4, c4, A8, c8, rfl, n0, n1, n5, n9, (TrIn_mk ..).2 ⟨A4, _, c4, rfl, n2, n3, rfl, r1, r2, r3⟩, (TrIn_mk ..).2 ⟨A8, _, c8, rfl, n6, n7, rfl, u1, u2, u3⟩⟩⟩, by simpa only [nodes] using r4, by simpa only [nodes] using u4⟩
theorem StOk.eds {P : Nat → Prop} {w : World} {a : Addr} {u : Value} {C : Int} (h : StOk P w a u C) {l : List Ed} {A : Option Addr} (hx : EdsIn P w l A) : ∃ l', EdsIn P (w.setCell a u) l' A ∧ l'.length = l.length ∧ ∀ M, 0 ≤ M → (∀ e, e ∈ l → nodes e.guard ≤ M ∧ nodes e.val ≤ M) → ∀ e, e ∈ l' → nodes e.guard ≤ C * M ∧ nodes e.val ≤ C * M := by
  rcases hx with rfl | ⟨b, o, rfl, hp, hl, hx⟩
  · exact ⟨[], .inl rfl, rfl, by simp⟩
  · obtain ⟨l', h1, h2⟩ := choose_all l (fun i e e' => EdAt P (w.setCell a u) e' b (o + i * 10) ∧ nodes e'.guard ≤ C * nodes e.guard ∧ nodes e'.val ≤ C * nodes e.val) (fun i e hi => h.ed (hx i e hi))
    refine ⟨l', .inr ⟨b, o, rfl, hp, by simpa using hl, fun i e hi => ?_⟩, h1, fun M _ hM e he => ?_⟩
    · obtain ⟨t, _, h3, _⟩ := h2 i e hi; exact h3
    · obtain ⟨i, hi⟩ := List.mem_iff_getElem?.1 he
      obtain ⟨t, ht, _, h4, h5⟩ := h2 i e hi
      obtain ⟨m1, m2⟩ := hM t (List.mem_of_getElem? ht)
      have hC := h.1
      exact ⟨Int.le_trans h4 (Int.mul_le_mul_of_nonneg_left m1 (by omega)), Int.le_trans h5 (Int.mul_le_mul_of_nonneg_left m2 (by omega))⟩
/-- rows of processes that lie elsewhere -/
theorem StOk.prs {P : Nat → Prop} {w : World} {a : Addr} {u : Value} {C : Int} (h : StOk P w a u C) {l : List Pr} {A : Option Addr} (hx : PrsIn P w l A) (hA : ∀ g, A = some g → g.block ≠ a.block) : ∃ l', PrsIn P (w.setCell a u) l' A ∧ l'.length = l.length ∧ l'.map (fun q : Pr => q.edges.length) = l.map (fun q : Pr => q.edges.length) ∧
    ∀ (M : Int) (K : Nat), 0 ≤ M → (∀ q, q ∈ l → q.edges.length ≤ K ∧ ∀ e, e ∈ q.edges → nodes e.guard ≤ M ∧ nodes e.val ≤ M) → ∀ q, q ∈ l' → q.edges.length ≤ K ∧ ∀ e, e ∈ q.edges → nodes e.guard ≤ C * M ∧ nodes e.val ≤ C * M := by
  rcases hx with rfl | ⟨b, o, rfl, hp, hl, hx⟩
  · exact ⟨[], .inl rfl, rfl, rfl, by simp⟩
  · have hb : b ≠ a.block := hA _ rfl
    have hc : ∀ i, (w.setCell a u).cell? ⟨b, i, none⟩ = w.cell? ⟨b, i, none⟩ := fun i => World.cell?_of_block (w := w) (a := ⟨b, i, none⟩) (Below.heap_setCell _ _ _ _ hb)
    obtain ⟨l', h1, h2⟩ := choose_all l (fun i q q' => PrAt P (w.setCell a u) q' b (o + i * 2) ∧ q'.edges.length = q.edges.length ∧ ∀ M, 0 ≤ M → (∀ e, e ∈ q.edges → nodes e.guard ≤ M ∧ nodes e.val ≤ M) → ∀ e, e ∈ q'.edges → nodes e.guard ≤ C * M ∧ nodes e.val ≤ C * M) (fun i q hi => by
      obtain ⟨a', c', ⟨e0, e1⟩, a2, c2, he, i1, i2, i3, i4⟩ := hx i q hi
      simp at he
      obtain ⟨rfl, rfl⟩ := he
      obtain ⟨es, j1, j2, j3⟩ := h.eds i4
      exact ⟨⟨q.locs, es⟩, ⟨a', c', ⟨(hc _).trans e0, (hc _).trans (by rw [e1, j2])⟩, a', c', rfl, i1, by show es.length ≤ c'; omega, i3, j1⟩, j2, j3⟩)
    refine ⟨l', .inr ⟨b, o, rfl, hp, by simpa using hl, fun i q hi => ?_⟩, h1, List.ext_getElem (by simp [h1]) fun i g1 g2 => ?_, fun M K hM hq q hm => ?_⟩
    · obtain ⟨t, _, h3, _⟩ := h2 i q hi; exact h3
    · simp only [List.length_map] at g1 g2
      obtain ⟨t, ht, _, h4, _⟩ := h2 i _ (List.getElem?_eq_getElem g1)
      rw [List.getElem?_eq_getElem g2] at ht
      cases ht
      simpa using h4
    · obtain ⟨i, hi⟩ := List.mem_iff_getElem?.1 hm
      obtain ⟨t, ht, _, h4, h5⟩ := h2 i q hi
      obtain ⟨m1, m2⟩ := hq t (List.mem_of_getElem? ht)
      exact ⟨by omega, h5 M hM m2⟩
end Go.Proofs.YtgopfjnpjkpelaaDoor
namespace Go.Proofs.YtgopfjnpjkpelaaDoor
open Go.RowKit
set_option linter.unusedVariables false
set_option linter.unusedSimpArgs false

theorem OwnI.ints3 {B : Nat} {p : Nat → Prop} {a : Option Addr} {n c : Nat} {l : List Int} {w : World} (h : OwnI B (.slice a n c) l w) (hi : ∀ n, n ∈ l → i64 n) (hp : ∀ g, (Value.slice a n c).ownBlock = some g → p g) : IntsIn p w a l := by
  obtain ⟨h1, h2⟩ := h.ints2 hi
  rcases h.row with ⟨rfl, _⟩ | ⟨g, c', e, _⟩
  · exact ⟨.inl rfl, h2⟩
  · simp at e
    obtain ⟨rfl, _, _⟩ := e
    rcases h1 with h1 | ⟨b, o, he, _, h3, h4⟩
    · exact ⟨.inl h1, h2⟩
    · simp at he
      obtain ⟨rfl, rfl⟩ := he
      exact ⟨.inr ⟨g, 0, rfl, hp g rfl, h3, h4⟩, h2⟩

theorem row_one (W : World) (x : Int) (h : i64 x) : IntsIn Any (W.alloc (.cells #[.int .i64 x] 3)) (some ⟨W.heap.size, 0, none⟩) [x] := ⟨.inr ⟨W.heap.size, 0, rfl, trivial, by simp, fun i v hi => by
    cases i with
    | zero => simp at hi; subst hi; simp
    | succ i => simp at hi⟩, fun m hm => by simp at hm; subst hm; exact h⟩
theorem below_set2 {B X : Nat} {w W : World} (h : Below B w W) (hX : B ≤ X) (u0 u1 : Value) : Below B w ((W.setCell ⟨X, 0, none⟩ u0).setCell ⟨X, 1, none⟩ u1) := Below.setCell (Below.setCell h (show B ≤ X from hX) _) (show B ≤ X from hX) _
end Go.Proofs.YtgopfjnpjkpelaaDoor
namespace Go.Proofs.YtgopfjnpjkpelaaDoor
open Go.RowKit
set_option linter.unusedVariables false
set_option linter.unusedSimpArgs false

/-- what a mutation comes to -/
def MuPost (ln : List Nat) (B K : Nat) (M : Int) (L : Nat) (R p : Nat) (w : World) (e : Ending) (w' : World) : Prop :=
  ∃ v s p', e = .returned v ∧ SyIn (fun b => w.heap.size + 1 < b) w' s v ∧ (Bnd M L s ∧ (s.procs = [] ∨ ∃ t, s.procs.map (fun q : Pr => q.edges.length) = ln ++ t)) ∧ NilI v ∧ But w R w' ∧ Rd B w' R p' ∧ p' ≤ p + K
/-- the system in its variable O, ahead of the return -/
def MuEnd (w : World) (R O : Nat) (ln : List Nat) (M : Int) (L : Nat) (a : Option Addr) (li c : Nat) (b : Option Addr) (lp d : Nat) (W : World) : Prop :=
  BoxP W O (.slice a li c) (.slice b lp d) ∧ (∃ s, SyIn (fun b => w.heap.size + 1 < b) W s (.agg #[.slice a li c, .slice b lp d]) ∧ Bnd M L s ∧ ∃ t, s.procs.map (fun q : Pr => q.edges.length) = ln ++ t) ∧ (a = none → c = 0) ∧ But w R W ∧ BoxP W (w.heap.size + 1) (.slice none 0 0) (.slice none 0 0) ∧ w.heap.size + 1 < O
theorem MuEnd.done {ln : List Nat} {w W : World} {R O B K p p' L : Nat} {M : Int} {a b : Option Addr} {li c lp d : Nat} (h : MuEnd w R O ln M L a li c b lp d W) (hr : Rd B W R p') (hp : p' ≤ p + K) (hB : R < B ∧ B ≤ w.heap.size) :
    MuPost ln B K M L R p w (.returned (.agg #[.slice a li c, .slice b lp d])) ((W.setCell ⟨w.heap.size + 1, 0, none⟩ (.slice a li c)).setCell ⟨w.heap.size + 1, 1, none⟩ (.slice b lp d)) := by
  obtain ⟨h1, ⟨s, h2, h3, h3t⟩, h4, h5, h6, h7⟩ := h
  refine ⟨_, s, p', rfl, h2.frame (by simp) (fun b hb hl => ⟨hb, (Below.heap_setCell _ _ _ _ (show b ≠ w.heap.size + 1 by omega)).trans (Below.heap_setCell _ _ _ _ (show b ≠ w.heap.size + 1 by omega))⟩), ⟨h3, .inr h3t⟩, ?_,
    But.setNew (But.setNew h5 (show w.heap.size ≤ w.heap.size + 1 by omega) _) (show w.heap.size ≤ w.heap.size + 1 by omega) _, (hr.set (show B ≤ w.heap.size + 1 by omega) _).set (show B ≤ w.heap.size + 1 by omega) _, hp⟩
  intro a' n' c' y he ha
  simp at he
  obtain ⟨⟨rfl, _, rfl⟩, _⟩ := he
  exact h4 ha
theorem MuEnd.mono {ln : List Nat} {w W : World} {R O L L' : Nat} {M M' : Int} {a b : Option Addr} {li c lp d : Nat} (h : MuEnd w R O ln M L a li c b lp d W) (hM : M ≤ M') (hL : L ≤ L') : MuEnd w R O ln M' L' a li c b lp d W := by
  obtain ⟨h1, ⟨s, h2, ⟨k1, k2, k3⟩, k4⟩, h4, h5, h6, h7⟩ := h
  exact ⟨h1, ⟨s, h2, ⟨by omega, by omega, fun q hq => ⟨by have := (k3 q hq).1; omega, fun e he => by have := (k3 q hq).2 e he; omega⟩⟩, k4⟩, h4, h5, h6, h7⟩
/-- a store into the system -/
theorem MuEnd.store {ln : List Nat} {w W : World} {R O L : Nat} {M C : Int} {a b : Option Addr} {li c lp d : Nat} (h : MuEnd w R O ln M L a li c b lp d W) {ad : Addr} {u : Value} (hs : StOk (fun b => w.heap.size + 1 < b) W ad u C) (hM : 0 ≤ M) (h1 : w.heap.size + 1 < ad.block) (h2 : ad.block ≠ O) (h3 : ∀ g, a = some g → g.block ≠ ad.block) (h4 : ∀ g, b = some g → g.block ≠ ad.block) :
    MuEnd w R O ln (C * M) L a li c b lp d (W.setCell ad u) := by
  obtain ⟨i1, ⟨s, ⟨a', c', b', d', he, j1, j2, j3, j4, j5, j6⟩, ⟨k1, k2, k3⟩, k4⟩, i4, i5, i6, i7⟩ := h
  simp at he
  obtain ⟨⟨rfl, rfl, rfl⟩, rfl, rfl, rfl⟩ := he
  obtain ⟨l', m1, m2, m4, m3⟩ := hs.prs j6 h4
  refine ⟨boxp_set i1 (Ne.symm h2) _, ⟨⟨s.init, l'⟩, ⟨a, c, b, d, by simp [m2], j1, j2, ?_, by simp only [m2]; exact j4, j5, m1⟩, ⟨k1, by simp only [m2]; exact k2, m3 M L hM k3⟩, by simp only [m4]; exact k4⟩, i4, But.setNew i5 (by omega) _, boxp_set i6 (by omega) _, i7⟩
  rcases j3 with ⟨j3 | ⟨g, o, rfl, q1, q2, q3⟩, j7⟩
  · exact ⟨.inl j3, j7⟩
  · have hg := h3 _ rfl
    exact ⟨.inr ⟨g, o, rfl, q1, by simpa using q2, fun i v hv => (World.cell?_of_block (w := W) (a := ⟨g, o + i, none⟩) (Below.heap_setCell _ _ _ _ hg)).trans (q3 i v hv)⟩, j7⟩

/-- the copy in its variable O -/
def MuSt (w : World) (R O S : Nat) (l : List Int) (vi vp : Value) (prs : List Pr) (W : World) : Prop :=
  BoxP W O vi vp ∧ OwnI (w.heap.size + 1 + 1) vi l W ∧ (∀ g, vi.ownBlock = some g → g < S) ∧
  (∃ cps, OwnR 41 2 (S + 1) vp cps W ∧ AllR (PrC (fun b => S < b ∧ b ≠ O ∧ vp.ownBlock ≠ some b) W) prs cps) ∧ (∀ g, vp.ownBlock = some g → g < O) ∧
  But w R W ∧ BoxP W (w.heap.size + 1) (.slice none 0 0) (.slice none 0 0) ∧ w.heap.size + 1 < S ∧ S < O
theorem MuSt.but {w W W' : World} {R O S : Nat} {l : List Int} {vi vp : Value} {prs : List Pr} (h : MuSt w R O S l vi vp prs W) (hb : But W R W') (hR : R < w.heap.size) : MuSt w R O S l vi vp prs W' := by
  obtain ⟨h1, h2, h3, ⟨cps, h4, h5⟩, h6, h7, h8, h9, hA⟩ := h
  exact ⟨boxp_but hb (by omega) h1, h2.but hb (by omega), h3, ⟨cps, h4.but hb (by omega), h5.mono fun t c h => h.frame hb.size fun b hp hl => ⟨hp, hb.block b hl (by omega)⟩⟩, h6, h7.trans hb, boxp_but hb (by omega) h8, h9, hA⟩
theorem MuSt.next {w W W' : World} {R O S : Nat} {l : List Int} {vi vp : Value} {prs : List Pr} (h : MuSt w R O S l vi vp prs W) (hb : Below W.heap.size W W') (hR : R < w.heap.size) : MuSt w R O S l vi vp prs W' := h.but (But.of hb) hR
/-- nothing is done to it -/
theorem MuSt.fin {w W : World} {R O S L : Nat} {M : Int} {l : List Int} {vi vp : Value} {prs : List Pr} (h : MuSt w R O S l vi vp prs W) (hl : l.length ≤ L ∧ ∀ n, n ∈ l → i64 n) (hp : prs.length ≤ L) (hq : ∀ q, q ∈ prs → q.edges.length ≤ L ∧ ∀ e, e ∈ q.edges → nodes e.guard ≤ M ∧ nodes e.val ≤ M) :
    ∃ a c b d, vi = .slice a l.length c ∧ vp = .slice b prs.length d ∧ MuEnd w R O (prs.map (fun q : Pr => q.edges.length)) M L a l.length c b prs.length d W := by
  obtain ⟨h1, h2, h3, ⟨cps, h4, h5⟩, h6, h7, h8, h9, hA⟩ := h
  obtain ⟨a, c, rfl, i1, i2, i3⟩ := h2.shape
  obtain ⟨b, d, rfl, j1, j2, _⟩ := h4.shape
  have hb := h2.blk
  have hb2 := h4.blk
  rw [h5.len] at *
  have hP : PrsIn (fun b => w.heap.size + 1 < b) W prs b := by
    refine prs_of h4 (h5.mono fun t c h => h.frame (Nat.le_refl _) fun b hp hl => ⟨by have := hp.1; omega, rfl⟩) (fun g hg => ?_)
    subst hg
    have := (hb2 g rfl).1
    omega
  exact ⟨a, c, b, d, rfl, rfl, h1, ⟨⟨l, prs⟩, ⟨a, c, b, d, rfl, i1, i2, h2.ints3 hl.2 (fun g hg => by have := (hb g hg).1; omega), j1, j2, hP⟩, ⟨hl.1, hp, hq⟩, [], by simp⟩, i3, h7, h8, by omega⟩
/-- a number is appended -/
theorem MuSt.app0 {w W W' : World} {R O S L : Nat} {M : Int} {l : List Int} {vi vp vi' : Value} {prs : List Pr} (h : MuSt w R O S l vi vp prs W) (hR : R < w.heap.size) {l' : List Int} (h' : OwnI (w.heap.size + 1 + 1) vi' l' W') (hg : W.grownBy W' vi.ownBlock) (hv : vi'.ownBlock = vi.ownBlock ∨ vi'.ownBlock = some W.heap.size)
    (hl : l'.length ≤ L ∧ ∀ n, n ∈ l' → i64 n) (hp : prs.length ≤ L) (hq : ∀ q, q ∈ prs → q.edges.length ≤ L ∧ ∀ e, e ∈ q.edges → nodes e.guard ≤ M ∧ nodes e.val ≤ M) :
    ∃ a c b d, vi' = .slice a l'.length c ∧ vp = .slice b prs.length d ∧ MuEnd w R O (prs.map (fun q : Pr => q.edges.length)) M L a l'.length c b prs.length d (W'.setCell ⟨O, 0, none⟩ vi') := by
  obtain ⟨h1, h2, h3, ⟨cps, h4, h5⟩, h6, h7, h8, h9, hA⟩ := h
  obtain ⟨a, c, rfl, i1, i2, i3⟩ := h'.shape
  obtain ⟨b, d, rfl, j1, j2, _⟩ := h4.shape
  have hb0 := h2.blk
  have hb := h'.blk
  have hb2 := h4.blk
  have hOs := h1.1
  rw [h5.len] at *
  have hk : ∀ b, (∀ g, vi.ownBlock = some g → g ≠ b) → b < W.heap.size → W'.heap[b]? = W.heap[b]? := fun b hb hl => hg.block b hl (fun e => hb b e.symm rfl)
  have hkS : ∀ b, S ≤ b → b < W.heap.size → W'.heap[b]? = W.heap[b]? := fun b hS hl => hk b (fun g e => by have := h3 g e; omega) hl
  have hO : ∀ b, b ≠ O → (W'.setCell ⟨O, 0, none⟩ (.slice a l'.length c)).heap[b]? = W'.heap[b]? := fun b hb => Below.heap_setCell _ _ _ _ hb
  have hfr : ∀ b, (S < b ∧ b ≠ O) → b < W.heap.size → (W'.setCell ⟨O, 0, none⟩ (.slice a l'.length c)).heap[b]? = W.heap[b]? := fun b hb hl => (hO b hb.2).trans (hkS b (by omega) hl)
  have h4' := h4.keep (w' := W'.setCell ⟨O, 0, none⟩ (.slice a l'.length c)) (fun g e hB hl => hfr g ⟨by omega, by have := h6 g e; omega⟩ hl)
  have hP : PrsIn (fun b => w.heap.size + 1 < b) (W'.setCell ⟨O, 0, none⟩ (.slice a l'.length c)) prs b := by
    refine prs_of h4' (h5.mono fun t c h => h.frame (by simpa using hg.size) fun b hp hl => ⟨by have := hp.1; omega, hfr b ⟨hp.1, hp.2.1⟩ hl⟩) (fun g hg => ?_)
    subst hg
    have := (hb2 g rfl).1
    omega
  have hne : ∀ g, (Value.slice a l'.length c).ownBlock = some g → g ≠ O := fun g e => by
    rcases hv with hv | hv
    · have := h3 g (hv ▸ e); omega
    · rw [hv] at e; simp at e; omega
  have hI := (h'.keep (w' := W'.setCell ⟨O, 0, none⟩ (.slice a l'.length c)) (fun g e _ _ => hO g (hne g e))).ints3 hl.2 (p := fun b => w.heap.size + 1 < b) (fun g e => by have := (hb g e).1; omega)
  refine ⟨a, c, b, d, rfl, rfl, boxp_set0 (boxp_keep hg.size (hkS O (by omega) hOs) h1) _, ⟨⟨l', prs⟩, ⟨a, c, b, d, rfl, i1, i2, hI, j1, j2, hP⟩, ⟨hl.1, hp, hq⟩, [], by simp⟩, i3, But.setNew ?_ (show w.heap.size ≤ O by omega) _, boxp_set (boxp_keep hg.size (hk _ (fun g e => by have := (hb0 g e).1; omega) h8.1) h8) (show w.heap.size + 1 ≠ O by omega) _, by omega⟩
  exact But.own h7 h2 (by omega) hg
/-- a process is appended -/
theorem MuSt.app1 {w W W' : World} {R O S L : Nat} {M : Int} {l : List Int} {vi vp vp' : Value} {prs : List Pr} {q : Pr} {cq : List Value} {cps : List (List Value)} (h : MuSt w R O S l vi vp prs W) (hR : R < w.heap.size) (h5 : AllR (PrC (fun b => S < b ∧ b ≠ O ∧ vp.ownBlock ≠ some b) W) prs cps) (h5q : PrC (fun b => S < b ∧ b ≠ O ∧ vp.ownBlock ≠ some b) W q cq)
    (h' : OwnR 41 2 (S + 1) vp' (cps ++ [cq]) W') (hg : W.grownBy W' vp.ownBlock) (hv : vp'.ownBlock = vp.ownBlock ∨ vp'.ownBlock = some W.heap.size)
    (hl : l.length ≤ L ∧ ∀ n, n ∈ l → i64 n) (hp : (prs ++ [q]).length ≤ L) (hq : ∀ r, r ∈ prs ++ [q] → r.edges.length ≤ L ∧ ∀ e, e ∈ r.edges → nodes e.guard ≤ M ∧ nodes e.val ≤ M) :
    ∃ a c b d, vi = .slice a l.length c ∧ vp' = .slice b (prs ++ [q]).length d ∧ MuEnd w R O (prs.map (fun q : Pr => q.edges.length)) M L a l.length c b (prs ++ [q]).length d (W'.setCell ⟨O, 1, none⟩ vp') := by
  obtain ⟨h1, h2, h3, ⟨cps', h4, _⟩, h6, h7, h8, h9, hA⟩ := h
  have h5' := AllR.snoc h5q h5
  obtain ⟨a, c, rfl, i1, i2, i3⟩ := h2.shape
  obtain ⟨b, d, rfl, j1, j2, _⟩ := h'.shape
  have hb0 := h2.blk
  have hb := h4.blk
  have hb2 := h'.blk
  have hOs := h1.1
  rw [h5'.len] at *
  have hk : ∀ b, (∀ g, vp.ownBlock = some g → g ≠ b) → b < W.heap.size → W'.heap[b]? = W.heap[b]? := fun b hb hl => hg.block b hl (fun e => hb b e.symm rfl)
  have hO : ∀ y, y ≠ O → (W'.setCell ⟨O, 1, none⟩ (.slice b (prs ++ [q]).length d)).heap[y]? = W'.heap[y]? := fun y hb => Below.heap_setCell _ _ _ _ hb
  have hne : ∀ g, (Value.slice b (prs ++ [q]).length d).ownBlock = some g → g ≠ O := fun g e => by
    rcases hv with hv | hv
    · have := h6 g (hv ▸ e); omega
    · rw [hv] at e; simp at e; omega
  have hP : PrsIn (fun b => w.heap.size + 1 < b) (W'.setCell ⟨O, 1, none⟩ (.slice b (prs ++ [q]).length d)) (prs ++ [q]) b := by
    refine prs_of (h'.keep (fun g e _ _ => hO g (hne g e))) (h5'.mono fun t c h => h.frame (by simpa using hg.size) fun b hp hl => ⟨by have := hp.1; omega, (hO b hp.2.1).trans (hg.block b hl (fun e => hp.2.2 e.symm))⟩) (fun g hg => ?_)
    subst hg
    have := (hb2 g rfl).1
    omega
  have hI := (h2.keep (w' := W'.setCell ⟨O, 1, none⟩ (.slice b (prs ++ [q]).length d)) (fun g e _ hl => (hO g (by have := h3 g e; omega)).trans (hk g (fun g' e' => by have := (hb g' e').1; have := h3 g e; omega) hl))).ints3 hl.2 (p := fun b => w.heap.size + 1 < b) (fun g e => by have := (hb0 g e).1; omega)
  refine ⟨a, c, b, d, rfl, rfl, boxp_set1 (boxp_keep hg.size (hk O (fun g e => by have := h6 g e; omega) hOs) h1) _, ⟨⟨l, prs ++ [q]⟩, ⟨a, c, b, d, rfl, i1, i2, hI, j1, j2, hP⟩, ⟨hl.1, hp, hq⟩, _, List.map_append⟩, i3, But.setNew ?_ (show w.heap.size ≤ O by omega) _, boxp_set (boxp_keep hg.size (hk _ (fun g e => by have := (hb g e).1; omega) h8.1) h8) (show w.heap.size + 1 ≠ O by omega) _, by omega⟩
  exact ⟨hg.os.trans h7.os, hg.tape.trans h7.tape, hg.output.trans h7.output, Nat.le_trans h7.size hg.size, fun k hk1 hd => (hg.block k (Nat.lt_of_lt_of_le hk1 h7.size) (fun e => by have := (hb k e.symm).1; omega)).trans (h7.block k hk1 hd)⟩
theorem MuSt.cell {w W : World} {R O S : Nat} {l : List Int} {vi vp : Value} {prs : List Pr} (h : MuSt w R O S l vi vp prs W) {i : Nat} (hi : i < prs.length) :
    ∃ pb pd al ld, vp = .slice (some ⟨pb, 0, none⟩) prs.length pd ∧ W.cell? ⟨pb, i * 2 + 1, none⟩ = some (.slice al prs[i].edges.length ld) ∧ pb < W.heap.size := by
  obtain ⟨h1, h2, h3, ⟨cps, h4, h5⟩, h6, h7, h8, h9, hA⟩ := h
  obtain ⟨b, d, rfl, j1, j2, j3⟩ := h4.shape
  rw [h5.len] at *
  rcases j3 with j3 | ⟨g, rfl, j3, j4, j5, j6⟩
  · subst j3
    have := h5.len
    simp at this
    omega
  · obtain ⟨cc, hcc, a1, n1, e1, _⟩ := h5.at (List.getElem?_eq_getElem hi)
    subst e1
    exact ⟨g, d, a1, n1, rfl, j5 i 1 _ hcc (by omega), j4⟩
/-- where the first edge of a process lies -/
theorem MuSt.edge {w W : World} {R O S : Nat} {l : List Int} {vi vp : Value} {prs : List Pr} (h : MuSt w R O S l vi vp prs W) {i : Nat} (hi : i < prs.length) (hne : prs[i].edges ≠ []) :
    ∃ pb pd eb eo ed, vp = .slice (some ⟨pb, 0, none⟩) prs.length pd ∧ W.cell? ⟨pb, i * 2 + 1, none⟩ = some (.slice (some ⟨eb, eo, none⟩) prs[i].edges.length ed) ∧ S < eb ∧ eb ≠ O ∧ eb ≠ pb ∧ eb < W.heap.size ∧ S < pb ∧ pb < O ∧ pb < W.heap.size ∧
      (∃ e, EdAt (fun b => S < b) W e eb eo) ∧ ∀ j, W.frozen? ⟨eb, j, none⟩ = false := by
  obtain ⟨h1, h2, h3, ⟨cps, h4, h5⟩, h6, h7, h8, h9, hA⟩ := h
  obtain ⟨b, d, rfl, j1, j2, j3⟩ := h4.shape
  rw [h5.len] at *
  rcases j3 with j3 | ⟨g, rfl, j3, j4, j5, j6⟩
  · subst j3
    have := h5.len
    simp at this
    omega
  · obtain ⟨cc, hcc, a1, n1, e1, ⟨a2, c2, he, k1, k2, k3, k4⟩, k5⟩ := h5.at (List.getElem?_eq_getElem hi)
    subst e1
    simp at he
    obtain ⟨rfl, rfl⟩ := he
    have hcell := j5 i 1 _ hcc (by omega)
    rcases k4 with k4 | ⟨eb, eo, rfl, m1, m2, m3⟩
    · exact absurd k4 hne
    · have h0 := m3 0 _ (List.getElem?_eq_getElem (by have := mt List.eq_nil_of_length_eq_zero hne; omega : 0 < prs[i].edges.length))
      rw [Nat.zero_mul, Nat.add_zero] at h0
      refine ⟨g, d, eb, eo, n1, rfl, hcell, m1.1, m1.2.1, fun e => m1.2.2 (by subst e; rfl), m2, by omega, h6 g rfl, j4, ⟨_, h0.frame rfl (fun b hb _ => ⟨hb.1, rfl⟩)⟩, fun j => ?_⟩
      exact k5 hne _ rfl j
end Go.Proofs.YtgopfjnpjkpelaaDoor
