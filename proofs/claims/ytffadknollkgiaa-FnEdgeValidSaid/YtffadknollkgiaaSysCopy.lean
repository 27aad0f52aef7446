/- The reference's l2Copy: a copy of a system in memory of its own. Conditions: those of each contract. -/
import Derived.Test.YtffadknollkgiaaSysDraw
namespace Go.Proofs.Ytffadknollkgiaa
open Go.RowKit
set_option linter.unusedVariables false
set_option linter.unusedSimpArgs false

/-- a system being copied into its variable S; the source's variable is w.heap.size -/
def SyCp (w : World) (S : Nat) (M : Int) (K : Nat) (x0 x1 : Value) (l : List Int) (vi vp : Value) (prs : List Pr) (W : World) : Prop :=
  BoxP W S vi vp ∧ OwnI (w.heap.size + 1 + 1) vi l W ∧ (∀ g, vi.ownBlock = some g → g < S) ∧ PrsSt S M K vp prs W ∧ Below w.heap.size w W ∧ BoxP W w.heap.size x0 x1 ∧ BoxP W (w.heap.size + 1) (.slice none 0 0) (.slice none 0 0) ∧ w.heap.size + 1 < S
theorem SyCp.next {w W W' : World} {S : Nat} {M : Int} {K : Nat} {x0 x1 : Value} {l : List Int} {vi vp : Value} {prs : List Pr} (h : SyCp w S M K x0 x1 l vi vp prs W) (hb : Below W.heap.size W W') : SyCp w S M K x0 x1 l vi vp prs W' := by
  obtain ⟨h1, h2, h3, h4, h5, h6, h7, h8⟩ := h
  exact ⟨boxp_next hb h1, h2.next hb, h3, h4.next hb, below_next h5 hb, boxp_next hb h6, boxp_next hb h7, h8⟩
theorem SyCp.app {w W W' : World} {S : Nat} {M : Int} {K : Nat} {x0 x1 : Value} {l : List Int} {vi vp v' : Value} {prs : List Pr} {q : Pr} {c : List Value} {ces : List (List Value)} (h : SyCp w S M K x0 x1 l vi vp prs W) (h2 : AllR (PrC (fun b => S < b ∧ vp.ownBlock ≠ some b) W) prs ces) (he : PrC (fun b => S < b ∧ vp.ownBlock ≠ some b) W q c)
    (h4 : q.edges.length ≤ K ∧ ∀ e, e ∈ q.edges → nodes e.guard ≤ M ∧ nodes e.val ≤ M) (h' : OwnR 41 2 (S + 1) v' (ces ++ [c]) W') (hg : W.grownBy W' vp.ownBlock) (hv : v'.ownBlock = vp.ownBlock ∨ v'.ownBlock = some W.heap.size) :
    SyCp w S M K x0 x1 l vi v' (prs ++ [q]) (W'.setCell ⟨S, 1, none⟩ v') := by
  obtain ⟨i1, i2, i3, h6, h7, h8, h9, i4⟩ := h
  have hblk := h6.blk
  have hk : ∀ b, b ≤ S → b < W.heap.size → W'.heap[b]? = W.heap[b]? := fun b hb hl => hg.block b hl (fun e => by have := (hblk b e.symm).1; omega)
  have hS : ∀ b, b ≠ S → (W'.setCell ⟨S, 1, none⟩ v').heap[b]? = W'.heap[b]? := fun b hb => Below.heap_setCell _ _ _ _ hb
  refine ⟨boxp_set1 (boxp_keep hg.size (hk S (Nat.le_refl _) i1.1) i1) _, i2.keep (fun g e _ hl => (hS g (by have := i3 g e; omega)).trans (hk g (by have := i3 g e; omega) hl)), i3, (PrsSt.app h2 h6.2 he h4 h' hg hv).set (Nat.le_refl _) _, ?_, boxp_set (boxp_keep hg.size (hk _ (by omega) h8.1) h8) (by simp; omega) _, boxp_set (boxp_keep hg.size (hk _ (by omega) h9.1) h9) (by simp; omega) _, i4⟩
  exact Below.setCell (w := W') ⟨hg.os.trans h7.os, hg.tape.trans h7.tape, hg.output.trans h7.output, Nat.le_trans h7.size hg.size, fun k hk1 => (hk k (by omega) (by have := h7.size; omega)).trans (h7.block k hk1)⟩ (show w.heap.size ≤ S by omega) _
theorem cp_tr {E : Nat} {t : Tr} {x u : Value} {w : World} {a : Addr} (ha : a.block ≤ E) (h : TrIn (fun b => E < b) w t x) : TrIn (fun b => E < b) (w.setCell a u) t x :=
  (TrIn_frame fun b hb hl => ⟨hb, Below.heap_setCell _ _ _ _ (by omega)⟩).1 t x h
/-- an edge just made, as ten cells -/
theorem edc_cp {W W' : World} {V : Nat} {M : Int} {x : Ed} {a a' : Option Addr} {c c' : Nat} {ve : Value} (h : EdIn (fun b => W.heap.size ≤ b) W' x (.agg (x.cells a c a' c').toArray)) (h1 : nodes x.guard ≤ M) (h2 : nodes x.val ≤ M) (hV : V < W.heap.size) (hv : ∀ g, ve.ownBlock = some g → g < W.heap.size) :
    EdC (fun b => V < b ∧ ve.ownBlock ≠ some b) W' M x (x.cells a c a' c') := edc_new h h1 h2 hV hv
theorem below_trans2 {w w1 w2 : World} (h : Below w.heap.size w w1) (h2 : Below w1.heap.size w1 w2) : Below w.heap.size w w2 := below_next h h2
theorem cp_len {l prs : List Pr} {j : Nat} {q : Pr} {n : Int} {eds : List Ed} (h : prs.map (fun q : Pr => q.edges.length) = (l.take j).map (fun q : Pr => q.edges.length)) (hq : l[j]? = some q) (he : eds.length = q.edges.length) :
    (prs ++ [(⟨n, eds⟩ : Pr)]).map (fun q : Pr => q.edges.length) = (l.take (j + 1)).map (fun q : Pr => q.edges.length) := by
  rw [List.map_append, h, List.take_add_one, hq]
  simp [he]
theorem cp_len0 {l prs : List Pr} {j : Nat} (h : prs.map (fun q : Pr => q.edges.length) = (l.take j).map (fun q : Pr => q.edges.length)) : prs.length ≤ l.length := by
  have := congrArg List.length h
  simp at this
  omega
/-- what a copy comes to -/
def CopyPost (s : Sy) (M : Int) (K : Nat) (w : World) (e : Ending) (w' : World) : Prop :=
  ∃ vi vp l prs S, e = .returned (.agg #[vi, vp]) ∧ OwnI (w.heap.size + 1 + 1) vi l w' ∧ (∀ g, vi.ownBlock = some g → g < S) ∧ l = s.init ∧ PrsSt S M K vp prs w' ∧ prs.map (fun q : Pr => q.edges.length) = s.procs.map (fun q : Pr => q.edges.length) ∧ Below w.heap.size w w' ∧ w.heap.size + 1 < S ∧ S < w'.heap.size

open Go.Proofs.Ytffadknollkgiaa.Expr in
set_option maxRecDepth 100000 in
set_option maxHeartbeats 4000000 in
theorem copy_any (s : Sy) (w : World) (x : Value) (M : Int) (K : Nat) (hx : SyIn Any w s x) (hK : s.procs.length ≤ K ∧ K ≤ 1000) (hb : ∀ q, q ∈ s.procs → q.edges.length ≤ K ∧ ∀ e, e ∈ q.edges → nodes e.guard ≤ M ∧ nodes e.val ≤ M) (hM : M ≤ 1000000) (hi0 : s.init.length ≤ 1000) (hnil : ∀ a n c y, x = .agg #[.slice a n c, y] → a = none → c = 0) :
    Calls Try.prog 65 #[x] w (CopyPost s M K w) := by
  obtain ⟨a, c, b, d, rfl, hc, hc2, hi, hd, hd2, hp⟩ := hx
  have HP := hid hp
  have HBD := hid hb
  unfold maxLen at hd2
  go_enter Try.func65, Try.ntmps65
  have hi2 := ((hi.below (below_alloc w (.cells #[.slice a s.init.length c, .slice b s.procs.length d] 36))).below (below_alloc _ (.cells #[.slice none 0 0, .slice none 0 0] 36))).below (below_alloc _ (.cells #[] 3))
  have hcn := hnil _ _ _ _ rfl
  have hO : OwnI (w.heap.size + 1 + 1) (.slice (some ⟨w.heap.size + 1 + 1, 0, none⟩) 0 0) [] (((w.alloc (.cells #[.slice a s.init.length c, .slice b s.procs.length d] 36)).alloc (.cells #[.slice none 0 0, .slice none 0 0] 36)).alloc (.cells #[] 3)) := by
    have h := OwnI.made ((w.alloc (.cells #[.slice a s.init.length c, .slice b s.procs.length d] 36)).alloc (.cells #[.slice none 0 0, .slice none 0 0] 36))
    simp only [World.size_alloc] at h
    exact h
  go_wp2_with (at_builtin; refine wp_app_own rfl _ _ rfl (w.heap.size + 1 + 1) (.slice (some ⟨w.heap.size + 1 + 1, 0, none⟩) 0 0) [] s.init a c rfl rfl hcn hO (by simp) hi2 (by simp) (by omega) ?_; intro v' w1 hv' hg; obtain ⟨b1, d1, rfl, q1, q2, q3⟩ := hv'.shape; have HV := hid hv'; have HG := hid hg; clear hv' hg)
  have HV2 := hid (show OwnI (w.heap.size + 1 + 1) (.slice b1 s.init.length d1) s.init w1 by simpa using HV.out)
  have hB0 : Below w.heap.size w (((w.alloc (.cells #[.slice a s.init.length c, .slice b s.procs.length d] 36)).alloc (.cells #[.slice none 0 0, .slice none 0 0] 36)).alloc (.cells #[] 3)) := below_next (below_next (below_alloc _ _) (below_alloc _ _)) (below_alloc _ _)
  have hB1 : Below w.heap.size w w1 := ⟨HG.out.os.trans hB0.os, HG.out.tape.trans hB0.tape, HG.out.output.trans hB0.output, Nat.le_trans hB0.size HG.out.size, fun k hk => (HG.out.block k (Nat.lt_of_lt_of_le hk hB0.size) (fun e => by simp [Value.ownBlock] at e; omega)).trans (hB0.block k hk)⟩
  have hX0 := boxp_keep HG.out.size (HG.out.block w.heap.size (by simp; omega) (fun e => by simp [Value.ownBlock] at e; omega)) (boxp_next (below_alloc _ (.cells #[] 3)) (boxp_next (below_alloc _ (.cells #[.slice none 0 0, .slice none 0 0] 36)) (boxp_at (w := w) (a := .slice a s.init.length c) (b := .slice b s.procs.length d) (t := 36) rfl)))
  have hX1 := boxp_keep HG.out.size (HG.out.block (w.heap.size + 1) (by simp) (fun e => by simp [Value.ownBlock] at e)) (boxp_next (below_alloc _ (.cells #[] 3)) (boxp_at (w := w.alloc (.cells #[.slice a s.init.length c, .slice b s.procs.length d] 36)) (B := w.heap.size + 1) (a := .slice none 0 0) (b := .slice none 0 0) (t := 36) (by simp)))
  have HC := hid (show SyCp w w1.heap.size M K (.slice a s.init.length c) (.slice b s.procs.length d) s.init (.slice b1 s.init.length d1) (.slice none 0 0) [] (w1.alloc (.cells #[.slice b1 s.init.length d1, .slice none 0 0] 36)) from
    ⟨boxp_at rfl, HV2.out.next (below_alloc _ _), fun g hg => (HV2.out.blk g hg).2, PrsSt.nil _ _ _ _, below_next hB1 (below_alloc _ _), boxp_next (below_alloc _ _) hX0, boxp_next (below_alloc _ _) hX1, hX1.1⟩)
  clear hB0 hB1 hX0 hX1 HV HV2 HG hO hi2
  obtain ⟨S, hS⟩ : ∃ S, S = w1.heap.size := ⟨_, rfl⟩
  rw [← hS] at HC
  rw [← hS]
  refine wp_gen (fun W => SyCp w S M K (.slice a s.init.length c) (.slice b s.procs.length d) s.init (.slice b1 s.init.length d1) (.slice none 0 0) [] W) HC.out ?_
  rintro W0 h1
  replace HC := hid h1
  clear h1 hS
  go_loopw [4] (fun i wr => ∃ (j : Nat) (vp : Value) (prs : List Pr), j ≤ s.procs.length ∧ i = .int .i64 j ∧ Hid (prs.map (fun q : Pr => q.edges.length) = (s.procs.take j).map (fun q : Pr => q.edges.length)) ∧ Hid (SyCp w S M K (.slice a s.init.length c) (.slice b s.procs.length d) s.init (.slice b1 s.init.length d1) vp prs wr)) (fun i _ => s.procs.length - (intOf i).toNat)
  case atStart => exact ⟨0, _, [], Nat.zero_le _, rfl, hid (by simp), HC⟩
  case round =>
    obtain ⟨j, vp, prs, hj, rfl, HL, HC2⟩ := hrel
    obtain ⟨wo, rfl⟩ : ∃ wo : World, wo = wr := ⟨_, rfl⟩
    clear HC
    by_cases hlt : j < s.procs.length
    · obtain ⟨b', o, rfl, _, hb, a1, c1, ⟨g0, g1⟩, hT⟩ := SeqIn.at (PrsIn.below HP.out HC2.out.2.2.2.2.1) hlt
      have HT := hid hT
      have G0 := hid g0
      have G1 := hid g1
      have HBQ := hid (HBD.out s.procs[j] (by simp))
      have HQ := hid (List.getElem?_eq_getElem hlt)
      clear hT
      have hlt2 : (j : Int) < (s.procs.length : Int) := by omega
      generalize s.procs[j] = q at *
      obtain ⟨x0, x1, x2, x3, x4⟩ := id HC2.out.2.2.2.2.2.1
      go_upto_region 6 with fail
      obtain ⟨V, hV⟩ : ∃ V, V = wo.heap.size := ⟨_, rfl⟩
      rw [← hV]
      refine wp_gen (fun W => Below wo.heap.size wo W ∧ BoxP W V (.int .i64 q.locs) (.slice none 0 0)) ⟨below_alloc _ _, boxp_at hV⟩ ?_
      rintro W7 ⟨h1, h2⟩
      have HB7 := hid h1
      have HX7 := hid h2
      have hSV : S < V := by have := HC2.out.1.1; omega
      have hVs : wo.heap.size ≤ V := by omega
      clear h1 h2 hV x0 x1 x2 x3 x4 g0 g1
      go_wp2_with fail
      go_loopw [6] (fun i wi => ∃ (k : Nat) (ve : Value) (eds : List Ed), k ≤ q.edges.length ∧ i = .int .i64 k ∧ Hid (eds.length = k) ∧ Hid (BoxP wi V (.int .i64 q.locs) ve) ∧ Hid (EdsSt V M ve eds wi) ∧ Hid (Below wo.heap.size wo wi)) (fun i _ => q.edges.length - (intOf i).toNat)
      case atStart => exact ⟨0, _, [], Nat.zero_le _, rfl, hid rfl, HX7, hid (EdsSt.nil _ _ _), HB7⟩
      case round =>
        obtain ⟨k, ve, eds, hk, rfl, HEL, HX, HE, HB⟩ := hrel
        obtain ⟨a2, c2, he, i1, i2, i3, i4⟩ := HT.out
        simp only [Value.agg.injEq, Array.mk.injEq, List.cons.injEq, and_true, Value.slice.injEq, true_and] at he
        obtain ⟨rfl, rfl⟩ := he
        unfold maxLen at i3
        have g0 := (HB.out.cell (p := ⟨b', o + j * 2, none⟩) hb).trans G0.out
        have g1 := (HB.out.cell (p := ⟨b', o + j * 2 + 1, none⟩) hb).trans G1.out
        have hbw := Nat.lt_of_lt_of_le hb HB.out.size
        obtain ⟨x0, x1, x2, x3, x4⟩ := boxp_next HB.out HC2.out.2.2.2.2.2.1
        clear HX7 HB7
        by_cases hlt3 : k < q.edges.length
        · obtain ⟨be, oe, rfl, _, hbe, ea, ec, ea2, ec2, ⟨c0, c1', c2', c3, c4, c5, c6, c7, c8, c9⟩, hEd⟩ := SeqIn.at (EdsIn.below i4 HB.out) hlt3
          have HEd := hid hEd
          have HBE := hid (HBQ.out.2 q.edges[k] (by simp))
          clear hEd i4
          have hlt4 : (k : Int) < (q.edges.length : Int) := by omega
          generalize q.edges[k] = ed at *
          go_upto_region 10 with fail
          obtain ⟨E, hE⟩ : ∃ E, E = wr.heap.size := ⟨_, rfl⟩
          rw [← hE]
          refine wp_gen (fun W => Below wr.heap.size wr W ∧ Box10 W E (.int .i64 ed.src) (.int .i64 ed.dst) (.int .i64 ed.guard.kind) (.int .i64 ed.guard.val) (.slice ea ed.guard.kids.length ec) (.int .i64 ed.var) (.int .i64 ed.val.kind) (.int .i64 ed.val.val) (.slice ea2 ed.val.kids.length ec2) (.int .i64 ed.sync)) ⟨below_alloc _ _, box10_at hE _ _ _ _ _ _ _ _ _ _ _⟩ ?_
          rintro W8 ⟨h1, h2⟩
          have HB8 := hid h1
          have HX8 := hid h2
          have hEs : wr.heap.size ≤ E := by omega
          have hVE : V < E := by have := HX.out.1; omega
          clear h1 h2 hE x0 x1 x2 x3 x4 g0 g1 c0 c1' c2' c3 c4 c5 c6 c7 c8 c9
          obtain ⟨_, _, _, _, he2, j1, j2, j3, j4, hg, hv⟩ := HEd.out
          simp only [Value.agg.injEq, Array.mk.injEq, List.cons.injEq, and_true, Value.slice.injEq, true_and] at he2
          obtain ⟨⟨rfl, rfl⟩, rfl, rfl⟩ := he2
          have HG := hid hg
          have HV := hid hv
          clear hg hv HEd
          obtain ⟨xl, ⟨x0, x1, x2, x3, x4, x5, x6, x7, x8, x9⟩, ⟨f0, f1, f2, f3, f4, f5, f6, f7, f8, f9⟩⟩ := id HX8.out
          go_wp2_with fail
          refine (sb_any (-1) zeroT (by kernel_rfl) ⟨by simp, trivial⟩ ed.guard _ _ _ (TrIn_below HB8.out HG.out) (zero_new 0 _).any (small_nodes _ (by have := HBE.out; omega))).mono ?_
          rintro e w9 ⟨v, rfl, ⟨u, rfl, hi1, hi2, ho⟩, hb9⟩
          obtain ⟨tg, htg⟩ : ∃ t, t = subT (-1) zeroT ed.guard := ⟨_, rfl⟩
          have hgm : nodes tg ≤ M := by rw [htg]; exact Int.le_trans (sub_nodes _) HBE.out.1
          rw [← htg] at hi1 hi2 ho ⊢
          obtain ⟨ag, cg, rfl, _⟩ := ho.shape
          have hE8 : E < W8.heap.size := HX8.out.1
          have hTg := (TrIn_frame (q := fun b => E < b) (w' := w9) fun b hb hl => ⟨by have := hb; omega, rfl⟩).1 _ _ (NewTr_ge (OwnN.new (x := .agg #[.int .i64 tg.kind, .int .i64 tg.val, .slice ag tg.kids.length cg]) ⟨_, rfl, hi1, hi2, ho⟩))
          have hX9 := box10_next hb9 HX8.out
          have hB9 := below_next HB8.out hb9
          have HS9 := hid (show Below wr.heap.size wr (((w9.setCell ⟨E, 2, none⟩ (.int .i64 tg.kind)).setCell ⟨E, 3, none⟩ (.int .i64 tg.val)).setCell ⟨E, 4, none⟩ (.slice ag tg.kids.length cg)) ∧ Box10 (((w9.setCell ⟨E, 2, none⟩ (.int .i64 tg.kind)).setCell ⟨E, 3, none⟩ (.int .i64 tg.val)).setCell ⟨E, 4, none⟩ (.slice ag tg.kids.length cg)) E (.int .i64 ed.src) (.int .i64 ed.dst) (.int .i64 tg.kind) (.int .i64 tg.val) (.slice ag tg.kids.length cg) (.int .i64 ed.var) (.int .i64 ed.val.kind) (.int .i64 ed.val.val) (.slice ea2 ed.val.kids.length ec2) (.int .i64 ed.sync) ∧ TrIn (fun b => E < b) (((w9.setCell ⟨E, 2, none⟩ (.int .i64 tg.kind)).setCell ⟨E, 3, none⟩ (.int .i64 tg.val)).setCell ⟨E, 4, none⟩ (.slice ag tg.kids.length cg)) tg (.agg #[.int .i64 tg.kind, .int .i64 tg.val, .slice ag tg.kids.length cg]) from
            ⟨Below.setCell (Below.setCell (Below.setCell hB9 (show wr.heap.size ≤ E from hEs) _) (show wr.heap.size ≤ E from hEs) _) (show wr.heap.size ≤ E from hEs) _, box10_set4 (box10_set3 (box10_set2 hX9 _) _) _, cp_tr (Nat.le_refl _) (cp_tr (Nat.le_refl _) (cp_tr (Nat.le_refl _) hTg))⟩)
          clear hTg hB9 ho hb9 HX8 HB8 HG x0 x1 x2 x3 x4 x5 x6 x7 x8 x9 xl f0 f1 f2 f3 f4 f5 f6 f7 f8 f9 hE8 htg
          obtain ⟨xl, ⟨x0, x1, x2, x3, x4, x5, x6, x7, x8, x9⟩, ⟨f0, f1, f2, f3, f4, f5, f6, f7, f8, f9⟩⟩ := hX9
          go_upto_region 11 with fail
          refine wp_gen (fun W => Below wr.heap.size wr W ∧ Box10 W E (.int .i64 ed.src) (.int .i64 ed.dst) (.int .i64 tg.kind) (.int .i64 tg.val) (.slice ag tg.kids.length cg) (.int .i64 ed.var) (.int .i64 ed.val.kind) (.int .i64 ed.val.val) (.slice ea2 ed.val.kids.length ec2) (.int .i64 ed.sync) ∧ TrIn (fun b => E < b) W tg (.agg #[.int .i64 tg.kind, .int .i64 tg.val, .slice ag tg.kids.length cg])) HS9.out ?_
          clear HS9 x0 x1 x2 x3 x4 x5 x6 x7 x8 x9 xl f0 f1 f2 f3 f4 f5 f6 f7 f8 f9
          rintro W9 ⟨h1, h2, h3⟩
          have HB9 := hid h1
          have HX9 := hid h2
          have HT9 := hid h3
          obtain ⟨xl, ⟨x0, x1, x2, x3, x4, x5, x6, x7, x8, x9⟩, ⟨f0, f1, f2, f3, f4, f5, f6, f7, f8, f9⟩⟩ := h2
          clear h1 h3
          go_wp2_with fail
          refine (sb_any (-1) zeroT (by kernel_rfl) ⟨by simp, trivial⟩ ed.val _ _ _ (TrIn_below HB9.out HV.out) (zero_new 0 _).any (small_nodes _ (by have := HBE.out; omega))).mono ?_
          rintro e wA ⟨v, rfl, ⟨u, rfl, hi1, hi2, ho⟩, hbA⟩
          obtain ⟨tv, htv⟩ : ∃ t, t = subT (-1) zeroT ed.val := ⟨_, rfl⟩
          have hvm : nodes tv ≤ M := by rw [htv]; exact Int.le_trans (sub_nodes _) HBE.out.2
          rw [← htv] at hi1 hi2 ho ⊢
          obtain ⟨av, cv, rfl, _⟩ := ho.shape
          have hEA : E < W9.heap.size := HX9.out.1
          have hTv := (TrIn_frame (q := fun b => E < b) (w' := wA) fun b hb hl => ⟨by have := hb; omega, rfl⟩).1 _ _ (NewTr_ge (OwnN.new (x := .agg #[.int .i64 tv.kind, .int .i64 tv.val, .slice av tv.kids.length cv]) ⟨_, rfl, hi1, hi2, ho⟩))
          have hTg := TrIn_below hbA HT9.out
          have hXA := box10_next hbA HX9.out
          have hBA := below_next HB9.out hbA
          have HSA := hid (show Below wr.heap.size wr (((wA.setCell ⟨E, 6, none⟩ (.int .i64 tv.kind)).setCell ⟨E, 7, none⟩ (.int .i64 tv.val)).setCell ⟨E, 8, none⟩ (.slice av tv.kids.length cv)) ∧ Box10 (((wA.setCell ⟨E, 6, none⟩ (.int .i64 tv.kind)).setCell ⟨E, 7, none⟩ (.int .i64 tv.val)).setCell ⟨E, 8, none⟩ (.slice av tv.kids.length cv)) E (.int .i64 ed.src) (.int .i64 ed.dst) (.int .i64 tg.kind) (.int .i64 tg.val) (.slice ag tg.kids.length cg) (.int .i64 ed.var) (.int .i64 tv.kind) (.int .i64 tv.val) (.slice av tv.kids.length cv) (.int .i64 ed.sync) ∧ TrIn (fun b => E < b) (((wA.setCell ⟨E, 6, none⟩ (.int .i64 tv.kind)).setCell ⟨E, 7, none⟩ (.int .i64 tv.val)).setCell ⟨E, 8, none⟩ (.slice av tv.kids.length cv)) tg (.agg #[.int .i64 tg.kind, .int .i64 tg.val, .slice ag tg.kids.length cg]) ∧ TrIn (fun b => E < b) (((wA.setCell ⟨E, 6, none⟩ (.int .i64 tv.kind)).setCell ⟨E, 7, none⟩ (.int .i64 tv.val)).setCell ⟨E, 8, none⟩ (.slice av tv.kids.length cv)) tv (.agg #[.int .i64 tv.kind, .int .i64 tv.val, .slice av tv.kids.length cv]) from
            ⟨Below.setCell (Below.setCell (Below.setCell hBA (show wr.heap.size ≤ E from hEs) _) (show wr.heap.size ≤ E from hEs) _) (show wr.heap.size ≤ E from hEs) _, box10_set8 (box10_set7 (box10_set6 hXA _) _) _, cp_tr (Nat.le_refl _) (cp_tr (Nat.le_refl _) (cp_tr (Nat.le_refl _) hTg)), cp_tr (Nat.le_refl _) (cp_tr (Nat.le_refl _) (cp_tr (Nat.le_refl _) hTv))⟩)
          clear hTg hTv hBA ho hbA HX9 HB9 HT9 HV x0 x1 x2 x3 x4 x5 x6 x7 x8 x9 xl f0 f1 f2 f3 f4 f5 f6 f7 f8 f9 hEA htv
          obtain ⟨xl, ⟨x0, x1, x2, x3, x4, x5, x6, x7, x8, x9⟩, ⟨f0, f1, f2, f3, f4, f5, f6, f7, f8, f9⟩⟩ := hXA
          go_upto_region 12 with fail
          refine wp_gen (fun W => Below wr.heap.size wr W ∧ Box10 W E (.int .i64 ed.src) (.int .i64 ed.dst) (.int .i64 tg.kind) (.int .i64 tg.val) (.slice ag tg.kids.length cg) (.int .i64 ed.var) (.int .i64 tv.kind) (.int .i64 tv.val) (.slice av tv.kids.length cv) (.int .i64 ed.sync) ∧ TrIn (fun b => E < b) W tg (.agg #[.int .i64 tg.kind, .int .i64 tg.val, .slice ag tg.kids.length cg]) ∧ TrIn (fun b => E < b) W tv (.agg #[.int .i64 tv.kind, .int .i64 tv.val, .slice av tv.kids.length cv])) HSA.out ?_
          clear HSA x0 x1 x2 x3 x4 x5 x6 x7 x8 x9 xl f0 f1 f2 f3 f4 f5 f6 f7 f8 f9
          rintro WA ⟨hBn, h2, hTg, hTv⟩
          have hx : EdIn (fun b => wr.heap.size ≤ b) WA ⟨ed.src, ed.dst, tg, ed.var, tv, ed.sync⟩ (.agg (Ed.cells ⟨ed.src, ed.dst, tg, ed.var, tv, ed.sync⟩ ag cg av cv).toArray) :=
            ⟨ag, cg, av, cv, rfl, j1, j2, j3, j4, (TrIn_frame fun b hb hl => ⟨by have := hb; omega, rfl⟩).1 _ _ hTg, (TrIn_frame fun b hb hl => ⟨by have := hb; omega, rfl⟩).1 _ _ hTv⟩
          obtain ⟨va, vc, rfl, _⟩ := HE.out.shape
          have hEC := edc_cp (ve := .slice va eds.length vc) (M := M) hx hgm hvm HX.out.1 (fun g hg => (HE.out.blk g hg).2)
          obtain ⟨x, hxe⟩ : ∃ x : Ed, x = ⟨ed.src, ed.dst, tg, ed.var, tv, ed.sync⟩ := ⟨_, rfl⟩
          have HXn := hid (boxp_next hBn HX.out)
          have HEn := hid (HE.out.next hBn)
          have HBn := hid (below_trans2 HB.out hBn)
          clear hTg hTv hBn hx HX HE HB
          rw [← hxe] at hEC
          have hce : x.cells ag cg av cv = [.int .i64 ed.src, .int .i64 ed.dst, .int .i64 tg.kind, .int .i64 tg.val, .slice ag tg.kids.length cg, .int .i64 ed.var, .int .i64 tv.kind, .int .i64 tv.val, .slice av tv.kids.length cv, .int .i64 ed.sync] := by rw [hxe]; rfl
          rw [hce] at hEC
          have hel : eds.length ≤ 1000 := by have := HEL.out; have := HBQ.out.1; omega
          have HEC := hid (hEC.frame (w' := WA.alloc (.cells #[.int .i64 ed.src, .int .i64 ed.dst, .int .i64 tg.kind, .int .i64 tg.val, .slice ag tg.kids.length cg, .int .i64 ed.var, .int .i64 tv.kind, .int .i64 tv.val, .slice av tv.kids.length cv, .int .i64 ed.sync] 27)) fun b hb hl => ⟨hb, (below_alloc WA _).block b hl⟩)
          obtain ⟨ces, hO, hAll⟩ := HEn.out.next (below_alloc WA (.cells #[.int .i64 ed.src, .int .i64 ed.dst, .int .i64 tg.kind, .int .i64 tg.val, .slice ag tg.kids.length cg, .int .i64 ed.var, .int .i64 tv.kind, .int .i64 tv.val, .slice av tv.kids.length cv, .int .i64 ed.sync] 27))
          have HAll := hid hAll
          have hcl := hAll.len
          have HEB := hid HEn.out.blk
          have HXA := hid (boxp_next (below_alloc WA (.cells #[.int .i64 ed.src, .int .i64 ed.dst, .int .i64 tg.kind, .int .i64 tg.val, .slice ag tg.kids.length cg, .int .i64 ed.var, .int .i64 tv.kind, .int .i64 tv.val, .slice av tv.kids.length cv, .int .i64 ed.sync] 27)) HXn.out)
          have HBA := hid (below_next HBn.out (below_alloc WA (.cells #[.int .i64 ed.src, .int .i64 ed.dst, .int .i64 tg.kind, .int .i64 tg.val, .slice ag tg.kids.length cg, .int .i64 ed.var, .int .i64 tv.kind, .int .i64 tv.val, .slice av tv.kids.length cv, .int .i64 ed.sync] 27)))
          obtain ⟨xl, ⟨x0, x1, x2, x3, x4, x5, x6, x7, x8, x9⟩, ⟨f0, f1, f2, f3, f4, f5, f6, f7, f8, f9⟩⟩ := h2
          obtain ⟨y0, y1, y2, y3, y4⟩ := id HXn.out
          clear hEC hAll HEn HBn hce
          go_wp2_with (at_builtin; refine wp_app_edge rfl _ _ rfl (V + 1) (.slice va eds.length vc) ces [.int .i64 ed.src, .int .i64 ed.dst, .int .i64 tg.kind, .int .i64 tg.val, .slice ag tg.kids.length cg, .int .i64 ed.var, .int .i64 tv.kind, .int .i64 tv.val, .slice av tv.kids.length cv, .int .i64 ed.sync] WA.heap.size 1 rfl rfl hO (Nat.succ_le_of_lt HXA.out.1) (cells_new _ _ _) rfl (by intro u hu; simp only [List.mem_cons, List.not_mem_nil, or_false] at hu; rcases hu with rfl | rfl | rfl | rfl | rfl | rfl | rfl | rfl | rfl | rfl <;> rfl) (by omega) ?_; intro v' wB hv' hg hbk; have HEn := hid (EdsSt.app (ve := .slice va eds.length vc) HAll.out HEC.out hv' hg hbk); have hne : ∀ g, (Value.slice va eds.length vc).ownBlock = some g → g ≠ V := fun g h => by { have := HEB.out g h; omega }; have HXB := hid (boxp_keep hg.size (hg.block V HXA.out.1 (fun e => hne V e.symm rfl)) HXA.out); have HBB := hid (show Below wo.heap.size wo wB from ⟨hg.os.trans HBA.out.os, hg.tape.trans HBA.out.tape, hg.output.trans HBA.out.output, Nat.le_trans HBA.out.size hg.size, fun k hk => (hg.block k (Nat.lt_of_lt_of_le hk HBA.out.size) (fun e => by have := (HEB.out k e.symm).1; omega)).trans (HBA.out.block k hk)⟩); obtain ⟨a', c', hve, _⟩ := HEn.out.shape; rw [List.length_append, List.length_singleton] at hve; subst hve; obtain ⟨z0, z1, z2, z3, z4⟩ := id HXB.out; clear HEB HAll HEC hv' hg hbk hne HXA HBA hO hcl x0 x1 x2 x3 x4 x5 x6 x7 x8 x9 f0 f1 f2 f3 f4 f5 f6 f7 f8 f9 y0 y1 y2 y3 y4 xl)
          go_roundw
          case rel => exact ⟨k + 1, _, eds ++ [x], hlt3, by go_num, hid (by rw [List.length_append, List.length_singleton, HEL.out]), hid (boxp_set1 HXB.out _), hid (HEn.out.set (Nat.le_refl _) _), hid (Below.setCell HBB.out (by simp; omega) _)⟩
          case measure => simp [intOf, wrap64]; omega
        · obtain rfl : k = q.edges.length := by omega
          clear hlt3 hk
          go_upto_region 13 with fail
          clear x0 x1 x2 x3 x4 g0 g1
          have HSn := hid (HC2.out.next (show Below wo.heap.size wo wr from HB.out))
          obtain ⟨va, vc, rfl, e1, e2, e3, e4⟩ := HE.out.shape
          have hPo : ∀ g, vp.ownBlock = some g → g < wo.heap.size := fun g h => (HC2.out.2.2.2.1.blk g h).2
          have hP := HSn.out.2.2.2.1
          have hPb := hP.blk
          have hPC : PrC (fun b => S < b ∧ vp.ownBlock ≠ some b) wr ⟨q.locs, eds⟩ [.int .i64 q.locs, .slice va eds.length vc] :=
            ⟨va, vc, rfl, ⟨va, vc, rfl, i1, e1, e2, e3.frame (Nat.le_refl _) fun b hb hl => ⟨⟨by have := hb; omega, fun e => by have := hPo b e; have := hb; omega⟩, rfl⟩⟩, e4⟩
          have HPC := hid (hPC.frame (w' := wr.alloc (.cells #[.int .i64 q.locs, .slice va eds.length vc] 41)) (by simp) fun b hb hl => ⟨hb, (below_alloc wr _).block b hl⟩)
          obtain ⟨⟨cps, hO, hAll⟩, _⟩ := hP.next (below_alloc wr (.cells #[.int .i64 q.locs, .slice va eds.length vc] 41))
          have HAll := hid hAll
          have hcl := hAll.len
          have hbd := hid HE.out.bnd
          have HSA := hid (HSn.out.next (below_alloc wr (.cells #[.int .i64 q.locs, .slice va eds.length vc] 41)))
          have hXS := HSn.out.1
          have hXA := boxp_next (below_alloc wr (.cells #[.int .i64 q.locs, .slice va eds.length vc] 41)) hXS
          obtain ⟨pa, pc, rfl, _⟩ := hP.shape
          have hpl : prs.length ≤ 1000 := by have := cp_len0 HL.out; omega
          have hel : eds.length ≤ K := by have := HEL.out; have := HBQ.out.1; omega
          clear hPC hAll HSn HB HE e1 e2 e3 e4 hP
          obtain ⟨y0, y1, y2, y3, y4⟩ := id HX.out
          obtain ⟨x0, x1, x2, x3, x4⟩ := id hXS
          clear HX
          go_wp2_with (at_builtin; refine wp_app_proc rfl _ _ rfl (S + 1) (.slice pa prs.length pc) cps [.int .i64 q.locs, .slice va eds.length vc] wr.heap.size 1 rfl rfl hO (by simp; omega) (cells_new wr [.int .i64 q.locs, .slice va eds.length vc] _) rfl (by intro u hu; simp at hu; rcases hu with rfl | rfl <;> rfl) (by omega) ?_; intro v' wB hv' hg hbk; have HSB := hid (HSA.out.app HAll.out HPC.out ⟨hel, hbd.out⟩ hv' hg hbk); have hsh := hv'.shape; obtain ⟨va', vc', hva', _⟩ := hsh; rw [List.length_append, hcl] at hva'; simp only [List.length_singleton] at hva'; subst hva'; obtain ⟨z0, z1, z2, z3, z4⟩ := boxp_keep hg.size (hg.block S hXA.1 (fun e => by have := (hPb S e.symm).1; omega)) hXA; clear hv' hg hbk x0 x1 x2 x3 x4)
          go_roundw
          case rel => exact ⟨j + 1, .slice va' (prs.length + 1) vc', prs ++ [⟨q.locs, eds⟩], hlt, by go_num, hid (cp_len HL.out HQ.out HEL.out), HSB⟩
          case measure => simp [intOf, wrap64]; omega
    · obtain rfl : j = s.procs.length := by omega
      obtain ⟨h1, h2, h3, h4, h5, h6, h7, h8⟩ := HC2.out
      obtain ⟨pa, pc, rfl, _⟩ := h4.shape
      have HF := hid (show CopyPost s M K w (.returned (.agg #[.slice b1 s.init.length d1, .slice pa prs.length pc])) ((wo.setCell ⟨w.heap.size + 1, 0, none⟩ (.slice b1 s.init.length d1)).setCell ⟨w.heap.size + 1, 1, none⟩ (.slice pa prs.length pc)) from
        ⟨_, _, _, prs, S, rfl, h2.keep (fun g _ hb _ => (Below.heap_setCell _ _ _ _ (show g ≠ w.heap.size + 1 by omega)).trans (Below.heap_setCell _ _ _ _ (show g ≠ w.heap.size + 1 by omega))), h3, rfl, (h4.set (show w.heap.size + 1 ≤ S by omega) _).set (show w.heap.size + 1 ≤ S by omega) _, by simpa using HL.out, Below.setCell (Below.setCell h5 (show w.heap.size ≤ w.heap.size + 1 by omega) _) (show w.heap.size ≤ w.heap.size + 1 by omega) _, h8, by simpa using h1.1⟩)
      obtain ⟨x0, x1, x2, x3, x4⟩ := h1
      obtain ⟨y0, y1, y2, y3, y4⟩ := h7
      obtain ⟨z0, z1, z2, z3, z4⟩ := h6
      clear h2 h3 h4 h5 HC2 HL
      go_wp2_with fail
      refine bodyPost_ret (v := .agg #[.slice b1 s.init.length d1, .slice pa prs.length pc]) (by simp [results, Try.results65, go_sem, y0, y1, y2, y3, y4]) rfl ?_
      exact HF.out
end Go.Proofs.Ytffadknollkgiaa
