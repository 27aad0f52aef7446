/- The reference's DrawApplyStep, DrawStepProcesses: a system and some step. Conditions: those of each contract. -/
import Derived.Test.YtffadknollkgiaazDrawStV
import Derived.Test.YtffadknollkgiaazEnabV
import Derived.Test.YtffadknollkgiaaJS6
import Derived.Deep.RegionHeld3
import Derived.Deep.DeepCutAuto
import Derived.Deep.CutBlock
set_option linter.unusedVariables false
set_option linter.unusedSimpArgs false
namespace Go.Proofs.Ytffadknollkgiaa
open Go.RowKit
open Go.Proofs.Ytffadknollkgiaa.State (PairIn)
open Go.Proofs.Ytffadknollkgiaa.Sys
set_option linter.unusedVariables false
set_option linter.unusedSimpArgs false

/-- a list of numbers in a block -/
def SlIn (w : World) (b : Nat) (ns : List Int) (R : Nat) : Prop := b < w.heap.size ∧ b ≠ R ∧ ∀ i, i < ns.length → w.cell? ⟨b, i, none⟩ = some (.int .i64 (ns.getD i 0))
theorem SlIn.new (w : World) (ns : List Int) (t : TypeId) (R : Nat) (hR : R < w.heap.size) : SlIn (w.alloc (.cells (ns.map (Value.int .i64)).toArray t)) w.heap.size ns R := by
  refine ⟨by simp, by omega, fun i hi => ?_⟩
  have e : ns[i]? = some (ns.getD i 0) := by rw [List.getD_eq_getElem?_getD, List.getElem?_eq_getElem hi]; rfl
  rw [World.cell?_alloc_new, List.getElem?_toArray, List.getElem?_map, e]
  rfl
theorem SlIn.next {w w' : World} {b R : Nat} {ns : List Int} (h : SlIn w b ns R) (hb : Below w.heap.size w w') : SlIn w' b ns R :=
  ⟨Nat.lt_of_lt_of_le h.1 hb.size, h.2.1, fun i hi => by rw [hb.cell (p := ⟨b, i, none⟩) h.1]; exact h.2.2 i hi⟩
theorem SlIn.but {w w' : World} {b R : Nat} {ns : List Int} (h : SlIn w b ns R) (hb : But w R w') : SlIn w' b ns R :=
  ⟨Nat.lt_of_lt_of_le h.1 hb.size, h.2.1, fun i hi => by rw [hb.cell (b := b) (o := i) h.1 h.2.1]; exact h.2.2 i hi⟩
theorem num_sl (ns : List Int) (lo hi : Int) (hn : ∀ n ∈ ns, lo ≤ n ∧ n ≤ hi) (h0 : 0 < ns.length) (h1 : ns.length ≤ 100) (B0 : Nat) (w : World) (R p b : Nat) (hr : Rd B0 w R p) (hs : SlIn w b ns R) (hp : p ≤ 1000000) :
    Calls Try.prog 41 #[.pointer (some ⟨R, 0, none⟩), .slice (some ⟨b, 0, none⟩) ns.length ns.length] w (NumPost B0 lo hi R p w) := by
  refine num_any B0 lo hi _ R p b ns.length (fun i => ns.getD i 0) hr hp h0 h1 hs.2.1 hs.1 fun i hi => ?_
  have e : ns[i]? = some (ns.getD i 0) := by rw [List.getD_eq_getElem?_getD, List.getElem?_eq_getElem hi]; rfl
  exact ⟨hs.2.2 i hi, hn _ (List.mem_of_getElem? e)⟩
theorem box4_set {w : World} {B : Nat} {a b c d : Value} (h : Box4 w B a b c d) (u0 u1 u2 u3 : Value) : Box4 ((((w.setCell ⟨B, 0, none⟩ u0).setCell ⟨B, 1, none⟩ u1).setCell ⟨B, 2, none⟩ u2).setCell ⟨B, 3, none⟩ u3) B u0 u1 u2 u3 := by
  obtain ⟨h0, ⟨h1, h2, h3, h4⟩, hf⟩ := h
  have e1 := World.cell?_setCell_same w ⟨B, 0, none⟩ u0 h1
  have d2 : (w.setCell ⟨B, 0, none⟩ u0).cell? ⟨B, 1, none⟩ = some b := by rw [World.cell?_setCell_other _ _ _ _ (by simp)]; exact h2
  have e2 := World.cell?_setCell_same _ ⟨B, 1, none⟩ u1 d2
  have d3 : ((w.setCell ⟨B, 0, none⟩ u0).setCell ⟨B, 1, none⟩ u1).cell? ⟨B, 2, none⟩ = some c := by rw [World.cell?_setCell_other _ _ _ _ (by simp), World.cell?_setCell_other _ _ _ _ (by simp)]; exact h3
  have e3 := World.cell?_setCell_same _ ⟨B, 2, none⟩ u2 d3
  have d4 : (((w.setCell ⟨B, 0, none⟩ u0).setCell ⟨B, 1, none⟩ u1).setCell ⟨B, 2, none⟩ u2).cell? ⟨B, 3, none⟩ = some d := by rw [World.cell?_setCell_other _ _ _ _ (by simp), World.cell?_setCell_other _ _ _ _ (by simp), World.cell?_setCell_other _ _ _ _ (by simp)]; exact h4
  have e4 := World.cell?_setCell_same _ ⟨B, 3, none⟩ u3 d4
  refine ⟨by simpa using h0, ⟨?_, ?_, ?_, e4⟩, fun i => by simp [hf]⟩
  · rw [World.cell?_setCell_other _ _ _ _ (by simp), World.cell?_setCell_other _ _ _ _ (by simp), World.cell?_setCell_other _ _ _ _ (by simp)]; exact e1
  · rw [World.cell?_setCell_other _ _ _ _ (by simp), World.cell?_setCell_other _ _ _ _ (by simp)]; exact e2
  · rw [World.cell?_setCell_other _ _ _ _ (by simp)]; exact e3
/-- what a step's drawing comes to -/
def ApDr (w : World) (v : Value) (w' : World) : Prop := ∃ x s a n c b m d p e q f, v = .tuple #[x, .agg #[.slice a n c, .slice b m d], .agg #[.int .i64 p, .int .i64 e, .int .i64 q, .int .i64 f]] ∧ SyIn (fun b => w.heap.size ≤ b) w' s x ∧ Bnd 992 6 s
theorem ap_fin {w W1 W : World} {s : Sy} {R : Nat} {a5 a6 a7 a8 : Option Addr} {k5 k6 k7 k8 l5 l6 : Nat} (hs : SyIn (fun b => w.heap.size + 1 + 1 < b ∧ b ≠ R) W1 s (.agg #[.slice a7 s.init.length k7, .slice a8 s.procs.length k8])) (hbn : Bnd 992 6 s) (hwR : w.heap.size + 1 + 1 < R)
    (c2 : BoxP W1 w.heap.size (.slice none 0 0) (.slice none 0 0)) (c3 : BoxP W1 (w.heap.size + 1) (.slice none 0 0) (.slice none 0 0)) (c4 : Box4 W1 (w.heap.size + 1 + 1) (.int .i64 0) (.int .i64 0) (.int .i64 0) (.int .i64 0)) (hB : Below w.heap.size w W1) (hW : But W1 R W) (n1 n2 n3 n4 : Int) :
    ∃ n1' n2' n3' n4' : Int, BoxP ((((((((W.setCell ⟨w.heap.size, 0, none⟩ (.slice a7 s.init.length k7)).setCell ⟨w.heap.size, 1, none⟩ (.slice a8 s.procs.length k8)).setCell ⟨w.heap.size + 1, 0, none⟩ (.slice a5 l5 k5)).setCell ⟨w.heap.size + 1, 1, none⟩ (.slice a6 l6 k6)).setCell ⟨w.heap.size + 1 + 1, 0, none⟩ (.int .i64 n1)).setCell ⟨w.heap.size + 1 + 1, 1, none⟩ (.int .i64 n2)).setCell ⟨w.heap.size + 1 + 1, 2, none⟩ (.int .i64 n3)).setCell ⟨w.heap.size + 1 + 1, 3, none⟩ (.int .i64 n4)) w.heap.size (.slice a7 s.init.length k7) (.slice a8 s.procs.length k8) ∧ BoxP ((((((((W.setCell ⟨w.heap.size, 0, none⟩ (.slice a7 s.init.length k7)).setCell ⟨w.heap.size, 1, none⟩ (.slice a8 s.procs.length k8)).setCell ⟨w.heap.size + 1, 0, none⟩ (.slice a5 l5 k5)).setCell ⟨w.heap.size + 1, 1, none⟩ (.slice a6 l6 k6)).setCell ⟨w.heap.size + 1 + 1, 0, none⟩ (.int .i64 n1)).setCell ⟨w.heap.size + 1 + 1, 1, none⟩ (.int .i64 n2)).setCell ⟨w.heap.size + 1 + 1, 2, none⟩ (.int .i64 n3)).setCell ⟨w.heap.size + 1 + 1, 3, none⟩ (.int .i64 n4)) (w.heap.size + 1) (.slice a5 l5 k5) (.slice a6 l6 k6) ∧ Box4 ((((((((W.setCell ⟨w.heap.size, 0, none⟩ (.slice a7 s.init.length k7)).setCell ⟨w.heap.size, 1, none⟩ (.slice a8 s.procs.length k8)).setCell ⟨w.heap.size + 1, 0, none⟩ (.slice a5 l5 k5)).setCell ⟨w.heap.size + 1, 1, none⟩ (.slice a6 l6 k6)).setCell ⟨w.heap.size + 1 + 1, 0, none⟩ (.int .i64 n1)).setCell ⟨w.heap.size + 1 + 1, 1, none⟩ (.int .i64 n2)).setCell ⟨w.heap.size + 1 + 1, 2, none⟩ (.int .i64 n3)).setCell ⟨w.heap.size + 1 + 1, 3, none⟩ (.int .i64 n4)) (w.heap.size + 1 + 1) (.int .i64 n1') (.int .i64 n2') (.int .i64 n3') (.int .i64 n4') ∧ SyIn (fun b => w.heap.size ≤ b) ((((((((W.setCell ⟨w.heap.size, 0, none⟩ (.slice a7 s.init.length k7)).setCell ⟨w.heap.size, 1, none⟩ (.slice a8 s.procs.length k8)).setCell ⟨w.heap.size + 1, 0, none⟩ (.slice a5 l5 k5)).setCell ⟨w.heap.size + 1, 1, none⟩ (.slice a6 l6 k6)).setCell ⟨w.heap.size + 1 + 1, 0, none⟩ (.int .i64 n1)).setCell ⟨w.heap.size + 1 + 1, 1, none⟩ (.int .i64 n2)).setCell ⟨w.heap.size + 1 + 1, 2, none⟩ (.int .i64 n3)).setCell ⟨w.heap.size + 1 + 1, 3, none⟩ (.int .i64 n4)) s (.agg #[.slice a7 s.init.length k7, .slice a8 s.procs.length k8]) ∧ Below w.heap.size w ((((((((W.setCell ⟨w.heap.size, 0, none⟩ (.slice a7 s.init.length k7)).setCell ⟨w.heap.size, 1, none⟩ (.slice a8 s.procs.length k8)).setCell ⟨w.heap.size + 1, 0, none⟩ (.slice a5 l5 k5)).setCell ⟨w.heap.size + 1, 1, none⟩ (.slice a6 l6 k6)).setCell ⟨w.heap.size + 1 + 1, 0, none⟩ (.int .i64 n1)).setCell ⟨w.heap.size + 1 + 1, 1, none⟩ (.int .i64 n2)).setCell ⟨w.heap.size + 1 + 1, 2, none⟩ (.int .i64 n3)).setCell ⟨w.heap.size + 1 + 1, 3, none⟩ (.int .i64 n4)) := by
  have C2 := boxp_but hW (show w.heap.size ≠ R by omega) c2
  have C3 := boxp_but hW (show w.heap.size + 1 ≠ R by omega) c3
  have C4 := box4_block hW.size (hW.block _ c4.1 (show w.heap.size + 1 + 1 ≠ R by omega)) c4
  have BW : Below w.heap.size w W := hW.new hB (by omega)
  have n01 : w.heap.size ≠ w.heap.size + 1 := by omega
  have n02 : w.heap.size ≠ w.heap.size + 1 + 1 := by omega
  have n12 : w.heap.size + 1 ≠ w.heap.size + 1 + 1 := by omega
  have X2 := boxp_set (boxp_set (boxp_set1 (boxp_set0 C2 (.slice a7 s.init.length k7)) (.slice a8 s.procs.length k8)) (p := ⟨w.heap.size + 1, 0, none⟩) n01 (.slice a5 l5 k5)) (p := ⟨w.heap.size + 1, 1, none⟩) n01 (.slice a6 l6 k6)
  have X3 := boxp_set1 (boxp_set0 (boxp_set (boxp_set C3 (p := ⟨w.heap.size, 0, none⟩) (Ne.symm n01) (.slice a7 s.init.length k7)) (p := ⟨w.heap.size, 1, none⟩) (Ne.symm n01) (.slice a8 s.procs.length k8)) (.slice a5 l5 k5)) (.slice a6 l6 k6)
  have X4 : Box4 ((((W.setCell ⟨w.heap.size, 0, none⟩ (.slice a7 s.init.length k7)).setCell ⟨w.heap.size, 1, none⟩ (.slice a8 s.procs.length k8)).setCell ⟨w.heap.size + 1, 0, none⟩ (.slice a5 l5 k5)).setCell ⟨w.heap.size + 1, 1, none⟩ (.slice a6 l6 k6)) (w.heap.size + 1 + 1) (.int .i64 0) (.int .i64 0) (.int .i64 0) (.int .i64 0) :=
    box4_block (by simp) ((Below.heap_setCell _ _ _ _ (Ne.symm n12)).trans ((Below.heap_setCell _ _ _ _ (Ne.symm n12)).trans ((Below.heap_setCell _ _ _ _ (Ne.symm n02)).trans (Below.heap_setCell _ _ _ _ (Ne.symm n02))))) C4
  have BF := below_set2 (below_set2 BW (Nat.le_refl w.heap.size) (.slice a7 s.init.length k7) (.slice a8 s.procs.length k8)) (Nat.le_succ w.heap.size) (.slice a5 l5 k5) (.slice a6 l6 k6)
  have hsW := hs.frame (q := fun b => w.heap.size + 1 + 1 < b) (w' := W) hW.size (fun b hb hl => ⟨hb.1, hW.block b hl hb.2⟩)
  refine ⟨n1, n2, n3, n4, boxp_set (boxp_set (boxp_set (boxp_set X2 (p := ⟨w.heap.size + 1 + 1, 0, none⟩) n02 _) (p := ⟨w.heap.size + 1 + 1, 1, none⟩) n02 _) (p := ⟨w.heap.size + 1 + 1, 2, none⟩) n02 _) (p := ⟨w.heap.size + 1 + 1, 3, none⟩) n02 _,
    boxp_set (boxp_set (boxp_set (boxp_set X3 (p := ⟨w.heap.size + 1 + 1, 0, none⟩) n12 _) (p := ⟨w.heap.size + 1 + 1, 1, none⟩) n12 _) (p := ⟨w.heap.size + 1 + 1, 2, none⟩) n12 _) (p := ⟨w.heap.size + 1 + 1, 3, none⟩) n12 _,
    box4_set X4 _ _ _ _, hsW.frame (by simp) (fun b hb hl => ⟨by omega, ?_⟩),
    Below.setCell (Below.setCell (Below.setCell (Below.setCell BF (show w.heap.size ≤ w.heap.size + 1 + 1 by omega) _) (show w.heap.size ≤ w.heap.size + 1 + 1 by omega) _) (show w.heap.size ≤ w.heap.size + 1 + 1 by omega) _) (show w.heap.size ≤ w.heap.size + 1 + 1 by omega) _⟩
  have m0 : b ≠ w.heap.size := by omega
  have m1 : b ≠ w.heap.size + 1 := by omega
  have m2 : b ≠ w.heap.size + 1 + 1 := by omega
  exact (Below.heap_setCell _ _ _ _ m2).trans ((Below.heap_setCell _ _ _ _ m2).trans ((Below.heap_setCell _ _ _ _ m2).trans ((Below.heap_setCell _ _ _ _ m2).trans ((Below.heap_setCell _ _ _ _ m1).trans ((Below.heap_setCell _ _ _ _ m1).trans ((Below.heap_setCell _ _ _ _ m0).trans (Below.heap_setCell _ _ _ _ m0)))))))
theorem StRow_at {B : Nat} {l : List Stp} {a : Option Addr} {n c : Nat} {w : World} (h : StRow B l (.slice a n c) w) (h0 : 0 < l.length) :
    ∃ g, a = some ⟨g, 0, none⟩ ∧ B ≤ g ∧ g < w.heap.size ∧ ∀ j (hj : j < l.length), w.cell? ⟨g, j * 4, none⟩ = some (.int .i64 l[j].p) ∧ w.cell? ⟨g, j * 4 + 1, none⟩ = some (.int .i64 l[j].e) ∧ w.cell? ⟨g, j * 4 + 2, none⟩ = some (.int .i64 l[j].q) ∧ w.cell? ⟨g, j * 4 + 3, none⟩ = some (.int .i64 l[j].f) := by
  obtain ⟨a', c', e, _, _, h4⟩ := h
  simp at e
  obtain ⟨rfl, rfl, rfl⟩ := e
  rcases h4 with h | ⟨g, rfl, hB, hg, hc, _⟩
  · rw [h] at h0; simp at h0
  · refine ⟨g, rfl, hB, hg, fun j hj => ?_⟩
    have hh : ∀ c u, c < 4 → (l[j].cells)[c]? = some u → w.cell? ⟨g, j * 4 + c, none⟩ = some u := fun c u h4 hu => hc (j * 4 + c) u (by rw [stCells_at l j c hj h4]; exact hu)
    exact ⟨by simpa using hh 0 _ (by omega) rfl, hh 1 _ (by omega) rfl, hh 2 _ (by omega) rfl, hh 3 _ (by omega) rfl⟩

set_option maxRecDepth 100000 in
set_option maxHeartbeats 8000000 in
theorem drawAp_any (w : World) (a : Option Addr) (len cap : Nat) (hb : ByteArg w a len cap) : Calls Try.prog 60 #[.slice a len cap] w (RetP (ApDr w) w) := by
  go_enter Try.func60, Try.ntmps60
  go_wp2_with fail
  have k0 := below_next (below_next (below_alloc w (.cells #[.slice none 0 0, .slice none 0 0] 36)) (below_alloc _ (.cells #[.slice none 0 0, .slice none 0 0] 50))) (below_alloc _ (.cells #[.int .i64 0, .int .i64 0, .int .i64 0, .int .i64 0] 56))
  refine (drawStValid_any _ a len cap (hb.next k0)).mono ?_
  rintro e w1 ⟨v, rfl, ⟨x, y, s, ls, vs, rfl, hs, hbn, hp, _, _⟩, hb1⟩
  have c2 := boxp_next hb1 (boxp_next (below_alloc _ (.cells #[.int .i64 0, .int .i64 0, .int .i64 0, .int .i64 0] 56)) (boxp_next (below_alloc _ (.cells #[.slice none 0 0, .slice none 0 0] 50)) (boxp_at (w := w) (a := .slice none 0 0) (b := .slice none 0 0) (t := 36) rfl)))
  have c3 := boxp_next hb1 (boxp_next (below_alloc _ (.cells #[.int .i64 0, .int .i64 0, .int .i64 0, .int .i64 0] 56)) (boxp_at (w := w.alloc (.cells #[.slice none 0 0, .slice none 0 0] 36)) (B := w.heap.size + 1) (a := .slice none 0 0) (b := .slice none 0 0) (t := 50) (by simp)))
  have c4 := box4_next hb1 (box4_at (w := (w.alloc (.cells #[.slice none 0 0, .slice none 0 0] 36)).alloc (.cells #[.slice none 0 0, .slice none 0 0] 50)) (B := w.heap.size + 1 + 1) (a := .int .i64 0) (b := .int .i64 0) (c := .int .i64 0) (d := .int .i64 0) (t := 56) (by simp))
  have B1 := below_next k0 hb1
  simp only [World.size_alloc] at hs hp
  have hBA := hb.next B1
  obtain ⟨a7, k7, a8, k8, rfl⟩ := hs.shape
  obtain ⟨a5, a6, k5, k6, rfl, _⟩ := id hp
  have k1 := below_next (below_alloc w1 (.cells #[.slice a7 s.init.length k7, .slice a8 s.procs.length k8] 36)) (below_alloc _ (.cells #[.slice a5 ls.length k5, .slice a6 vs.length k6] 50))
  have FF := hid (And.intro (boxp_next (below_alloc _ (.cells #[.slice a5 ls.length k5, .slice a6 vs.length k6] 50)) (boxp_at (w := w1) (a := .slice a7 s.init.length k7) (b := .slice a8 s.procs.length k8) (t := 36) rfl)) (And.intro (boxp_at (w := w1.alloc (.cells #[.slice a7 s.init.length k7, .slice a8 s.procs.length k8] 36)) (B := w1.heap.size + 1) (a := .slice a5 ls.length k5) (b := .slice a6 vs.length k6) (t := 50) (by simp)) (And.intro (boxp_next k1 c2) (And.intro (boxp_next k1 c3) (And.intro (box4_next k1 c4) (And.intro (below_next B1 k1) (And.intro (hs.below k1) (And.intro (PairIn_frame (q := Any) hp k1.size (fun b _ hl => ⟨trivial, k1.block b hl⟩)) (And.intro (hBA.next k1) (show w1.heap.size + 2 ≤ (((w1.alloc (.cells #[.slice a7 s.init.length k7, .slice a8 s.procs.length k8] 36)).alloc (.cells #[.slice a5 ls.length k5, .slice a6 vs.length k6] 50))).heap.size by simp))))))))))
  have hw1 := c4.1
  clear hb1 hs hp B1 k0 k1 c2 c3 c4 hBA hb
  go_upto_region 2 with fail
  refine wp_gen (fun W => BoxP W w1.heap.size (.slice a7 s.init.length k7) (.slice a8 s.procs.length k8) ∧ BoxP W (w1.heap.size + 1) (.slice a5 ls.length k5) (.slice a6 vs.length k6) ∧ BoxP W w.heap.size (.slice none 0 0) (.slice none 0 0) ∧ BoxP W (w.heap.size + 1) (.slice none 0 0) (.slice none 0 0) ∧ Box4 W (w.heap.size + 1 + 1) (.int .i64 0) (.int .i64 0) (.int .i64 0) (.int .i64 0) ∧ Below w.heap.size w W ∧ SyIn (fun b => w.heap.size + 1 + 1 + 1 ≤ b) W s (.agg #[.slice a7 s.init.length k7, .slice a8 s.procs.length k8]) ∧ PairIn Any W ls vs (.agg #[.slice a5 ls.length k5, .slice a6 vs.length k6]) ∧ ByteArg W a len cap ∧ w1.heap.size + 2 ≤ W.heap.size) FF.out ?_
  clear FF
  rintro W0 ⟨b5, b6, c2, c3, c4, hB1, hs, hp, hBA, hsz⟩
  obtain ⟨P5, hP5⟩ : ∃ P, P = w1.heap.size := ⟨_, rfl⟩
  obtain ⟨P6, hP6⟩ : ∃ P, P = w1.heap.size + 1 := ⟨_, rfl⟩
  rw [← hP6] at b6 ⊢
  rw [← hP5] at b5 ⊢
  have hq5 : w.heap.size + 1 + 1 < P5 := by omega
  have hq6 : P5 < P6 := by omega
  have hq7 : P6 < W0.heap.size := by omega
  clear hP5 hP6 hw1 hsz
  go_wp2_with fail
  refine (open_any _ a len cap hBA).mono ?_
  rintro e w2 ⟨v, rfl, ⟨R, B, rfl, hR, hr⟩, hb2⟩
  replace b5 := boxp_next hb2 b5
  replace b6 := boxp_next hb2 b6
  replace c2 := boxp_next hb2 c2
  replace c3 := boxp_next hb2 c3
  replace c4 := box4_next hb2 c4
  replace hB1 := below_next hB1 hb2
  replace hs := hs.frame (q := fun b => w.heap.size + 1 + 1 < b ∧ b ≠ R) hb2.size (fun b hb hl => ⟨⟨by have := hb; omega, by omega⟩, hb2.block b hl⟩)
  replace hp := PairIn_frame (q := Any) hp hb2.size (fun b _ hl => ⟨trivial, hb2.block b hl⟩)
  have hRw := hr.lt
  clear hb2 hBA
  obtain ⟨x0, x1, x2, x3, x4⟩ := id b5
  obtain ⟨y0, y1, y2, y3, y4⟩ := id b6
  go_wp2_with fail
  refine (specEnab_any s ls vs w2 _ _ (hs.mono (fun b _ => trivial)) hp).mono ?_
  rintro e w3 ⟨v, rfl, hL, hb3⟩
  have hL1000 := enabS_len s ls vs
  generalize enabS s ls vs = L at *
  obtain ⟨aL, cL, rfl, cL1, cL2, _⟩ := id hL
  have C5 := hid (boxp_next hb3 b5)
  have C6 := hid (boxp_next hb3 b6)
  have C2 := hid (boxp_next hb3 c2)
  have C3 := hid (boxp_next hb3 c3)
  have C4 := hid (box4_next hb3 c4)
  have CB := hid (below_next hB1 hb3)
  have CS := hid (hs.below hb3)
  have CR := hid (hr.next hb3)
  have CL := hid hL
  have hw23 := hb3.size
  clear b5 b6 c2 c3 c4 hB1 hs hp hr hL hb3 x0 x1 x2 x3 x4 y0 y1 y2 y3 y4
  go_upto_region 4 with fail
  go_cut [26] (fun s26 wx => ∃ q0 : Nat, q0 ≤ 1 ∧ Hid (But w3 R wx) ∧ Hid (Rd B wx R q0) ∧ ((s26 = .bool true ∧ 0 < L.length) ∨ s26 = .bool false))
  case first =>
    by_cases hl0 : 0 < L.length
    · have hlI : (0 : Int) < (L.length : Int) := by omega
      go_wp2_with fail
      refine (pick_any B _ w3 R 0 CR.out (by omega) (by omega) (by omega)).mono ?_
      rintro e w4 ⟨m, rfl, ⟨m0, m1, _⟩, hb, hr⟩
      have HX := hid hr
      have HY := hid hb
      clear hr hb
      by_cases hm : 0 < m
      · go_wp2_with fail
        go_meet
        exact ⟨1, by omega, HY, HX, .inl ⟨rfl, hl0⟩⟩
      · go_wp2_with fail
        go_meet
        exact ⟨1, by omega, HY, HX, .inr (by simp; omega)⟩
    · have hlI : ¬ ((0 : Int) < (L.length : Int)) := by omega
      go_wp2_with fail
      go_meet
      exact ⟨0, by omega, hid (But.refl _ _), CR, .inr rfl⟩
  case rest =>
    obtain ⟨q0, hq0, HY, HR, hs26⟩ := hcut
    obtain ⟨W1, hW1⟩ : ∃ W1 : World, W1 = wc := ⟨_, rfl⟩
    subst hW1
    have hwR : w.heap.size + 1 + 1 < R := by omega
    have c5 := boxp_but HY.out (show P5 ≠ R by omega) C5.out
    have c6 := boxp_but HY.out (show P6 ≠ R by omega) C6.out
    have c2 := boxp_but HY.out (show w.heap.size ≠ R by omega) C2.out
    have c3 := boxp_but HY.out (show w.heap.size + 1 ≠ R by omega) C3.out
    have c4 := box4_block HY.out.size (HY.out.block _ C4.out.1 (show w.heap.size + 1 + 1 ≠ R by omega)) C4.out
    have hB1 := HY.out.new CB.out (by omega)
    have hs := CS.out.frame (q := fun b => w.heap.size + 1 + 1 < b ∧ b ≠ R) HY.out.size (fun b hb hl => ⟨hb, HY.out.block b hl hb.2⟩)
    have HCL := hid (fun (h0 : 0 < L.length) => StRow_at CL.out h0)
    clear C5 C6 C2 C3 C4 CB CS CR CL
    obtain ⟨x0, x1, x2, x3, x4⟩ := id c5
    obtain ⟨y0, y1, y2, y3, y4⟩ := id c6
    rcases hs26 with ⟨rfl, hl0⟩ | rfl
    · obtain ⟨gS, rfl, hgB, hgl, hcells⟩ := HCL.out hl0
      have HLc := hid (fun (W : World) (M : But W1 R W) {j : Nat} (hj : j < L.length) => by
        have hh := hcells j hj
        have mm := HY.out.trans M
        exact show W.cell? ⟨gS, j * 4, none⟩ = some (.int .i64 L[j].p) ∧ W.cell? ⟨gS, j * 4 + 1, none⟩ = some (.int .i64 L[j].e) ∧ W.cell? ⟨gS, j * 4 + 2, none⟩ = some (.int .i64 L[j].q) ∧ W.cell? ⟨gS, j * 4 + 3, none⟩ = some (.int .i64 L[j].f) from
          ⟨(mm.cell (b := gS) hgl (by omega)).trans hh.1, (mm.cell (b := gS) hgl (by omega)).trans hh.2.1, (mm.cell (b := gS) hgl (by omega)).trans hh.2.2.1, (mm.cell (b := gS) hgl (by omega)).trans hh.2.2.2⟩)
      have hgw0 : gS ≠ w.heap.size := by omega
      have hgw1 : gS ≠ w.heap.size + 1 := by omega
      clear hcells HCL HY
      go_upto_region 5 with fail
      go_cut [34] (fun sX wx => Hid (∃ n1 n2 n3 n4 : Int, BoxP wx w.heap.size (.slice a7 s.init.length k7) (.slice a8 s.procs.length k8) ∧ BoxP wx (w.heap.size + 1) (.slice a5 ls.length k5) (.slice a6 vs.length k6) ∧ Box4 wx (w.heap.size + 1 + 1) (.int .i64 n1) (.int .i64 n2) (.int .i64 n3) (.int .i64 n4) ∧ SyIn (fun b => w.heap.size ≤ b) wx s (.agg #[.slice a7 s.init.length k7, .slice a8 s.procs.length k8]) ∧ Below w.heap.size w wx))
      case first =>
        refine wp_region_ord (C := fun wZ => ∃ xZ, wZ = World.overP _ ([P5, P6]) xZ) [0,1,2,3,4,5] (.one 6 (.two 7 9 (.two 8 9 (.one 9 (.one 10 (.fre 11 .done))) (.two 8 10 (.one 10 (.fre 11 .done)) (.one 8 (.fre 11 .done)))) (.two 7 10 (.two 8 10 (.one 10 (.fre 11 .done)) (.one 8 (.fre 11 .done))) (.one 7 (.one 8 (.fre 11 .done)))))) [11] (by kernel_rfl) (by kernel_rfl) (fun d _ _ _ _ h => by cases d <;> exact h) (KeepP.refl _ _).drew.ex ?_
        simp only [pick, List.getElem?_cons_succ, List.getElem?_cons_zero]
        (repeat (go_big_quiet_step (fail)))
        refine wpQuiet_nil ?_
        have h0 := below_d (Below.refl W1.heap.size W1)
        replace HR := hid (HR.out.next h0)
        have HW := hid (But.of (D := R) h0)
        have K := hid (KeepP.below (S := [P5, P6]) h0)
        clear h0
        generalize hW0 : W1.drew = v0 at HR HW K ⊢
        clear hW0
        rw [ordW_one]
        simp only [pick, List.getElem?_cons_succ, List.getElem?_cons_zero]
        go_wp2_with fail
        refine (pick_any B _ v0 R (q0) HR.out (by omega) (by omega) (by omega)).mono ?_
        rintro e v1 ⟨n6, rfl, ⟨m0, m1, _⟩, hb, hr⟩
        replace HW := hid (HW.out.trans hb)
        replace K := hid (K.out.trans (KeepP.but hb (by simp; omega)))
        replace HR := hid hr
        clear hb hr
        obtain ⟨nj, rfl⟩ := Int.eq_ofNat_of_zero_le m0
        have hnj0 := m1 (by omega)
        have hnj : nj < L.length := by omega
        have hnjI : (nj : Int) < (L.length : Int) := by omega
        obtain ⟨g1, g2, g3, g4⟩ := HLc.out v1 HW.out hnj
        generalize L[nj] = tt at *
        go_wp2_with fail
        refine ⟨K.out.ex, ?_⟩
        rw [ordW_two]
        simp only [pick, List.getElem?_cons_succ, List.getElem?_cons_zero]
        refine ⟨?_, ?_⟩
        · go_wp2_with fail
          refine ⟨K.out.ex, ?_⟩
          rw [ordW_two]
          simp only [pick, List.getElem?_cons_succ, List.getElem?_cons_zero]
          refine ⟨?_, ?_⟩
          · go_wp2_with fail
            refine ⟨K.out.ex, ?_⟩
            rw [ordW_one]
            simp only [pick, List.getElem?_cons_succ, List.getElem?_cons_zero]
            have HFin := hid (ap_fin (w := w) (W := v1) (a5 := a5) (a6 := a6) (k5 := k5) (k6 := k6) (l5 := ls.length) (l6 := vs.length) hs hbn hwR c2 c3 c4 hB1 HW.out tt.p tt.e tt.q tt.f)
            obtain ⟨x0, x1, x2, x3, x4⟩ := boxp_but HW.out (show w.heap.size ≠ R by omega) c2
            obtain ⟨y0, y1, y2, y3, y4⟩ := boxp_but HW.out (show w.heap.size + 1 ≠ R by omega) c3
            obtain ⟨z0, ⟨z1, z2, z3, z4⟩, zf⟩ := box4_block HW.out.size (HW.out.block _ c4.1 (show w.heap.size + 1 + 1 ≠ R by omega)) c4
            have zf0 := zf 0
            have zf1 := zf 1
            have zf2 := zf 2
            have zf3 := zf 3
            clear zf
            replace K := hid ((K.out.set (a := ⟨w.heap.size, 0, none⟩) (by simp; omega) (.slice a7 s.init.length k7)).set (a := ⟨w.heap.size, 1, none⟩) (by simp; omega) (.slice a8 s.procs.length k8))
            go_wp2_with fail
            refine ⟨K.out.ex, ?_⟩
            rw [ordW_one]
            simp only [pick, List.getElem?_cons_succ, List.getElem?_cons_zero]
            replace K := hid ((K.out.set (a := ⟨w.heap.size + 1, 0, none⟩) (by simp; omega) (.slice a5 ls.length k5)).set (a := ⟨w.heap.size + 1, 1, none⟩) (by simp; omega) (.slice a6 vs.length k6))
            go_wp2_with fail
            refine ⟨K.out.ex, ?_⟩
            rw [ordW_fre]
            simp only [pick, List.getElem?_cons_succ, List.getElem?_cons_zero]
            go_wp2_with fail
            rw [ordW_done]
            go_wp2_with fail
            go_meet
            exact HFin
          · have HFin := hid (ap_fin (w := w) (W := v1) (a5 := a5) (a6 := a6) (k5 := k5) (k6 := k6) (l5 := ls.length) (l6 := vs.length) hs hbn hwR c2 c3 c4 hB1 HW.out tt.p tt.e tt.q tt.f)
            obtain ⟨x0, x1, x2, x3, x4⟩ := boxp_but HW.out (show w.heap.size ≠ R by omega) c2
            obtain ⟨y0, y1, y2, y3, y4⟩ := boxp_but HW.out (show w.heap.size + 1 ≠ R by omega) c3
            obtain ⟨z0, ⟨z1, z2, z3, z4⟩, zf⟩ := box4_block HW.out.size (HW.out.block _ c4.1 (show w.heap.size + 1 + 1 ≠ R by omega)) c4
            have zf0 := zf 0
            have zf1 := zf 1
            have zf2 := zf 2
            have zf3 := zf 3
            clear zf
            replace K := hid ((K.out.set (a := ⟨w.heap.size, 0, none⟩) (by simp; omega) (.slice a7 s.init.length k7)).set (a := ⟨w.heap.size, 1, none⟩) (by simp; omega) (.slice a8 s.procs.length k8))
            go_wp2_with fail
            refine ⟨K.out.ex, ?_⟩
            rw [ordW_two]
            simp only [pick, List.getElem?_cons_succ, List.getElem?_cons_zero]
            refine ⟨?_, ?_⟩
            · go_wp2_with fail
              refine ⟨K.out.ex, ?_⟩
              rw [ordW_one]
              simp only [pick, List.getElem?_cons_succ, List.getElem?_cons_zero]
              replace K := hid ((K.out.set (a := ⟨w.heap.size + 1, 0, none⟩) (by simp; omega) (.slice a5 ls.length k5)).set (a := ⟨w.heap.size + 1, 1, none⟩) (by simp; omega) (.slice a6 vs.length k6))
              go_wp2_with fail
              refine ⟨K.out.ex, ?_⟩
              rw [ordW_fre]
              simp only [pick, List.getElem?_cons_succ, List.getElem?_cons_zero]
              go_wp2_with fail
              rw [ordW_done]
              go_wp2_with fail
              go_meet
              exact HFin
            · replace K := hid ((K.out.set (a := ⟨w.heap.size + 1, 0, none⟩) (by simp; omega) (.slice a5 ls.length k5)).set (a := ⟨w.heap.size + 1, 1, none⟩) (by simp; omega) (.slice a6 vs.length k6))
              go_wp2_with fail
              refine ⟨K.out.ex, ?_⟩
              rw [ordW_one]
              simp only [pick, List.getElem?_cons_succ, List.getElem?_cons_zero]
              go_wp2_with fail
              refine ⟨K.out.ex, ?_⟩
              rw [ordW_fre]
              simp only [pick, List.getElem?_cons_succ, List.getElem?_cons_zero]
              go_wp2_with fail
              rw [ordW_done]
              go_wp2_with fail
              go_meet
              exact HFin
        · have HFin := hid (ap_fin (w := w) (W := v1) (a5 := a5) (a6 := a6) (k5 := k5) (k6 := k6) (l5 := ls.length) (l6 := vs.length) hs hbn hwR c2 c3 c4 hB1 HW.out tt.p tt.e tt.q tt.f)
          obtain ⟨x0, x1, x2, x3, x4⟩ := boxp_but HW.out (show w.heap.size ≠ R by omega) c2
          obtain ⟨y0, y1, y2, y3, y4⟩ := boxp_but HW.out (show w.heap.size + 1 ≠ R by omega) c3
          obtain ⟨z0, ⟨z1, z2, z3, z4⟩, zf⟩ := box4_block HW.out.size (HW.out.block _ c4.1 (show w.heap.size + 1 + 1 ≠ R by omega)) c4
          have zf0 := zf 0
          have zf1 := zf 1
          have zf2 := zf 2
          have zf3 := zf 3
          clear zf
          replace K := hid ((K.out.set (a := ⟨w.heap.size, 0, none⟩) (by simp; omega) (.slice a7 s.init.length k7)).set (a := ⟨w.heap.size, 1, none⟩) (by simp; omega) (.slice a8 s.procs.length k8))
          go_wp2_with fail
          refine ⟨K.out.ex, ?_⟩
          rw [ordW_two]
          simp only [pick, List.getElem?_cons_succ, List.getElem?_cons_zero]
          refine ⟨?_, ?_⟩
          · go_wp2_with fail
            refine ⟨K.out.ex, ?_⟩
            rw [ordW_two]
            simp only [pick, List.getElem?_cons_succ, List.getElem?_cons_zero]
            refine ⟨?_, ?_⟩
            · go_wp2_with fail
              refine ⟨K.out.ex, ?_⟩
              rw [ordW_one]
              simp only [pick, List.getElem?_cons_succ, List.getElem?_cons_zero]
              replace K := hid ((K.out.set (a := ⟨w.heap.size + 1, 0, none⟩) (by simp; omega) (.slice a5 ls.length k5)).set (a := ⟨w.heap.size + 1, 1, none⟩) (by simp; omega) (.slice a6 vs.length k6))
              go_wp2_with fail
              refine ⟨K.out.ex, ?_⟩
              rw [ordW_fre]
              simp only [pick, List.getElem?_cons_succ, List.getElem?_cons_zero]
              go_wp2_with fail
              rw [ordW_done]
              go_wp2_with fail
              go_meet
              exact HFin
            · replace K := hid ((K.out.set (a := ⟨w.heap.size + 1, 0, none⟩) (by simp; omega) (.slice a5 ls.length k5)).set (a := ⟨w.heap.size + 1, 1, none⟩) (by simp; omega) (.slice a6 vs.length k6))
              go_wp2_with fail
              refine ⟨K.out.ex, ?_⟩
              rw [ordW_one]
              simp only [pick, List.getElem?_cons_succ, List.getElem?_cons_zero]
              go_wp2_with fail
              refine ⟨K.out.ex, ?_⟩
              rw [ordW_fre]
              simp only [pick, List.getElem?_cons_succ, List.getElem?_cons_zero]
              go_wp2_with fail
              rw [ordW_done]
              go_wp2_with fail
              go_meet
              exact HFin
          · replace K := hid ((K.out.set (a := ⟨w.heap.size + 1, 0, none⟩) (by simp; omega) (.slice a5 ls.length k5)).set (a := ⟨w.heap.size + 1, 1, none⟩) (by simp; omega) (.slice a6 vs.length k6))
            go_wp2_with fail
            refine ⟨K.out.ex, ?_⟩
            rw [ordW_one]
            simp only [pick, List.getElem?_cons_succ, List.getElem?_cons_zero]
            go_wp2_with fail
            refine ⟨K.out.ex, ?_⟩
            rw [ordW_one]
            simp only [pick, List.getElem?_cons_succ, List.getElem?_cons_zero]
            go_wp2_with fail
            refine ⟨K.out.ex, ?_⟩
            rw [ordW_fre]
            simp only [pick, List.getElem?_cons_succ, List.getElem?_cons_zero]
            go_wp2_with fail
            rw [ordW_done]
            go_wp2_with fail
            go_meet
            exact HFin
      case rest =>
      obtain ⟨n1, n2, n3, n4, h2, h3, h4, hsF, hBF⟩ := hcut.out
      obtain ⟨_, t0, t1, _, _⟩ := h2
      obtain ⟨_, u0, u1, _, _⟩ := h3
      obtain ⟨_, ⟨w0, w1', w2', w3'⟩, _⟩ := h4
      have HF := hid (And.intro hsF hBF)
      clear hsF hBF
      go_wp2_with fail
      refine bodyPost_ret (v := .tuple #[.agg #[.slice a7 s.init.length k7, .slice a8 s.procs.length k8], .agg #[.slice a5 ls.length k5, .slice a6 vs.length k6], .agg #[.int .i64 n1, .int .i64 n2, .int .i64 n3, .int .i64 n4]]) (by simp [results, Try.results60, go_sem, t0, t1, u0, u1, w0, w1', w2', w3']) rfl ?_
      exact RetP.mk ⟨_, s, _, _, _, _, _, _, n1, n2, n3, n4, rfl, HF.out.1, hbn⟩ HF.out.2
    · clear HCL HY
      go_upto_region 6 with fail
      go_cut [49] (fun sX wx => Hid (∃ n1 n2 n3 n4 : Int, BoxP wx w.heap.size (.slice a7 s.init.length k7) (.slice a8 s.procs.length k8) ∧ BoxP wx (w.heap.size + 1) (.slice a5 ls.length k5) (.slice a6 vs.length k6) ∧ Box4 wx (w.heap.size + 1 + 1) (.int .i64 n1) (.int .i64 n2) (.int .i64 n3) (.int .i64 n4) ∧ SyIn (fun b => w.heap.size ≤ b) wx s (.agg #[.slice a7 s.init.length k7, .slice a8 s.procs.length k8]) ∧ Below w.heap.size w wx))
      case first =>
        refine wp_region_ord (C := fun wZ => ∃ xZ, wZ = World.overP _ ([P5, P6]) xZ) [0,1,2,5,7,10] (.thr 3 8 11 (.thr 4 8 11 (.thr 6 8 11 (.two 8 11 (.two 9 11 (.one 11 (.one 12 (.two 13 14 (.one 14 (.one 15 (.fre 16 .done))) (.two 13 15 (.one 15 (.fre 16 .done)) (.one 13 (.fre 16 .done)))))) (.one 9 (.one 12 (.two 13 14 (.one 14 (.one 15 (.fre 16 .done))) (.two 13 15 (.one 15 (.fre 16 .done)) (.one 13 (.fre 16 .done))))))) (.one 8 (.one 9 (.one 12 (.two 13 14 (.one 14 (.one 15 (.fre 16 .done))) (.two 13 15 (.one 15 (.fre 16 .done)) (.one 13 (.fre 16 .done)))))))) (.two 6 11 (.two 9 11 (.one 11 (.one 12 (.two 13 14 (.one 14 (.one 15 (.fre 16 .done))) (.two 13 15 (.one 15 (.fre 16 .done)) (.one 13 (.fre 16 .done)))))) (.one 9 (.one 12 (.two 13 14 (.one 14 (.one 15 (.fre 16 .done))) (.two 13 15 (.one 15 (.fre 16 .done)) (.one 13 (.fre 16 .done))))))) (.one 6 (.one 9 (.one 12 (.two 13 14 (.one 14 (.one 15 (.fre 16 .done))) (.two 13 15 (.one 15 (.fre 16 .done)) (.one 13 (.fre 16 .done)))))))) (.two 6 8 (.one 8 (.one 9 (.one 12 (.two 13 14 (.one 14 (.one 15 (.fre 16 .done))) (.two 13 15 (.one 15 (.fre 16 .done)) (.one 13 (.fre 16 .done))))))) (.one 6 (.one 9 (.one 12 (.two 13 14 (.one 14 (.one 15 (.fre 16 .done))) (.two 13 15 (.one 15 (.fre 16 .done)) (.one 13 (.fre 16 .done))))))))) (.two 4 11 (.two 6 11 (.two 9 11 (.one 11 (.one 12 (.two 13 14 (.one 14 (.one 15 (.fre 16 .done))) (.two 13 15 (.one 15 (.fre 16 .done)) (.one 13 (.fre 16 .done)))))) (.one 9 (.one 12 (.two 13 14 (.one 14 (.one 15 (.fre 16 .done))) (.two 13 15 (.one 15 (.fre 16 .done)) (.one 13 (.fre 16 .done))))))) (.one 6 (.one 9 (.one 12 (.two 13 14 (.one 14 (.one 15 (.fre 16 .done))) (.two 13 15 (.one 15 (.fre 16 .done)) (.one 13 (.fre 16 .done)))))))) (.one 4 (.one 6 (.one 9 (.one 12 (.two 13 14 (.one 14 (.one 15 (.fre 16 .done))) (.two 13 15 (.one 15 (.fre 16 .done)) (.one 13 (.fre 16 .done))))))))) (.two 4 8 (.two 6 8 (.one 8 (.one 9 (.one 12 (.two 13 14 (.one 14 (.one 15 (.fre 16 .done))) (.two 13 15 (.one 15 (.fre 16 .done)) (.one 13 (.fre 16 .done))))))) (.one 6 (.one 9 (.one 12 (.two 13 14 (.one 14 (.one 15 (.fre 16 .done))) (.two 13 15 (.one 15 (.fre 16 .done)) (.one 13 (.fre 16 .done)))))))) (.one 4 (.one 6 (.one 9 (.one 12 (.two 13 14 (.one 14 (.one 15 (.fre 16 .done))) (.two 13 15 (.one 15 (.fre 16 .done)) (.one 13 (.fre 16 .done)))))))))) (.two 3 11 (.two 4 11 (.two 6 11 (.two 9 11 (.one 11 (.one 12 (.two 13 14 (.one 14 (.one 15 (.fre 16 .done))) (.two 13 15 (.one 15 (.fre 16 .done)) (.one 13 (.fre 16 .done)))))) (.one 9 (.one 12 (.two 13 14 (.one 14 (.one 15 (.fre 16 .done))) (.two 13 15 (.one 15 (.fre 16 .done)) (.one 13 (.fre 16 .done))))))) (.one 6 (.one 9 (.one 12 (.two 13 14 (.one 14 (.one 15 (.fre 16 .done))) (.two 13 15 (.one 15 (.fre 16 .done)) (.one 13 (.fre 16 .done)))))))) (.one 4 (.one 6 (.one 9 (.one 12 (.two 13 14 (.one 14 (.one 15 (.fre 16 .done))) (.two 13 15 (.one 15 (.fre 16 .done)) (.one 13 (.fre 16 .done))))))))) (.one 3 (.one 4 (.one 6 (.one 9 (.one 12 (.two 13 14 (.one 14 (.one 15 (.fre 16 .done))) (.two 13 15 (.one 15 (.fre 16 .done)) (.one 13 (.fre 16 .done)))))))))) (.two 3 8 (.two 4 8 (.two 6 8 (.one 8 (.one 9 (.one 12 (.two 13 14 (.one 14 (.one 15 (.fre 16 .done))) (.two 13 15 (.one 15 (.fre 16 .done)) (.one 13 (.fre 16 .done))))))) (.one 6 (.one 9 (.one 12 (.two 13 14 (.one 14 (.one 15 (.fre 16 .done))) (.two 13 15 (.one 15 (.fre 16 .done)) (.one 13 (.fre 16 .done)))))))) (.one 4 (.one 6 (.one 9 (.one 12 (.two 13 14 (.one 14 (.one 15 (.fre 16 .done))) (.two 13 15 (.one 15 (.fre 16 .done)) (.one 13 (.fre 16 .done))))))))) (.one 3 (.one 4 (.one 6 (.one 9 (.one 12 (.two 13 14 (.one 14 (.one 15 (.fre 16 .done))) (.two 13 15 (.one 15 (.fre 16 .done)) (.one 13 (.fre 16 .done))))))))))) [16] (by kernel_rfl) (by kernel_rfl) (fun d _ _ _ _ h => by cases d <;> exact h) (KeepP.refl _ _).drew.ex ?_
        simp only [pick, List.getElem?_cons_succ, List.getElem?_cons_zero]
        (repeat (go_big_quiet_step (fail)))
        refine wpQuiet_nil ?_
        have h0 := below_d (Below.refl W1.heap.size W1)
        replace HR := hid (HR.out.next h0)
        have HW := hid (But.of (D := R) h0)
        have K := hid (KeepP.below (S := [P5, P6]) h0)
        clear h0
        generalize hW0 : W1.drew = v0 at HR HW K ⊢
        clear hW0
        rw [ordW_thr]
        simp only [pick, List.getElem?_cons_succ, List.getElem?_cons_zero]
        refine ⟨?_, ?_, ?_⟩
        · go_wp2_with fail
          have h0 := below_alloc v0 (.cells (([0, 1, -1, 3] : List Int).map (Value.int .i64)).toArray 3)
          have hRl := HR.out.lt
          refine ⟨(K.out.trans (KeepP.below h0)).ex, ?_⟩
          have SA := hid (SlIn.new v0 [0, 1, -1, 3] 3 R (by omega))
          replace HR := hid (HR.out.next h0)
          replace HW := hid (HW.out.next h0)
          replace K := hid (K.out.trans (KeepP.below h0))
          clear h0 hRl
          obtain ⟨bA, hbA⟩ : ∃ b, b = v0.heap.size := ⟨_, rfl⟩
          rw [← hbA] at SA ⊢
          clear hbA
          obtain ⟨v1, hv⟩ : ∃ v, v = v0.alloc (.cells #[.int .i64 0, .int .i64 1, .int .i64 (-1), .int .i64 3] 3) := ⟨_, rfl⟩
          have hv2 : v1 = v0.alloc (.cells (([0, 1, -1, 3] : List Int).map (Value.int .i64)).toArray 3) := hv
          rw [← hv2] at HR HW K SA
          rw [← hv]
          clear hv hv2
          rw [ordW_thr]
          simp only [pick, List.getElem?_cons_succ, List.getElem?_cons_zero]
          refine ⟨?_, ?_, ?_⟩
          · go_wp2_with fail
            refine (num_sl [0, 1, -1, 3] (-1) 3 (by simp) (by decide) (by decide) B v1 R (q0) bA HR.out SA.out (by omega)).mono ?_
            rintro e v2 ⟨n4, rfl, _, hb, hr⟩
            clear SA
            replace HW := hid (HW.out.trans hb)
            replace K := hid (K.out.trans (KeepP.but hb (by simp; omega)))
            replace HR := hid hr
            clear hb hr
            go_wp2_with fail
            refine ⟨K.out.ex, ?_⟩
            rw [ordW_thr]
            simp only [pick, List.getElem?_cons_succ, List.getElem?_cons_zero]
            refine ⟨?_, ?_, ?_⟩
            · go_wp2_with fail
              refine (pick_any B _ v2 R (q0 + 1) HR.out (by omega) (by omega) (by omega)).mono ?_
              rintro e v3 ⟨n6, rfl, ⟨m0, m1, _⟩, hb, hr⟩
              replace HW := hid (HW.out.trans hb)
              replace K := hid (K.out.trans (KeepP.but hb (by simp; omega)))
              replace HR := hid hr
              clear hb hr
              go_wp2_with fail
              refine ⟨K.out.ex, ?_⟩
              rw [ordW_two]
              simp only [pick, List.getElem?_cons_succ, List.getElem?_cons_zero]
              refine ⟨?_, ?_⟩
              · go_wp2_with fail
                have h0 := below_alloc v3 (.cells (([-1, 0, 1] : List Int).map (Value.int .i64)).toArray 3)
                have hRl := HR.out.lt
                refine ⟨(K.out.trans (KeepP.below h0)).ex, ?_⟩
                have SB := hid (SlIn.new v3 [-1, 0, 1] 3 R (by omega))
                replace HR := hid (HR.out.next h0)
                replace HW := hid (HW.out.next h0)
                replace K := hid (K.out.trans (KeepP.below h0))
                clear h0 hRl
                obtain ⟨bB, hbB⟩ : ∃ b, b = v3.heap.size := ⟨_, rfl⟩
                rw [← hbB] at SB ⊢
                clear hbB
                obtain ⟨v4, hv⟩ : ∃ v, v = v3.alloc (.cells #[.int .i64 (-1), .int .i64 0, .int .i64 1] 3) := ⟨_, rfl⟩
                have hv2 : v4 = v3.alloc (.cells (([-1, 0, 1] : List Int).map (Value.int .i64)).toArray 3) := hv
                rw [← hv2] at HR HW K SB
                rw [← hv]
                clear hv hv2
                rw [ordW_two]
                simp only [pick, List.getElem?_cons_succ, List.getElem?_cons_zero]
                refine ⟨?_, ?_⟩
                · go_wp2_with fail
                  refine (num_sl [-1, 0, 1] (-1) 1 (by simp) (by decide) (by decide) B v4 R (q0 + 1 + 1) bB HR.out SB.out (by omega)).mono ?_
                  rintro e v5 ⟨n9, rfl, _, hb, hr⟩
                  clear SB
                  replace HW := hid (HW.out.trans hb)
                  replace K := hid (K.out.trans (KeepP.but hb (by simp; omega)))
                  replace HR := hid hr
                  clear hb hr
                  go_wp2_with fail
                  refine ⟨K.out.ex, ?_⟩
                  rw [ordW_one]
                  simp only [pick, List.getElem?_cons_succ, List.getElem?_cons_zero]
                  go_wp2_with fail
                  have h0 := below_alloc v5 (.cells (([-1, 0, 1] : List Int).map (Value.int .i64)).toArray 3)
                  have hRl := HR.out.lt
                  refine ⟨(K.out.trans (KeepP.below h0)).ex, ?_⟩
                  have SC := hid (SlIn.new v5 [-1, 0, 1] 3 R (by omega))
                  replace HR := hid (HR.out.next h0)
                  replace HW := hid (HW.out.next h0)
                  replace K := hid (K.out.trans (KeepP.below h0))
                  clear h0 hRl
                  obtain ⟨bC, hbC⟩ : ∃ b, b = v5.heap.size := ⟨_, rfl⟩
                  rw [← hbC] at SC ⊢
                  clear hbC
                  obtain ⟨v6, hv⟩ : ∃ v, v = v5.alloc (.cells #[.int .i64 (-1), .int .i64 0, .int .i64 1] 3) := ⟨_, rfl⟩
                  have hv2 : v6 = v5.alloc (.cells (([-1, 0, 1] : List Int).map (Value.int .i64)).toArray 3) := hv
                  rw [← hv2] at HR HW K SC
                  rw [← hv]
                  clear hv hv2
                  rw [ordW_one]
                  simp only [pick, List.getElem?_cons_succ, List.getElem?_cons_zero]
                  go_wp2_with fail
                  refine (num_sl [-1, 0, 1] (-1) 1 (by simp) (by decide) (by decide) B v6 R (q0 + 1 + 1 + 1) bC HR.out SC.out (by omega)).mono ?_
                  rintro e v7 ⟨n12, rfl, _, hb, hr⟩
                  clear SC
                  replace HW := hid (HW.out.trans hb)
                  replace K := hid (K.out.trans (KeepP.but hb (by simp; omega)))
                  replace HR := hid hr
                  clear hb hr
                  go_wp2_with fail
                  refine ⟨K.out.ex, ?_⟩
                  rw [ordW_two]
                  simp only [pick, List.getElem?_cons_succ, List.getElem?_cons_zero]
                  refine ⟨?_, ?_⟩
                  · go_wp2_with fail
                    refine ⟨K.out.ex, ?_⟩
                    rw [ordW_one]
                    simp only [pick, List.getElem?_cons_succ, List.getElem?_cons_zero]
                    have HFin := hid (ap_fin (w := w) (W := v7) (a5 := a5) (a6 := a6) (k5 := k5) (k6 := k6) (l5 := ls.length) (l6 := vs.length) hs hbn hwR c2 c3 c4 hB1 HW.out n4 n6 n9 n12)
                    obtain ⟨x0, x1, x2, x3, x4⟩ := boxp_but HW.out (show w.heap.size ≠ R by omega) c2
                    obtain ⟨y0, y1, y2, y3, y4⟩ := boxp_but HW.out (show w.heap.size + 1 ≠ R by omega) c3
                    obtain ⟨z0, ⟨z1, z2, z3, z4⟩, zf⟩ := box4_block HW.out.size (HW.out.block _ c4.1 (show w.heap.size + 1 + 1 ≠ R by omega)) c4
                    have zf0 := zf 0
                    have zf1 := zf 1
                    have zf2 := zf 2
                    have zf3 := zf 3
                    clear zf
                    replace K := hid ((K.out.set (a := ⟨w.heap.size, 0, none⟩) (by simp; omega) (.slice a7 s.init.length k7)).set (a := ⟨w.heap.size, 1, none⟩) (by simp; omega) (.slice a8 s.procs.length k8))
                    go_wp2_with fail
                    refine ⟨K.out.ex, ?_⟩
                    rw [ordW_one]
                    simp only [pick, List.getElem?_cons_succ, List.getElem?_cons_zero]
                    replace K := hid ((K.out.set (a := ⟨w.heap.size + 1, 0, none⟩) (by simp; omega) (.slice a5 ls.length k5)).set (a := ⟨w.heap.size + 1, 1, none⟩) (by simp; omega) (.slice a6 vs.length k6))
                    go_wp2_with fail
                    refine ⟨K.out.ex, ?_⟩
                    rw [ordW_fre]
                    simp only [pick, List.getElem?_cons_succ, List.getElem?_cons_zero]
                    go_wp2_with fail
                    rw [ordW_done]
                    go_wp2_with fail
                    go_meet
                    exact HFin
                  · have HFin := hid (ap_fin (w := w) (W := v7) (a5 := a5) (a6 := a6) (k5 := k5) (k6 := k6) (l5 := ls.length) (l6 := vs.length) hs hbn hwR c2 c3 c4 hB1 HW.out n4 n6 n9 n12)
                    obtain ⟨x0, x1, x2, x3, x4⟩ := boxp_but HW.out (show w.heap.size ≠ R by omega) c2
                    obtain ⟨y0, y1, y2, y3, y4⟩ := boxp_but HW.out (show w.heap.size + 1 ≠ R by omega) c3
                    obtain ⟨z0, ⟨z1, z2, z3, z4⟩, zf⟩ := box4_block HW.out.size (HW.out.block _ c4.1 (show w.heap.size + 1 + 1 ≠ R by omega)) c4
                    have zf0 := zf 0
                    have zf1 := zf 1
                    have zf2 := zf 2
                    have zf3 := zf 3
                    clear zf
                    replace K := hid ((K.out.set (a := ⟨w.heap.size, 0, none⟩) (by simp; omega) (.slice a7 s.init.length k7)).set (a := ⟨w.heap.size, 1, none⟩) (by simp; omega) (.slice a8 s.procs.length k8))
                    go_wp2_with fail
                    refine ⟨K.out.ex, ?_⟩
                    rw [ordW_two]
                    simp only [pick, List.getElem?_cons_succ, List.getElem?_cons_zero]
                    refine ⟨?_, ?_⟩
                    · go_wp2_with fail
                      refine ⟨K.out.ex, ?_⟩
                      rw [ordW_one]
                      simp only [pick, List.getElem?_cons_succ, List.getElem?_cons_zero]
                      replace K := hid ((K.out.set (a := ⟨w.heap.size + 1, 0, none⟩) (by simp; omega) (.slice a5 ls.length k5)).set (a := ⟨w.heap.size + 1, 1, none⟩) (by simp; omega) (.slice a6 vs.length k6))
                      go_wp2_with fail
                      refine ⟨K.out.ex, ?_⟩
                      rw [ordW_fre]
                      simp only [pick, List.getElem?_cons_succ, List.getElem?_cons_zero]
                      go_wp2_with fail
                      rw [ordW_done]
                      go_wp2_with fail
                      go_meet
                      exact HFin
                    · replace K := hid ((K.out.set (a := ⟨w.heap.size + 1, 0, none⟩) (by simp; omega) (.slice a5 ls.length k5)).set (a := ⟨w.heap.size + 1, 1, none⟩) (by simp; omega) (.slice a6 vs.length k6))
                      go_wp2_with fail
                      refine ⟨K.out.ex, ?_⟩
                      rw [ordW_one]
                      simp only [pick, List.getElem?_cons_succ, List.getElem?_cons_zero]
                      go_wp2_with fail
                      refine ⟨K.out.ex, ?_⟩
                      rw [ordW_fre]
                      simp only [pick, List.getElem?_cons_succ, List.getElem?_cons_zero]
                      go_wp2_with fail
                      rw [ordW_done]
                      go_wp2_with fail
                      go_meet
                      exact HFin
                · go_wp2_with fail
                  have h0 := below_alloc v4 (.cells (([-1, 0, 1] : List Int).map (Value.int .i64)).toArray 3)
                  have hRl := HR.out.lt
                  refine ⟨(K.out.trans (KeepP.below h0)).ex, ?_⟩
                  replace SB := hid (SB.out.next h0)
                  have SC := hid (SlIn.new v4 [-1, 0, 1] 3 R (by omega))
                  replace HR := hid (HR.out.next h0)
                  replace HW := hid (HW.out.next h0)
                  replace K := hid (K.out.trans (KeepP.below h0))
                  clear h0 hRl
                  obtain ⟨bC, hbC⟩ : ∃ b, b = v4.heap.size := ⟨_, rfl⟩
                  rw [← hbC] at SC ⊢
                  clear hbC
                  obtain ⟨v8, hv⟩ : ∃ v, v = v4.alloc (.cells #[.int .i64 (-1), .int .i64 0, .int .i64 1] 3) := ⟨_, rfl⟩
                  have hv2 : v8 = v4.alloc (.cells (([-1, 0, 1] : List Int).map (Value.int .i64)).toArray 3) := hv
                  rw [← hv2] at HR HW K SC SB
                  rw [← hv]
                  clear hv hv2
                  rw [ordW_one]
                  simp only [pick, List.getElem?_cons_succ, List.getElem?_cons_zero]
                  go_wp2_with fail
                  refine (num_sl [-1, 0, 1] (-1) 1 (by simp) (by decide) (by decide) B v8 R (q0 + 1 + 1) bB HR.out SB.out (by omega)).mono ?_
                  rintro e v9 ⟨n9, rfl, _, hb, hr⟩
                  clear SB
                  replace SC := hid (SC.out.but hb)
                  replace HW := hid (HW.out.trans hb)
                  replace K := hid (K.out.trans (KeepP.but hb (by simp; omega)))
                  replace HR := hid hr
                  clear hb hr
                  go_wp2_with fail
                  refine ⟨K.out.ex, ?_⟩
                  rw [ordW_one]
                  simp only [pick, List.getElem?_cons_succ, List.getElem?_cons_zero]
                  go_wp2_with fail
                  refine (num_sl [-1, 0, 1] (-1) 1 (by simp) (by decide) (by decide) B v9 R (q0 + 1 + 1 + 1) bC HR.out SC.out (by omega)).mono ?_
                  rintro e v10 ⟨n12, rfl, _, hb, hr⟩
                  clear SC
                  replace HW := hid (HW.out.trans hb)
                  replace K := hid (K.out.trans (KeepP.but hb (by simp; omega)))
                  replace HR := hid hr
                  clear hb hr
                  go_wp2_with fail
                  refine ⟨K.out.ex, ?_⟩
                  rw [ordW_two]
                  simp only [pick, List.getElem?_cons_succ, List.getElem?_cons_zero]
                  refine ⟨?_, ?_⟩
                  · go_wp2_with fail
                    refine ⟨K.out.ex, ?_⟩
                    rw [ordW_one]
                    simp only [pick, List.getElem?_cons_succ, List.getElem?_cons_zero]
                    have HFin := hid (ap_fin (w := w) (W := v10) (a5 := a5) (a6 := a6) (k5 := k5) (k6 := k6) (l5 := ls.length) (l6 := vs.length) hs hbn hwR c2 c3 c4 hB1 HW.out n4 n6 n9 n12)
                    obtain ⟨x0, x1, x2, x3, x4⟩ := boxp_but HW.out (show w.heap.size ≠ R by omega) c2
                    obtain ⟨y0, y1, y2, y3, y4⟩ := boxp_but HW.out (show w.heap.size + 1 ≠ R by omega) c3
                    obtain ⟨z0, ⟨z1, z2, z3, z4⟩, zf⟩ := box4_block HW.out.size (HW.out.block _ c4.1 (show w.heap.size + 1 + 1 ≠ R by omega)) c4
                    have zf0 := zf 0
                    have zf1 := zf 1
                    have zf2 := zf 2
                    have zf3 := zf 3
                    clear zf
                    replace K := hid ((K.out.set (a := ⟨w.heap.size, 0, none⟩) (by simp; omega) (.slice a7 s.init.length k7)).set (a := ⟨w.heap.size, 1, none⟩) (by simp; omega) (.slice a8 s.procs.length k8))
                    go_wp2_with fail
                    refine ⟨K.out.ex, ?_⟩
                    rw [ordW_one]
                    simp only [pick, List.getElem?_cons_succ, List.getElem?_cons_zero]
                    replace K := hid ((K.out.set (a := ⟨w.heap.size + 1, 0, none⟩) (by simp; omega) (.slice a5 ls.length k5)).set (a := ⟨w.heap.size + 1, 1, none⟩) (by simp; omega) (.slice a6 vs.length k6))
                    go_wp2_with fail
                    refine ⟨K.out.ex, ?_⟩
                    rw [ordW_fre]
                    simp only [pick, List.getElem?_cons_succ, List.getElem?_cons_zero]
                    go_wp2_with fail
                    rw [ordW_done]
                    go_wp2_with fail
                    go_meet
                    exact HFin
                  · have HFin := hid (ap_fin (w := w) (W := v10) (a5 := a5) (a6 := a6) (k5 := k5) (k6 := k6) (l5 := ls.length) (l6 := vs.length) hs hbn hwR c2 c3 c4 hB1 HW.out n4 n6 n9 n12)
                    obtain ⟨x0, x1, x2, x3, x4⟩ := boxp_but HW.out (show w.heap.size ≠ R by omega) c2
                    obtain ⟨y0, y1, y2, y3, y4⟩ := boxp_but HW.out (show w.heap.size + 1 ≠ R by omega) c3
                    obtain ⟨z0, ⟨z1, z2, z3, z4⟩, zf⟩ := box4_block HW.out.size (HW.out.block _ c4.1 (show w.heap.size + 1 + 1 ≠ R by omega)) c4
                    have zf0 := zf 0
                    have zf1 := zf 1
                    have zf2 := zf 2
                    have zf3 := zf 3
                    clear zf
                    replace K := hid ((K.out.set (a := ⟨w.heap.size, 0, none⟩) (by simp; omega) (.slice a7 s.init.length k7)).set (a := ⟨w.heap.size, 1, none⟩) (by simp; omega) (.slice a8 s.procs.length k8))
                    go_wp2_with fail
                    refine ⟨K.out.ex, ?_⟩
                    rw [ordW_two]
                    simp only [pick, List.getElem?_cons_succ, List.getElem?_cons_zero]
                    refine ⟨?_, ?_⟩
                    · go_wp2_with fail
                      refine ⟨K.out.ex, ?_⟩
                      rw [ordW_one]
                      simp only [pick, List.getElem?_cons_succ, List.getElem?_cons_zero]
                      replace K := hid ((K.out.set (a := ⟨w.heap.size + 1, 0, none⟩) (by simp; omega) (.slice a5 ls.length k5)).set (a := ⟨w.heap.size + 1, 1, none⟩) (by simp; omega) (.slice a6 vs.length k6))
                      go_wp2_with fail
                      refine ⟨K.out.ex, ?_⟩
                      rw [ordW_fre]
                      simp only [pick, List.getElem?_cons_succ, List.getElem?_cons_zero]
                      go_wp2_with fail
                      rw [ordW_done]
                      go_wp2_with fail
                      go_meet
                      exact HFin
                    · replace K := hid ((K.out.set (a := ⟨w.heap.size + 1, 0, none⟩) (by simp; omega) (.slice a5 ls.length k5)).set (a := ⟨w.heap.size + 1, 1, none⟩) (by simp; omega) (.slice a6 vs.length k6))
                      go_wp2_with fail
                      refine ⟨K.out.ex, ?_⟩
                      rw [ordW_one]
                      simp only [pick, List.getElem?_cons_succ, List.getElem?_cons_zero]
                      go_wp2_with fail
                      refine ⟨K.out.ex, ?_⟩
                      rw [ordW_fre]
                      simp only [pick, List.getElem?_cons_succ, List.getElem?_cons_zero]
                      go_wp2_with fail
                      rw [ordW_done]
                      go_wp2_with fail
                      go_meet
                      exact HFin
              · go_wp2_with fail
                have h0 := below_alloc v3 (.cells (([-1, 0, 1] : List Int).map (Value.int .i64)).toArray 3)
                have hRl := HR.out.lt
                refine ⟨(K.out.trans (KeepP.below h0)).ex, ?_⟩
                have SC := hid (SlIn.new v3 [-1, 0, 1] 3 R (by omega))
                replace HR := hid (HR.out.next h0)
                replace HW := hid (HW.out.next h0)
                replace K := hid (K.out.trans (KeepP.below h0))
                clear h0 hRl
                obtain ⟨bC, hbC⟩ : ∃ b, b = v3.heap.size := ⟨_, rfl⟩
                rw [← hbC] at SC ⊢
                clear hbC
                obtain ⟨v11, hv⟩ : ∃ v, v = v3.alloc (.cells #[.int .i64 (-1), .int .i64 0, .int .i64 1] 3) := ⟨_, rfl⟩
                have hv2 : v11 = v3.alloc (.cells (([-1, 0, 1] : List Int).map (Value.int .i64)).toArray 3) := hv
                rw [← hv2] at HR HW K SC
                rw [← hv]
                clear hv hv2
                rw [ordW_one]
                simp only [pick, List.getElem?_cons_succ, List.getElem?_cons_zero]
                go_wp2_with fail
                have h0 := below_alloc v11 (.cells (([-1, 0, 1] : List Int).map (Value.int .i64)).toArray 3)
                have hRl := HR.out.lt
                refine ⟨(K.out.trans (KeepP.below h0)).ex, ?_⟩
                replace SC := hid (SC.out.next h0)
                have SB := hid (SlIn.new v11 [-1, 0, 1] 3 R (by omega))
                replace HR := hid (HR.out.next h0)
                replace HW := hid (HW.out.next h0)
                replace K := hid (K.out.trans (KeepP.below h0))
                clear h0 hRl
                obtain ⟨bB, hbB⟩ : ∃ b, b = v11.heap.size := ⟨_, rfl⟩
                rw [← hbB] at SB ⊢
                clear hbB
                obtain ⟨v12, hv⟩ : ∃ v, v = v11.alloc (.cells #[.int .i64 (-1), .int .i64 0, .int .i64 1] 3) := ⟨_, rfl⟩
                have hv2 : v12 = v11.alloc (.cells (([-1, 0, 1] : List Int).map (Value.int .i64)).toArray 3) := hv
                rw [← hv2] at HR HW K SB SC
                rw [← hv]
                clear hv hv2
                rw [ordW_one]
                simp only [pick, List.getElem?_cons_succ, List.getElem?_cons_zero]
                go_wp2_with fail
                refine (num_sl [-1, 0, 1] (-1) 1 (by simp) (by decide) (by decide) B v12 R (q0 + 1 + 1) bB HR.out SB.out (by omega)).mono ?_
                rintro e v13 ⟨n9, rfl, _, hb, hr⟩
                clear SB
                replace SC := hid (SC.out.but hb)
                replace HW := hid (HW.out.trans hb)
                replace K := hid (K.out.trans (KeepP.but hb (by simp; omega)))
                replace HR := hid hr
                clear hb hr
                go_wp2_with fail
                refine ⟨K.out.ex, ?_⟩
                rw [ordW_one]
                simp only [pick, List.getElem?_cons_succ, List.getElem?_cons_zero]
                go_wp2_with fail
                refine (num_sl [-1, 0, 1] (-1) 1 (by simp) (by decide) (by decide) B v13 R (q0 + 1 + 1 + 1) bC HR.out SC.out (by omega)).mono ?_
                rintro e v14 ⟨n12, rfl, _, hb, hr⟩
                clear SC
                replace HW := hid (HW.out.trans hb)
                replace K := hid (K.out.trans (KeepP.but hb (by simp; omega)))
                replace HR := hid hr
                clear hb hr
                go_wp2_with fail
                refine ⟨K.out.ex, ?_⟩
                rw [ordW_two]
                simp only [pick, List.getElem?_cons_succ, List.getElem?_cons_zero]
                refine ⟨?_, ?_⟩
                · go_wp2_with fail
                  refine ⟨K.out.ex, ?_⟩
                  rw [ordW_one]
                  simp only [pick, List.getElem?_cons_succ, List.getElem?_cons_zero]
                  have HFin := hid (ap_fin (w := w) (W := v14) (a5 := a5) (a6 := a6) (k5 := k5) (k6 := k6) (l5 := ls.length) (l6 := vs.length) hs hbn hwR c2 c3 c4 hB1 HW.out n4 n6 n9 n12)
                  obtain ⟨x0, x1, x2, x3, x4⟩ := boxp_but HW.out (show w.heap.size ≠ R by omega) c2
                  obtain ⟨y0, y1, y2, y3, y4⟩ := boxp_but HW.out (show w.heap.size + 1 ≠ R by omega) c3
                  obtain ⟨z0, ⟨z1, z2, z3, z4⟩, zf⟩ := box4_block HW.out.size (HW.out.block _ c4.1 (show w.heap.size + 1 + 1 ≠ R by omega)) c4
                  have zf0 := zf 0
                  have zf1 := zf 1
                  have zf2 := zf 2
                  have zf3 := zf 3
                  clear zf
                  replace K := hid ((K.out.set (a := ⟨w.heap.size, 0, none⟩) (by simp; omega) (.slice a7 s.init.length k7)).set (a := ⟨w.heap.size, 1, none⟩) (by simp; omega) (.slice a8 s.procs.length k8))
                  go_wp2_with fail
                  refine ⟨K.out.ex, ?_⟩
                  rw [ordW_one]
                  simp only [pick, List.getElem?_cons_succ, List.getElem?_cons_zero]
                  replace K := hid ((K.out.set (a := ⟨w.heap.size + 1, 0, none⟩) (by simp; omega) (.slice a5 ls.length k5)).set (a := ⟨w.heap.size + 1, 1, none⟩) (by simp; omega) (.slice a6 vs.length k6))
                  go_wp2_with fail
                  refine ⟨K.out.ex, ?_⟩
                  rw [ordW_fre]
                  simp only [pick, List.getElem?_cons_succ, List.getElem?_cons_zero]
                  go_wp2_with fail
                  rw [ordW_done]
                  go_wp2_with fail
                  go_meet
                  exact HFin
                · have HFin := hid (ap_fin (w := w) (W := v14) (a5 := a5) (a6 := a6) (k5 := k5) (k6 := k6) (l5 := ls.length) (l6 := vs.length) hs hbn hwR c2 c3 c4 hB1 HW.out n4 n6 n9 n12)
                  obtain ⟨x0, x1, x2, x3, x4⟩ := boxp_but HW.out (show w.heap.size ≠ R by omega) c2
                  obtain ⟨y0, y1, y2, y3, y4⟩ := boxp_but HW.out (show w.heap.size + 1 ≠ R by omega) c3
                  obtain ⟨z0, ⟨z1, z2, z3, z4⟩, zf⟩ := box4_block HW.out.size (HW.out.block _ c4.1 (show w.heap.size + 1 + 1 ≠ R by omega)) c4
                  have zf0 := zf 0
                  have zf1 := zf 1
                  have zf2 := zf 2
                  have zf3 := zf 3
                  clear zf
                  replace K := hid ((K.out.set (a := ⟨w.heap.size, 0, none⟩) (by simp; omega) (.slice a7 s.init.length k7)).set (a := ⟨w.heap.size, 1, none⟩) (by simp; omega) (.slice a8 s.procs.length k8))
                  go_wp2_with fail
                  refine ⟨K.out.ex, ?_⟩
                  rw [ordW_two]
                  simp only [pick, List.getElem?_cons_succ, List.getElem?_cons_zero]
                  refine ⟨?_, ?_⟩
                  · go_wp2_with fail
                    refine ⟨K.out.ex, ?_⟩
                    rw [ordW_one]
                    simp only [pick, List.getElem?_cons_succ, List.getElem?_cons_zero]
                    replace K := hid ((K.out.set (a := ⟨w.heap.size + 1, 0, none⟩) (by simp; omega) (.slice a5 ls.length k5)).set (a := ⟨w.heap.size + 1, 1, none⟩) (by simp; omega) (.slice a6 vs.length k6))
                    go_wp2_with fail
                    refine ⟨K.out.ex, ?_⟩
                    rw [ordW_fre]
                    simp only [pick, List.getElem?_cons_succ, List.getElem?_cons_zero]
                    go_wp2_with fail
                    rw [ordW_done]
                    go_wp2_with fail
                    go_meet
                    exact HFin
                  · replace K := hid ((K.out.set (a := ⟨w.heap.size + 1, 0, none⟩) (by simp; omega) (.slice a5 ls.length k5)).set (a := ⟨w.heap.size + 1, 1, none⟩) (by simp; omega) (.slice a6 vs.length k6))
                    go_wp2_with fail
                    refine ⟨K.out.ex, ?_⟩
                    rw [ordW_one]
                    simp only [pick, List.getElem?_cons_succ, List.getElem?_cons_zero]
                    go_wp2_with fail
                    refine ⟨K.out.ex, ?_⟩
                    rw [ordW_fre]
                    simp only [pick, List.getElem?_cons_succ, List.getElem?_cons_zero]
                    go_wp2_with fail
                    rw [ordW_done]
                    go_wp2_with fail
                    go_meet
                    exact HFin
            · go_wp2_with fail
              have h0 := below_alloc v2 (.cells (([-1, 0, 1] : List Int).map (Value.int .i64)).toArray 3)
              have hRl := HR.out.lt
              refine ⟨(K.out.trans (KeepP.below h0)).ex, ?_⟩
              have SB := hid (SlIn.new v2 [-1, 0, 1] 3 R (by omega))
              replace HR := hid (HR.out.next h0)
              replace HW := hid (HW.out.next h0)
              replace K := hid (K.out.trans (KeepP.below h0))
              clear h0 hRl
              obtain ⟨bB, hbB⟩ : ∃ b, b = v2.heap.size := ⟨_, rfl⟩
              rw [← hbB] at SB ⊢
              clear hbB
              obtain ⟨v15, hv⟩ : ∃ v, v = v2.alloc (.cells #[.int .i64 (-1), .int .i64 0, .int .i64 1] 3) := ⟨_, rfl⟩
              have hv2 : v15 = v2.alloc (.cells (([-1, 0, 1] : List Int).map (Value.int .i64)).toArray 3) := hv
              rw [← hv2] at HR HW K SB
              rw [← hv]
              clear hv hv2
              rw [ordW_two]
              simp only [pick, List.getElem?_cons_succ, List.getElem?_cons_zero]
              refine ⟨?_, ?_⟩
              · go_wp2_with fail
                refine (pick_any B _ v15 R (q0 + 1) HR.out (by omega) (by omega) (by omega)).mono ?_
                rintro e v16 ⟨n6, rfl, ⟨m0, m1, _⟩, hb, hr⟩
                replace SB := hid (SB.out.but hb)
                replace HW := hid (HW.out.trans hb)
                replace K := hid (K.out.trans (KeepP.but hb (by simp; omega)))
                replace HR := hid hr
                clear hb hr
                go_wp2_with fail
                refine ⟨K.out.ex, ?_⟩
                rw [ordW_two]
                simp only [pick, List.getElem?_cons_succ, List.getElem?_cons_zero]
                refine ⟨?_, ?_⟩
                · go_wp2_with fail
                  refine (num_sl [-1, 0, 1] (-1) 1 (by simp) (by decide) (by decide) B v16 R (q0 + 1 + 1) bB HR.out SB.out (by omega)).mono ?_
                  rintro e v17 ⟨n9, rfl, _, hb, hr⟩
                  clear SB
                  replace HW := hid (HW.out.trans hb)
                  replace K := hid (K.out.trans (KeepP.but hb (by simp; omega)))
                  replace HR := hid hr
                  clear hb hr
                  go_wp2_with fail
                  refine ⟨K.out.ex, ?_⟩
                  rw [ordW_one]
                  simp only [pick, List.getElem?_cons_succ, List.getElem?_cons_zero]
                  go_wp2_with fail
                  have h0 := below_alloc v17 (.cells (([-1, 0, 1] : List Int).map (Value.int .i64)).toArray 3)
                  have hRl := HR.out.lt
                  refine ⟨(K.out.trans (KeepP.below h0)).ex, ?_⟩
                  have SC := hid (SlIn.new v17 [-1, 0, 1] 3 R (by omega))
                  replace HR := hid (HR.out.next h0)
                  replace HW := hid (HW.out.next h0)
                  replace K := hid (K.out.trans (KeepP.below h0))
                  clear h0 hRl
                  obtain ⟨bC, hbC⟩ : ∃ b, b = v17.heap.size := ⟨_, rfl⟩
                  rw [← hbC] at SC ⊢
                  clear hbC
                  obtain ⟨v18, hv⟩ : ∃ v, v = v17.alloc (.cells #[.int .i64 (-1), .int .i64 0, .int .i64 1] 3) := ⟨_, rfl⟩
                  have hv2 : v18 = v17.alloc (.cells (([-1, 0, 1] : List Int).map (Value.int .i64)).toArray 3) := hv
                  rw [← hv2] at HR HW K SC
                  rw [← hv]
                  clear hv hv2
                  rw [ordW_one]
                  simp only [pick, List.getElem?_cons_succ, List.getElem?_cons_zero]
                  go_wp2_with fail
                  refine (num_sl [-1, 0, 1] (-1) 1 (by simp) (by decide) (by decide) B v18 R (q0 + 1 + 1 + 1) bC HR.out SC.out (by omega)).mono ?_
                  rintro e v19 ⟨n12, rfl, _, hb, hr⟩
                  clear SC
                  replace HW := hid (HW.out.trans hb)
                  replace K := hid (K.out.trans (KeepP.but hb (by simp; omega)))
                  replace HR := hid hr
                  clear hb hr
                  go_wp2_with fail
                  refine ⟨K.out.ex, ?_⟩
                  rw [ordW_two]
                  simp only [pick, List.getElem?_cons_succ, List.getElem?_cons_zero]
                  refine ⟨?_, ?_⟩
                  · go_wp2_with fail
                    refine ⟨K.out.ex, ?_⟩
                    rw [ordW_one]
                    simp only [pick, List.getElem?_cons_succ, List.getElem?_cons_zero]
                    have HFin := hid (ap_fin (w := w) (W := v19) (a5 := a5) (a6 := a6) (k5 := k5) (k6 := k6) (l5 := ls.length) (l6 := vs.length) hs hbn hwR c2 c3 c4 hB1 HW.out n4 n6 n9 n12)
                    obtain ⟨x0, x1, x2, x3, x4⟩ := boxp_but HW.out (show w.heap.size ≠ R by omega) c2
                    obtain ⟨y0, y1, y2, y3, y4⟩ := boxp_but HW.out (show w.heap.size + 1 ≠ R by omega) c3
                    obtain ⟨z0, ⟨z1, z2, z3, z4⟩, zf⟩ := box4_block HW.out.size (HW.out.block _ c4.1 (show w.heap.size + 1 + 1 ≠ R by omega)) c4
                    have zf0 := zf 0
                    have zf1 := zf 1
                    have zf2 := zf 2
                    have zf3 := zf 3
                    clear zf
                    replace K := hid ((K.out.set (a := ⟨w.heap.size, 0, none⟩) (by simp; omega) (.slice a7 s.init.length k7)).set (a := ⟨w.heap.size, 1, none⟩) (by simp; omega) (.slice a8 s.procs.length k8))
                    go_wp2_with fail
                    refine ⟨K.out.ex, ?_⟩
                    rw [ordW_one]
                    simp only [pick, List.getElem?_cons_succ, List.getElem?_cons_zero]
                    replace K := hid ((K.out.set (a := ⟨w.heap.size + 1, 0, none⟩) (by simp; omega) (.slice a5 ls.length k5)).set (a := ⟨w.heap.size + 1, 1, none⟩) (by simp; omega) (.slice a6 vs.length k6))
                    go_wp2_with fail
                    refine ⟨K.out.ex, ?_⟩
                    rw [ordW_fre]
                    simp only [pick, List.getElem?_cons_succ, List.getElem?_cons_zero]
                    go_wp2_with fail
                    rw [ordW_done]
                    go_wp2_with fail
                    go_meet
                    exact HFin
                  · have HFin := hid (ap_fin (w := w) (W := v19) (a5 := a5) (a6 := a6) (k5 := k5) (k6 := k6) (l5 := ls.length) (l6 := vs.length) hs hbn hwR c2 c3 c4 hB1 HW.out n4 n6 n9 n12)
                    obtain ⟨x0, x1, x2, x3, x4⟩ := boxp_but HW.out (show w.heap.size ≠ R by omega) c2
                    obtain ⟨y0, y1, y2, y3, y4⟩ := boxp_but HW.out (show w.heap.size + 1 ≠ R by omega) c3
                    obtain ⟨z0, ⟨z1, z2, z3, z4⟩, zf⟩ := box4_block HW.out.size (HW.out.block _ c4.1 (show w.heap.size + 1 + 1 ≠ R by omega)) c4
                    have zf0 := zf 0
                    have zf1 := zf 1
                    have zf2 := zf 2
                    have zf3 := zf 3
                    clear zf
                    replace K := hid ((K.out.set (a := ⟨w.heap.size, 0, none⟩) (by simp; omega) (.slice a7 s.init.length k7)).set (a := ⟨w.heap.size, 1, none⟩) (by simp; omega) (.slice a8 s.procs.length k8))
                    go_wp2_with fail
                    refine ⟨K.out.ex, ?_⟩
                    rw [ordW_two]
                    simp only [pick, List.getElem?_cons_succ, List.getElem?_cons_zero]
                    refine ⟨?_, ?_⟩
                    · go_wp2_with fail
                      refine ⟨K.out.ex, ?_⟩
                      rw [ordW_one]
                      simp only [pick, List.getElem?_cons_succ, List.getElem?_cons_zero]
                      replace K := hid ((K.out.set (a := ⟨w.heap.size + 1, 0, none⟩) (by simp; omega) (.slice a5 ls.length k5)).set (a := ⟨w.heap.size + 1, 1, none⟩) (by simp; omega) (.slice a6 vs.length k6))
                      go_wp2_with fail
                      refine ⟨K.out.ex, ?_⟩
                      rw [ordW_fre]
                      simp only [pick, List.getElem?_cons_succ, List.getElem?_cons_zero]
                      go_wp2_with fail
                      rw [ordW_done]
                      go_wp2_with fail
                      go_meet
                      exact HFin
                    · replace K := hid ((K.out.set (a := ⟨w.heap.size + 1, 0, none⟩) (by simp; omega) (.slice a5 ls.length k5)).set (a := ⟨w.heap.size + 1, 1, none⟩) (by simp; omega) (.slice a6 vs.length k6))
                      go_wp2_with fail
                      refine ⟨K.out.ex, ?_⟩
                      rw [ordW_one]
                      simp only [pick, List.getElem?_cons_succ, List.getElem?_cons_zero]
                      go_wp2_with fail
                      refine ⟨K.out.ex, ?_⟩
                      rw [ordW_fre]
                      simp only [pick, List.getElem?_cons_succ, List.getElem?_cons_zero]
                      go_wp2_with fail
                      rw [ordW_done]
                      go_wp2_with fail
                      go_meet
                      exact HFin
                · go_wp2_with fail
                  have h0 := below_alloc v16 (.cells (([-1, 0, 1] : List Int).map (Value.int .i64)).toArray 3)
                  have hRl := HR.out.lt
                  refine ⟨(K.out.trans (KeepP.below h0)).ex, ?_⟩
                  replace SB := hid (SB.out.next h0)
                  have SC := hid (SlIn.new v16 [-1, 0, 1] 3 R (by omega))
                  replace HR := hid (HR.out.next h0)
                  replace HW := hid (HW.out.next h0)
                  replace K := hid (K.out.trans (KeepP.below h0))
                  clear h0 hRl
                  obtain ⟨bC, hbC⟩ : ∃ b, b = v16.heap.size := ⟨_, rfl⟩
                  rw [← hbC] at SC ⊢
                  clear hbC
                  obtain ⟨v20, hv⟩ : ∃ v, v = v16.alloc (.cells #[.int .i64 (-1), .int .i64 0, .int .i64 1] 3) := ⟨_, rfl⟩
                  have hv2 : v20 = v16.alloc (.cells (([-1, 0, 1] : List Int).map (Value.int .i64)).toArray 3) := hv
                  rw [← hv2] at HR HW K SC SB
                  rw [← hv]
                  clear hv hv2
                  rw [ordW_one]
                  simp only [pick, List.getElem?_cons_succ, List.getElem?_cons_zero]
                  go_wp2_with fail
                  refine (num_sl [-1, 0, 1] (-1) 1 (by simp) (by decide) (by decide) B v20 R (q0 + 1 + 1) bB HR.out SB.out (by omega)).mono ?_
                  rintro e v21 ⟨n9, rfl, _, hb, hr⟩
                  clear SB
                  replace SC := hid (SC.out.but hb)
                  replace HW := hid (HW.out.trans hb)
                  replace K := hid (K.out.trans (KeepP.but hb (by simp; omega)))
                  replace HR := hid hr
                  clear hb hr
                  go_wp2_with fail
                  refine ⟨K.out.ex, ?_⟩
                  rw [ordW_one]
                  simp only [pick, List.getElem?_cons_succ, List.getElem?_cons_zero]
                  go_wp2_with fail
                  refine (num_sl [-1, 0, 1] (-1) 1 (by simp) (by decide) (by decide) B v21 R (q0 + 1 + 1 + 1) bC HR.out SC.out (by omega)).mono ?_
                  rintro e v22 ⟨n12, rfl, _, hb, hr⟩
                  clear SC
                  replace HW := hid (HW.out.trans hb)
                  replace K := hid (K.out.trans (KeepP.but hb (by simp; omega)))
                  replace HR := hid hr
                  clear hb hr
                  go_wp2_with fail
                  refine ⟨K.out.ex, ?_⟩
                  rw [ordW_two]
                  simp only [pick, List.getElem?_cons_succ, List.getElem?_cons_zero]
                  refine ⟨?_, ?_⟩
                  · go_wp2_with fail
                    refine ⟨K.out.ex, ?_⟩
                    rw [ordW_one]
                    simp only [pick, List.getElem?_cons_succ, List.getElem?_cons_zero]
                    have HFin := hid (ap_fin (w := w) (W := v22) (a5 := a5) (a6 := a6) (k5 := k5) (k6 := k6) (l5 := ls.length) (l6 := vs.length) hs hbn hwR c2 c3 c4 hB1 HW.out n4 n6 n9 n12)
                    obtain ⟨x0, x1, x2, x3, x4⟩ := boxp_but HW.out (show w.heap.size ≠ R by omega) c2
                    obtain ⟨y0, y1, y2, y3, y4⟩ := boxp_but HW.out (show w.heap.size + 1 ≠ R by omega) c3
                    obtain ⟨z0, ⟨z1, z2, z3, z4⟩, zf⟩ := box4_block HW.out.size (HW.out.block _ c4.1 (show w.heap.size + 1 + 1 ≠ R by omega)) c4
                    have zf0 := zf 0
                    have zf1 := zf 1
                    have zf2 := zf 2
                    have zf3 := zf 3
                    clear zf
                    replace K := hid ((K.out.set (a := ⟨w.heap.size, 0, none⟩) (by simp; omega) (.slice a7 s.init.length k7)).set (a := ⟨w.heap.size, 1, none⟩) (by simp; omega) (.slice a8 s.procs.length k8))
                    go_wp2_with fail
                    refine ⟨K.out.ex, ?_⟩
                    rw [ordW_one]
                    simp only [pick, List.getElem?_cons_succ, List.getElem?_cons_zero]
                    replace K := hid ((K.out.set (a := ⟨w.heap.size + 1, 0, none⟩) (by simp; omega) (.slice a5 ls.length k5)).set (a := ⟨w.heap.size + 1, 1, none⟩) (by simp; omega) (.slice a6 vs.length k6))
                    go_wp2_with fail
                    refine ⟨K.out.ex, ?_⟩
                    rw [ordW_fre]
                    simp only [pick, List.getElem?_cons_succ, List.getElem?_cons_zero]
                    go_wp2_with fail
                    rw [ordW_done]
                    go_wp2_with fail
                    go_meet
                    exact HFin
                  · have HFin := hid (ap_fin (w := w) (W := v22) (a5 := a5) (a6 := a6) (k5 := k5) (k6 := k6) (l5 := ls.length) (l6 := vs.length) hs hbn hwR c2 c3 c4 hB1 HW.out n4 n6 n9 n12)
                    obtain ⟨x0, x1, x2, x3, x4⟩ := boxp_but HW.out (show w.heap.size ≠ R by omega) c2
                    obtain ⟨y0, y1, y2, y3, y4⟩ := boxp_but HW.out (show w.heap.size + 1 ≠ R by omega) c3
                    obtain ⟨z0, ⟨z1, z2, z3, z4⟩, zf⟩ := box4_block HW.out.size (HW.out.block _ c4.1 (show w.heap.size + 1 + 1 ≠ R by omega)) c4
                    have zf0 := zf 0
                    have zf1 := zf 1
                    have zf2 := zf 2
                    have zf3 := zf 3
                    clear zf
                    replace K := hid ((K.out.set (a := ⟨w.heap.size, 0, none⟩) (by simp; omega) (.slice a7 s.init.length k7)).set (a := ⟨w.heap.size, 1, none⟩) (by simp; omega) (.slice a8 s.procs.length k8))
                    go_wp2_with fail
                    refine ⟨K.out.ex, ?_⟩
                    rw [ordW_two]
                    simp only [pick, List.getElem?_cons_succ, List.getElem?_cons_zero]
                    refine ⟨?_, ?_⟩
                    · go_wp2_with fail
                      refine ⟨K.out.ex, ?_⟩
                      rw [ordW_one]
                      simp only [pick, List.getElem?_cons_succ, List.getElem?_cons_zero]
                      replace K := hid ((K.out.set (a := ⟨w.heap.size + 1, 0, none⟩) (by simp; omega) (.slice a5 ls.length k5)).set (a := ⟨w.heap.size + 1, 1, none⟩) (by simp; omega) (.slice a6 vs.length k6))
                      go_wp2_with fail
                      refine ⟨K.out.ex, ?_⟩
                      rw [ordW_fre]
                      simp only [pick, List.getElem?_cons_succ, List.getElem?_cons_zero]
                      go_wp2_with fail
                      rw [ordW_done]
                      go_wp2_with fail
                      go_meet
                      exact HFin
                    · replace K := hid ((K.out.set (a := ⟨w.heap.size + 1, 0, none⟩) (by simp; omega) (.slice a5 ls.length k5)).set (a := ⟨w.heap.size + 1, 1, none⟩) (by simp; omega) (.slice a6 vs.length k6))
                      go_wp2_with fail
                      refine ⟨K.out.ex, ?_⟩
                      rw [ordW_one]
                      simp only [pick, List.getElem?_cons_succ, List.getElem?_cons_zero]
                      go_wp2_with fail
                      refine ⟨K.out.ex, ?_⟩
                      rw [ordW_fre]
                      simp only [pick, List.getElem?_cons_succ, List.getElem?_cons_zero]
                      go_wp2_with fail
                      rw [ordW_done]
                      go_wp2_with fail
                      go_meet
                      exact HFin
              · go_wp2_with fail
                have h0 := below_alloc v15 (.cells (([-1, 0, 1] : List Int).map (Value.int .i64)).toArray 3)
                have hRl := HR.out.lt
                refine ⟨(K.out.trans (KeepP.below h0)).ex, ?_⟩
                replace SB := hid (SB.out.next h0)
                have SC := hid (SlIn.new v15 [-1, 0, 1] 3 R (by omega))
                replace HR := hid (HR.out.next h0)
                replace HW := hid (HW.out.next h0)
                replace K := hid (K.out.trans (KeepP.below h0))
                clear h0 hRl
                obtain ⟨bC, hbC⟩ : ∃ b, b = v15.heap.size := ⟨_, rfl⟩
                rw [← hbC] at SC ⊢
                clear hbC
                obtain ⟨v23, hv⟩ : ∃ v, v = v15.alloc (.cells #[.int .i64 (-1), .int .i64 0, .int .i64 1] 3) := ⟨_, rfl⟩
                have hv2 : v23 = v15.alloc (.cells (([-1, 0, 1] : List Int).map (Value.int .i64)).toArray 3) := hv
                rw [← hv2] at HR HW K SC SB
                rw [← hv]
                clear hv hv2
                rw [ordW_one]
                simp only [pick, List.getElem?_cons_succ, List.getElem?_cons_zero]
                go_wp2_with fail
                refine (pick_any B _ v23 R (q0 + 1) HR.out (by omega) (by omega) (by omega)).mono ?_
                rintro e v24 ⟨n6, rfl, ⟨m0, m1, _⟩, hb, hr⟩
                replace SB := hid (SB.out.but hb)
                replace SC := hid (SC.out.but hb)
                replace HW := hid (HW.out.trans hb)
                replace K := hid (K.out.trans (KeepP.but hb (by simp; omega)))
                replace HR := hid hr
                clear hb hr
                go_wp2_with fail
                refine ⟨K.out.ex, ?_⟩
                rw [ordW_one]
                simp only [pick, List.getElem?_cons_succ, List.getElem?_cons_zero]
                go_wp2_with fail
                refine (num_sl [-1, 0, 1] (-1) 1 (by simp) (by decide) (by decide) B v24 R (q0 + 1 + 1) bB HR.out SB.out (by omega)).mono ?_
                rintro e v25 ⟨n9, rfl, _, hb, hr⟩
                clear SB
                replace SC := hid (SC.out.but hb)
                replace HW := hid (HW.out.trans hb)
                replace K := hid (K.out.trans (KeepP.but hb (by simp; omega)))
                replace HR := hid hr
                clear hb hr
                go_wp2_with fail
                refine ⟨K.out.ex, ?_⟩
                rw [ordW_one]
                simp only [pick, List.getElem?_cons_succ, List.getElem?_cons_zero]
                go_wp2_with fail
                refine (num_sl [-1, 0, 1] (-1) 1 (by simp) (by decide) (by decide) B v25 R (q0 + 1 + 1 + 1) bC HR.out SC.out (by omega)).mono ?_
                rintro e v26 ⟨n12, rfl, _, hb, hr⟩
                clear SC
                replace HW := hid (HW.out.trans hb)
                replace K := hid (K.out.trans (KeepP.but hb (by simp; omega)))
                replace HR := hid hr
                clear hb hr
                go_wp2_with fail
                refine ⟨K.out.ex, ?_⟩
                rw [ordW_two]
                simp only [pick, List.getElem?_cons_succ, List.getElem?_cons_zero]
                refine ⟨?_, ?_⟩
                · go_wp2_with fail
                  refine ⟨K.out.ex, ?_⟩
                  rw [ordW_one]
                  simp only [pick, List.getElem?_cons_succ, List.getElem?_cons_zero]
                  have HFin := hid (ap_fin (w := w) (W := v26) (a5 := a5) (a6 := a6) (k5 := k5) (k6 := k6) (l5 := ls.length) (l6 := vs.length) hs hbn hwR c2 c3 c4 hB1 HW.out n4 n6 n9 n12)
                  obtain ⟨x0, x1, x2, x3, x4⟩ := boxp_but HW.out (show w.heap.size ≠ R by omega) c2
                  obtain ⟨y0, y1, y2, y3, y4⟩ := boxp_but HW.out (show w.heap.size + 1 ≠ R by omega) c3
                  obtain ⟨z0, ⟨z1, z2, z3, z4⟩, zf⟩ := box4_block HW.out.size (HW.out.block _ c4.1 (show w.heap.size + 1 + 1 ≠ R by omega)) c4
                  have zf0 := zf 0
                  have zf1 := zf 1
                  have zf2 := zf 2
                  have zf3 := zf 3
                  clear zf
                  replace K := hid ((K.out.set (a := ⟨w.heap.size, 0, none⟩) (by simp; omega) (.slice a7 s.init.length k7)).set (a := ⟨w.heap.size, 1, none⟩) (by simp; omega) (.slice a8 s.procs.length k8))
                  go_wp2_with fail
                  refine ⟨K.out.ex, ?_⟩
                  rw [ordW_one]
                  simp only [pick, List.getElem?_cons_succ, List.getElem?_cons_zero]
                  replace K := hid ((K.out.set (a := ⟨w.heap.size + 1, 0, none⟩) (by simp; omega) (.slice a5 ls.length k5)).set (a := ⟨w.heap.size + 1, 1, none⟩) (by simp; omega) (.slice a6 vs.length k6))
                  go_wp2_with fail
                  refine ⟨K.out.ex, ?_⟩
                  rw [ordW_fre]
                  simp only [pick, List.getElem?_cons_succ, List.getElem?_cons_zero]
                  go_wp2_with fail
                  rw [ordW_done]
                  go_wp2_with fail
                  go_meet
                  exact HFin
                · have HFin := hid (ap_fin (w := w) (W := v26) (a5 := a5) (a6 := a6) (k5 := k5) (k6 := k6) (l5 := ls.length) (l6 := vs.length) hs hbn hwR c2 c3 c4 hB1 HW.out n4 n6 n9 n12)
                  obtain ⟨x0, x1, x2, x3, x4⟩ := boxp_but HW.out (show w.heap.size ≠ R by omega) c2
                  obtain ⟨y0, y1, y2, y3, y4⟩ := boxp_but HW.out (show w.heap.size + 1 ≠ R by omega) c3
                  obtain ⟨z0, ⟨z1, z2, z3, z4⟩, zf⟩ := box4_block HW.out.size (HW.out.block _ c4.1 (show w.heap.size + 1 + 1 ≠ R by omega)) c4
                  have zf0 := zf 0
                  have zf1 := zf 1
                  have zf2 := zf 2
                  have zf3 := zf 3
                  clear zf
                  replace K := hid ((K.out.set (a := ⟨w.heap.size, 0, none⟩) (by simp; omega) (.slice a7 s.init.length k7)).set (a := ⟨w.heap.size, 1, none⟩) (by simp; omega) (.slice a8 s.procs.length k8))
                  go_wp2_with fail
                  refine ⟨K.out.ex, ?_⟩
                  rw [ordW_two]
                  simp only [pick, List.getElem?_cons_succ, List.getElem?_cons_zero]
                  refine ⟨?_, ?_⟩
                  · go_wp2_with fail
                    refine ⟨K.out.ex, ?_⟩
                    rw [ordW_one]
                    simp only [pick, List.getElem?_cons_succ, List.getElem?_cons_zero]
                    replace K := hid ((K.out.set (a := ⟨w.heap.size + 1, 0, none⟩) (by simp; omega) (.slice a5 ls.length k5)).set (a := ⟨w.heap.size + 1, 1, none⟩) (by simp; omega) (.slice a6 vs.length k6))
                    go_wp2_with fail
                    refine ⟨K.out.ex, ?_⟩
                    rw [ordW_fre]
                    simp only [pick, List.getElem?_cons_succ, List.getElem?_cons_zero]
                    go_wp2_with fail
                    rw [ordW_done]
                    go_wp2_with fail
                    go_meet
                    exact HFin
                  · replace K := hid ((K.out.set (a := ⟨w.heap.size + 1, 0, none⟩) (by simp; omega) (.slice a5 ls.length k5)).set (a := ⟨w.heap.size + 1, 1, none⟩) (by simp; omega) (.slice a6 vs.length k6))
                    go_wp2_with fail
                    refine ⟨K.out.ex, ?_⟩
                    rw [ordW_one]
                    simp only [pick, List.getElem?_cons_succ, List.getElem?_cons_zero]
                    go_wp2_with fail
                    refine ⟨K.out.ex, ?_⟩
                    rw [ordW_fre]
                    simp only [pick, List.getElem?_cons_succ, List.getElem?_cons_zero]
                    go_wp2_with fail
                    rw [ordW_done]
                    go_wp2_with fail
                    go_meet
                    exact HFin
            · go_wp2_with fail
              have h0 := below_alloc v2 (.cells (([-1, 0, 1] : List Int).map (Value.int .i64)).toArray 3)
              have hRl := HR.out.lt
              refine ⟨(K.out.trans (KeepP.below h0)).ex, ?_⟩
              have SC := hid (SlIn.new v2 [-1, 0, 1] 3 R (by omega))
              replace HR := hid (HR.out.next h0)
              replace HW := hid (HW.out.next h0)
              replace K := hid (K.out.trans (KeepP.below h0))
              clear h0 hRl
              obtain ⟨bC, hbC⟩ : ∃ b, b = v2.heap.size := ⟨_, rfl⟩
              rw [← hbC] at SC ⊢
              clear hbC
              obtain ⟨v27, hv⟩ : ∃ v, v = v2.alloc (.cells #[.int .i64 (-1), .int .i64 0, .int .i64 1] 3) := ⟨_, rfl⟩
              have hv2 : v27 = v2.alloc (.cells (([-1, 0, 1] : List Int).map (Value.int .i64)).toArray 3) := hv
              rw [← hv2] at HR HW K SC
              rw [← hv]
              clear hv hv2
              rw [ordW_two]
              simp only [pick, List.getElem?_cons_succ, List.getElem?_cons_zero]
              refine ⟨?_, ?_⟩
              · go_wp2_with fail
                refine (pick_any B _ v27 R (q0 + 1) HR.out (by omega) (by omega) (by omega)).mono ?_
                rintro e v28 ⟨n6, rfl, ⟨m0, m1, _⟩, hb, hr⟩
                replace SC := hid (SC.out.but hb)
                replace HW := hid (HW.out.trans hb)
                replace K := hid (K.out.trans (KeepP.but hb (by simp; omega)))
                replace HR := hid hr
                clear hb hr
                go_wp2_with fail
                refine ⟨K.out.ex, ?_⟩
                rw [ordW_one]
                simp only [pick, List.getElem?_cons_succ, List.getElem?_cons_zero]
                go_wp2_with fail
                have h0 := below_alloc v28 (.cells (([-1, 0, 1] : List Int).map (Value.int .i64)).toArray 3)
                have hRl := HR.out.lt
                refine ⟨(K.out.trans (KeepP.below h0)).ex, ?_⟩
                replace SC := hid (SC.out.next h0)
                have SB := hid (SlIn.new v28 [-1, 0, 1] 3 R (by omega))
                replace HR := hid (HR.out.next h0)
                replace HW := hid (HW.out.next h0)
                replace K := hid (K.out.trans (KeepP.below h0))
                clear h0 hRl
                obtain ⟨bB, hbB⟩ : ∃ b, b = v28.heap.size := ⟨_, rfl⟩
                rw [← hbB] at SB ⊢
                clear hbB
                obtain ⟨v29, hv⟩ : ∃ v, v = v28.alloc (.cells #[.int .i64 (-1), .int .i64 0, .int .i64 1] 3) := ⟨_, rfl⟩
                have hv2 : v29 = v28.alloc (.cells (([-1, 0, 1] : List Int).map (Value.int .i64)).toArray 3) := hv
                rw [← hv2] at HR HW K SB SC
                rw [← hv]
                clear hv hv2
                rw [ordW_one]
                simp only [pick, List.getElem?_cons_succ, List.getElem?_cons_zero]
                go_wp2_with fail
                refine (num_sl [-1, 0, 1] (-1) 1 (by simp) (by decide) (by decide) B v29 R (q0 + 1 + 1) bB HR.out SB.out (by omega)).mono ?_
                rintro e v30 ⟨n9, rfl, _, hb, hr⟩
                clear SB
                replace SC := hid (SC.out.but hb)
                replace HW := hid (HW.out.trans hb)
                replace K := hid (K.out.trans (KeepP.but hb (by simp; omega)))
                replace HR := hid hr
                clear hb hr
                go_wp2_with fail
                refine ⟨K.out.ex, ?_⟩
                rw [ordW_one]
                simp only [pick, List.getElem?_cons_succ, List.getElem?_cons_zero]
                go_wp2_with fail
                refine (num_sl [-1, 0, 1] (-1) 1 (by simp) (by decide) (by decide) B v30 R (q0 + 1 + 1 + 1) bC HR.out SC.out (by omega)).mono ?_
                rintro e v31 ⟨n12, rfl, _, hb, hr⟩
                clear SC
                replace HW := hid (HW.out.trans hb)
                replace K := hid (K.out.trans (KeepP.but hb (by simp; omega)))
                replace HR := hid hr
                clear hb hr
                go_wp2_with fail
                refine ⟨K.out.ex, ?_⟩
                rw [ordW_two]
                simp only [pick, List.getElem?_cons_succ, List.getElem?_cons_zero]
                refine ⟨?_, ?_⟩
                · go_wp2_with fail
                  refine ⟨K.out.ex, ?_⟩
                  rw [ordW_one]
                  simp only [pick, List.getElem?_cons_succ, List.getElem?_cons_zero]
                  have HFin := hid (ap_fin (w := w) (W := v31) (a5 := a5) (a6 := a6) (k5 := k5) (k6 := k6) (l5 := ls.length) (l6 := vs.length) hs hbn hwR c2 c3 c4 hB1 HW.out n4 n6 n9 n12)
                  obtain ⟨x0, x1, x2, x3, x4⟩ := boxp_but HW.out (show w.heap.size ≠ R by omega) c2
                  obtain ⟨y0, y1, y2, y3, y4⟩ := boxp_but HW.out (show w.heap.size + 1 ≠ R by omega) c3
                  obtain ⟨z0, ⟨z1, z2, z3, z4⟩, zf⟩ := box4_block HW.out.size (HW.out.block _ c4.1 (show w.heap.size + 1 + 1 ≠ R by omega)) c4
                  have zf0 := zf 0
                  have zf1 := zf 1
                  have zf2 := zf 2
                  have zf3 := zf 3
                  clear zf
                  replace K := hid ((K.out.set (a := ⟨w.heap.size, 0, none⟩) (by simp; omega) (.slice a7 s.init.length k7)).set (a := ⟨w.heap.size, 1, none⟩) (by simp; omega) (.slice a8 s.procs.length k8))
                  go_wp2_with fail
                  refine ⟨K.out.ex, ?_⟩
                  rw [ordW_one]
                  simp only [pick, List.getElem?_cons_succ, List.getElem?_cons_zero]
                  replace K := hid ((K.out.set (a := ⟨w.heap.size + 1, 0, none⟩) (by simp; omega) (.slice a5 ls.length k5)).set (a := ⟨w.heap.size + 1, 1, none⟩) (by simp; omega) (.slice a6 vs.length k6))
                  go_wp2_with fail
                  refine ⟨K.out.ex, ?_⟩
                  rw [ordW_fre]
                  simp only [pick, List.getElem?_cons_succ, List.getElem?_cons_zero]
                  go_wp2_with fail
                  rw [ordW_done]
                  go_wp2_with fail
                  go_meet
                  exact HFin
                · have HFin := hid (ap_fin (w := w) (W := v31) (a5 := a5) (a6 := a6) (k5 := k5) (k6 := k6) (l5 := ls.length) (l6 := vs.length) hs hbn hwR c2 c3 c4 hB1 HW.out n4 n6 n9 n12)
                  obtain ⟨x0, x1, x2, x3, x4⟩ := boxp_but HW.out (show w.heap.size ≠ R by omega) c2
                  obtain ⟨y0, y1, y2, y3, y4⟩ := boxp_but HW.out (show w.heap.size + 1 ≠ R by omega) c3
                  obtain ⟨z0, ⟨z1, z2, z3, z4⟩, zf⟩ := box4_block HW.out.size (HW.out.block _ c4.1 (show w.heap.size + 1 + 1 ≠ R by omega)) c4
                  have zf0 := zf 0
                  have zf1 := zf 1
                  have zf2 := zf 2
                  have zf3 := zf 3
                  clear zf
                  replace K := hid ((K.out.set (a := ⟨w.heap.size, 0, none⟩) (by simp; omega) (.slice a7 s.init.length k7)).set (a := ⟨w.heap.size, 1, none⟩) (by simp; omega) (.slice a8 s.procs.length k8))
                  go_wp2_with fail
                  refine ⟨K.out.ex, ?_⟩
                  rw [ordW_two]
                  simp only [pick, List.getElem?_cons_succ, List.getElem?_cons_zero]
                  refine ⟨?_, ?_⟩
                  · go_wp2_with fail
                    refine ⟨K.out.ex, ?_⟩
                    rw [ordW_one]
                    simp only [pick, List.getElem?_cons_succ, List.getElem?_cons_zero]
                    replace K := hid ((K.out.set (a := ⟨w.heap.size + 1, 0, none⟩) (by simp; omega) (.slice a5 ls.length k5)).set (a := ⟨w.heap.size + 1, 1, none⟩) (by simp; omega) (.slice a6 vs.length k6))
                    go_wp2_with fail
                    refine ⟨K.out.ex, ?_⟩
                    rw [ordW_fre]
                    simp only [pick, List.getElem?_cons_succ, List.getElem?_cons_zero]
                    go_wp2_with fail
                    rw [ordW_done]
                    go_wp2_with fail
                    go_meet
                    exact HFin
                  · replace K := hid ((K.out.set (a := ⟨w.heap.size + 1, 0, none⟩) (by simp; omega) (.slice a5 ls.length k5)).set (a := ⟨w.heap.size + 1, 1, none⟩) (by simp; omega) (.slice a6 vs.length k6))
                    go_wp2_with fail
                    refine ⟨K.out.ex, ?_⟩
                    rw [ordW_one]
                    simp only [pick, List.getElem?_cons_succ, List.getElem?_cons_zero]
                    go_wp2_with fail
                    refine ⟨K.out.ex, ?_⟩
                    rw [ordW_fre]
                    simp only [pick, List.getElem?_cons_succ, List.getElem?_cons_zero]
                    go_wp2_with fail
                    rw [ordW_done]
                    go_wp2_with fail
                    go_meet
                    exact HFin
              · go_wp2_with fail
                have h0 := below_alloc v27 (.cells (([-1, 0, 1] : List Int).map (Value.int .i64)).toArray 3)
                have hRl := HR.out.lt
                refine ⟨(K.out.trans (KeepP.below h0)).ex, ?_⟩
                replace SC := hid (SC.out.next h0)
                have SB := hid (SlIn.new v27 [-1, 0, 1] 3 R (by omega))
                replace HR := hid (HR.out.next h0)
                replace HW := hid (HW.out.next h0)
                replace K := hid (K.out.trans (KeepP.below h0))
                clear h0 hRl
                obtain ⟨bB, hbB⟩ : ∃ b, b = v27.heap.size := ⟨_, rfl⟩
                rw [← hbB] at SB ⊢
                clear hbB
                obtain ⟨v32, hv⟩ : ∃ v, v = v27.alloc (.cells #[.int .i64 (-1), .int .i64 0, .int .i64 1] 3) := ⟨_, rfl⟩
                have hv2 : v32 = v27.alloc (.cells (([-1, 0, 1] : List Int).map (Value.int .i64)).toArray 3) := hv
                rw [← hv2] at HR HW K SB SC
                rw [← hv]
                clear hv hv2
                rw [ordW_one]
                simp only [pick, List.getElem?_cons_succ, List.getElem?_cons_zero]
                go_wp2_with fail
                refine (pick_any B _ v32 R (q0 + 1) HR.out (by omega) (by omega) (by omega)).mono ?_
                rintro e v33 ⟨n6, rfl, ⟨m0, m1, _⟩, hb, hr⟩
                replace SC := hid (SC.out.but hb)
                replace SB := hid (SB.out.but hb)
                replace HW := hid (HW.out.trans hb)
                replace K := hid (K.out.trans (KeepP.but hb (by simp; omega)))
                replace HR := hid hr
                clear hb hr
                go_wp2_with fail
                refine ⟨K.out.ex, ?_⟩
                rw [ordW_one]
                simp only [pick, List.getElem?_cons_succ, List.getElem?_cons_zero]
                go_wp2_with fail
                refine (num_sl [-1, 0, 1] (-1) 1 (by simp) (by decide) (by decide) B v33 R (q0 + 1 + 1) bB HR.out SB.out (by omega)).mono ?_
                rintro e v34 ⟨n9, rfl, _, hb, hr⟩
                clear SB
                replace SC := hid (SC.out.but hb)
                replace HW := hid (HW.out.trans hb)
                replace K := hid (K.out.trans (KeepP.but hb (by simp; omega)))
                replace HR := hid hr
                clear hb hr
                go_wp2_with fail
                refine ⟨K.out.ex, ?_⟩
                rw [ordW_one]
                simp only [pick, List.getElem?_cons_succ, List.getElem?_cons_zero]
                go_wp2_with fail
                refine (num_sl [-1, 0, 1] (-1) 1 (by simp) (by decide) (by decide) B v34 R (q0 + 1 + 1 + 1) bC HR.out SC.out (by omega)).mono ?_
                rintro e v35 ⟨n12, rfl, _, hb, hr⟩
                clear SC
                replace HW := hid (HW.out.trans hb)
                replace K := hid (K.out.trans (KeepP.but hb (by simp; omega)))
                replace HR := hid hr
                clear hb hr
                go_wp2_with fail
                refine ⟨K.out.ex, ?_⟩
                rw [ordW_two]
                simp only [pick, List.getElem?_cons_succ, List.getElem?_cons_zero]
                refine ⟨?_, ?_⟩
                · go_wp2_with fail
                  refine ⟨K.out.ex, ?_⟩
                  rw [ordW_one]
                  simp only [pick, List.getElem?_cons_succ, List.getElem?_cons_zero]
                  have HFin := hid (ap_fin (w := w) (W := v35) (a5 := a5) (a6 := a6) (k5 := k5) (k6 := k6) (l5 := ls.length) (l6 := vs.length) hs hbn hwR c2 c3 c4 hB1 HW.out n4 n6 n9 n12)
                  obtain ⟨x0, x1, x2, x3, x4⟩ := boxp_but HW.out (show w.heap.size ≠ R by omega) c2
                  obtain ⟨y0, y1, y2, y3, y4⟩ := boxp_but HW.out (show w.heap.size + 1 ≠ R by omega) c3
                  obtain ⟨z0, ⟨z1, z2, z3, z4⟩, zf⟩ := box4_block HW.out.size (HW.out.block _ c4.1 (show w.heap.size + 1 + 1 ≠ R by omega)) c4
                  have zf0 := zf 0
                  have zf1 := zf 1
                  have zf2 := zf 2
                  have zf3 := zf 3
                  clear zf
                  replace K := hid ((K.out.set (a := ⟨w.heap.size, 0, none⟩) (by simp; omega) (.slice a7 s.init.length k7)).set (a := ⟨w.heap.size, 1, none⟩) (by simp; omega) (.slice a8 s.procs.length k8))
                  go_wp2_with fail
                  refine ⟨K.out.ex, ?_⟩
                  rw [ordW_one]
                  simp only [pick, List.getElem?_cons_succ, List.getElem?_cons_zero]
                  replace K := hid ((K.out.set (a := ⟨w.heap.size + 1, 0, none⟩) (by simp; omega) (.slice a5 ls.length k5)).set (a := ⟨w.heap.size + 1, 1, none⟩) (by simp; omega) (.slice a6 vs.length k6))
                  go_wp2_with fail
                  refine ⟨K.out.ex, ?_⟩
                  rw [ordW_fre]
                  simp only [pick, List.getElem?_cons_succ, List.getElem?_cons_zero]
                  go_wp2_with fail
                  rw [ordW_done]
                  go_wp2_with fail
                  go_meet
                  exact HFin
                · have HFin := hid (ap_fin (w := w) (W := v35) (a5 := a5) (a6 := a6) (k5 := k5) (k6 := k6) (l5 := ls.length) (l6 := vs.length) hs hbn hwR c2 c3 c4 hB1 HW.out n4 n6 n9 n12)
                  obtain ⟨x0, x1, x2, x3, x4⟩ := boxp_but HW.out (show w.heap.size ≠ R by omega) c2
                  obtain ⟨y0, y1, y2, y3, y4⟩ := boxp_but HW.out (show w.heap.size + 1 ≠ R by omega) c3
                  obtain ⟨z0, ⟨z1, z2, z3, z4⟩, zf⟩ := box4_block HW.out.size (HW.out.block _ c4.1 (show w.heap.size + 1 + 1 ≠ R by omega)) c4
                  have zf0 := zf 0
                  have zf1 := zf 1
                  have zf2 := zf 2
                  have zf3 := zf 3
                  clear zf
                  replace K := hid ((K.out.set (a := ⟨w.heap.size, 0, none⟩) (by simp; omega) (.slice a7 s.init.length k7)).set (a := ⟨w.heap.size, 1, none⟩) (by simp; omega) (.slice a8 s.procs.length k8))
                  go_wp2_with fail
                  refine ⟨K.out.ex, ?_⟩
                  rw [ordW_two]
                  simp only [pick, List.getElem?_cons_succ, List.getElem?_cons_zero]
                  refine ⟨?_, ?_⟩
                  · go_wp2_with fail
                    refine ⟨K.out.ex, ?_⟩
                    rw [ordW_one]
                    simp only [pick, List.getElem?_cons_succ, List.getElem?_cons_zero]
                    replace K := hid ((K.out.set (a := ⟨w.heap.size + 1, 0, none⟩) (by simp; omega) (.slice a5 ls.length k5)).set (a := ⟨w.heap.size + 1, 1, none⟩) (by simp; omega) (.slice a6 vs.length k6))
                    go_wp2_with fail
                    refine ⟨K.out.ex, ?_⟩
                    rw [ordW_fre]
                    simp only [pick, List.getElem?_cons_succ, List.getElem?_cons_zero]
                    go_wp2_with fail
                    rw [ordW_done]
                    go_wp2_with fail
                    go_meet
                    exact HFin
                  · replace K := hid ((K.out.set (a := ⟨w.heap.size + 1, 0, none⟩) (by simp; omega) (.slice a5 ls.length k5)).set (a := ⟨w.heap.size + 1, 1, none⟩) (by simp; omega) (.slice a6 vs.length k6))
                    go_wp2_with fail
                    refine ⟨K.out.ex, ?_⟩
                    rw [ordW_one]
                    simp only [pick, List.getElem?_cons_succ, List.getElem?_cons_zero]
                    go_wp2_with fail
                    refine ⟨K.out.ex, ?_⟩
                    rw [ordW_fre]
                    simp only [pick, List.getElem?_cons_succ, List.getElem?_cons_zero]
                    go_wp2_with fail
                    rw [ordW_done]
                    go_wp2_with fail
                    go_meet
                    exact HFin
          · go_wp2_with fail
            have h0 := below_alloc v1 (.cells (([-1, 0, 1] : List Int).map (Value.int .i64)).toArray 3)
            have hRl := HR.out.lt
            refine ⟨(K.out.trans (KeepP.below h0)).ex, ?_⟩
            replace SA := hid (SA.out.next h0)
            have SB := hid (SlIn.new v1 [-1, 0, 1] 3 R (by omega))
            replace HR := hid (HR.out.next h0)
            replace HW := hid (HW.out.next h0)
            replace K := hid (K.out.trans (KeepP.below h0))
            clear h0 hRl
            obtain ⟨bB, hbB⟩ : ∃ b, b = v1.heap.size := ⟨_, rfl⟩
            rw [← hbB] at SB ⊢
            clear hbB
            obtain ⟨v36, hv⟩ : ∃ v, v = v1.alloc (.cells #[.int .i64 (-1), .int .i64 0, .int .i64 1] 3) := ⟨_, rfl⟩
            have hv2 : v36 = v1.alloc (.cells (([-1, 0, 1] : List Int).map (Value.int .i64)).toArray 3) := hv
            rw [← hv2] at HR HW K SB SA
            rw [← hv]
            clear hv hv2
            rw [ordW_two]
            simp only [pick, List.getElem?_cons_succ, List.getElem?_cons_zero]
            refine ⟨?_, ?_⟩
            · go_wp2_with fail
              refine (num_sl [0, 1, -1, 3] (-1) 3 (by simp) (by decide) (by decide) B v36 R (q0) bA HR.out SA.out (by omega)).mono ?_
              rintro e v37 ⟨n4, rfl, _, hb, hr⟩
              clear SA
              replace SB := hid (SB.out.but hb)
              replace HW := hid (HW.out.trans hb)
              replace K := hid (K.out.trans (KeepP.but hb (by simp; omega)))
              replace HR := hid hr
              clear hb hr
              go_wp2_with fail
              refine ⟨K.out.ex, ?_⟩
              rw [ordW_two]
              simp only [pick, List.getElem?_cons_succ, List.getElem?_cons_zero]
              refine ⟨?_, ?_⟩
              · go_wp2_with fail
                refine (pick_any B _ v37 R (q0 + 1) HR.out (by omega) (by omega) (by omega)).mono ?_
                rintro e v38 ⟨n6, rfl, ⟨m0, m1, _⟩, hb, hr⟩
                replace SB := hid (SB.out.but hb)
                replace HW := hid (HW.out.trans hb)
                replace K := hid (K.out.trans (KeepP.but hb (by simp; omega)))
                replace HR := hid hr
                clear hb hr
                go_wp2_with fail
                refine ⟨K.out.ex, ?_⟩
                rw [ordW_two]
                simp only [pick, List.getElem?_cons_succ, List.getElem?_cons_zero]
                refine ⟨?_, ?_⟩
                · go_wp2_with fail
                  refine (num_sl [-1, 0, 1] (-1) 1 (by simp) (by decide) (by decide) B v38 R (q0 + 1 + 1) bB HR.out SB.out (by omega)).mono ?_
                  rintro e v39 ⟨n9, rfl, _, hb, hr⟩
                  clear SB
                  replace HW := hid (HW.out.trans hb)
                  replace K := hid (K.out.trans (KeepP.but hb (by simp; omega)))
                  replace HR := hid hr
                  clear hb hr
                  go_wp2_with fail
                  refine ⟨K.out.ex, ?_⟩
                  rw [ordW_one]
                  simp only [pick, List.getElem?_cons_succ, List.getElem?_cons_zero]
                  go_wp2_with fail
                  have h0 := below_alloc v39 (.cells (([-1, 0, 1] : List Int).map (Value.int .i64)).toArray 3)
                  have hRl := HR.out.lt
                  refine ⟨(K.out.trans (KeepP.below h0)).ex, ?_⟩
                  have SC := hid (SlIn.new v39 [-1, 0, 1] 3 R (by omega))
                  replace HR := hid (HR.out.next h0)
                  replace HW := hid (HW.out.next h0)
                  replace K := hid (K.out.trans (KeepP.below h0))
                  clear h0 hRl
                  obtain ⟨bC, hbC⟩ : ∃ b, b = v39.heap.size := ⟨_, rfl⟩
                  rw [← hbC] at SC ⊢
                  clear hbC
                  obtain ⟨v40, hv⟩ : ∃ v, v = v39.alloc (.cells #[.int .i64 (-1), .int .i64 0, .int .i64 1] 3) := ⟨_, rfl⟩
                  have hv2 : v40 = v39.alloc (.cells (([-1, 0, 1] : List Int).map (Value.int .i64)).toArray 3) := hv
                  rw [← hv2] at HR HW K SC
                  rw [← hv]
                  clear hv hv2
                  rw [ordW_one]
                  simp only [pick, List.getElem?_cons_succ, List.getElem?_cons_zero]
                  go_wp2_with fail
                  refine (num_sl [-1, 0, 1] (-1) 1 (by simp) (by decide) (by decide) B v40 R (q0 + 1 + 1 + 1) bC HR.out SC.out (by omega)).mono ?_
                  rintro e v41 ⟨n12, rfl, _, hb, hr⟩
                  clear SC
                  replace HW := hid (HW.out.trans hb)
                  replace K := hid (K.out.trans (KeepP.but hb (by simp; omega)))
                  replace HR := hid hr
                  clear hb hr
                  go_wp2_with fail
                  refine ⟨K.out.ex, ?_⟩
                  rw [ordW_two]
                  simp only [pick, List.getElem?_cons_succ, List.getElem?_cons_zero]
                  refine ⟨?_, ?_⟩
                  · go_wp2_with fail
                    refine ⟨K.out.ex, ?_⟩
                    rw [ordW_one]
                    simp only [pick, List.getElem?_cons_succ, List.getElem?_cons_zero]
                    have HFin := hid (ap_fin (w := w) (W := v41) (a5 := a5) (a6 := a6) (k5 := k5) (k6 := k6) (l5 := ls.length) (l6 := vs.length) hs hbn hwR c2 c3 c4 hB1 HW.out n4 n6 n9 n12)
                    obtain ⟨x0, x1, x2, x3, x4⟩ := boxp_but HW.out (show w.heap.size ≠ R by omega) c2
                    obtain ⟨y0, y1, y2, y3, y4⟩ := boxp_but HW.out (show w.heap.size + 1 ≠ R by omega) c3
                    obtain ⟨z0, ⟨z1, z2, z3, z4⟩, zf⟩ := box4_block HW.out.size (HW.out.block _ c4.1 (show w.heap.size + 1 + 1 ≠ R by omega)) c4
                    have zf0 := zf 0
                    have zf1 := zf 1
                    have zf2 := zf 2
                    have zf3 := zf 3
                    clear zf
                    replace K := hid ((K.out.set (a := ⟨w.heap.size, 0, none⟩) (by simp; omega) (.slice a7 s.init.length k7)).set (a := ⟨w.heap.size, 1, none⟩) (by simp; omega) (.slice a8 s.procs.length k8))
                    go_wp2_with fail
                    refine ⟨K.out.ex, ?_⟩
                    rw [ordW_one]
                    simp only [pick, List.getElem?_cons_succ, List.getElem?_cons_zero]
                    replace K := hid ((K.out.set (a := ⟨w.heap.size + 1, 0, none⟩) (by simp; omega) (.slice a5 ls.length k5)).set (a := ⟨w.heap.size + 1, 1, none⟩) (by simp; omega) (.slice a6 vs.length k6))
                    go_wp2_with fail
                    refine ⟨K.out.ex, ?_⟩
                    rw [ordW_fre]
                    simp only [pick, List.getElem?_cons_succ, List.getElem?_cons_zero]
                    go_wp2_with fail
                    rw [ordW_done]
                    go_wp2_with fail
                    go_meet
                    exact HFin
                  · have HFin := hid (ap_fin (w := w) (W := v41) (a5 := a5) (a6 := a6) (k5 := k5) (k6 := k6) (l5 := ls.length) (l6 := vs.length) hs hbn hwR c2 c3 c4 hB1 HW.out n4 n6 n9 n12)
                    obtain ⟨x0, x1, x2, x3, x4⟩ := boxp_but HW.out (show w.heap.size ≠ R by omega) c2
                    obtain ⟨y0, y1, y2, y3, y4⟩ := boxp_but HW.out (show w.heap.size + 1 ≠ R by omega) c3
                    obtain ⟨z0, ⟨z1, z2, z3, z4⟩, zf⟩ := box4_block HW.out.size (HW.out.block _ c4.1 (show w.heap.size + 1 + 1 ≠ R by omega)) c4
                    have zf0 := zf 0
                    have zf1 := zf 1
                    have zf2 := zf 2
                    have zf3 := zf 3
                    clear zf
                    replace K := hid ((K.out.set (a := ⟨w.heap.size, 0, none⟩) (by simp; omega) (.slice a7 s.init.length k7)).set (a := ⟨w.heap.size, 1, none⟩) (by simp; omega) (.slice a8 s.procs.length k8))
                    go_wp2_with fail
                    refine ⟨K.out.ex, ?_⟩
                    rw [ordW_two]
                    simp only [pick, List.getElem?_cons_succ, List.getElem?_cons_zero]
                    refine ⟨?_, ?_⟩
                    · go_wp2_with fail
                      refine ⟨K.out.ex, ?_⟩
                      rw [ordW_one]
                      simp only [pick, List.getElem?_cons_succ, List.getElem?_cons_zero]
                      replace K := hid ((K.out.set (a := ⟨w.heap.size + 1, 0, none⟩) (by simp; omega) (.slice a5 ls.length k5)).set (a := ⟨w.heap.size + 1, 1, none⟩) (by simp; omega) (.slice a6 vs.length k6))
                      go_wp2_with fail
                      refine ⟨K.out.ex, ?_⟩
                      rw [ordW_fre]
                      simp only [pick, List.getElem?_cons_succ, List.getElem?_cons_zero]
                      go_wp2_with fail
                      rw [ordW_done]
                      go_wp2_with fail
                      go_meet
                      exact HFin
                    · replace K := hid ((K.out.set (a := ⟨w.heap.size + 1, 0, none⟩) (by simp; omega) (.slice a5 ls.length k5)).set (a := ⟨w.heap.size + 1, 1, none⟩) (by simp; omega) (.slice a6 vs.length k6))
                      go_wp2_with fail
                      refine ⟨K.out.ex, ?_⟩
                      rw [ordW_one]
                      simp only [pick, List.getElem?_cons_succ, List.getElem?_cons_zero]
                      go_wp2_with fail
                      refine ⟨K.out.ex, ?_⟩
                      rw [ordW_fre]
                      simp only [pick, List.getElem?_cons_succ, List.getElem?_cons_zero]
                      go_wp2_with fail
                      rw [ordW_done]
                      go_wp2_with fail
                      go_meet
                      exact HFin
                · go_wp2_with fail
                  have h0 := below_alloc v38 (.cells (([-1, 0, 1] : List Int).map (Value.int .i64)).toArray 3)
                  have hRl := HR.out.lt
                  refine ⟨(K.out.trans (KeepP.below h0)).ex, ?_⟩
                  replace SB := hid (SB.out.next h0)
                  have SC := hid (SlIn.new v38 [-1, 0, 1] 3 R (by omega))
                  replace HR := hid (HR.out.next h0)
                  replace HW := hid (HW.out.next h0)
                  replace K := hid (K.out.trans (KeepP.below h0))
                  clear h0 hRl
                  obtain ⟨bC, hbC⟩ : ∃ b, b = v38.heap.size := ⟨_, rfl⟩
                  rw [← hbC] at SC ⊢
                  clear hbC
                  obtain ⟨v42, hv⟩ : ∃ v, v = v38.alloc (.cells #[.int .i64 (-1), .int .i64 0, .int .i64 1] 3) := ⟨_, rfl⟩
                  have hv2 : v42 = v38.alloc (.cells (([-1, 0, 1] : List Int).map (Value.int .i64)).toArray 3) := hv
                  rw [← hv2] at HR HW K SC SB
                  rw [← hv]
                  clear hv hv2
                  rw [ordW_one]
                  simp only [pick, List.getElem?_cons_succ, List.getElem?_cons_zero]
                  go_wp2_with fail
                  refine (num_sl [-1, 0, 1] (-1) 1 (by simp) (by decide) (by decide) B v42 R (q0 + 1 + 1) bB HR.out SB.out (by omega)).mono ?_
                  rintro e v43 ⟨n9, rfl, _, hb, hr⟩
                  clear SB
                  replace SC := hid (SC.out.but hb)
                  replace HW := hid (HW.out.trans hb)
                  replace K := hid (K.out.trans (KeepP.but hb (by simp; omega)))
                  replace HR := hid hr
                  clear hb hr
                  go_wp2_with fail
                  refine ⟨K.out.ex, ?_⟩
                  rw [ordW_one]
                  simp only [pick, List.getElem?_cons_succ, List.getElem?_cons_zero]
                  go_wp2_with fail
                  refine (num_sl [-1, 0, 1] (-1) 1 (by simp) (by decide) (by decide) B v43 R (q0 + 1 + 1 + 1) bC HR.out SC.out (by omega)).mono ?_
                  rintro e v44 ⟨n12, rfl, _, hb, hr⟩
                  clear SC
                  replace HW := hid (HW.out.trans hb)
                  replace K := hid (K.out.trans (KeepP.but hb (by simp; omega)))
                  replace HR := hid hr
                  clear hb hr
                  go_wp2_with fail
                  refine ⟨K.out.ex, ?_⟩
                  rw [ordW_two]
                  simp only [pick, List.getElem?_cons_succ, List.getElem?_cons_zero]
                  refine ⟨?_, ?_⟩
                  · go_wp2_with fail
                    refine ⟨K.out.ex, ?_⟩
                    rw [ordW_one]
                    simp only [pick, List.getElem?_cons_succ, List.getElem?_cons_zero]
                    have HFin := hid (ap_fin (w := w) (W := v44) (a5 := a5) (a6 := a6) (k5 := k5) (k6 := k6) (l5 := ls.length) (l6 := vs.length) hs hbn hwR c2 c3 c4 hB1 HW.out n4 n6 n9 n12)
                    obtain ⟨x0, x1, x2, x3, x4⟩ := boxp_but HW.out (show w.heap.size ≠ R by omega) c2
                    obtain ⟨y0, y1, y2, y3, y4⟩ := boxp_but HW.out (show w.heap.size + 1 ≠ R by omega) c3
                    obtain ⟨z0, ⟨z1, z2, z3, z4⟩, zf⟩ := box4_block HW.out.size (HW.out.block _ c4.1 (show w.heap.size + 1 + 1 ≠ R by omega)) c4
                    have zf0 := zf 0
                    have zf1 := zf 1
                    have zf2 := zf 2
                    have zf3 := zf 3
                    clear zf
                    replace K := hid ((K.out.set (a := ⟨w.heap.size, 0, none⟩) (by simp; omega) (.slice a7 s.init.length k7)).set (a := ⟨w.heap.size, 1, none⟩) (by simp; omega) (.slice a8 s.procs.length k8))
                    go_wp2_with fail
                    refine ⟨K.out.ex, ?_⟩
                    rw [ordW_one]
                    simp only [pick, List.getElem?_cons_succ, List.getElem?_cons_zero]
                    replace K := hid ((K.out.set (a := ⟨w.heap.size + 1, 0, none⟩) (by simp; omega) (.slice a5 ls.length k5)).set (a := ⟨w.heap.size + 1, 1, none⟩) (by simp; omega) (.slice a6 vs.length k6))
                    go_wp2_with fail
                    refine ⟨K.out.ex, ?_⟩
                    rw [ordW_fre]
                    simp only [pick, List.getElem?_cons_succ, List.getElem?_cons_zero]
                    go_wp2_with fail
                    rw [ordW_done]
                    go_wp2_with fail
                    go_meet
                    exact HFin
                  · have HFin := hid (ap_fin (w := w) (W := v44) (a5 := a5) (a6 := a6) (k5 := k5) (k6 := k6) (l5 := ls.length) (l6 := vs.length) hs hbn hwR c2 c3 c4 hB1 HW.out n4 n6 n9 n12)
                    obtain ⟨x0, x1, x2, x3, x4⟩ := boxp_but HW.out (show w.heap.size ≠ R by omega) c2
                    obtain ⟨y0, y1, y2, y3, y4⟩ := boxp_but HW.out (show w.heap.size + 1 ≠ R by omega) c3
                    obtain ⟨z0, ⟨z1, z2, z3, z4⟩, zf⟩ := box4_block HW.out.size (HW.out.block _ c4.1 (show w.heap.size + 1 + 1 ≠ R by omega)) c4
                    have zf0 := zf 0
                    have zf1 := zf 1
                    have zf2 := zf 2
                    have zf3 := zf 3
                    clear zf
                    replace K := hid ((K.out.set (a := ⟨w.heap.size, 0, none⟩) (by simp; omega) (.slice a7 s.init.length k7)).set (a := ⟨w.heap.size, 1, none⟩) (by simp; omega) (.slice a8 s.procs.length k8))
                    go_wp2_with fail
                    refine ⟨K.out.ex, ?_⟩
                    rw [ordW_two]
                    simp only [pick, List.getElem?_cons_succ, List.getElem?_cons_zero]
                    refine ⟨?_, ?_⟩
                    · go_wp2_with fail
                      refine ⟨K.out.ex, ?_⟩
                      rw [ordW_one]
                      simp only [pick, List.getElem?_cons_succ, List.getElem?_cons_zero]
                      replace K := hid ((K.out.set (a := ⟨w.heap.size + 1, 0, none⟩) (by simp; omega) (.slice a5 ls.length k5)).set (a := ⟨w.heap.size + 1, 1, none⟩) (by simp; omega) (.slice a6 vs.length k6))
                      go_wp2_with fail
                      refine ⟨K.out.ex, ?_⟩
                      rw [ordW_fre]
                      simp only [pick, List.getElem?_cons_succ, List.getElem?_cons_zero]
                      go_wp2_with fail
                      rw [ordW_done]
                      go_wp2_with fail
                      go_meet
                      exact HFin
                    · replace K := hid ((K.out.set (a := ⟨w.heap.size + 1, 0, none⟩) (by simp; omega) (.slice a5 ls.length k5)).set (a := ⟨w.heap.size + 1, 1, none⟩) (by simp; omega) (.slice a6 vs.length k6))
                      go_wp2_with fail
                      refine ⟨K.out.ex, ?_⟩
                      rw [ordW_one]
                      simp only [pick, List.getElem?_cons_succ, List.getElem?_cons_zero]
                      go_wp2_with fail
                      refine ⟨K.out.ex, ?_⟩
                      rw [ordW_fre]
                      simp only [pick, List.getElem?_cons_succ, List.getElem?_cons_zero]
                      go_wp2_with fail
                      rw [ordW_done]
                      go_wp2_with fail
                      go_meet
                      exact HFin
              · go_wp2_with fail
                have h0 := below_alloc v37 (.cells (([-1, 0, 1] : List Int).map (Value.int .i64)).toArray 3)
                have hRl := HR.out.lt
                refine ⟨(K.out.trans (KeepP.below h0)).ex, ?_⟩
                replace SB := hid (SB.out.next h0)
                have SC := hid (SlIn.new v37 [-1, 0, 1] 3 R (by omega))
                replace HR := hid (HR.out.next h0)
                replace HW := hid (HW.out.next h0)
                replace K := hid (K.out.trans (KeepP.below h0))
                clear h0 hRl
                obtain ⟨bC, hbC⟩ : ∃ b, b = v37.heap.size := ⟨_, rfl⟩
                rw [← hbC] at SC ⊢
                clear hbC
                obtain ⟨v45, hv⟩ : ∃ v, v = v37.alloc (.cells #[.int .i64 (-1), .int .i64 0, .int .i64 1] 3) := ⟨_, rfl⟩
                have hv2 : v45 = v37.alloc (.cells (([-1, 0, 1] : List Int).map (Value.int .i64)).toArray 3) := hv
                rw [← hv2] at HR HW K SC SB
                rw [← hv]
                clear hv hv2
                rw [ordW_one]
                simp only [pick, List.getElem?_cons_succ, List.getElem?_cons_zero]
                go_wp2_with fail
                refine (pick_any B _ v45 R (q0 + 1) HR.out (by omega) (by omega) (by omega)).mono ?_
                rintro e v46 ⟨n6, rfl, ⟨m0, m1, _⟩, hb, hr⟩
                replace SB := hid (SB.out.but hb)
                replace SC := hid (SC.out.but hb)
                replace HW := hid (HW.out.trans hb)
                replace K := hid (K.out.trans (KeepP.but hb (by simp; omega)))
                replace HR := hid hr
                clear hb hr
                go_wp2_with fail
                refine ⟨K.out.ex, ?_⟩
                rw [ordW_one]
                simp only [pick, List.getElem?_cons_succ, List.getElem?_cons_zero]
                go_wp2_with fail
                refine (num_sl [-1, 0, 1] (-1) 1 (by simp) (by decide) (by decide) B v46 R (q0 + 1 + 1) bB HR.out SB.out (by omega)).mono ?_
                rintro e v47 ⟨n9, rfl, _, hb, hr⟩
                clear SB
                replace SC := hid (SC.out.but hb)
                replace HW := hid (HW.out.trans hb)
                replace K := hid (K.out.trans (KeepP.but hb (by simp; omega)))
                replace HR := hid hr
                clear hb hr
                go_wp2_with fail
                refine ⟨K.out.ex, ?_⟩
                rw [ordW_one]
                simp only [pick, List.getElem?_cons_succ, List.getElem?_cons_zero]
                go_wp2_with fail
                refine (num_sl [-1, 0, 1] (-1) 1 (by simp) (by decide) (by decide) B v47 R (q0 + 1 + 1 + 1) bC HR.out SC.out (by omega)).mono ?_
                rintro e v48 ⟨n12, rfl, _, hb, hr⟩
                clear SC
                replace HW := hid (HW.out.trans hb)
                replace K := hid (K.out.trans (KeepP.but hb (by simp; omega)))
                replace HR := hid hr
                clear hb hr
                go_wp2_with fail
                refine ⟨K.out.ex, ?_⟩
                rw [ordW_two]
                simp only [pick, List.getElem?_cons_succ, List.getElem?_cons_zero]
                refine ⟨?_, ?_⟩
                · go_wp2_with fail
                  refine ⟨K.out.ex, ?_⟩
                  rw [ordW_one]
                  simp only [pick, List.getElem?_cons_succ, List.getElem?_cons_zero]
                  have HFin := hid (ap_fin (w := w) (W := v48) (a5 := a5) (a6 := a6) (k5 := k5) (k6 := k6) (l5 := ls.length) (l6 := vs.length) hs hbn hwR c2 c3 c4 hB1 HW.out n4 n6 n9 n12)
                  obtain ⟨x0, x1, x2, x3, x4⟩ := boxp_but HW.out (show w.heap.size ≠ R by omega) c2
                  obtain ⟨y0, y1, y2, y3, y4⟩ := boxp_but HW.out (show w.heap.size + 1 ≠ R by omega) c3
                  obtain ⟨z0, ⟨z1, z2, z3, z4⟩, zf⟩ := box4_block HW.out.size (HW.out.block _ c4.1 (show w.heap.size + 1 + 1 ≠ R by omega)) c4
                  have zf0 := zf 0
                  have zf1 := zf 1
                  have zf2 := zf 2
                  have zf3 := zf 3
                  clear zf
                  replace K := hid ((K.out.set (a := ⟨w.heap.size, 0, none⟩) (by simp; omega) (.slice a7 s.init.length k7)).set (a := ⟨w.heap.size, 1, none⟩) (by simp; omega) (.slice a8 s.procs.length k8))
                  go_wp2_with fail
                  refine ⟨K.out.ex, ?_⟩
                  rw [ordW_one]
                  simp only [pick, List.getElem?_cons_succ, List.getElem?_cons_zero]
                  replace K := hid ((K.out.set (a := ⟨w.heap.size + 1, 0, none⟩) (by simp; omega) (.slice a5 ls.length k5)).set (a := ⟨w.heap.size + 1, 1, none⟩) (by simp; omega) (.slice a6 vs.length k6))
                  go_wp2_with fail
                  refine ⟨K.out.ex, ?_⟩
                  rw [ordW_fre]
                  simp only [pick, List.getElem?_cons_succ, List.getElem?_cons_zero]
                  go_wp2_with fail
                  rw [ordW_done]
                  go_wp2_with fail
                  go_meet
                  exact HFin
                · have HFin := hid (ap_fin (w := w) (W := v48) (a5 := a5) (a6 := a6) (k5 := k5) (k6 := k6) (l5 := ls.length) (l6 := vs.length) hs hbn hwR c2 c3 c4 hB1 HW.out n4 n6 n9 n12)
                  obtain ⟨x0, x1, x2, x3, x4⟩ := boxp_but HW.out (show w.heap.size ≠ R by omega) c2
                  obtain ⟨y0, y1, y2, y3, y4⟩ := boxp_but HW.out (show w.heap.size + 1 ≠ R by omega) c3
                  obtain ⟨z0, ⟨z1, z2, z3, z4⟩, zf⟩ := box4_block HW.out.size (HW.out.block _ c4.1 (show w.heap.size + 1 + 1 ≠ R by omega)) c4
                  have zf0 := zf 0
                  have zf1 := zf 1
                  have zf2 := zf 2
                  have zf3 := zf 3
                  clear zf
                  replace K := hid ((K.out.set (a := ⟨w.heap.size, 0, none⟩) (by simp; omega) (.slice a7 s.init.length k7)).set (a := ⟨w.heap.size, 1, none⟩) (by simp; omega) (.slice a8 s.procs.length k8))
                  go_wp2_with fail
                  refine ⟨K.out.ex, ?_⟩
                  rw [ordW_two]
                  simp only [pick, List.getElem?_cons_succ, List.getElem?_cons_zero]
                  refine ⟨?_, ?_⟩
                  · go_wp2_with fail
                    refine ⟨K.out.ex, ?_⟩
                    rw [ordW_one]
                    simp only [pick, List.getElem?_cons_succ, List.getElem?_cons_zero]
                    replace K := hid ((K.out.set (a := ⟨w.heap.size + 1, 0, none⟩) (by simp; omega) (.slice a5 ls.length k5)).set (a := ⟨w.heap.size + 1, 1, none⟩) (by simp; omega) (.slice a6 vs.length k6))
                    go_wp2_with fail
                    refine ⟨K.out.ex, ?_⟩
                    rw [ordW_fre]
                    simp only [pick, List.getElem?_cons_succ, List.getElem?_cons_zero]
                    go_wp2_with fail
                    rw [ordW_done]
                    go_wp2_with fail
                    go_meet
                    exact HFin
                  · replace K := hid ((K.out.set (a := ⟨w.heap.size + 1, 0, none⟩) (by simp; omega) (.slice a5 ls.length k5)).set (a := ⟨w.heap.size + 1, 1, none⟩) (by simp; omega) (.slice a6 vs.length k6))
                    go_wp2_with fail
                    refine ⟨K.out.ex, ?_⟩
                    rw [ordW_one]
                    simp only [pick, List.getElem?_cons_succ, List.getElem?_cons_zero]
                    go_wp2_with fail
                    refine ⟨K.out.ex, ?_⟩
                    rw [ordW_fre]
                    simp only [pick, List.getElem?_cons_succ, List.getElem?_cons_zero]
                    go_wp2_with fail
                    rw [ordW_done]
                    go_wp2_with fail
                    go_meet
                    exact HFin
            · go_wp2_with fail
              have h0 := below_alloc v36 (.cells (([-1, 0, 1] : List Int).map (Value.int .i64)).toArray 3)
              have hRl := HR.out.lt
              refine ⟨(K.out.trans (KeepP.below h0)).ex, ?_⟩
              replace SA := hid (SA.out.next h0)
              replace SB := hid (SB.out.next h0)
              have SC := hid (SlIn.new v36 [-1, 0, 1] 3 R (by omega))
              replace HR := hid (HR.out.next h0)
              replace HW := hid (HW.out.next h0)
              replace K := hid (K.out.trans (KeepP.below h0))
              clear h0 hRl
              obtain ⟨bC, hbC⟩ : ∃ b, b = v36.heap.size := ⟨_, rfl⟩
              rw [← hbC] at SC ⊢
              clear hbC
              obtain ⟨v49, hv⟩ : ∃ v, v = v36.alloc (.cells #[.int .i64 (-1), .int .i64 0, .int .i64 1] 3) := ⟨_, rfl⟩
              have hv2 : v49 = v36.alloc (.cells (([-1, 0, 1] : List Int).map (Value.int .i64)).toArray 3) := hv
              rw [← hv2] at HR HW K SC SA SB
              rw [← hv]
              clear hv hv2
              rw [ordW_one]
              simp only [pick, List.getElem?_cons_succ, List.getElem?_cons_zero]
              go_wp2_with fail
              refine (num_sl [0, 1, -1, 3] (-1) 3 (by simp) (by decide) (by decide) B v49 R (q0) bA HR.out SA.out (by omega)).mono ?_
              rintro e v50 ⟨n4, rfl, _, hb, hr⟩
              clear SA
              replace SB := hid (SB.out.but hb)
              replace SC := hid (SC.out.but hb)
              replace HW := hid (HW.out.trans hb)
              replace K := hid (K.out.trans (KeepP.but hb (by simp; omega)))
              replace HR := hid hr
              clear hb hr
              go_wp2_with fail
              refine ⟨K.out.ex, ?_⟩
              rw [ordW_one]
              simp only [pick, List.getElem?_cons_succ, List.getElem?_cons_zero]
              go_wp2_with fail
              refine (pick_any B _ v50 R (q0 + 1) HR.out (by omega) (by omega) (by omega)).mono ?_
              rintro e v51 ⟨n6, rfl, ⟨m0, m1, _⟩, hb, hr⟩
              replace SB := hid (SB.out.but hb)
              replace SC := hid (SC.out.but hb)
              replace HW := hid (HW.out.trans hb)
              replace K := hid (K.out.trans (KeepP.but hb (by simp; omega)))
              replace HR := hid hr
              clear hb hr
              go_wp2_with fail
              refine ⟨K.out.ex, ?_⟩
              rw [ordW_one]
              simp only [pick, List.getElem?_cons_succ, List.getElem?_cons_zero]
              go_wp2_with fail
              refine (num_sl [-1, 0, 1] (-1) 1 (by simp) (by decide) (by decide) B v51 R (q0 + 1 + 1) bB HR.out SB.out (by omega)).mono ?_
              rintro e v52 ⟨n9, rfl, _, hb, hr⟩
              clear SB
              replace SC := hid (SC.out.but hb)
              replace HW := hid (HW.out.trans hb)
              replace K := hid (K.out.trans (KeepP.but hb (by simp; omega)))
              replace HR := hid hr
              clear hb hr
              go_wp2_with fail
              refine ⟨K.out.ex, ?_⟩
              rw [ordW_one]
              simp only [pick, List.getElem?_cons_succ, List.getElem?_cons_zero]
              go_wp2_with fail
              refine (num_sl [-1, 0, 1] (-1) 1 (by simp) (by decide) (by decide) B v52 R (q0 + 1 + 1 + 1) bC HR.out SC.out (by omega)).mono ?_
              rintro e v53 ⟨n12, rfl, _, hb, hr⟩
              clear SC
              replace HW := hid (HW.out.trans hb)
              replace K := hid (K.out.trans (KeepP.but hb (by simp; omega)))
              replace HR := hid hr
              clear hb hr
              go_wp2_with fail
              refine ⟨K.out.ex, ?_⟩
              rw [ordW_two]
              simp only [pick, List.getElem?_cons_succ, List.getElem?_cons_zero]
              refine ⟨?_, ?_⟩
              · go_wp2_with fail
                refine ⟨K.out.ex, ?_⟩
                rw [ordW_one]
                simp only [pick, List.getElem?_cons_succ, List.getElem?_cons_zero]
                have HFin := hid (ap_fin (w := w) (W := v53) (a5 := a5) (a6 := a6) (k5 := k5) (k6 := k6) (l5 := ls.length) (l6 := vs.length) hs hbn hwR c2 c3 c4 hB1 HW.out n4 n6 n9 n12)
                obtain ⟨x0, x1, x2, x3, x4⟩ := boxp_but HW.out (show w.heap.size ≠ R by omega) c2
                obtain ⟨y0, y1, y2, y3, y4⟩ := boxp_but HW.out (show w.heap.size + 1 ≠ R by omega) c3
                obtain ⟨z0, ⟨z1, z2, z3, z4⟩, zf⟩ := box4_block HW.out.size (HW.out.block _ c4.1 (show w.heap.size + 1 + 1 ≠ R by omega)) c4
                have zf0 := zf 0
                have zf1 := zf 1
                have zf2 := zf 2
                have zf3 := zf 3
                clear zf
                replace K := hid ((K.out.set (a := ⟨w.heap.size, 0, none⟩) (by simp; omega) (.slice a7 s.init.length k7)).set (a := ⟨w.heap.size, 1, none⟩) (by simp; omega) (.slice a8 s.procs.length k8))
                go_wp2_with fail
                refine ⟨K.out.ex, ?_⟩
                rw [ordW_one]
                simp only [pick, List.getElem?_cons_succ, List.getElem?_cons_zero]
                replace K := hid ((K.out.set (a := ⟨w.heap.size + 1, 0, none⟩) (by simp; omega) (.slice a5 ls.length k5)).set (a := ⟨w.heap.size + 1, 1, none⟩) (by simp; omega) (.slice a6 vs.length k6))
                go_wp2_with fail
                refine ⟨K.out.ex, ?_⟩
                rw [ordW_fre]
                simp only [pick, List.getElem?_cons_succ, List.getElem?_cons_zero]
                go_wp2_with fail
                rw [ordW_done]
                go_wp2_with fail
                go_meet
                exact HFin
              · have HFin := hid (ap_fin (w := w) (W := v53) (a5 := a5) (a6 := a6) (k5 := k5) (k6 := k6) (l5 := ls.length) (l6 := vs.length) hs hbn hwR c2 c3 c4 hB1 HW.out n4 n6 n9 n12)
                obtain ⟨x0, x1, x2, x3, x4⟩ := boxp_but HW.out (show w.heap.size ≠ R by omega) c2
                obtain ⟨y0, y1, y2, y3, y4⟩ := boxp_but HW.out (show w.heap.size + 1 ≠ R by omega) c3
                obtain ⟨z0, ⟨z1, z2, z3, z4⟩, zf⟩ := box4_block HW.out.size (HW.out.block _ c4.1 (show w.heap.size + 1 + 1 ≠ R by omega)) c4
                have zf0 := zf 0
                have zf1 := zf 1
                have zf2 := zf 2
                have zf3 := zf 3
                clear zf
                replace K := hid ((K.out.set (a := ⟨w.heap.size, 0, none⟩) (by simp; omega) (.slice a7 s.init.length k7)).set (a := ⟨w.heap.size, 1, none⟩) (by simp; omega) (.slice a8 s.procs.length k8))
                go_wp2_with fail
                refine ⟨K.out.ex, ?_⟩
                rw [ordW_two]
                simp only [pick, List.getElem?_cons_succ, List.getElem?_cons_zero]
                refine ⟨?_, ?_⟩
                · go_wp2_with fail
                  refine ⟨K.out.ex, ?_⟩
                  rw [ordW_one]
                  simp only [pick, List.getElem?_cons_succ, List.getElem?_cons_zero]
                  replace K := hid ((K.out.set (a := ⟨w.heap.size + 1, 0, none⟩) (by simp; omega) (.slice a5 ls.length k5)).set (a := ⟨w.heap.size + 1, 1, none⟩) (by simp; omega) (.slice a6 vs.length k6))
                  go_wp2_with fail
                  refine ⟨K.out.ex, ?_⟩
                  rw [ordW_fre]
                  simp only [pick, List.getElem?_cons_succ, List.getElem?_cons_zero]
                  go_wp2_with fail
                  rw [ordW_done]
                  go_wp2_with fail
                  go_meet
                  exact HFin
                · replace K := hid ((K.out.set (a := ⟨w.heap.size + 1, 0, none⟩) (by simp; omega) (.slice a5 ls.length k5)).set (a := ⟨w.heap.size + 1, 1, none⟩) (by simp; omega) (.slice a6 vs.length k6))
                  go_wp2_with fail
                  refine ⟨K.out.ex, ?_⟩
                  rw [ordW_one]
                  simp only [pick, List.getElem?_cons_succ, List.getElem?_cons_zero]
                  go_wp2_with fail
                  refine ⟨K.out.ex, ?_⟩
                  rw [ordW_fre]
                  simp only [pick, List.getElem?_cons_succ, List.getElem?_cons_zero]
                  go_wp2_with fail
                  rw [ordW_done]
                  go_wp2_with fail
                  go_meet
                  exact HFin
          · go_wp2_with fail
            have h0 := below_alloc v1 (.cells (([-1, 0, 1] : List Int).map (Value.int .i64)).toArray 3)
            have hRl := HR.out.lt
            refine ⟨(K.out.trans (KeepP.below h0)).ex, ?_⟩
            replace SA := hid (SA.out.next h0)
            have SC := hid (SlIn.new v1 [-1, 0, 1] 3 R (by omega))
            replace HR := hid (HR.out.next h0)
            replace HW := hid (HW.out.next h0)
            replace K := hid (K.out.trans (KeepP.below h0))
            clear h0 hRl
            obtain ⟨bC, hbC⟩ : ∃ b, b = v1.heap.size := ⟨_, rfl⟩
            rw [← hbC] at SC ⊢
            clear hbC
            obtain ⟨v54, hv⟩ : ∃ v, v = v1.alloc (.cells #[.int .i64 (-1), .int .i64 0, .int .i64 1] 3) := ⟨_, rfl⟩
            have hv2 : v54 = v1.alloc (.cells (([-1, 0, 1] : List Int).map (Value.int .i64)).toArray 3) := hv
            rw [← hv2] at HR HW K SC SA
            rw [← hv]
            clear hv hv2
            rw [ordW_two]
            simp only [pick, List.getElem?_cons_succ, List.getElem?_cons_zero]
            refine ⟨?_, ?_⟩
            · go_wp2_with fail
              refine (num_sl [0, 1, -1, 3] (-1) 3 (by simp) (by decide) (by decide) B v54 R (q0) bA HR.out SA.out (by omega)).mono ?_
              rintro e v55 ⟨n4, rfl, _, hb, hr⟩
              clear SA
              replace SC := hid (SC.out.but hb)
              replace HW := hid (HW.out.trans hb)
              replace K := hid (K.out.trans (KeepP.but hb (by simp; omega)))
              replace HR := hid hr
              clear hb hr
              go_wp2_with fail
              refine ⟨K.out.ex, ?_⟩
              rw [ordW_two]
              simp only [pick, List.getElem?_cons_succ, List.getElem?_cons_zero]
              refine ⟨?_, ?_⟩
              · go_wp2_with fail
                refine (pick_any B _ v55 R (q0 + 1) HR.out (by omega) (by omega) (by omega)).mono ?_
                rintro e v56 ⟨n6, rfl, ⟨m0, m1, _⟩, hb, hr⟩
                replace SC := hid (SC.out.but hb)
                replace HW := hid (HW.out.trans hb)
                replace K := hid (K.out.trans (KeepP.but hb (by simp; omega)))
                replace HR := hid hr
                clear hb hr
                go_wp2_with fail
                refine ⟨K.out.ex, ?_⟩
                rw [ordW_one]
                simp only [pick, List.getElem?_cons_succ, List.getElem?_cons_zero]
                go_wp2_with fail
                have h0 := below_alloc v56 (.cells (([-1, 0, 1] : List Int).map (Value.int .i64)).toArray 3)
                have hRl := HR.out.lt
                refine ⟨(K.out.trans (KeepP.below h0)).ex, ?_⟩
                replace SC := hid (SC.out.next h0)
                have SB := hid (SlIn.new v56 [-1, 0, 1] 3 R (by omega))
                replace HR := hid (HR.out.next h0)
                replace HW := hid (HW.out.next h0)
                replace K := hid (K.out.trans (KeepP.below h0))
                clear h0 hRl
                obtain ⟨bB, hbB⟩ : ∃ b, b = v56.heap.size := ⟨_, rfl⟩
                rw [← hbB] at SB ⊢
                clear hbB
                obtain ⟨v57, hv⟩ : ∃ v, v = v56.alloc (.cells #[.int .i64 (-1), .int .i64 0, .int .i64 1] 3) := ⟨_, rfl⟩
                have hv2 : v57 = v56.alloc (.cells (([-1, 0, 1] : List Int).map (Value.int .i64)).toArray 3) := hv
                rw [← hv2] at HR HW K SB SC
                rw [← hv]
                clear hv hv2
                rw [ordW_one]
                simp only [pick, List.getElem?_cons_succ, List.getElem?_cons_zero]
                go_wp2_with fail
                refine (num_sl [-1, 0, 1] (-1) 1 (by simp) (by decide) (by decide) B v57 R (q0 + 1 + 1) bB HR.out SB.out (by omega)).mono ?_
                rintro e v58 ⟨n9, rfl, _, hb, hr⟩
                clear SB
                replace SC := hid (SC.out.but hb)
                replace HW := hid (HW.out.trans hb)
                replace K := hid (K.out.trans (KeepP.but hb (by simp; omega)))
                replace HR := hid hr
                clear hb hr
                go_wp2_with fail
                refine ⟨K.out.ex, ?_⟩
                rw [ordW_one]
                simp only [pick, List.getElem?_cons_succ, List.getElem?_cons_zero]
                go_wp2_with fail
                refine (num_sl [-1, 0, 1] (-1) 1 (by simp) (by decide) (by decide) B v58 R (q0 + 1 + 1 + 1) bC HR.out SC.out (by omega)).mono ?_
                rintro e v59 ⟨n12, rfl, _, hb, hr⟩
                clear SC
                replace HW := hid (HW.out.trans hb)
                replace K := hid (K.out.trans (KeepP.but hb (by simp; omega)))
                replace HR := hid hr
                clear hb hr
                go_wp2_with fail
                refine ⟨K.out.ex, ?_⟩
                rw [ordW_two]
                simp only [pick, List.getElem?_cons_succ, List.getElem?_cons_zero]
                refine ⟨?_, ?_⟩
                · go_wp2_with fail
                  refine ⟨K.out.ex, ?_⟩
                  rw [ordW_one]
                  simp only [pick, List.getElem?_cons_succ, List.getElem?_cons_zero]
                  have HFin := hid (ap_fin (w := w) (W := v59) (a5 := a5) (a6 := a6) (k5 := k5) (k6 := k6) (l5 := ls.length) (l6 := vs.length) hs hbn hwR c2 c3 c4 hB1 HW.out n4 n6 n9 n12)
                  obtain ⟨x0, x1, x2, x3, x4⟩ := boxp_but HW.out (show w.heap.size ≠ R by omega) c2
                  obtain ⟨y0, y1, y2, y3, y4⟩ := boxp_but HW.out (show w.heap.size + 1 ≠ R by omega) c3
                  obtain ⟨z0, ⟨z1, z2, z3, z4⟩, zf⟩ := box4_block HW.out.size (HW.out.block _ c4.1 (show w.heap.size + 1 + 1 ≠ R by omega)) c4
                  have zf0 := zf 0
                  have zf1 := zf 1
                  have zf2 := zf 2
                  have zf3 := zf 3
                  clear zf
                  replace K := hid ((K.out.set (a := ⟨w.heap.size, 0, none⟩) (by simp; omega) (.slice a7 s.init.length k7)).set (a := ⟨w.heap.size, 1, none⟩) (by simp; omega) (.slice a8 s.procs.length k8))
                  go_wp2_with fail
                  refine ⟨K.out.ex, ?_⟩
                  rw [ordW_one]
                  simp only [pick, List.getElem?_cons_succ, List.getElem?_cons_zero]
                  replace K := hid ((K.out.set (a := ⟨w.heap.size + 1, 0, none⟩) (by simp; omega) (.slice a5 ls.length k5)).set (a := ⟨w.heap.size + 1, 1, none⟩) (by simp; omega) (.slice a6 vs.length k6))
                  go_wp2_with fail
                  refine ⟨K.out.ex, ?_⟩
                  rw [ordW_fre]
                  simp only [pick, List.getElem?_cons_succ, List.getElem?_cons_zero]
                  go_wp2_with fail
                  rw [ordW_done]
                  go_wp2_with fail
                  go_meet
                  exact HFin
                · have HFin := hid (ap_fin (w := w) (W := v59) (a5 := a5) (a6 := a6) (k5 := k5) (k6 := k6) (l5 := ls.length) (l6 := vs.length) hs hbn hwR c2 c3 c4 hB1 HW.out n4 n6 n9 n12)
                  obtain ⟨x0, x1, x2, x3, x4⟩ := boxp_but HW.out (show w.heap.size ≠ R by omega) c2
                  obtain ⟨y0, y1, y2, y3, y4⟩ := boxp_but HW.out (show w.heap.size + 1 ≠ R by omega) c3
                  obtain ⟨z0, ⟨z1, z2, z3, z4⟩, zf⟩ := box4_block HW.out.size (HW.out.block _ c4.1 (show w.heap.size + 1 + 1 ≠ R by omega)) c4
                  have zf0 := zf 0
                  have zf1 := zf 1
                  have zf2 := zf 2
                  have zf3 := zf 3
                  clear zf
                  replace K := hid ((K.out.set (a := ⟨w.heap.size, 0, none⟩) (by simp; omega) (.slice a7 s.init.length k7)).set (a := ⟨w.heap.size, 1, none⟩) (by simp; omega) (.slice a8 s.procs.length k8))
                  go_wp2_with fail
                  refine ⟨K.out.ex, ?_⟩
                  rw [ordW_two]
                  simp only [pick, List.getElem?_cons_succ, List.getElem?_cons_zero]
                  refine ⟨?_, ?_⟩
                  · go_wp2_with fail
                    refine ⟨K.out.ex, ?_⟩
                    rw [ordW_one]
                    simp only [pick, List.getElem?_cons_succ, List.getElem?_cons_zero]
                    replace K := hid ((K.out.set (a := ⟨w.heap.size + 1, 0, none⟩) (by simp; omega) (.slice a5 ls.length k5)).set (a := ⟨w.heap.size + 1, 1, none⟩) (by simp; omega) (.slice a6 vs.length k6))
                    go_wp2_with fail
                    refine ⟨K.out.ex, ?_⟩
                    rw [ordW_fre]
                    simp only [pick, List.getElem?_cons_succ, List.getElem?_cons_zero]
                    go_wp2_with fail
                    rw [ordW_done]
                    go_wp2_with fail
                    go_meet
                    exact HFin
                  · replace K := hid ((K.out.set (a := ⟨w.heap.size + 1, 0, none⟩) (by simp; omega) (.slice a5 ls.length k5)).set (a := ⟨w.heap.size + 1, 1, none⟩) (by simp; omega) (.slice a6 vs.length k6))
                    go_wp2_with fail
                    refine ⟨K.out.ex, ?_⟩
                    rw [ordW_one]
                    simp only [pick, List.getElem?_cons_succ, List.getElem?_cons_zero]
                    go_wp2_with fail
                    refine ⟨K.out.ex, ?_⟩
                    rw [ordW_fre]
                    simp only [pick, List.getElem?_cons_succ, List.getElem?_cons_zero]
                    go_wp2_with fail
                    rw [ordW_done]
                    go_wp2_with fail
                    go_meet
                    exact HFin
              · go_wp2_with fail
                have h0 := below_alloc v55 (.cells (([-1, 0, 1] : List Int).map (Value.int .i64)).toArray 3)
                have hRl := HR.out.lt
                refine ⟨(K.out.trans (KeepP.below h0)).ex, ?_⟩
                replace SC := hid (SC.out.next h0)
                have SB := hid (SlIn.new v55 [-1, 0, 1] 3 R (by omega))
                replace HR := hid (HR.out.next h0)
                replace HW := hid (HW.out.next h0)
                replace K := hid (K.out.trans (KeepP.below h0))
                clear h0 hRl
                obtain ⟨bB, hbB⟩ : ∃ b, b = v55.heap.size := ⟨_, rfl⟩
                rw [← hbB] at SB ⊢
                clear hbB
                obtain ⟨v60, hv⟩ : ∃ v, v = v55.alloc (.cells #[.int .i64 (-1), .int .i64 0, .int .i64 1] 3) := ⟨_, rfl⟩
                have hv2 : v60 = v55.alloc (.cells (([-1, 0, 1] : List Int).map (Value.int .i64)).toArray 3) := hv
                rw [← hv2] at HR HW K SB SC
                rw [← hv]
                clear hv hv2
                rw [ordW_one]
                simp only [pick, List.getElem?_cons_succ, List.getElem?_cons_zero]
                go_wp2_with fail
                refine (pick_any B _ v60 R (q0 + 1) HR.out (by omega) (by omega) (by omega)).mono ?_
                rintro e v61 ⟨n6, rfl, ⟨m0, m1, _⟩, hb, hr⟩
                replace SC := hid (SC.out.but hb)
                replace SB := hid (SB.out.but hb)
                replace HW := hid (HW.out.trans hb)
                replace K := hid (K.out.trans (KeepP.but hb (by simp; omega)))
                replace HR := hid hr
                clear hb hr
                go_wp2_with fail
                refine ⟨K.out.ex, ?_⟩
                rw [ordW_one]
                simp only [pick, List.getElem?_cons_succ, List.getElem?_cons_zero]
                go_wp2_with fail
                refine (num_sl [-1, 0, 1] (-1) 1 (by simp) (by decide) (by decide) B v61 R (q0 + 1 + 1) bB HR.out SB.out (by omega)).mono ?_
                rintro e v62 ⟨n9, rfl, _, hb, hr⟩
                clear SB
                replace SC := hid (SC.out.but hb)
                replace HW := hid (HW.out.trans hb)
                replace K := hid (K.out.trans (KeepP.but hb (by simp; omega)))
                replace HR := hid hr
                clear hb hr
                go_wp2_with fail
                refine ⟨K.out.ex, ?_⟩
                rw [ordW_one]
                simp only [pick, List.getElem?_cons_succ, List.getElem?_cons_zero]
                go_wp2_with fail
                refine (num_sl [-1, 0, 1] (-1) 1 (by simp) (by decide) (by decide) B v62 R (q0 + 1 + 1 + 1) bC HR.out SC.out (by omega)).mono ?_
                rintro e v63 ⟨n12, rfl, _, hb, hr⟩
                clear SC
                replace HW := hid (HW.out.trans hb)
                replace K := hid (K.out.trans (KeepP.but hb (by simp; omega)))
                replace HR := hid hr
                clear hb hr
                go_wp2_with fail
                refine ⟨K.out.ex, ?_⟩
                rw [ordW_two]
                simp only [pick, List.getElem?_cons_succ, List.getElem?_cons_zero]
                refine ⟨?_, ?_⟩
                · go_wp2_with fail
                  refine ⟨K.out.ex, ?_⟩
                  rw [ordW_one]
                  simp only [pick, List.getElem?_cons_succ, List.getElem?_cons_zero]
                  have HFin := hid (ap_fin (w := w) (W := v63) (a5 := a5) (a6 := a6) (k5 := k5) (k6 := k6) (l5 := ls.length) (l6 := vs.length) hs hbn hwR c2 c3 c4 hB1 HW.out n4 n6 n9 n12)
                  obtain ⟨x0, x1, x2, x3, x4⟩ := boxp_but HW.out (show w.heap.size ≠ R by omega) c2
                  obtain ⟨y0, y1, y2, y3, y4⟩ := boxp_but HW.out (show w.heap.size + 1 ≠ R by omega) c3
                  obtain ⟨z0, ⟨z1, z2, z3, z4⟩, zf⟩ := box4_block HW.out.size (HW.out.block _ c4.1 (show w.heap.size + 1 + 1 ≠ R by omega)) c4
                  have zf0 := zf 0
                  have zf1 := zf 1
                  have zf2 := zf 2
                  have zf3 := zf 3
                  clear zf
                  replace K := hid ((K.out.set (a := ⟨w.heap.size, 0, none⟩) (by simp; omega) (.slice a7 s.init.length k7)).set (a := ⟨w.heap.size, 1, none⟩) (by simp; omega) (.slice a8 s.procs.length k8))
                  go_wp2_with fail
                  refine ⟨K.out.ex, ?_⟩
                  rw [ordW_one]
                  simp only [pick, List.getElem?_cons_succ, List.getElem?_cons_zero]
                  replace K := hid ((K.out.set (a := ⟨w.heap.size + 1, 0, none⟩) (by simp; omega) (.slice a5 ls.length k5)).set (a := ⟨w.heap.size + 1, 1, none⟩) (by simp; omega) (.slice a6 vs.length k6))
                  go_wp2_with fail
                  refine ⟨K.out.ex, ?_⟩
                  rw [ordW_fre]
                  simp only [pick, List.getElem?_cons_succ, List.getElem?_cons_zero]
                  go_wp2_with fail
                  rw [ordW_done]
                  go_wp2_with fail
                  go_meet
                  exact HFin
                · have HFin := hid (ap_fin (w := w) (W := v63) (a5 := a5) (a6 := a6) (k5 := k5) (k6 := k6) (l5 := ls.length) (l6 := vs.length) hs hbn hwR c2 c3 c4 hB1 HW.out n4 n6 n9 n12)
                  obtain ⟨x0, x1, x2, x3, x4⟩ := boxp_but HW.out (show w.heap.size ≠ R by omega) c2
                  obtain ⟨y0, y1, y2, y3, y4⟩ := boxp_but HW.out (show w.heap.size + 1 ≠ R by omega) c3
                  obtain ⟨z0, ⟨z1, z2, z3, z4⟩, zf⟩ := box4_block HW.out.size (HW.out.block _ c4.1 (show w.heap.size + 1 + 1 ≠ R by omega)) c4
                  have zf0 := zf 0
                  have zf1 := zf 1
                  have zf2 := zf 2
                  have zf3 := zf 3
                  clear zf
                  replace K := hid ((K.out.set (a := ⟨w.heap.size, 0, none⟩) (by simp; omega) (.slice a7 s.init.length k7)).set (a := ⟨w.heap.size, 1, none⟩) (by simp; omega) (.slice a8 s.procs.length k8))
                  go_wp2_with fail
                  refine ⟨K.out.ex, ?_⟩
                  rw [ordW_two]
                  simp only [pick, List.getElem?_cons_succ, List.getElem?_cons_zero]
                  refine ⟨?_, ?_⟩
                  · go_wp2_with fail
                    refine ⟨K.out.ex, ?_⟩
                    rw [ordW_one]
                    simp only [pick, List.getElem?_cons_succ, List.getElem?_cons_zero]
                    replace K := hid ((K.out.set (a := ⟨w.heap.size + 1, 0, none⟩) (by simp; omega) (.slice a5 ls.length k5)).set (a := ⟨w.heap.size + 1, 1, none⟩) (by simp; omega) (.slice a6 vs.length k6))
                    go_wp2_with fail
                    refine ⟨K.out.ex, ?_⟩
                    rw [ordW_fre]
                    simp only [pick, List.getElem?_cons_succ, List.getElem?_cons_zero]
                    go_wp2_with fail
                    rw [ordW_done]
                    go_wp2_with fail
                    go_meet
                    exact HFin
                  · replace K := hid ((K.out.set (a := ⟨w.heap.size + 1, 0, none⟩) (by simp; omega) (.slice a5 ls.length k5)).set (a := ⟨w.heap.size + 1, 1, none⟩) (by simp; omega) (.slice a6 vs.length k6))
                    go_wp2_with fail
                    refine ⟨K.out.ex, ?_⟩
                    rw [ordW_one]
                    simp only [pick, List.getElem?_cons_succ, List.getElem?_cons_zero]
                    go_wp2_with fail
                    refine ⟨K.out.ex, ?_⟩
                    rw [ordW_fre]
                    simp only [pick, List.getElem?_cons_succ, List.getElem?_cons_zero]
                    go_wp2_with fail
                    rw [ordW_done]
                    go_wp2_with fail
                    go_meet
                    exact HFin
            · go_wp2_with fail
              have h0 := below_alloc v54 (.cells (([-1, 0, 1] : List Int).map (Value.int .i64)).toArray 3)
              have hRl := HR.out.lt
              refine ⟨(K.out.trans (KeepP.below h0)).ex, ?_⟩
              replace SA := hid (SA.out.next h0)
              replace SC := hid (SC.out.next h0)
              have SB := hid (SlIn.new v54 [-1, 0, 1] 3 R (by omega))
              replace HR := hid (HR.out.next h0)
              replace HW := hid (HW.out.next h0)
              replace K := hid (K.out.trans (KeepP.below h0))
              clear h0 hRl
              obtain ⟨bB, hbB⟩ : ∃ b, b = v54.heap.size := ⟨_, rfl⟩
              rw [← hbB] at SB ⊢
              clear hbB
              obtain ⟨v64, hv⟩ : ∃ v, v = v54.alloc (.cells #[.int .i64 (-1), .int .i64 0, .int .i64 1] 3) := ⟨_, rfl⟩
              have hv2 : v64 = v54.alloc (.cells (([-1, 0, 1] : List Int).map (Value.int .i64)).toArray 3) := hv
              rw [← hv2] at HR HW K SB SA SC
              rw [← hv]
              clear hv hv2
              rw [ordW_one]
              simp only [pick, List.getElem?_cons_succ, List.getElem?_cons_zero]
              go_wp2_with fail
              refine (num_sl [0, 1, -1, 3] (-1) 3 (by simp) (by decide) (by decide) B v64 R (q0) bA HR.out SA.out (by omega)).mono ?_
              rintro e v65 ⟨n4, rfl, _, hb, hr⟩
              clear SA
              replace SC := hid (SC.out.but hb)
              replace SB := hid (SB.out.but hb)
              replace HW := hid (HW.out.trans hb)
              replace K := hid (K.out.trans (KeepP.but hb (by simp; omega)))
              replace HR := hid hr
              clear hb hr
              go_wp2_with fail
              refine ⟨K.out.ex, ?_⟩
              rw [ordW_one]
              simp only [pick, List.getElem?_cons_succ, List.getElem?_cons_zero]
              go_wp2_with fail
              refine (pick_any B _ v65 R (q0 + 1) HR.out (by omega) (by omega) (by omega)).mono ?_
              rintro e v66 ⟨n6, rfl, ⟨m0, m1, _⟩, hb, hr⟩
              replace SC := hid (SC.out.but hb)
              replace SB := hid (SB.out.but hb)
              replace HW := hid (HW.out.trans hb)
              replace K := hid (K.out.trans (KeepP.but hb (by simp; omega)))
              replace HR := hid hr
              clear hb hr
              go_wp2_with fail
              refine ⟨K.out.ex, ?_⟩
              rw [ordW_one]
              simp only [pick, List.getElem?_cons_succ, List.getElem?_cons_zero]
              go_wp2_with fail
              refine (num_sl [-1, 0, 1] (-1) 1 (by simp) (by decide) (by decide) B v66 R (q0 + 1 + 1) bB HR.out SB.out (by omega)).mono ?_
              rintro e v67 ⟨n9, rfl, _, hb, hr⟩
              clear SB
              replace SC := hid (SC.out.but hb)
              replace HW := hid (HW.out.trans hb)
              replace K := hid (K.out.trans (KeepP.but hb (by simp; omega)))
              replace HR := hid hr
              clear hb hr
              go_wp2_with fail
              refine ⟨K.out.ex, ?_⟩
              rw [ordW_one]
              simp only [pick, List.getElem?_cons_succ, List.getElem?_cons_zero]
              go_wp2_with fail
              refine (num_sl [-1, 0, 1] (-1) 1 (by simp) (by decide) (by decide) B v67 R (q0 + 1 + 1 + 1) bC HR.out SC.out (by omega)).mono ?_
              rintro e v68 ⟨n12, rfl, _, hb, hr⟩
              clear SC
              replace HW := hid (HW.out.trans hb)
              replace K := hid (K.out.trans (KeepP.but hb (by simp; omega)))
              replace HR := hid hr
              clear hb hr
              go_wp2_with fail
              refine ⟨K.out.ex, ?_⟩
              rw [ordW_two]
              simp only [pick, List.getElem?_cons_succ, List.getElem?_cons_zero]
              refine ⟨?_, ?_⟩
              · go_wp2_with fail
                refine ⟨K.out.ex, ?_⟩
                rw [ordW_one]
                simp only [pick, List.getElem?_cons_succ, List.getElem?_cons_zero]
                have HFin := hid (ap_fin (w := w) (W := v68) (a5 := a5) (a6 := a6) (k5 := k5) (k6 := k6) (l5 := ls.length) (l6 := vs.length) hs hbn hwR c2 c3 c4 hB1 HW.out n4 n6 n9 n12)
                obtain ⟨x0, x1, x2, x3, x4⟩ := boxp_but HW.out (show w.heap.size ≠ R by omega) c2
                obtain ⟨y0, y1, y2, y3, y4⟩ := boxp_but HW.out (show w.heap.size + 1 ≠ R by omega) c3
                obtain ⟨z0, ⟨z1, z2, z3, z4⟩, zf⟩ := box4_block HW.out.size (HW.out.block _ c4.1 (show w.heap.size + 1 + 1 ≠ R by omega)) c4
                have zf0 := zf 0
                have zf1 := zf 1
                have zf2 := zf 2
                have zf3 := zf 3
                clear zf
                replace K := hid ((K.out.set (a := ⟨w.heap.size, 0, none⟩) (by simp; omega) (.slice a7 s.init.length k7)).set (a := ⟨w.heap.size, 1, none⟩) (by simp; omega) (.slice a8 s.procs.length k8))
                go_wp2_with fail
                refine ⟨K.out.ex, ?_⟩
                rw [ordW_one]
                simp only [pick, List.getElem?_cons_succ, List.getElem?_cons_zero]
                replace K := hid ((K.out.set (a := ⟨w.heap.size + 1, 0, none⟩) (by simp; omega) (.slice a5 ls.length k5)).set (a := ⟨w.heap.size + 1, 1, none⟩) (by simp; omega) (.slice a6 vs.length k6))
                go_wp2_with fail
                refine ⟨K.out.ex, ?_⟩
                rw [ordW_fre]
                simp only [pick, List.getElem?_cons_succ, List.getElem?_cons_zero]
                go_wp2_with fail
                rw [ordW_done]
                go_wp2_with fail
                go_meet
                exact HFin
              · have HFin := hid (ap_fin (w := w) (W := v68) (a5 := a5) (a6 := a6) (k5 := k5) (k6 := k6) (l5 := ls.length) (l6 := vs.length) hs hbn hwR c2 c3 c4 hB1 HW.out n4 n6 n9 n12)
                obtain ⟨x0, x1, x2, x3, x4⟩ := boxp_but HW.out (show w.heap.size ≠ R by omega) c2
                obtain ⟨y0, y1, y2, y3, y4⟩ := boxp_but HW.out (show w.heap.size + 1 ≠ R by omega) c3
                obtain ⟨z0, ⟨z1, z2, z3, z4⟩, zf⟩ := box4_block HW.out.size (HW.out.block _ c4.1 (show w.heap.size + 1 + 1 ≠ R by omega)) c4
                have zf0 := zf 0
                have zf1 := zf 1
                have zf2 := zf 2
                have zf3 := zf 3
                clear zf
                replace K := hid ((K.out.set (a := ⟨w.heap.size, 0, none⟩) (by simp; omega) (.slice a7 s.init.length k7)).set (a := ⟨w.heap.size, 1, none⟩) (by simp; omega) (.slice a8 s.procs.length k8))
                go_wp2_with fail
                refine ⟨K.out.ex, ?_⟩
                rw [ordW_two]
                simp only [pick, List.getElem?_cons_succ, List.getElem?_cons_zero]
                refine ⟨?_, ?_⟩
                · go_wp2_with fail
                  refine ⟨K.out.ex, ?_⟩
                  rw [ordW_one]
                  simp only [pick, List.getElem?_cons_succ, List.getElem?_cons_zero]
                  replace K := hid ((K.out.set (a := ⟨w.heap.size + 1, 0, none⟩) (by simp; omega) (.slice a5 ls.length k5)).set (a := ⟨w.heap.size + 1, 1, none⟩) (by simp; omega) (.slice a6 vs.length k6))
                  go_wp2_with fail
                  refine ⟨K.out.ex, ?_⟩
                  rw [ordW_fre]
                  simp only [pick, List.getElem?_cons_succ, List.getElem?_cons_zero]
                  go_wp2_with fail
                  rw [ordW_done]
                  go_wp2_with fail
                  go_meet
                  exact HFin
                · replace K := hid ((K.out.set (a := ⟨w.heap.size + 1, 0, none⟩) (by simp; omega) (.slice a5 ls.length k5)).set (a := ⟨w.heap.size + 1, 1, none⟩) (by simp; omega) (.slice a6 vs.length k6))
                  go_wp2_with fail
                  refine ⟨K.out.ex, ?_⟩
                  rw [ordW_one]
                  simp only [pick, List.getElem?_cons_succ, List.getElem?_cons_zero]
                  go_wp2_with fail
                  refine ⟨K.out.ex, ?_⟩
                  rw [ordW_fre]
                  simp only [pick, List.getElem?_cons_succ, List.getElem?_cons_zero]
                  go_wp2_with fail
                  rw [ordW_done]
                  go_wp2_with fail
                  go_meet
                  exact HFin
        · go_wp2_with fail
          have h0 := below_alloc v0 (.cells (([-1, 0, 1] : List Int).map (Value.int .i64)).toArray 3)
          have hRl := HR.out.lt
          refine ⟨(K.out.trans (KeepP.below h0)).ex, ?_⟩
          have SB := hid (SlIn.new v0 [-1, 0, 1] 3 R (by omega))
          replace HR := hid (HR.out.next h0)
          replace HW := hid (HW.out.next h0)
          replace K := hid (K.out.trans (KeepP.below h0))
          clear h0 hRl
          obtain ⟨bB, hbB⟩ : ∃ b, b = v0.heap.size := ⟨_, rfl⟩
          rw [← hbB] at SB ⊢
          clear hbB
          obtain ⟨v69, hv⟩ : ∃ v, v = v0.alloc (.cells #[.int .i64 (-1), .int .i64 0, .int .i64 1] 3) := ⟨_, rfl⟩
          have hv2 : v69 = v0.alloc (.cells (([-1, 0, 1] : List Int).map (Value.int .i64)).toArray 3) := hv
          rw [← hv2] at HR HW K SB
          rw [← hv]
          clear hv hv2
          rw [ordW_two]
          simp only [pick, List.getElem?_cons_succ, List.getElem?_cons_zero]
          refine ⟨?_, ?_⟩
          · go_wp2_with fail
            have h0 := below_alloc v69 (.cells (([0, 1, -1, 3] : List Int).map (Value.int .i64)).toArray 3)
            have hRl := HR.out.lt
            refine ⟨(K.out.trans (KeepP.below h0)).ex, ?_⟩
            replace SB := hid (SB.out.next h0)
            have SA := hid (SlIn.new v69 [0, 1, -1, 3] 3 R (by omega))
            replace HR := hid (HR.out.next h0)
            replace HW := hid (HW.out.next h0)
            replace K := hid (K.out.trans (KeepP.below h0))
            clear h0 hRl
            obtain ⟨bA, hbA⟩ : ∃ b, b = v69.heap.size := ⟨_, rfl⟩
            rw [← hbA] at SA ⊢
            clear hbA
            obtain ⟨v70, hv⟩ : ∃ v, v = v69.alloc (.cells #[.int .i64 0, .int .i64 1, .int .i64 (-1), .int .i64 3] 3) := ⟨_, rfl⟩
            have hv2 : v70 = v69.alloc (.cells (([0, 1, -1, 3] : List Int).map (Value.int .i64)).toArray 3) := hv
            rw [← hv2] at HR HW K SA SB
            rw [← hv]
            clear hv hv2
            rw [ordW_two]
            simp only [pick, List.getElem?_cons_succ, List.getElem?_cons_zero]
            refine ⟨?_, ?_⟩
            · go_wp2_with fail
              refine (num_sl [0, 1, -1, 3] (-1) 3 (by simp) (by decide) (by decide) B v70 R (q0) bA HR.out SA.out (by omega)).mono ?_
              rintro e v71 ⟨n4, rfl, _, hb, hr⟩
              clear SA
              replace SB := hid (SB.out.but hb)
              replace HW := hid (HW.out.trans hb)
              replace K := hid (K.out.trans (KeepP.but hb (by simp; omega)))
              replace HR := hid hr
              clear hb hr
              go_wp2_with fail
              refine ⟨K.out.ex, ?_⟩
              rw [ordW_two]
              simp only [pick, List.getElem?_cons_succ, List.getElem?_cons_zero]
              refine ⟨?_, ?_⟩
              · go_wp2_with fail
                refine (pick_any B _ v71 R (q0 + 1) HR.out (by omega) (by omega) (by omega)).mono ?_
                rintro e v72 ⟨n6, rfl, ⟨m0, m1, _⟩, hb, hr⟩
                replace SB := hid (SB.out.but hb)
                replace HW := hid (HW.out.trans hb)
                replace K := hid (K.out.trans (KeepP.but hb (by simp; omega)))
                replace HR := hid hr
                clear hb hr
                go_wp2_with fail
                refine ⟨K.out.ex, ?_⟩
                rw [ordW_two]
                simp only [pick, List.getElem?_cons_succ, List.getElem?_cons_zero]
                refine ⟨?_, ?_⟩
                · go_wp2_with fail
                  refine (num_sl [-1, 0, 1] (-1) 1 (by simp) (by decide) (by decide) B v72 R (q0 + 1 + 1) bB HR.out SB.out (by omega)).mono ?_
                  rintro e v73 ⟨n9, rfl, _, hb, hr⟩
                  clear SB
                  replace HW := hid (HW.out.trans hb)
                  replace K := hid (K.out.trans (KeepP.but hb (by simp; omega)))
                  replace HR := hid hr
                  clear hb hr
                  go_wp2_with fail
                  refine ⟨K.out.ex, ?_⟩
                  rw [ordW_one]
                  simp only [pick, List.getElem?_cons_succ, List.getElem?_cons_zero]
                  go_wp2_with fail
                  have h0 := below_alloc v73 (.cells (([-1, 0, 1] : List Int).map (Value.int .i64)).toArray 3)
                  have hRl := HR.out.lt
                  refine ⟨(K.out.trans (KeepP.below h0)).ex, ?_⟩
                  have SC := hid (SlIn.new v73 [-1, 0, 1] 3 R (by omega))
                  replace HR := hid (HR.out.next h0)
                  replace HW := hid (HW.out.next h0)
                  replace K := hid (K.out.trans (KeepP.below h0))
                  clear h0 hRl
                  obtain ⟨bC, hbC⟩ : ∃ b, b = v73.heap.size := ⟨_, rfl⟩
                  rw [← hbC] at SC ⊢
                  clear hbC
                  obtain ⟨v74, hv⟩ : ∃ v, v = v73.alloc (.cells #[.int .i64 (-1), .int .i64 0, .int .i64 1] 3) := ⟨_, rfl⟩
                  have hv2 : v74 = v73.alloc (.cells (([-1, 0, 1] : List Int).map (Value.int .i64)).toArray 3) := hv
                  rw [← hv2] at HR HW K SC
                  rw [← hv]
                  clear hv hv2
                  rw [ordW_one]
                  simp only [pick, List.getElem?_cons_succ, List.getElem?_cons_zero]
                  go_wp2_with fail
                  refine (num_sl [-1, 0, 1] (-1) 1 (by simp) (by decide) (by decide) B v74 R (q0 + 1 + 1 + 1) bC HR.out SC.out (by omega)).mono ?_
                  rintro e v75 ⟨n12, rfl, _, hb, hr⟩
                  clear SC
                  replace HW := hid (HW.out.trans hb)
                  replace K := hid (K.out.trans (KeepP.but hb (by simp; omega)))
                  replace HR := hid hr
                  clear hb hr
                  go_wp2_with fail
                  refine ⟨K.out.ex, ?_⟩
                  rw [ordW_two]
                  simp only [pick, List.getElem?_cons_succ, List.getElem?_cons_zero]
                  refine ⟨?_, ?_⟩
                  · go_wp2_with fail
                    refine ⟨K.out.ex, ?_⟩
                    rw [ordW_one]
                    simp only [pick, List.getElem?_cons_succ, List.getElem?_cons_zero]
                    have HFin := hid (ap_fin (w := w) (W := v75) (a5 := a5) (a6 := a6) (k5 := k5) (k6 := k6) (l5 := ls.length) (l6 := vs.length) hs hbn hwR c2 c3 c4 hB1 HW.out n4 n6 n9 n12)
                    obtain ⟨x0, x1, x2, x3, x4⟩ := boxp_but HW.out (show w.heap.size ≠ R by omega) c2
                    obtain ⟨y0, y1, y2, y3, y4⟩ := boxp_but HW.out (show w.heap.size + 1 ≠ R by omega) c3
                    obtain ⟨z0, ⟨z1, z2, z3, z4⟩, zf⟩ := box4_block HW.out.size (HW.out.block _ c4.1 (show w.heap.size + 1 + 1 ≠ R by omega)) c4
                    have zf0 := zf 0
                    have zf1 := zf 1
                    have zf2 := zf 2
                    have zf3 := zf 3
                    clear zf
                    replace K := hid ((K.out.set (a := ⟨w.heap.size, 0, none⟩) (by simp; omega) (.slice a7 s.init.length k7)).set (a := ⟨w.heap.size, 1, none⟩) (by simp; omega) (.slice a8 s.procs.length k8))
                    go_wp2_with fail
                    refine ⟨K.out.ex, ?_⟩
                    rw [ordW_one]
                    simp only [pick, List.getElem?_cons_succ, List.getElem?_cons_zero]
                    replace K := hid ((K.out.set (a := ⟨w.heap.size + 1, 0, none⟩) (by simp; omega) (.slice a5 ls.length k5)).set (a := ⟨w.heap.size + 1, 1, none⟩) (by simp; omega) (.slice a6 vs.length k6))
                    go_wp2_with fail
                    refine ⟨K.out.ex, ?_⟩
                    rw [ordW_fre]
                    simp only [pick, List.getElem?_cons_succ, List.getElem?_cons_zero]
                    go_wp2_with fail
                    rw [ordW_done]
                    go_wp2_with fail
                    go_meet
                    exact HFin
                  · have HFin := hid (ap_fin (w := w) (W := v75) (a5 := a5) (a6 := a6) (k5 := k5) (k6 := k6) (l5 := ls.length) (l6 := vs.length) hs hbn hwR c2 c3 c4 hB1 HW.out n4 n6 n9 n12)
                    obtain ⟨x0, x1, x2, x3, x4⟩ := boxp_but HW.out (show w.heap.size ≠ R by omega) c2
                    obtain ⟨y0, y1, y2, y3, y4⟩ := boxp_but HW.out (show w.heap.size + 1 ≠ R by omega) c3
                    obtain ⟨z0, ⟨z1, z2, z3, z4⟩, zf⟩ := box4_block HW.out.size (HW.out.block _ c4.1 (show w.heap.size + 1 + 1 ≠ R by omega)) c4
                    have zf0 := zf 0
                    have zf1 := zf 1
                    have zf2 := zf 2
                    have zf3 := zf 3
                    clear zf
                    replace K := hid ((K.out.set (a := ⟨w.heap.size, 0, none⟩) (by simp; omega) (.slice a7 s.init.length k7)).set (a := ⟨w.heap.size, 1, none⟩) (by simp; omega) (.slice a8 s.procs.length k8))
                    go_wp2_with fail
                    refine ⟨K.out.ex, ?_⟩
                    rw [ordW_two]
                    simp only [pick, List.getElem?_cons_succ, List.getElem?_cons_zero]
                    refine ⟨?_, ?_⟩
                    · go_wp2_with fail
                      refine ⟨K.out.ex, ?_⟩
                      rw [ordW_one]
                      simp only [pick, List.getElem?_cons_succ, List.getElem?_cons_zero]
                      replace K := hid ((K.out.set (a := ⟨w.heap.size + 1, 0, none⟩) (by simp; omega) (.slice a5 ls.length k5)).set (a := ⟨w.heap.size + 1, 1, none⟩) (by simp; omega) (.slice a6 vs.length k6))
                      go_wp2_with fail
                      refine ⟨K.out.ex, ?_⟩
                      rw [ordW_fre]
                      simp only [pick, List.getElem?_cons_succ, List.getElem?_cons_zero]
                      go_wp2_with fail
                      rw [ordW_done]
                      go_wp2_with fail
                      go_meet
                      exact HFin
                    · replace K := hid ((K.out.set (a := ⟨w.heap.size + 1, 0, none⟩) (by simp; omega) (.slice a5 ls.length k5)).set (a := ⟨w.heap.size + 1, 1, none⟩) (by simp; omega) (.slice a6 vs.length k6))
                      go_wp2_with fail
                      refine ⟨K.out.ex, ?_⟩
                      rw [ordW_one]
                      simp only [pick, List.getElem?_cons_succ, List.getElem?_cons_zero]
                      go_wp2_with fail
                      refine ⟨K.out.ex, ?_⟩
                      rw [ordW_fre]
                      simp only [pick, List.getElem?_cons_succ, List.getElem?_cons_zero]
                      go_wp2_with fail
                      rw [ordW_done]
                      go_wp2_with fail
                      go_meet
                      exact HFin
                · go_wp2_with fail
                  have h0 := below_alloc v72 (.cells (([-1, 0, 1] : List Int).map (Value.int .i64)).toArray 3)
                  have hRl := HR.out.lt
                  refine ⟨(K.out.trans (KeepP.below h0)).ex, ?_⟩
                  replace SB := hid (SB.out.next h0)
                  have SC := hid (SlIn.new v72 [-1, 0, 1] 3 R (by omega))
                  replace HR := hid (HR.out.next h0)
                  replace HW := hid (HW.out.next h0)
                  replace K := hid (K.out.trans (KeepP.below h0))
                  clear h0 hRl
                  obtain ⟨bC, hbC⟩ : ∃ b, b = v72.heap.size := ⟨_, rfl⟩
                  rw [← hbC] at SC ⊢
                  clear hbC
                  obtain ⟨v76, hv⟩ : ∃ v, v = v72.alloc (.cells #[.int .i64 (-1), .int .i64 0, .int .i64 1] 3) := ⟨_, rfl⟩
                  have hv2 : v76 = v72.alloc (.cells (([-1, 0, 1] : List Int).map (Value.int .i64)).toArray 3) := hv
                  rw [← hv2] at HR HW K SC SB
                  rw [← hv]
                  clear hv hv2
                  rw [ordW_one]
                  simp only [pick, List.getElem?_cons_succ, List.getElem?_cons_zero]
                  go_wp2_with fail
                  refine (num_sl [-1, 0, 1] (-1) 1 (by simp) (by decide) (by decide) B v76 R (q0 + 1 + 1) bB HR.out SB.out (by omega)).mono ?_
                  rintro e v77 ⟨n9, rfl, _, hb, hr⟩
                  clear SB
                  replace SC := hid (SC.out.but hb)
                  replace HW := hid (HW.out.trans hb)
                  replace K := hid (K.out.trans (KeepP.but hb (by simp; omega)))
                  replace HR := hid hr
                  clear hb hr
                  go_wp2_with fail
                  refine ⟨K.out.ex, ?_⟩
                  rw [ordW_one]
                  simp only [pick, List.getElem?_cons_succ, List.getElem?_cons_zero]
                  go_wp2_with fail
                  refine (num_sl [-1, 0, 1] (-1) 1 (by simp) (by decide) (by decide) B v77 R (q0 + 1 + 1 + 1) bC HR.out SC.out (by omega)).mono ?_
                  rintro e v78 ⟨n12, rfl, _, hb, hr⟩
                  clear SC
                  replace HW := hid (HW.out.trans hb)
                  replace K := hid (K.out.trans (KeepP.but hb (by simp; omega)))
                  replace HR := hid hr
                  clear hb hr
                  go_wp2_with fail
                  refine ⟨K.out.ex, ?_⟩
                  rw [ordW_two]
                  simp only [pick, List.getElem?_cons_succ, List.getElem?_cons_zero]
                  refine ⟨?_, ?_⟩
                  · go_wp2_with fail
                    refine ⟨K.out.ex, ?_⟩
                    rw [ordW_one]
                    simp only [pick, List.getElem?_cons_succ, List.getElem?_cons_zero]
                    have HFin := hid (ap_fin (w := w) (W := v78) (a5 := a5) (a6 := a6) (k5 := k5) (k6 := k6) (l5 := ls.length) (l6 := vs.length) hs hbn hwR c2 c3 c4 hB1 HW.out n4 n6 n9 n12)
                    obtain ⟨x0, x1, x2, x3, x4⟩ := boxp_but HW.out (show w.heap.size ≠ R by omega) c2
                    obtain ⟨y0, y1, y2, y3, y4⟩ := boxp_but HW.out (show w.heap.size + 1 ≠ R by omega) c3
                    obtain ⟨z0, ⟨z1, z2, z3, z4⟩, zf⟩ := box4_block HW.out.size (HW.out.block _ c4.1 (show w.heap.size + 1 + 1 ≠ R by omega)) c4
                    have zf0 := zf 0
                    have zf1 := zf 1
                    have zf2 := zf 2
                    have zf3 := zf 3
                    clear zf
                    replace K := hid ((K.out.set (a := ⟨w.heap.size, 0, none⟩) (by simp; omega) (.slice a7 s.init.length k7)).set (a := ⟨w.heap.size, 1, none⟩) (by simp; omega) (.slice a8 s.procs.length k8))
                    go_wp2_with fail
                    refine ⟨K.out.ex, ?_⟩
                    rw [ordW_one]
                    simp only [pick, List.getElem?_cons_succ, List.getElem?_cons_zero]
                    replace K := hid ((K.out.set (a := ⟨w.heap.size + 1, 0, none⟩) (by simp; omega) (.slice a5 ls.length k5)).set (a := ⟨w.heap.size + 1, 1, none⟩) (by simp; omega) (.slice a6 vs.length k6))
                    go_wp2_with fail
                    refine ⟨K.out.ex, ?_⟩
                    rw [ordW_fre]
                    simp only [pick, List.getElem?_cons_succ, List.getElem?_cons_zero]
                    go_wp2_with fail
                    rw [ordW_done]
                    go_wp2_with fail
                    go_meet
                    exact HFin
                  · have HFin := hid (ap_fin (w := w) (W := v78) (a5 := a5) (a6 := a6) (k5 := k5) (k6 := k6) (l5 := ls.length) (l6 := vs.length) hs hbn hwR c2 c3 c4 hB1 HW.out n4 n6 n9 n12)
                    obtain ⟨x0, x1, x2, x3, x4⟩ := boxp_but HW.out (show w.heap.size ≠ R by omega) c2
                    obtain ⟨y0, y1, y2, y3, y4⟩ := boxp_but HW.out (show w.heap.size + 1 ≠ R by omega) c3
                    obtain ⟨z0, ⟨z1, z2, z3, z4⟩, zf⟩ := box4_block HW.out.size (HW.out.block _ c4.1 (show w.heap.size + 1 + 1 ≠ R by omega)) c4
                    have zf0 := zf 0
                    have zf1 := zf 1
                    have zf2 := zf 2
                    have zf3 := zf 3
                    clear zf
                    replace K := hid ((K.out.set (a := ⟨w.heap.size, 0, none⟩) (by simp; omega) (.slice a7 s.init.length k7)).set (a := ⟨w.heap.size, 1, none⟩) (by simp; omega) (.slice a8 s.procs.length k8))
                    go_wp2_with fail
                    refine ⟨K.out.ex, ?_⟩
                    rw [ordW_two]
                    simp only [pick, List.getElem?_cons_succ, List.getElem?_cons_zero]
                    refine ⟨?_, ?_⟩
                    · go_wp2_with fail
                      refine ⟨K.out.ex, ?_⟩
                      rw [ordW_one]
                      simp only [pick, List.getElem?_cons_succ, List.getElem?_cons_zero]
                      replace K := hid ((K.out.set (a := ⟨w.heap.size + 1, 0, none⟩) (by simp; omega) (.slice a5 ls.length k5)).set (a := ⟨w.heap.size + 1, 1, none⟩) (by simp; omega) (.slice a6 vs.length k6))
                      go_wp2_with fail
                      refine ⟨K.out.ex, ?_⟩
                      rw [ordW_fre]
                      simp only [pick, List.getElem?_cons_succ, List.getElem?_cons_zero]
                      go_wp2_with fail
                      rw [ordW_done]
                      go_wp2_with fail
                      go_meet
                      exact HFin
                    · replace K := hid ((K.out.set (a := ⟨w.heap.size + 1, 0, none⟩) (by simp; omega) (.slice a5 ls.length k5)).set (a := ⟨w.heap.size + 1, 1, none⟩) (by simp; omega) (.slice a6 vs.length k6))
                      go_wp2_with fail
                      refine ⟨K.out.ex, ?_⟩
                      rw [ordW_one]
                      simp only [pick, List.getElem?_cons_succ, List.getElem?_cons_zero]
                      go_wp2_with fail
                      refine ⟨K.out.ex, ?_⟩
                      rw [ordW_fre]
                      simp only [pick, List.getElem?_cons_succ, List.getElem?_cons_zero]
                      go_wp2_with fail
                      rw [ordW_done]
                      go_wp2_with fail
                      go_meet
                      exact HFin
              · go_wp2_with fail
                have h0 := below_alloc v71 (.cells (([-1, 0, 1] : List Int).map (Value.int .i64)).toArray 3)
                have hRl := HR.out.lt
                refine ⟨(K.out.trans (KeepP.below h0)).ex, ?_⟩
                replace SB := hid (SB.out.next h0)
                have SC := hid (SlIn.new v71 [-1, 0, 1] 3 R (by omega))
                replace HR := hid (HR.out.next h0)
                replace HW := hid (HW.out.next h0)
                replace K := hid (K.out.trans (KeepP.below h0))
                clear h0 hRl
                obtain ⟨bC, hbC⟩ : ∃ b, b = v71.heap.size := ⟨_, rfl⟩
                rw [← hbC] at SC ⊢
                clear hbC
                obtain ⟨v79, hv⟩ : ∃ v, v = v71.alloc (.cells #[.int .i64 (-1), .int .i64 0, .int .i64 1] 3) := ⟨_, rfl⟩
                have hv2 : v79 = v71.alloc (.cells (([-1, 0, 1] : List Int).map (Value.int .i64)).toArray 3) := hv
                rw [← hv2] at HR HW K SC SB
                rw [← hv]
                clear hv hv2
                rw [ordW_one]
                simp only [pick, List.getElem?_cons_succ, List.getElem?_cons_zero]
                go_wp2_with fail
                refine (pick_any B _ v79 R (q0 + 1) HR.out (by omega) (by omega) (by omega)).mono ?_
                rintro e v80 ⟨n6, rfl, ⟨m0, m1, _⟩, hb, hr⟩
                replace SB := hid (SB.out.but hb)
                replace SC := hid (SC.out.but hb)
                replace HW := hid (HW.out.trans hb)
                replace K := hid (K.out.trans (KeepP.but hb (by simp; omega)))
                replace HR := hid hr
                clear hb hr
                go_wp2_with fail
                refine ⟨K.out.ex, ?_⟩
                rw [ordW_one]
                simp only [pick, List.getElem?_cons_succ, List.getElem?_cons_zero]
                go_wp2_with fail
                refine (num_sl [-1, 0, 1] (-1) 1 (by simp) (by decide) (by decide) B v80 R (q0 + 1 + 1) bB HR.out SB.out (by omega)).mono ?_
                rintro e v81 ⟨n9, rfl, _, hb, hr⟩
                clear SB
                replace SC := hid (SC.out.but hb)
                replace HW := hid (HW.out.trans hb)
                replace K := hid (K.out.trans (KeepP.but hb (by simp; omega)))
                replace HR := hid hr
                clear hb hr
                go_wp2_with fail
                refine ⟨K.out.ex, ?_⟩
                rw [ordW_one]
                simp only [pick, List.getElem?_cons_succ, List.getElem?_cons_zero]
                go_wp2_with fail
                refine (num_sl [-1, 0, 1] (-1) 1 (by simp) (by decide) (by decide) B v81 R (q0 + 1 + 1 + 1) bC HR.out SC.out (by omega)).mono ?_
                rintro e v82 ⟨n12, rfl, _, hb, hr⟩
                clear SC
                replace HW := hid (HW.out.trans hb)
                replace K := hid (K.out.trans (KeepP.but hb (by simp; omega)))
                replace HR := hid hr
                clear hb hr
                go_wp2_with fail
                refine ⟨K.out.ex, ?_⟩
                rw [ordW_two]
                simp only [pick, List.getElem?_cons_succ, List.getElem?_cons_zero]
                refine ⟨?_, ?_⟩
                · go_wp2_with fail
                  refine ⟨K.out.ex, ?_⟩
                  rw [ordW_one]
                  simp only [pick, List.getElem?_cons_succ, List.getElem?_cons_zero]
                  have HFin := hid (ap_fin (w := w) (W := v82) (a5 := a5) (a6 := a6) (k5 := k5) (k6 := k6) (l5 := ls.length) (l6 := vs.length) hs hbn hwR c2 c3 c4 hB1 HW.out n4 n6 n9 n12)
                  obtain ⟨x0, x1, x2, x3, x4⟩ := boxp_but HW.out (show w.heap.size ≠ R by omega) c2
                  obtain ⟨y0, y1, y2, y3, y4⟩ := boxp_but HW.out (show w.heap.size + 1 ≠ R by omega) c3
                  obtain ⟨z0, ⟨z1, z2, z3, z4⟩, zf⟩ := box4_block HW.out.size (HW.out.block _ c4.1 (show w.heap.size + 1 + 1 ≠ R by omega)) c4
                  have zf0 := zf 0
                  have zf1 := zf 1
                  have zf2 := zf 2
                  have zf3 := zf 3
                  clear zf
                  replace K := hid ((K.out.set (a := ⟨w.heap.size, 0, none⟩) (by simp; omega) (.slice a7 s.init.length k7)).set (a := ⟨w.heap.size, 1, none⟩) (by simp; omega) (.slice a8 s.procs.length k8))
                  go_wp2_with fail
                  refine ⟨K.out.ex, ?_⟩
                  rw [ordW_one]
                  simp only [pick, List.getElem?_cons_succ, List.getElem?_cons_zero]
                  replace K := hid ((K.out.set (a := ⟨w.heap.size + 1, 0, none⟩) (by simp; omega) (.slice a5 ls.length k5)).set (a := ⟨w.heap.size + 1, 1, none⟩) (by simp; omega) (.slice a6 vs.length k6))
                  go_wp2_with fail
                  refine ⟨K.out.ex, ?_⟩
                  rw [ordW_fre]
                  simp only [pick, List.getElem?_cons_succ, List.getElem?_cons_zero]
                  go_wp2_with fail
                  rw [ordW_done]
                  go_wp2_with fail
                  go_meet
                  exact HFin
                · have HFin := hid (ap_fin (w := w) (W := v82) (a5 := a5) (a6 := a6) (k5 := k5) (k6 := k6) (l5 := ls.length) (l6 := vs.length) hs hbn hwR c2 c3 c4 hB1 HW.out n4 n6 n9 n12)
                  obtain ⟨x0, x1, x2, x3, x4⟩ := boxp_but HW.out (show w.heap.size ≠ R by omega) c2
                  obtain ⟨y0, y1, y2, y3, y4⟩ := boxp_but HW.out (show w.heap.size + 1 ≠ R by omega) c3
                  obtain ⟨z0, ⟨z1, z2, z3, z4⟩, zf⟩ := box4_block HW.out.size (HW.out.block _ c4.1 (show w.heap.size + 1 + 1 ≠ R by omega)) c4
                  have zf0 := zf 0
                  have zf1 := zf 1
                  have zf2 := zf 2
                  have zf3 := zf 3
                  clear zf
                  replace K := hid ((K.out.set (a := ⟨w.heap.size, 0, none⟩) (by simp; omega) (.slice a7 s.init.length k7)).set (a := ⟨w.heap.size, 1, none⟩) (by simp; omega) (.slice a8 s.procs.length k8))
                  go_wp2_with fail
                  refine ⟨K.out.ex, ?_⟩
                  rw [ordW_two]
                  simp only [pick, List.getElem?_cons_succ, List.getElem?_cons_zero]
                  refine ⟨?_, ?_⟩
                  · go_wp2_with fail
                    refine ⟨K.out.ex, ?_⟩
                    rw [ordW_one]
                    simp only [pick, List.getElem?_cons_succ, List.getElem?_cons_zero]
                    replace K := hid ((K.out.set (a := ⟨w.heap.size + 1, 0, none⟩) (by simp; omega) (.slice a5 ls.length k5)).set (a := ⟨w.heap.size + 1, 1, none⟩) (by simp; omega) (.slice a6 vs.length k6))
                    go_wp2_with fail
                    refine ⟨K.out.ex, ?_⟩
                    rw [ordW_fre]
                    simp only [pick, List.getElem?_cons_succ, List.getElem?_cons_zero]
                    go_wp2_with fail
                    rw [ordW_done]
                    go_wp2_with fail
                    go_meet
                    exact HFin
                  · replace K := hid ((K.out.set (a := ⟨w.heap.size + 1, 0, none⟩) (by simp; omega) (.slice a5 ls.length k5)).set (a := ⟨w.heap.size + 1, 1, none⟩) (by simp; omega) (.slice a6 vs.length k6))
                    go_wp2_with fail
                    refine ⟨K.out.ex, ?_⟩
                    rw [ordW_one]
                    simp only [pick, List.getElem?_cons_succ, List.getElem?_cons_zero]
                    go_wp2_with fail
                    refine ⟨K.out.ex, ?_⟩
                    rw [ordW_fre]
                    simp only [pick, List.getElem?_cons_succ, List.getElem?_cons_zero]
                    go_wp2_with fail
                    rw [ordW_done]
                    go_wp2_with fail
                    go_meet
                    exact HFin
            · go_wp2_with fail
              have h0 := below_alloc v70 (.cells (([-1, 0, 1] : List Int).map (Value.int .i64)).toArray 3)
              have hRl := HR.out.lt
              refine ⟨(K.out.trans (KeepP.below h0)).ex, ?_⟩
              replace SB := hid (SB.out.next h0)
              replace SA := hid (SA.out.next h0)
              have SC := hid (SlIn.new v70 [-1, 0, 1] 3 R (by omega))
              replace HR := hid (HR.out.next h0)
              replace HW := hid (HW.out.next h0)
              replace K := hid (K.out.trans (KeepP.below h0))
              clear h0 hRl
              obtain ⟨bC, hbC⟩ : ∃ b, b = v70.heap.size := ⟨_, rfl⟩
              rw [← hbC] at SC ⊢
              clear hbC
              obtain ⟨v83, hv⟩ : ∃ v, v = v70.alloc (.cells #[.int .i64 (-1), .int .i64 0, .int .i64 1] 3) := ⟨_, rfl⟩
              have hv2 : v83 = v70.alloc (.cells (([-1, 0, 1] : List Int).map (Value.int .i64)).toArray 3) := hv
              rw [← hv2] at HR HW K SC SB SA
              rw [← hv]
              clear hv hv2
              rw [ordW_one]
              simp only [pick, List.getElem?_cons_succ, List.getElem?_cons_zero]
              go_wp2_with fail
              refine (num_sl [0, 1, -1, 3] (-1) 3 (by simp) (by decide) (by decide) B v83 R (q0) bA HR.out SA.out (by omega)).mono ?_
              rintro e v84 ⟨n4, rfl, _, hb, hr⟩
              clear SA
              replace SB := hid (SB.out.but hb)
              replace SC := hid (SC.out.but hb)
              replace HW := hid (HW.out.trans hb)
              replace K := hid (K.out.trans (KeepP.but hb (by simp; omega)))
              replace HR := hid hr
              clear hb hr
              go_wp2_with fail
              refine ⟨K.out.ex, ?_⟩
              rw [ordW_one]
              simp only [pick, List.getElem?_cons_succ, List.getElem?_cons_zero]
              go_wp2_with fail
              refine (pick_any B _ v84 R (q0 + 1) HR.out (by omega) (by omega) (by omega)).mono ?_
              rintro e v85 ⟨n6, rfl, ⟨m0, m1, _⟩, hb, hr⟩
              replace SB := hid (SB.out.but hb)
              replace SC := hid (SC.out.but hb)
              replace HW := hid (HW.out.trans hb)
              replace K := hid (K.out.trans (KeepP.but hb (by simp; omega)))
              replace HR := hid hr
              clear hb hr
              go_wp2_with fail
              refine ⟨K.out.ex, ?_⟩
              rw [ordW_one]
              simp only [pick, List.getElem?_cons_succ, List.getElem?_cons_zero]
              go_wp2_with fail
              refine (num_sl [-1, 0, 1] (-1) 1 (by simp) (by decide) (by decide) B v85 R (q0 + 1 + 1) bB HR.out SB.out (by omega)).mono ?_
              rintro e v86 ⟨n9, rfl, _, hb, hr⟩
              clear SB
              replace SC := hid (SC.out.but hb)
              replace HW := hid (HW.out.trans hb)
              replace K := hid (K.out.trans (KeepP.but hb (by simp; omega)))
              replace HR := hid hr
              clear hb hr
              go_wp2_with fail
              refine ⟨K.out.ex, ?_⟩
              rw [ordW_one]
              simp only [pick, List.getElem?_cons_succ, List.getElem?_cons_zero]
              go_wp2_with fail
              refine (num_sl [-1, 0, 1] (-1) 1 (by simp) (by decide) (by decide) B v86 R (q0 + 1 + 1 + 1) bC HR.out SC.out (by omega)).mono ?_
              rintro e v87 ⟨n12, rfl, _, hb, hr⟩
              clear SC
              replace HW := hid (HW.out.trans hb)
              replace K := hid (K.out.trans (KeepP.but hb (by simp; omega)))
              replace HR := hid hr
              clear hb hr
              go_wp2_with fail
              refine ⟨K.out.ex, ?_⟩
              rw [ordW_two]
              simp only [pick, List.getElem?_cons_succ, List.getElem?_cons_zero]
              refine ⟨?_, ?_⟩
              · go_wp2_with fail
                refine ⟨K.out.ex, ?_⟩
                rw [ordW_one]
                simp only [pick, List.getElem?_cons_succ, List.getElem?_cons_zero]
                have HFin := hid (ap_fin (w := w) (W := v87) (a5 := a5) (a6 := a6) (k5 := k5) (k6 := k6) (l5 := ls.length) (l6 := vs.length) hs hbn hwR c2 c3 c4 hB1 HW.out n4 n6 n9 n12)
                obtain ⟨x0, x1, x2, x3, x4⟩ := boxp_but HW.out (show w.heap.size ≠ R by omega) c2
                obtain ⟨y0, y1, y2, y3, y4⟩ := boxp_but HW.out (show w.heap.size + 1 ≠ R by omega) c3
                obtain ⟨z0, ⟨z1, z2, z3, z4⟩, zf⟩ := box4_block HW.out.size (HW.out.block _ c4.1 (show w.heap.size + 1 + 1 ≠ R by omega)) c4
                have zf0 := zf 0
                have zf1 := zf 1
                have zf2 := zf 2
                have zf3 := zf 3
                clear zf
                replace K := hid ((K.out.set (a := ⟨w.heap.size, 0, none⟩) (by simp; omega) (.slice a7 s.init.length k7)).set (a := ⟨w.heap.size, 1, none⟩) (by simp; omega) (.slice a8 s.procs.length k8))
                go_wp2_with fail
                refine ⟨K.out.ex, ?_⟩
                rw [ordW_one]
                simp only [pick, List.getElem?_cons_succ, List.getElem?_cons_zero]
                replace K := hid ((K.out.set (a := ⟨w.heap.size + 1, 0, none⟩) (by simp; omega) (.slice a5 ls.length k5)).set (a := ⟨w.heap.size + 1, 1, none⟩) (by simp; omega) (.slice a6 vs.length k6))
                go_wp2_with fail
                refine ⟨K.out.ex, ?_⟩
                rw [ordW_fre]
                simp only [pick, List.getElem?_cons_succ, List.getElem?_cons_zero]
                go_wp2_with fail
                rw [ordW_done]
                go_wp2_with fail
                go_meet
                exact HFin
              · have HFin := hid (ap_fin (w := w) (W := v87) (a5 := a5) (a6 := a6) (k5 := k5) (k6 := k6) (l5 := ls.length) (l6 := vs.length) hs hbn hwR c2 c3 c4 hB1 HW.out n4 n6 n9 n12)
                obtain ⟨x0, x1, x2, x3, x4⟩ := boxp_but HW.out (show w.heap.size ≠ R by omega) c2
                obtain ⟨y0, y1, y2, y3, y4⟩ := boxp_but HW.out (show w.heap.size + 1 ≠ R by omega) c3
                obtain ⟨z0, ⟨z1, z2, z3, z4⟩, zf⟩ := box4_block HW.out.size (HW.out.block _ c4.1 (show w.heap.size + 1 + 1 ≠ R by omega)) c4
                have zf0 := zf 0
                have zf1 := zf 1
                have zf2 := zf 2
                have zf3 := zf 3
                clear zf
                replace K := hid ((K.out.set (a := ⟨w.heap.size, 0, none⟩) (by simp; omega) (.slice a7 s.init.length k7)).set (a := ⟨w.heap.size, 1, none⟩) (by simp; omega) (.slice a8 s.procs.length k8))
                go_wp2_with fail
                refine ⟨K.out.ex, ?_⟩
                rw [ordW_two]
                simp only [pick, List.getElem?_cons_succ, List.getElem?_cons_zero]
                refine ⟨?_, ?_⟩
                · go_wp2_with fail
                  refine ⟨K.out.ex, ?_⟩
                  rw [ordW_one]
                  simp only [pick, List.getElem?_cons_succ, List.getElem?_cons_zero]
                  replace K := hid ((K.out.set (a := ⟨w.heap.size + 1, 0, none⟩) (by simp; omega) (.slice a5 ls.length k5)).set (a := ⟨w.heap.size + 1, 1, none⟩) (by simp; omega) (.slice a6 vs.length k6))
                  go_wp2_with fail
                  refine ⟨K.out.ex, ?_⟩
                  rw [ordW_fre]
                  simp only [pick, List.getElem?_cons_succ, List.getElem?_cons_zero]
                  go_wp2_with fail
                  rw [ordW_done]
                  go_wp2_with fail
                  go_meet
                  exact HFin
                · replace K := hid ((K.out.set (a := ⟨w.heap.size + 1, 0, none⟩) (by simp; omega) (.slice a5 ls.length k5)).set (a := ⟨w.heap.size + 1, 1, none⟩) (by simp; omega) (.slice a6 vs.length k6))
                  go_wp2_with fail
                  refine ⟨K.out.ex, ?_⟩
                  rw [ordW_one]
                  simp only [pick, List.getElem?_cons_succ, List.getElem?_cons_zero]
                  go_wp2_with fail
                  refine ⟨K.out.ex, ?_⟩
                  rw [ordW_fre]
                  simp only [pick, List.getElem?_cons_succ, List.getElem?_cons_zero]
                  go_wp2_with fail
                  rw [ordW_done]
                  go_wp2_with fail
                  go_meet
                  exact HFin
          · go_wp2_with fail
            have h0 := below_alloc v69 (.cells (([-1, 0, 1] : List Int).map (Value.int .i64)).toArray 3)
            have hRl := HR.out.lt
            refine ⟨(K.out.trans (KeepP.below h0)).ex, ?_⟩
            replace SB := hid (SB.out.next h0)
            have SC := hid (SlIn.new v69 [-1, 0, 1] 3 R (by omega))
            replace HR := hid (HR.out.next h0)
            replace HW := hid (HW.out.next h0)
            replace K := hid (K.out.trans (KeepP.below h0))
            clear h0 hRl
            obtain ⟨bC, hbC⟩ : ∃ b, b = v69.heap.size := ⟨_, rfl⟩
            rw [← hbC] at SC ⊢
            clear hbC
            obtain ⟨v88, hv⟩ : ∃ v, v = v69.alloc (.cells #[.int .i64 (-1), .int .i64 0, .int .i64 1] 3) := ⟨_, rfl⟩
            have hv2 : v88 = v69.alloc (.cells (([-1, 0, 1] : List Int).map (Value.int .i64)).toArray 3) := hv
            rw [← hv2] at HR HW K SC SB
            rw [← hv]
            clear hv hv2
            rw [ordW_one]
            simp only [pick, List.getElem?_cons_succ, List.getElem?_cons_zero]
            go_wp2_with fail
            have h0 := below_alloc v88 (.cells (([0, 1, -1, 3] : List Int).map (Value.int .i64)).toArray 3)
            have hRl := HR.out.lt
            refine ⟨(K.out.trans (KeepP.below h0)).ex, ?_⟩
            replace SB := hid (SB.out.next h0)
            replace SC := hid (SC.out.next h0)
            have SA := hid (SlIn.new v88 [0, 1, -1, 3] 3 R (by omega))
            replace HR := hid (HR.out.next h0)
            replace HW := hid (HW.out.next h0)
            replace K := hid (K.out.trans (KeepP.below h0))
            clear h0 hRl
            obtain ⟨bA, hbA⟩ : ∃ b, b = v88.heap.size := ⟨_, rfl⟩
            rw [← hbA] at SA ⊢
            clear hbA
            obtain ⟨v89, hv⟩ : ∃ v, v = v88.alloc (.cells #[.int .i64 0, .int .i64 1, .int .i64 (-1), .int .i64 3] 3) := ⟨_, rfl⟩
            have hv2 : v89 = v88.alloc (.cells (([0, 1, -1, 3] : List Int).map (Value.int .i64)).toArray 3) := hv
            rw [← hv2] at HR HW K SA SB SC
            rw [← hv]
            clear hv hv2
            rw [ordW_one]
            simp only [pick, List.getElem?_cons_succ, List.getElem?_cons_zero]
            go_wp2_with fail
            refine (num_sl [0, 1, -1, 3] (-1) 3 (by simp) (by decide) (by decide) B v89 R (q0) bA HR.out SA.out (by omega)).mono ?_
            rintro e v90 ⟨n4, rfl, _, hb, hr⟩
            clear SA
            replace SB := hid (SB.out.but hb)
            replace SC := hid (SC.out.but hb)
            replace HW := hid (HW.out.trans hb)
            replace K := hid (K.out.trans (KeepP.but hb (by simp; omega)))
            replace HR := hid hr
            clear hb hr
            go_wp2_with fail
            refine ⟨K.out.ex, ?_⟩
            rw [ordW_one]
            simp only [pick, List.getElem?_cons_succ, List.getElem?_cons_zero]
            go_wp2_with fail
            refine (pick_any B _ v90 R (q0 + 1) HR.out (by omega) (by omega) (by omega)).mono ?_
            rintro e v91 ⟨n6, rfl, ⟨m0, m1, _⟩, hb, hr⟩
            replace SB := hid (SB.out.but hb)
            replace SC := hid (SC.out.but hb)
            replace HW := hid (HW.out.trans hb)
            replace K := hid (K.out.trans (KeepP.but hb (by simp; omega)))
            replace HR := hid hr
            clear hb hr
            go_wp2_with fail
            refine ⟨K.out.ex, ?_⟩
            rw [ordW_one]
            simp only [pick, List.getElem?_cons_succ, List.getElem?_cons_zero]
            go_wp2_with fail
            refine (num_sl [-1, 0, 1] (-1) 1 (by simp) (by decide) (by decide) B v91 R (q0 + 1 + 1) bB HR.out SB.out (by omega)).mono ?_
            rintro e v92 ⟨n9, rfl, _, hb, hr⟩
            clear SB
            replace SC := hid (SC.out.but hb)
            replace HW := hid (HW.out.trans hb)
            replace K := hid (K.out.trans (KeepP.but hb (by simp; omega)))
            replace HR := hid hr
            clear hb hr
            go_wp2_with fail
            refine ⟨K.out.ex, ?_⟩
            rw [ordW_one]
            simp only [pick, List.getElem?_cons_succ, List.getElem?_cons_zero]
            go_wp2_with fail
            refine (num_sl [-1, 0, 1] (-1) 1 (by simp) (by decide) (by decide) B v92 R (q0 + 1 + 1 + 1) bC HR.out SC.out (by omega)).mono ?_
            rintro e v93 ⟨n12, rfl, _, hb, hr⟩
            clear SC
            replace HW := hid (HW.out.trans hb)
            replace K := hid (K.out.trans (KeepP.but hb (by simp; omega)))
            replace HR := hid hr
            clear hb hr
            go_wp2_with fail
            refine ⟨K.out.ex, ?_⟩
            rw [ordW_two]
            simp only [pick, List.getElem?_cons_succ, List.getElem?_cons_zero]
            refine ⟨?_, ?_⟩
            · go_wp2_with fail
              refine ⟨K.out.ex, ?_⟩
              rw [ordW_one]
              simp only [pick, List.getElem?_cons_succ, List.getElem?_cons_zero]
              have HFin := hid (ap_fin (w := w) (W := v93) (a5 := a5) (a6 := a6) (k5 := k5) (k6 := k6) (l5 := ls.length) (l6 := vs.length) hs hbn hwR c2 c3 c4 hB1 HW.out n4 n6 n9 n12)
              obtain ⟨x0, x1, x2, x3, x4⟩ := boxp_but HW.out (show w.heap.size ≠ R by omega) c2
              obtain ⟨y0, y1, y2, y3, y4⟩ := boxp_but HW.out (show w.heap.size + 1 ≠ R by omega) c3
              obtain ⟨z0, ⟨z1, z2, z3, z4⟩, zf⟩ := box4_block HW.out.size (HW.out.block _ c4.1 (show w.heap.size + 1 + 1 ≠ R by omega)) c4
              have zf0 := zf 0
              have zf1 := zf 1
              have zf2 := zf 2
              have zf3 := zf 3
              clear zf
              replace K := hid ((K.out.set (a := ⟨w.heap.size, 0, none⟩) (by simp; omega) (.slice a7 s.init.length k7)).set (a := ⟨w.heap.size, 1, none⟩) (by simp; omega) (.slice a8 s.procs.length k8))
              go_wp2_with fail
              refine ⟨K.out.ex, ?_⟩
              rw [ordW_one]
              simp only [pick, List.getElem?_cons_succ, List.getElem?_cons_zero]
              replace K := hid ((K.out.set (a := ⟨w.heap.size + 1, 0, none⟩) (by simp; omega) (.slice a5 ls.length k5)).set (a := ⟨w.heap.size + 1, 1, none⟩) (by simp; omega) (.slice a6 vs.length k6))
              go_wp2_with fail
              refine ⟨K.out.ex, ?_⟩
              rw [ordW_fre]
              simp only [pick, List.getElem?_cons_succ, List.getElem?_cons_zero]
              go_wp2_with fail
              rw [ordW_done]
              go_wp2_with fail
              go_meet
              exact HFin
            · have HFin := hid (ap_fin (w := w) (W := v93) (a5 := a5) (a6 := a6) (k5 := k5) (k6 := k6) (l5 := ls.length) (l6 := vs.length) hs hbn hwR c2 c3 c4 hB1 HW.out n4 n6 n9 n12)
              obtain ⟨x0, x1, x2, x3, x4⟩ := boxp_but HW.out (show w.heap.size ≠ R by omega) c2
              obtain ⟨y0, y1, y2, y3, y4⟩ := boxp_but HW.out (show w.heap.size + 1 ≠ R by omega) c3
              obtain ⟨z0, ⟨z1, z2, z3, z4⟩, zf⟩ := box4_block HW.out.size (HW.out.block _ c4.1 (show w.heap.size + 1 + 1 ≠ R by omega)) c4
              have zf0 := zf 0
              have zf1 := zf 1
              have zf2 := zf 2
              have zf3 := zf 3
              clear zf
              replace K := hid ((K.out.set (a := ⟨w.heap.size, 0, none⟩) (by simp; omega) (.slice a7 s.init.length k7)).set (a := ⟨w.heap.size, 1, none⟩) (by simp; omega) (.slice a8 s.procs.length k8))
              go_wp2_with fail
              refine ⟨K.out.ex, ?_⟩
              rw [ordW_two]
              simp only [pick, List.getElem?_cons_succ, List.getElem?_cons_zero]
              refine ⟨?_, ?_⟩
              · go_wp2_with fail
                refine ⟨K.out.ex, ?_⟩
                rw [ordW_one]
                simp only [pick, List.getElem?_cons_succ, List.getElem?_cons_zero]
                replace K := hid ((K.out.set (a := ⟨w.heap.size + 1, 0, none⟩) (by simp; omega) (.slice a5 ls.length k5)).set (a := ⟨w.heap.size + 1, 1, none⟩) (by simp; omega) (.slice a6 vs.length k6))
                go_wp2_with fail
                refine ⟨K.out.ex, ?_⟩
                rw [ordW_fre]
                simp only [pick, List.getElem?_cons_succ, List.getElem?_cons_zero]
                go_wp2_with fail
                rw [ordW_done]
                go_wp2_with fail
                go_meet
                exact HFin
              · replace K := hid ((K.out.set (a := ⟨w.heap.size + 1, 0, none⟩) (by simp; omega) (.slice a5 ls.length k5)).set (a := ⟨w.heap.size + 1, 1, none⟩) (by simp; omega) (.slice a6 vs.length k6))
                go_wp2_with fail
                refine ⟨K.out.ex, ?_⟩
                rw [ordW_one]
                simp only [pick, List.getElem?_cons_succ, List.getElem?_cons_zero]
                go_wp2_with fail
                refine ⟨K.out.ex, ?_⟩
                rw [ordW_fre]
                simp only [pick, List.getElem?_cons_succ, List.getElem?_cons_zero]
                go_wp2_with fail
                rw [ordW_done]
                go_wp2_with fail
                go_meet
                exact HFin
        · go_wp2_with fail
          have h0 := below_alloc v0 (.cells (([-1, 0, 1] : List Int).map (Value.int .i64)).toArray 3)
          have hRl := HR.out.lt
          refine ⟨(K.out.trans (KeepP.below h0)).ex, ?_⟩
          have SC := hid (SlIn.new v0 [-1, 0, 1] 3 R (by omega))
          replace HR := hid (HR.out.next h0)
          replace HW := hid (HW.out.next h0)
          replace K := hid (K.out.trans (KeepP.below h0))
          clear h0 hRl
          obtain ⟨bC, hbC⟩ : ∃ b, b = v0.heap.size := ⟨_, rfl⟩
          rw [← hbC] at SC ⊢
          clear hbC
          obtain ⟨v94, hv⟩ : ∃ v, v = v0.alloc (.cells #[.int .i64 (-1), .int .i64 0, .int .i64 1] 3) := ⟨_, rfl⟩
          have hv2 : v94 = v0.alloc (.cells (([-1, 0, 1] : List Int).map (Value.int .i64)).toArray 3) := hv
          rw [← hv2] at HR HW K SC
          rw [← hv]
          clear hv hv2
          rw [ordW_two]
          simp only [pick, List.getElem?_cons_succ, List.getElem?_cons_zero]
          refine ⟨?_, ?_⟩
          · go_wp2_with fail
            have h0 := below_alloc v94 (.cells (([0, 1, -1, 3] : List Int).map (Value.int .i64)).toArray 3)
            have hRl := HR.out.lt
            refine ⟨(K.out.trans (KeepP.below h0)).ex, ?_⟩
            replace SC := hid (SC.out.next h0)
            have SA := hid (SlIn.new v94 [0, 1, -1, 3] 3 R (by omega))
            replace HR := hid (HR.out.next h0)
            replace HW := hid (HW.out.next h0)
            replace K := hid (K.out.trans (KeepP.below h0))
            clear h0 hRl
            obtain ⟨bA, hbA⟩ : ∃ b, b = v94.heap.size := ⟨_, rfl⟩
            rw [← hbA] at SA ⊢
            clear hbA
            obtain ⟨v95, hv⟩ : ∃ v, v = v94.alloc (.cells #[.int .i64 0, .int .i64 1, .int .i64 (-1), .int .i64 3] 3) := ⟨_, rfl⟩
            have hv2 : v95 = v94.alloc (.cells (([0, 1, -1, 3] : List Int).map (Value.int .i64)).toArray 3) := hv
            rw [← hv2] at HR HW K SA SC
            rw [← hv]
            clear hv hv2
            rw [ordW_two]
            simp only [pick, List.getElem?_cons_succ, List.getElem?_cons_zero]
            refine ⟨?_, ?_⟩
            · go_wp2_with fail
              refine (num_sl [0, 1, -1, 3] (-1) 3 (by simp) (by decide) (by decide) B v95 R (q0) bA HR.out SA.out (by omega)).mono ?_
              rintro e v96 ⟨n4, rfl, _, hb, hr⟩
              clear SA
              replace SC := hid (SC.out.but hb)
              replace HW := hid (HW.out.trans hb)
              replace K := hid (K.out.trans (KeepP.but hb (by simp; omega)))
              replace HR := hid hr
              clear hb hr
              go_wp2_with fail
              refine ⟨K.out.ex, ?_⟩
              rw [ordW_two]
              simp only [pick, List.getElem?_cons_succ, List.getElem?_cons_zero]
              refine ⟨?_, ?_⟩
              · go_wp2_with fail
                refine (pick_any B _ v96 R (q0 + 1) HR.out (by omega) (by omega) (by omega)).mono ?_
                rintro e v97 ⟨n6, rfl, ⟨m0, m1, _⟩, hb, hr⟩
                replace SC := hid (SC.out.but hb)
                replace HW := hid (HW.out.trans hb)
                replace K := hid (K.out.trans (KeepP.but hb (by simp; omega)))
                replace HR := hid hr
                clear hb hr
                go_wp2_with fail
                refine ⟨K.out.ex, ?_⟩
                rw [ordW_one]
                simp only [pick, List.getElem?_cons_succ, List.getElem?_cons_zero]
                go_wp2_with fail
                have h0 := below_alloc v97 (.cells (([-1, 0, 1] : List Int).map (Value.int .i64)).toArray 3)
                have hRl := HR.out.lt
                refine ⟨(K.out.trans (KeepP.below h0)).ex, ?_⟩
                replace SC := hid (SC.out.next h0)
                have SB := hid (SlIn.new v97 [-1, 0, 1] 3 R (by omega))
                replace HR := hid (HR.out.next h0)
                replace HW := hid (HW.out.next h0)
                replace K := hid (K.out.trans (KeepP.below h0))
                clear h0 hRl
                obtain ⟨bB, hbB⟩ : ∃ b, b = v97.heap.size := ⟨_, rfl⟩
                rw [← hbB] at SB ⊢
                clear hbB
                obtain ⟨v98, hv⟩ : ∃ v, v = v97.alloc (.cells #[.int .i64 (-1), .int .i64 0, .int .i64 1] 3) := ⟨_, rfl⟩
                have hv2 : v98 = v97.alloc (.cells (([-1, 0, 1] : List Int).map (Value.int .i64)).toArray 3) := hv
                rw [← hv2] at HR HW K SB SC
                rw [← hv]
                clear hv hv2
                rw [ordW_one]
                simp only [pick, List.getElem?_cons_succ, List.getElem?_cons_zero]
                go_wp2_with fail
                refine (num_sl [-1, 0, 1] (-1) 1 (by simp) (by decide) (by decide) B v98 R (q0 + 1 + 1) bB HR.out SB.out (by omega)).mono ?_
                rintro e v99 ⟨n9, rfl, _, hb, hr⟩
                clear SB
                replace SC := hid (SC.out.but hb)
                replace HW := hid (HW.out.trans hb)
                replace K := hid (K.out.trans (KeepP.but hb (by simp; omega)))
                replace HR := hid hr
                clear hb hr
                go_wp2_with fail
                refine ⟨K.out.ex, ?_⟩
                rw [ordW_one]
                simp only [pick, List.getElem?_cons_succ, List.getElem?_cons_zero]
                go_wp2_with fail
                refine (num_sl [-1, 0, 1] (-1) 1 (by simp) (by decide) (by decide) B v99 R (q0 + 1 + 1 + 1) bC HR.out SC.out (by omega)).mono ?_
                rintro e v100 ⟨n12, rfl, _, hb, hr⟩
                clear SC
                replace HW := hid (HW.out.trans hb)
                replace K := hid (K.out.trans (KeepP.but hb (by simp; omega)))
                replace HR := hid hr
                clear hb hr
                go_wp2_with fail
                refine ⟨K.out.ex, ?_⟩
                rw [ordW_two]
                simp only [pick, List.getElem?_cons_succ, List.getElem?_cons_zero]
                refine ⟨?_, ?_⟩
                · go_wp2_with fail
                  refine ⟨K.out.ex, ?_⟩
                  rw [ordW_one]
                  simp only [pick, List.getElem?_cons_succ, List.getElem?_cons_zero]
                  have HFin := hid (ap_fin (w := w) (W := v100) (a5 := a5) (a6 := a6) (k5 := k5) (k6 := k6) (l5 := ls.length) (l6 := vs.length) hs hbn hwR c2 c3 c4 hB1 HW.out n4 n6 n9 n12)
                  obtain ⟨x0, x1, x2, x3, x4⟩ := boxp_but HW.out (show w.heap.size ≠ R by omega) c2
                  obtain ⟨y0, y1, y2, y3, y4⟩ := boxp_but HW.out (show w.heap.size + 1 ≠ R by omega) c3
                  obtain ⟨z0, ⟨z1, z2, z3, z4⟩, zf⟩ := box4_block HW.out.size (HW.out.block _ c4.1 (show w.heap.size + 1 + 1 ≠ R by omega)) c4
                  have zf0 := zf 0
                  have zf1 := zf 1
                  have zf2 := zf 2
                  have zf3 := zf 3
                  clear zf
                  replace K := hid ((K.out.set (a := ⟨w.heap.size, 0, none⟩) (by simp; omega) (.slice a7 s.init.length k7)).set (a := ⟨w.heap.size, 1, none⟩) (by simp; omega) (.slice a8 s.procs.length k8))
                  go_wp2_with fail
                  refine ⟨K.out.ex, ?_⟩
                  rw [ordW_one]
                  simp only [pick, List.getElem?_cons_succ, List.getElem?_cons_zero]
                  replace K := hid ((K.out.set (a := ⟨w.heap.size + 1, 0, none⟩) (by simp; omega) (.slice a5 ls.length k5)).set (a := ⟨w.heap.size + 1, 1, none⟩) (by simp; omega) (.slice a6 vs.length k6))
                  go_wp2_with fail
                  refine ⟨K.out.ex, ?_⟩
                  rw [ordW_fre]
                  simp only [pick, List.getElem?_cons_succ, List.getElem?_cons_zero]
                  go_wp2_with fail
                  rw [ordW_done]
                  go_wp2_with fail
                  go_meet
                  exact HFin
                · have HFin := hid (ap_fin (w := w) (W := v100) (a5 := a5) (a6 := a6) (k5 := k5) (k6 := k6) (l5 := ls.length) (l6 := vs.length) hs hbn hwR c2 c3 c4 hB1 HW.out n4 n6 n9 n12)
                  obtain ⟨x0, x1, x2, x3, x4⟩ := boxp_but HW.out (show w.heap.size ≠ R by omega) c2
                  obtain ⟨y0, y1, y2, y3, y4⟩ := boxp_but HW.out (show w.heap.size + 1 ≠ R by omega) c3
                  obtain ⟨z0, ⟨z1, z2, z3, z4⟩, zf⟩ := box4_block HW.out.size (HW.out.block _ c4.1 (show w.heap.size + 1 + 1 ≠ R by omega)) c4
                  have zf0 := zf 0
                  have zf1 := zf 1
                  have zf2 := zf 2
                  have zf3 := zf 3
                  clear zf
                  replace K := hid ((K.out.set (a := ⟨w.heap.size, 0, none⟩) (by simp; omega) (.slice a7 s.init.length k7)).set (a := ⟨w.heap.size, 1, none⟩) (by simp; omega) (.slice a8 s.procs.length k8))
                  go_wp2_with fail
                  refine ⟨K.out.ex, ?_⟩
                  rw [ordW_two]
                  simp only [pick, List.getElem?_cons_succ, List.getElem?_cons_zero]
                  refine ⟨?_, ?_⟩
                  · go_wp2_with fail
                    refine ⟨K.out.ex, ?_⟩
                    rw [ordW_one]
                    simp only [pick, List.getElem?_cons_succ, List.getElem?_cons_zero]
                    replace K := hid ((K.out.set (a := ⟨w.heap.size + 1, 0, none⟩) (by simp; omega) (.slice a5 ls.length k5)).set (a := ⟨w.heap.size + 1, 1, none⟩) (by simp; omega) (.slice a6 vs.length k6))
                    go_wp2_with fail
                    refine ⟨K.out.ex, ?_⟩
                    rw [ordW_fre]
                    simp only [pick, List.getElem?_cons_succ, List.getElem?_cons_zero]
                    go_wp2_with fail
                    rw [ordW_done]
                    go_wp2_with fail
                    go_meet
                    exact HFin
                  · replace K := hid ((K.out.set (a := ⟨w.heap.size + 1, 0, none⟩) (by simp; omega) (.slice a5 ls.length k5)).set (a := ⟨w.heap.size + 1, 1, none⟩) (by simp; omega) (.slice a6 vs.length k6))
                    go_wp2_with fail
                    refine ⟨K.out.ex, ?_⟩
                    rw [ordW_one]
                    simp only [pick, List.getElem?_cons_succ, List.getElem?_cons_zero]
                    go_wp2_with fail
                    refine ⟨K.out.ex, ?_⟩
                    rw [ordW_fre]
                    simp only [pick, List.getElem?_cons_succ, List.getElem?_cons_zero]
                    go_wp2_with fail
                    rw [ordW_done]
                    go_wp2_with fail
                    go_meet
                    exact HFin
              · go_wp2_with fail
                have h0 := below_alloc v96 (.cells (([-1, 0, 1] : List Int).map (Value.int .i64)).toArray 3)
                have hRl := HR.out.lt
                refine ⟨(K.out.trans (KeepP.below h0)).ex, ?_⟩
                replace SC := hid (SC.out.next h0)
                have SB := hid (SlIn.new v96 [-1, 0, 1] 3 R (by omega))
                replace HR := hid (HR.out.next h0)
                replace HW := hid (HW.out.next h0)
                replace K := hid (K.out.trans (KeepP.below h0))
                clear h0 hRl
                obtain ⟨bB, hbB⟩ : ∃ b, b = v96.heap.size := ⟨_, rfl⟩
                rw [← hbB] at SB ⊢
                clear hbB
                obtain ⟨v101, hv⟩ : ∃ v, v = v96.alloc (.cells #[.int .i64 (-1), .int .i64 0, .int .i64 1] 3) := ⟨_, rfl⟩
                have hv2 : v101 = v96.alloc (.cells (([-1, 0, 1] : List Int).map (Value.int .i64)).toArray 3) := hv
                rw [← hv2] at HR HW K SB SC
                rw [← hv]
                clear hv hv2
                rw [ordW_one]
                simp only [pick, List.getElem?_cons_succ, List.getElem?_cons_zero]
                go_wp2_with fail
                refine (pick_any B _ v101 R (q0 + 1) HR.out (by omega) (by omega) (by omega)).mono ?_
                rintro e v102 ⟨n6, rfl, ⟨m0, m1, _⟩, hb, hr⟩
                replace SC := hid (SC.out.but hb)
                replace SB := hid (SB.out.but hb)
                replace HW := hid (HW.out.trans hb)
                replace K := hid (K.out.trans (KeepP.but hb (by simp; omega)))
                replace HR := hid hr
                clear hb hr
                go_wp2_with fail
                refine ⟨K.out.ex, ?_⟩
                rw [ordW_one]
                simp only [pick, List.getElem?_cons_succ, List.getElem?_cons_zero]
                go_wp2_with fail
                refine (num_sl [-1, 0, 1] (-1) 1 (by simp) (by decide) (by decide) B v102 R (q0 + 1 + 1) bB HR.out SB.out (by omega)).mono ?_
                rintro e v103 ⟨n9, rfl, _, hb, hr⟩
                clear SB
                replace SC := hid (SC.out.but hb)
                replace HW := hid (HW.out.trans hb)
                replace K := hid (K.out.trans (KeepP.but hb (by simp; omega)))
                replace HR := hid hr
                clear hb hr
                go_wp2_with fail
                refine ⟨K.out.ex, ?_⟩
                rw [ordW_one]
                simp only [pick, List.getElem?_cons_succ, List.getElem?_cons_zero]
                go_wp2_with fail
                refine (num_sl [-1, 0, 1] (-1) 1 (by simp) (by decide) (by decide) B v103 R (q0 + 1 + 1 + 1) bC HR.out SC.out (by omega)).mono ?_
                rintro e v104 ⟨n12, rfl, _, hb, hr⟩
                clear SC
                replace HW := hid (HW.out.trans hb)
                replace K := hid (K.out.trans (KeepP.but hb (by simp; omega)))
                replace HR := hid hr
                clear hb hr
                go_wp2_with fail
                refine ⟨K.out.ex, ?_⟩
                rw [ordW_two]
                simp only [pick, List.getElem?_cons_succ, List.getElem?_cons_zero]
                refine ⟨?_, ?_⟩
                · go_wp2_with fail
                  refine ⟨K.out.ex, ?_⟩
                  rw [ordW_one]
                  simp only [pick, List.getElem?_cons_succ, List.getElem?_cons_zero]
                  have HFin := hid (ap_fin (w := w) (W := v104) (a5 := a5) (a6 := a6) (k5 := k5) (k6 := k6) (l5 := ls.length) (l6 := vs.length) hs hbn hwR c2 c3 c4 hB1 HW.out n4 n6 n9 n12)
                  obtain ⟨x0, x1, x2, x3, x4⟩ := boxp_but HW.out (show w.heap.size ≠ R by omega) c2
                  obtain ⟨y0, y1, y2, y3, y4⟩ := boxp_but HW.out (show w.heap.size + 1 ≠ R by omega) c3
                  obtain ⟨z0, ⟨z1, z2, z3, z4⟩, zf⟩ := box4_block HW.out.size (HW.out.block _ c4.1 (show w.heap.size + 1 + 1 ≠ R by omega)) c4
                  have zf0 := zf 0
                  have zf1 := zf 1
                  have zf2 := zf 2
                  have zf3 := zf 3
                  clear zf
                  replace K := hid ((K.out.set (a := ⟨w.heap.size, 0, none⟩) (by simp; omega) (.slice a7 s.init.length k7)).set (a := ⟨w.heap.size, 1, none⟩) (by simp; omega) (.slice a8 s.procs.length k8))
                  go_wp2_with fail
                  refine ⟨K.out.ex, ?_⟩
                  rw [ordW_one]
                  simp only [pick, List.getElem?_cons_succ, List.getElem?_cons_zero]
                  replace K := hid ((K.out.set (a := ⟨w.heap.size + 1, 0, none⟩) (by simp; omega) (.slice a5 ls.length k5)).set (a := ⟨w.heap.size + 1, 1, none⟩) (by simp; omega) (.slice a6 vs.length k6))
                  go_wp2_with fail
                  refine ⟨K.out.ex, ?_⟩
                  rw [ordW_fre]
                  simp only [pick, List.getElem?_cons_succ, List.getElem?_cons_zero]
                  go_wp2_with fail
                  rw [ordW_done]
                  go_wp2_with fail
                  go_meet
                  exact HFin
                · have HFin := hid (ap_fin (w := w) (W := v104) (a5 := a5) (a6 := a6) (k5 := k5) (k6 := k6) (l5 := ls.length) (l6 := vs.length) hs hbn hwR c2 c3 c4 hB1 HW.out n4 n6 n9 n12)
                  obtain ⟨x0, x1, x2, x3, x4⟩ := boxp_but HW.out (show w.heap.size ≠ R by omega) c2
                  obtain ⟨y0, y1, y2, y3, y4⟩ := boxp_but HW.out (show w.heap.size + 1 ≠ R by omega) c3
                  obtain ⟨z0, ⟨z1, z2, z3, z4⟩, zf⟩ := box4_block HW.out.size (HW.out.block _ c4.1 (show w.heap.size + 1 + 1 ≠ R by omega)) c4
                  have zf0 := zf 0
                  have zf1 := zf 1
                  have zf2 := zf 2
                  have zf3 := zf 3
                  clear zf
                  replace K := hid ((K.out.set (a := ⟨w.heap.size, 0, none⟩) (by simp; omega) (.slice a7 s.init.length k7)).set (a := ⟨w.heap.size, 1, none⟩) (by simp; omega) (.slice a8 s.procs.length k8))
                  go_wp2_with fail
                  refine ⟨K.out.ex, ?_⟩
                  rw [ordW_two]
                  simp only [pick, List.getElem?_cons_succ, List.getElem?_cons_zero]
                  refine ⟨?_, ?_⟩
                  · go_wp2_with fail
                    refine ⟨K.out.ex, ?_⟩
                    rw [ordW_one]
                    simp only [pick, List.getElem?_cons_succ, List.getElem?_cons_zero]
                    replace K := hid ((K.out.set (a := ⟨w.heap.size + 1, 0, none⟩) (by simp; omega) (.slice a5 ls.length k5)).set (a := ⟨w.heap.size + 1, 1, none⟩) (by simp; omega) (.slice a6 vs.length k6))
                    go_wp2_with fail
                    refine ⟨K.out.ex, ?_⟩
                    rw [ordW_fre]
                    simp only [pick, List.getElem?_cons_succ, List.getElem?_cons_zero]
                    go_wp2_with fail
                    rw [ordW_done]
                    go_wp2_with fail
                    go_meet
                    exact HFin
                  · replace K := hid ((K.out.set (a := ⟨w.heap.size + 1, 0, none⟩) (by simp; omega) (.slice a5 ls.length k5)).set (a := ⟨w.heap.size + 1, 1, none⟩) (by simp; omega) (.slice a6 vs.length k6))
                    go_wp2_with fail
                    refine ⟨K.out.ex, ?_⟩
                    rw [ordW_one]
                    simp only [pick, List.getElem?_cons_succ, List.getElem?_cons_zero]
                    go_wp2_with fail
                    refine ⟨K.out.ex, ?_⟩
                    rw [ordW_fre]
                    simp only [pick, List.getElem?_cons_succ, List.getElem?_cons_zero]
                    go_wp2_with fail
                    rw [ordW_done]
                    go_wp2_with fail
                    go_meet
                    exact HFin
            · go_wp2_with fail
              have h0 := below_alloc v95 (.cells (([-1, 0, 1] : List Int).map (Value.int .i64)).toArray 3)
              have hRl := HR.out.lt
              refine ⟨(K.out.trans (KeepP.below h0)).ex, ?_⟩
              replace SC := hid (SC.out.next h0)
              replace SA := hid (SA.out.next h0)
              have SB := hid (SlIn.new v95 [-1, 0, 1] 3 R (by omega))
              replace HR := hid (HR.out.next h0)
              replace HW := hid (HW.out.next h0)
              replace K := hid (K.out.trans (KeepP.below h0))
              clear h0 hRl
              obtain ⟨bB, hbB⟩ : ∃ b, b = v95.heap.size := ⟨_, rfl⟩
              rw [← hbB] at SB ⊢
              clear hbB
              obtain ⟨v105, hv⟩ : ∃ v, v = v95.alloc (.cells #[.int .i64 (-1), .int .i64 0, .int .i64 1] 3) := ⟨_, rfl⟩
              have hv2 : v105 = v95.alloc (.cells (([-1, 0, 1] : List Int).map (Value.int .i64)).toArray 3) := hv
              rw [← hv2] at HR HW K SB SC SA
              rw [← hv]
              clear hv hv2
              rw [ordW_one]
              simp only [pick, List.getElem?_cons_succ, List.getElem?_cons_zero]
              go_wp2_with fail
              refine (num_sl [0, 1, -1, 3] (-1) 3 (by simp) (by decide) (by decide) B v105 R (q0) bA HR.out SA.out (by omega)).mono ?_
              rintro e v106 ⟨n4, rfl, _, hb, hr⟩
              clear SA
              replace SC := hid (SC.out.but hb)
              replace SB := hid (SB.out.but hb)
              replace HW := hid (HW.out.trans hb)
              replace K := hid (K.out.trans (KeepP.but hb (by simp; omega)))
              replace HR := hid hr
              clear hb hr
              go_wp2_with fail
              refine ⟨K.out.ex, ?_⟩
              rw [ordW_one]
              simp only [pick, List.getElem?_cons_succ, List.getElem?_cons_zero]
              go_wp2_with fail
              refine (pick_any B _ v106 R (q0 + 1) HR.out (by omega) (by omega) (by omega)).mono ?_
              rintro e v107 ⟨n6, rfl, ⟨m0, m1, _⟩, hb, hr⟩
              replace SC := hid (SC.out.but hb)
              replace SB := hid (SB.out.but hb)
              replace HW := hid (HW.out.trans hb)
              replace K := hid (K.out.trans (KeepP.but hb (by simp; omega)))
              replace HR := hid hr
              clear hb hr
              go_wp2_with fail
              refine ⟨K.out.ex, ?_⟩
              rw [ordW_one]
              simp only [pick, List.getElem?_cons_succ, List.getElem?_cons_zero]
              go_wp2_with fail
              refine (num_sl [-1, 0, 1] (-1) 1 (by simp) (by decide) (by decide) B v107 R (q0 + 1 + 1) bB HR.out SB.out (by omega)).mono ?_
              rintro e v108 ⟨n9, rfl, _, hb, hr⟩
              clear SB
              replace SC := hid (SC.out.but hb)
              replace HW := hid (HW.out.trans hb)
              replace K := hid (K.out.trans (KeepP.but hb (by simp; omega)))
              replace HR := hid hr
              clear hb hr
              go_wp2_with fail
              refine ⟨K.out.ex, ?_⟩
              rw [ordW_one]
              simp only [pick, List.getElem?_cons_succ, List.getElem?_cons_zero]
              go_wp2_with fail
              refine (num_sl [-1, 0, 1] (-1) 1 (by simp) (by decide) (by decide) B v108 R (q0 + 1 + 1 + 1) bC HR.out SC.out (by omega)).mono ?_
              rintro e v109 ⟨n12, rfl, _, hb, hr⟩
              clear SC
              replace HW := hid (HW.out.trans hb)
              replace K := hid (K.out.trans (KeepP.but hb (by simp; omega)))
              replace HR := hid hr
              clear hb hr
              go_wp2_with fail
              refine ⟨K.out.ex, ?_⟩
              rw [ordW_two]
              simp only [pick, List.getElem?_cons_succ, List.getElem?_cons_zero]
              refine ⟨?_, ?_⟩
              · go_wp2_with fail
                refine ⟨K.out.ex, ?_⟩
                rw [ordW_one]
                simp only [pick, List.getElem?_cons_succ, List.getElem?_cons_zero]
                have HFin := hid (ap_fin (w := w) (W := v109) (a5 := a5) (a6 := a6) (k5 := k5) (k6 := k6) (l5 := ls.length) (l6 := vs.length) hs hbn hwR c2 c3 c4 hB1 HW.out n4 n6 n9 n12)
                obtain ⟨x0, x1, x2, x3, x4⟩ := boxp_but HW.out (show w.heap.size ≠ R by omega) c2
                obtain ⟨y0, y1, y2, y3, y4⟩ := boxp_but HW.out (show w.heap.size + 1 ≠ R by omega) c3
                obtain ⟨z0, ⟨z1, z2, z3, z4⟩, zf⟩ := box4_block HW.out.size (HW.out.block _ c4.1 (show w.heap.size + 1 + 1 ≠ R by omega)) c4
                have zf0 := zf 0
                have zf1 := zf 1
                have zf2 := zf 2
                have zf3 := zf 3
                clear zf
                replace K := hid ((K.out.set (a := ⟨w.heap.size, 0, none⟩) (by simp; omega) (.slice a7 s.init.length k7)).set (a := ⟨w.heap.size, 1, none⟩) (by simp; omega) (.slice a8 s.procs.length k8))
                go_wp2_with fail
                refine ⟨K.out.ex, ?_⟩
                rw [ordW_one]
                simp only [pick, List.getElem?_cons_succ, List.getElem?_cons_zero]
                replace K := hid ((K.out.set (a := ⟨w.heap.size + 1, 0, none⟩) (by simp; omega) (.slice a5 ls.length k5)).set (a := ⟨w.heap.size + 1, 1, none⟩) (by simp; omega) (.slice a6 vs.length k6))
                go_wp2_with fail
                refine ⟨K.out.ex, ?_⟩
                rw [ordW_fre]
                simp only [pick, List.getElem?_cons_succ, List.getElem?_cons_zero]
                go_wp2_with fail
                rw [ordW_done]
                go_wp2_with fail
                go_meet
                exact HFin
              · have HFin := hid (ap_fin (w := w) (W := v109) (a5 := a5) (a6 := a6) (k5 := k5) (k6 := k6) (l5 := ls.length) (l6 := vs.length) hs hbn hwR c2 c3 c4 hB1 HW.out n4 n6 n9 n12)
                obtain ⟨x0, x1, x2, x3, x4⟩ := boxp_but HW.out (show w.heap.size ≠ R by omega) c2
                obtain ⟨y0, y1, y2, y3, y4⟩ := boxp_but HW.out (show w.heap.size + 1 ≠ R by omega) c3
                obtain ⟨z0, ⟨z1, z2, z3, z4⟩, zf⟩ := box4_block HW.out.size (HW.out.block _ c4.1 (show w.heap.size + 1 + 1 ≠ R by omega)) c4
                have zf0 := zf 0
                have zf1 := zf 1
                have zf2 := zf 2
                have zf3 := zf 3
                clear zf
                replace K := hid ((K.out.set (a := ⟨w.heap.size, 0, none⟩) (by simp; omega) (.slice a7 s.init.length k7)).set (a := ⟨w.heap.size, 1, none⟩) (by simp; omega) (.slice a8 s.procs.length k8))
                go_wp2_with fail
                refine ⟨K.out.ex, ?_⟩
                rw [ordW_two]
                simp only [pick, List.getElem?_cons_succ, List.getElem?_cons_zero]
                refine ⟨?_, ?_⟩
                · go_wp2_with fail
                  refine ⟨K.out.ex, ?_⟩
                  rw [ordW_one]
                  simp only [pick, List.getElem?_cons_succ, List.getElem?_cons_zero]
                  replace K := hid ((K.out.set (a := ⟨w.heap.size + 1, 0, none⟩) (by simp; omega) (.slice a5 ls.length k5)).set (a := ⟨w.heap.size + 1, 1, none⟩) (by simp; omega) (.slice a6 vs.length k6))
                  go_wp2_with fail
                  refine ⟨K.out.ex, ?_⟩
                  rw [ordW_fre]
                  simp only [pick, List.getElem?_cons_succ, List.getElem?_cons_zero]
                  go_wp2_with fail
                  rw [ordW_done]
                  go_wp2_with fail
                  go_meet
                  exact HFin
                · replace K := hid ((K.out.set (a := ⟨w.heap.size + 1, 0, none⟩) (by simp; omega) (.slice a5 ls.length k5)).set (a := ⟨w.heap.size + 1, 1, none⟩) (by simp; omega) (.slice a6 vs.length k6))
                  go_wp2_with fail
                  refine ⟨K.out.ex, ?_⟩
                  rw [ordW_one]
                  simp only [pick, List.getElem?_cons_succ, List.getElem?_cons_zero]
                  go_wp2_with fail
                  refine ⟨K.out.ex, ?_⟩
                  rw [ordW_fre]
                  simp only [pick, List.getElem?_cons_succ, List.getElem?_cons_zero]
                  go_wp2_with fail
                  rw [ordW_done]
                  go_wp2_with fail
                  go_meet
                  exact HFin
          · go_wp2_with fail
            have h0 := below_alloc v94 (.cells (([-1, 0, 1] : List Int).map (Value.int .i64)).toArray 3)
            have hRl := HR.out.lt
            refine ⟨(K.out.trans (KeepP.below h0)).ex, ?_⟩
            replace SC := hid (SC.out.next h0)
            have SB := hid (SlIn.new v94 [-1, 0, 1] 3 R (by omega))
            replace HR := hid (HR.out.next h0)
            replace HW := hid (HW.out.next h0)
            replace K := hid (K.out.trans (KeepP.below h0))
            clear h0 hRl
            obtain ⟨bB, hbB⟩ : ∃ b, b = v94.heap.size := ⟨_, rfl⟩
            rw [← hbB] at SB ⊢
            clear hbB
            obtain ⟨v110, hv⟩ : ∃ v, v = v94.alloc (.cells #[.int .i64 (-1), .int .i64 0, .int .i64 1] 3) := ⟨_, rfl⟩
            have hv2 : v110 = v94.alloc (.cells (([-1, 0, 1] : List Int).map (Value.int .i64)).toArray 3) := hv
            rw [← hv2] at HR HW K SB SC
            rw [← hv]
            clear hv hv2
            rw [ordW_one]
            simp only [pick, List.getElem?_cons_succ, List.getElem?_cons_zero]
            go_wp2_with fail
            have h0 := below_alloc v110 (.cells (([0, 1, -1, 3] : List Int).map (Value.int .i64)).toArray 3)
            have hRl := HR.out.lt
            refine ⟨(K.out.trans (KeepP.below h0)).ex, ?_⟩
            replace SC := hid (SC.out.next h0)
            replace SB := hid (SB.out.next h0)
            have SA := hid (SlIn.new v110 [0, 1, -1, 3] 3 R (by omega))
            replace HR := hid (HR.out.next h0)
            replace HW := hid (HW.out.next h0)
            replace K := hid (K.out.trans (KeepP.below h0))
            clear h0 hRl
            obtain ⟨bA, hbA⟩ : ∃ b, b = v110.heap.size := ⟨_, rfl⟩
            rw [← hbA] at SA ⊢
            clear hbA
            obtain ⟨v111, hv⟩ : ∃ v, v = v110.alloc (.cells #[.int .i64 0, .int .i64 1, .int .i64 (-1), .int .i64 3] 3) := ⟨_, rfl⟩
            have hv2 : v111 = v110.alloc (.cells (([0, 1, -1, 3] : List Int).map (Value.int .i64)).toArray 3) := hv
            rw [← hv2] at HR HW K SA SC SB
            rw [← hv]
            clear hv hv2
            rw [ordW_one]
            simp only [pick, List.getElem?_cons_succ, List.getElem?_cons_zero]
            go_wp2_with fail
            refine (num_sl [0, 1, -1, 3] (-1) 3 (by simp) (by decide) (by decide) B v111 R (q0) bA HR.out SA.out (by omega)).mono ?_
            rintro e v112 ⟨n4, rfl, _, hb, hr⟩
            clear SA
            replace SC := hid (SC.out.but hb)
            replace SB := hid (SB.out.but hb)
            replace HW := hid (HW.out.trans hb)
            replace K := hid (K.out.trans (KeepP.but hb (by simp; omega)))
            replace HR := hid hr
            clear hb hr
            go_wp2_with fail
            refine ⟨K.out.ex, ?_⟩
            rw [ordW_one]
            simp only [pick, List.getElem?_cons_succ, List.getElem?_cons_zero]
            go_wp2_with fail
            refine (pick_any B _ v112 R (q0 + 1) HR.out (by omega) (by omega) (by omega)).mono ?_
            rintro e v113 ⟨n6, rfl, ⟨m0, m1, _⟩, hb, hr⟩
            replace SC := hid (SC.out.but hb)
            replace SB := hid (SB.out.but hb)
            replace HW := hid (HW.out.trans hb)
            replace K := hid (K.out.trans (KeepP.but hb (by simp; omega)))
            replace HR := hid hr
            clear hb hr
            go_wp2_with fail
            refine ⟨K.out.ex, ?_⟩
            rw [ordW_one]
            simp only [pick, List.getElem?_cons_succ, List.getElem?_cons_zero]
            go_wp2_with fail
            refine (num_sl [-1, 0, 1] (-1) 1 (by simp) (by decide) (by decide) B v113 R (q0 + 1 + 1) bB HR.out SB.out (by omega)).mono ?_
            rintro e v114 ⟨n9, rfl, _, hb, hr⟩
            clear SB
            replace SC := hid (SC.out.but hb)
            replace HW := hid (HW.out.trans hb)
            replace K := hid (K.out.trans (KeepP.but hb (by simp; omega)))
            replace HR := hid hr
            clear hb hr
            go_wp2_with fail
            refine ⟨K.out.ex, ?_⟩
            rw [ordW_one]
            simp only [pick, List.getElem?_cons_succ, List.getElem?_cons_zero]
            go_wp2_with fail
            refine (num_sl [-1, 0, 1] (-1) 1 (by simp) (by decide) (by decide) B v114 R (q0 + 1 + 1 + 1) bC HR.out SC.out (by omega)).mono ?_
            rintro e v115 ⟨n12, rfl, _, hb, hr⟩
            clear SC
            replace HW := hid (HW.out.trans hb)
            replace K := hid (K.out.trans (KeepP.but hb (by simp; omega)))
            replace HR := hid hr
            clear hb hr
            go_wp2_with fail
            refine ⟨K.out.ex, ?_⟩
            rw [ordW_two]
            simp only [pick, List.getElem?_cons_succ, List.getElem?_cons_zero]
            refine ⟨?_, ?_⟩
            · go_wp2_with fail
              refine ⟨K.out.ex, ?_⟩
              rw [ordW_one]
              simp only [pick, List.getElem?_cons_succ, List.getElem?_cons_zero]
              have HFin := hid (ap_fin (w := w) (W := v115) (a5 := a5) (a6 := a6) (k5 := k5) (k6 := k6) (l5 := ls.length) (l6 := vs.length) hs hbn hwR c2 c3 c4 hB1 HW.out n4 n6 n9 n12)
              obtain ⟨x0, x1, x2, x3, x4⟩ := boxp_but HW.out (show w.heap.size ≠ R by omega) c2
              obtain ⟨y0, y1, y2, y3, y4⟩ := boxp_but HW.out (show w.heap.size + 1 ≠ R by omega) c3
              obtain ⟨z0, ⟨z1, z2, z3, z4⟩, zf⟩ := box4_block HW.out.size (HW.out.block _ c4.1 (show w.heap.size + 1 + 1 ≠ R by omega)) c4
              have zf0 := zf 0
              have zf1 := zf 1
              have zf2 := zf 2
              have zf3 := zf 3
              clear zf
              replace K := hid ((K.out.set (a := ⟨w.heap.size, 0, none⟩) (by simp; omega) (.slice a7 s.init.length k7)).set (a := ⟨w.heap.size, 1, none⟩) (by simp; omega) (.slice a8 s.procs.length k8))
              go_wp2_with fail
              refine ⟨K.out.ex, ?_⟩
              rw [ordW_one]
              simp only [pick, List.getElem?_cons_succ, List.getElem?_cons_zero]
              replace K := hid ((K.out.set (a := ⟨w.heap.size + 1, 0, none⟩) (by simp; omega) (.slice a5 ls.length k5)).set (a := ⟨w.heap.size + 1, 1, none⟩) (by simp; omega) (.slice a6 vs.length k6))
              go_wp2_with fail
              refine ⟨K.out.ex, ?_⟩
              rw [ordW_fre]
              simp only [pick, List.getElem?_cons_succ, List.getElem?_cons_zero]
              go_wp2_with fail
              rw [ordW_done]
              go_wp2_with fail
              go_meet
              exact HFin
            · have HFin := hid (ap_fin (w := w) (W := v115) (a5 := a5) (a6 := a6) (k5 := k5) (k6 := k6) (l5 := ls.length) (l6 := vs.length) hs hbn hwR c2 c3 c4 hB1 HW.out n4 n6 n9 n12)
              obtain ⟨x0, x1, x2, x3, x4⟩ := boxp_but HW.out (show w.heap.size ≠ R by omega) c2
              obtain ⟨y0, y1, y2, y3, y4⟩ := boxp_but HW.out (show w.heap.size + 1 ≠ R by omega) c3
              obtain ⟨z0, ⟨z1, z2, z3, z4⟩, zf⟩ := box4_block HW.out.size (HW.out.block _ c4.1 (show w.heap.size + 1 + 1 ≠ R by omega)) c4
              have zf0 := zf 0
              have zf1 := zf 1
              have zf2 := zf 2
              have zf3 := zf 3
              clear zf
              replace K := hid ((K.out.set (a := ⟨w.heap.size, 0, none⟩) (by simp; omega) (.slice a7 s.init.length k7)).set (a := ⟨w.heap.size, 1, none⟩) (by simp; omega) (.slice a8 s.procs.length k8))
              go_wp2_with fail
              refine ⟨K.out.ex, ?_⟩
              rw [ordW_two]
              simp only [pick, List.getElem?_cons_succ, List.getElem?_cons_zero]
              refine ⟨?_, ?_⟩
              · go_wp2_with fail
                refine ⟨K.out.ex, ?_⟩
                rw [ordW_one]
                simp only [pick, List.getElem?_cons_succ, List.getElem?_cons_zero]
                replace K := hid ((K.out.set (a := ⟨w.heap.size + 1, 0, none⟩) (by simp; omega) (.slice a5 ls.length k5)).set (a := ⟨w.heap.size + 1, 1, none⟩) (by simp; omega) (.slice a6 vs.length k6))
                go_wp2_with fail
                refine ⟨K.out.ex, ?_⟩
                rw [ordW_fre]
                simp only [pick, List.getElem?_cons_succ, List.getElem?_cons_zero]
                go_wp2_with fail
                rw [ordW_done]
                go_wp2_with fail
                go_meet
                exact HFin
              · replace K := hid ((K.out.set (a := ⟨w.heap.size + 1, 0, none⟩) (by simp; omega) (.slice a5 ls.length k5)).set (a := ⟨w.heap.size + 1, 1, none⟩) (by simp; omega) (.slice a6 vs.length k6))
                go_wp2_with fail
                refine ⟨K.out.ex, ?_⟩
                rw [ordW_one]
                simp only [pick, List.getElem?_cons_succ, List.getElem?_cons_zero]
                go_wp2_with fail
                refine ⟨K.out.ex, ?_⟩
                rw [ordW_fre]
                simp only [pick, List.getElem?_cons_succ, List.getElem?_cons_zero]
                go_wp2_with fail
                rw [ordW_done]
                go_wp2_with fail
                go_meet
                exact HFin
      case rest =>
      obtain ⟨n1, n2, n3, n4, h2, h3, h4, hsF, hBF⟩ := hcut.out
      obtain ⟨_, t0, t1, _, _⟩ := h2
      obtain ⟨_, u0, u1, _, _⟩ := h3
      obtain ⟨_, ⟨w0, w1', w2', w3'⟩, _⟩ := h4
      have HF := hid (And.intro hsF hBF)
      clear hsF hBF
      go_wp2_with fail
      refine bodyPost_ret (v := .tuple #[.agg #[.slice a7 s.init.length k7, .slice a8 s.procs.length k8], .agg #[.slice a5 ls.length k5, .slice a6 vs.length k6], .agg #[.int .i64 n1, .int .i64 n2, .int .i64 n3, .int .i64 n4]]) (by simp [results, Try.results60, go_sem, t0, t1, u0, u1, w0, w1', w2', w3']) rfl ?_
      exact RetP.mk ⟨_, s, _, _, _, _, _, _, n1, n2, n3, n4, rfl, HF.out.1, hbn⟩ HF.out.2
end Go.Proofs.Ytffadknollkgiaa
