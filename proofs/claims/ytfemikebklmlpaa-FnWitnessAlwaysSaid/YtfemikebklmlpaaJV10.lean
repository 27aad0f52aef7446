/- Joined texts (InitV, StDraw, FindS, FindS2): contracts and plain laws. Conditions: those of each theorem. -/
import Derived.Test.YtfemikebklmlpaaJV6
import Derived.Test.YtfemikebklmlpaaJV3
import Derived.Test.YtfemikebklmlpaaJV2
import Derived.Test.YtfemikebklmlpaaJV8
import Derived.Test.YtfemikebklmlpaaJV9
import Derived.Test.YtfemikebklmlpaaJV1
set_option linter.unusedVariables false
set_option linter.unusedSimpArgs false
namespace Go.Proofs.Ytfemikebklmlpaa
open Go.RowKit
set_option linter.unusedVariables false
set_option linter.unusedSimpArgs false
namespace Sys

/-- what InitialState returns -/
def initL (s : Sy) : List Int := if okSy s = true then List.replicate s.procs.length 0 else []
def initM (s : Sy) : List Int := if okSy s = true then s.init else []
/-- a state of one's own, and a truth -/
def StV (B : Nat) (l m : List Int) (ok : Bool) (v : Value) (w : World) : Prop := ∃ a c bs a' c' bs', v = .tuple #[.agg #[.slice a l.length c, .slice a' m.length c'], .bool ok] ∧
  (l.length ≤ c ∧ c ≤ maxLen ∧ OwnV (l.map (Value.int .i64)) a bs w ∧ ∀ b, b ∈ bs → B ≤ b) ∧ (m.length ≤ c' ∧ c' ≤ maxLen ∧ OwnV (m.map (Value.int .i64)) a' bs' w ∧ ∀ b, b ∈ bs' → B ≤ b) ∧ ∀ b, b ∈ bs → b ∉ bs'
/-- the same, alone -/
def StA (B : Nat) (l m : List Int) (v : Value) (w : World) : Prop := ∃ a c bs a' c' bs', v = .agg #[.slice a l.length c, .slice a' m.length c'] ∧
  (l.length ≤ c ∧ c ≤ maxLen ∧ OwnV (l.map (Value.int .i64)) a bs w ∧ ∀ b, b ∈ bs → B ≤ b) ∧ (m.length ≤ c' ∧ c' ≤ maxLen ∧ OwnV (m.map (Value.int .i64)) a' bs' w ∧ ∀ b, b ∈ bs' → B ≤ b) ∧ ∀ b, b ∈ bs → b ∉ bs'
theorem StV.nil (B : Nat) (ok : Bool) (w : World) : StV B [] [] ok (.tuple #[.agg #[.slice none 0 0, .slice none 0 0], .bool ok]) w := ⟨none, 0, [], none, 0, [], rfl, ⟨Nat.le_refl _, by simp, .inl ⟨rfl, rfl⟩, by simp⟩, ⟨Nat.le_refl _, by simp, .inl ⟨rfl, rfl⟩, by simp⟩, by simp⟩
theorem own_row {w : World} {R : Nat} {l : List Int} (h : Row w R l.length (fun i => (l.map (Value.int .i64)).getD i undef)) : OwnV (l.map (Value.int .i64)) (some ⟨R, 0, none⟩) [R] w := .inr ⟨R, rfl, rfl, by rw [List.length_map]; exact h⟩
theorem StA.of {B R R' c' n : Nat} {w : World} {m : List Int} (hn : n ≤ 1000) (h : Row w R n (fun i => (zerosI n).getD i undef)) (h' : Row w R' m.length (fun i => (m.map (Value.int .i64)).getD i undef)) (hc : m.length ≤ c') (hc2 : c' ≤ maxLen) (hB : B ≤ R) (hB' : B ≤ R') (hne : R ≠ R') :
    StA B (List.replicate n 0) m (.agg #[.slice (some ⟨R, 0, none⟩) n n, .slice (some ⟨R', 0, none⟩) m.length c']) w :=
  ⟨some ⟨R, 0, none⟩, n, [R], some ⟨R', 0, none⟩, c', [R'], by simp, ⟨by simp, by unfold maxLen; omega, own_row (by
    rw [List.length_replicate]
    exact h.congr fun i hi => by simp [zerosI, madeCells, hi, Array.getD, Nat.mod_one]), by simpa using hB⟩, ⟨hc, hc2, own_row h', by simpa using hB'⟩, by simpa using hne⟩
theorem StA.frame {B : Nat} {l m : List Int} {v : Value} {w w' : World} (h : StA B l m v w) (hs : w.heap.size ≤ w'.heap.size) (hb : ∀ b, B ≤ b → b < w.heap.size → w'.heap[b]? = w.heap[b]?) : StA B l m v w' := by
  obtain ⟨a, c, bs, a', c', bs', e, ⟨h1, h2, h3, h4⟩, ⟨k1, k2, k3, k4⟩, hd⟩ := h
  exact ⟨a, c, bs, a', c', bs', e, ⟨h1, h2, h3.frame hs fun b hb' hl => hb b (h4 b hb') hl, h4⟩, ⟨k1, k2, k3.frame hs fun b hb' hl => hb b (k4 b hb') hl, k4⟩, hd⟩

/-- append to an empty row of one's own, at the operation; where the result may lie -/
theorem wp_app_at {ops : Array Oper} {rest : List Oper} {o : Oper} {a : Act} {Q : Exit → Act → World → Prop} {w : World} (hgd : o.guard = none) (s x : Operand)
    (ho : o.op = .call { callee := .builtin .append, args := #[s, x], argTypes := #[30, 30] }) (g : Nat) (l : List Int) (ad : Addr) (c : Nat) (hs : a.eval s = .slice (some ⟨g, 0, none⟩) 0 0) (hx : a.eval x = .slice (some ad) l.length c)
    (hv : OwnI g (.slice (some ⟨g, 0, none⟩) 0 0) [] w) (hB : g ≤ w.heap.size) (hl : IntsIn Any w (some ad) l) (h2 : l.length ≤ 1000000)
    (h : ∀ g' c' w', (g' = g ∨ g' = w.heap.size) → l.length ≤ c' → c' ≤ maxLen → Row w' g' l.length (fun i => (l.map (Value.int .i64)).getD i undef) → w.grownBy w' (some g) → wpList Try.prog ops Q rest (a.put o.dst (.slice (some ⟨g', 0, none⟩) l.length c')) w') :
    wpList Try.prog ops Q (o :: rest) a w := by
  obtain ⟨ri, hi, hz, hs1, hs2⟩ := info_parts ints_info
  refine wpList_append_own_at _ hgd s x 30 ho g 3 ri (.int .i64 0) 1 8 Try.underlying30 hi hz hs1 hs2 rfl (by omega) _ 0 _ hs hv ad l.length c (l.map (Value.int .i64)) hx (by simp) (fun j u hj => ?_) (fun u hu => ?_) (by simp only [maxLen]; omega) (by omega) hB ?_
  · rcases hl.1 with h0 | ⟨b, o', h1, h2, h3, h4⟩
    · rw [h0] at hj; simp at hj
    · obtain rfl : ad = ⟨b, o', none⟩ := by simpa using h1
      have := h4 j u hj
      have e : Addr.add ⟨b, o', none⟩ j = ⟨b, o' + j, none⟩ := by unfold Addr.add; split <;> simp_all
      rw [e]
      exact this
  · simp at hu
    obtain ⟨n, _, rfl⟩ := hu
    rfl
  · intro v2 w3 hown hgrow hnil hblk
    have ho2 : OwnI g v2 l w3 := by unfold OwnI; simpa using hown
    rcases ho2.row with ⟨rfl, rfl⟩ | ⟨g', c', rfl, h1, h3, h4, h5⟩
    · simp at hnil
    · exact h g' c' w3 (by simpa [Value.ownBlock] using hblk) h3 h4 h5 (by simpa [Value.ownBlock] using hgrow)
theorem grown_below {w1 W w' : World} {g : Nat} (hb : Below w1.heap.size w1 W) (hg : W.grownBy w' (some g)) (h : w1.heap.size ≤ g) : Below w1.heap.size w1 w' :=
  ⟨hg.os.trans hb.os, hg.tape.trans hb.tape, hg.output.trans hb.output, Nat.le_trans hb.size hg.size, fun k hk => by
    rw [hg.block k (Nat.lt_of_lt_of_le hk hb.size) (fun e => by simp at e; omega), hb.block k hk]⟩
theorem own_at {g : Nat} {w : World} (h : w.heap[g]? = some (.cells #[] 3)) : OwnI g (.slice (some ⟨g, 0, none⟩) 0 0) [] w := ⟨by simp, .inr ⟨g, 0, #[], rfl, Nat.le_refl _, h, Nat.le_refl _, by simp, by simp, by simp⟩⟩
theorem StA.truth {B : Nat} {l m : List Int} {v : Value} {w : World} (h : StA B l m v w) (ok : Bool) : StV B l m ok (.tuple #[v, .bool ok]) w := by
  obtain ⟨a, c, bs, a', c', bs', rfl, h⟩ := h
  exact ⟨a, c, bs, a', c', bs', rfl, h⟩
theorem StA.low {B B' : Nat} {l m : List Int} {v : Value} {w : World} (h : StA B l m v w) (hb : B' ≤ B) : StA B' l m v w := by
  obtain ⟨a, c, bs, a', c', bs', e, ⟨h1, h2, h3, h4⟩, ⟨k1, k2, k3, k4⟩, hd⟩ := h
  exact ⟨a, c, bs, a', c', bs', e, ⟨h1, h2, h3, fun b h => Nat.le_trans hb (h4 b h)⟩, ⟨k1, k2, k3, fun b h => Nat.le_trans hb (k4 b h)⟩, hd⟩
theorem StA.set2 {B C : Nat} {l m : List Int} {v u1 u2 : Value} {w : World} (h : StA B l m v w) (hC : C < B) : StA B l m v ((w.setCell ⟨C, 0, none⟩ u1).setCell ⟨C, 1, none⟩ u2) :=
  h.frame (by simp) fun b hb _ => by
    rw [Below.heap_setCell _ _ _ _ (by simp; omega), Below.heap_setCell _ _ _ _ (by simp; omega)]
theorem init_some {s : Sy} (h : okSy s = true) : s.init.length = 3 := by
  rw [okSy] at h
  simp only [Bool.and_eq_true, decide_eq_true_eq] at h
  have := h.2.1
  rw [Expr.okVals, Bool.and_eq_true, decide_eq_true_eq] at this
  exact this.2
theorem ints_some {p : Nat → Prop} {w : World} {a : Option Addr} {l : List Int} (h : IntsIn p w a l) (hl : l.length = 3) : ∃ ad, a = some ad := by
  rcases h.1 with h0 | ⟨b, o, h1, _⟩
  · have : l = [] := by simpa using h0
    subst this; simp at hl
  · exact ⟨_, h1⟩

set_option maxRecDepth 100000 in
set_option maxHeartbeats 4000000 in
theorem specInit_any (s : Sy) (w : World) (x : Value) (hx : SyIn Any w s x) : Calls Try.prog 86 #[x] w (RetP (StV w.heap.size (initL s) (initM s) (okSy s)) w) := by
  have HX := hid hx
  have HV := hid (fun (W : World) (M : Below w.heap.size w W) => specValid_any s W x (HX.out.below M))
  obtain ⟨a, c, b, d, rfl, hc, hc2, hi, hd, hd2, hp⟩ := hx
  have HI := hid hi
  clear hi hp hd hd2 HX
  cases ho : okSy s with
  | false =>
    have E1 := hid (show initL s = [] by rw [initL, ho]; simp)
    have E2 := hid (show initM s = [] by rw [initM, ho]; simp)
    rw [ho] at HV
    clear ho
    go_enter Try.func86, Try.ntmps86
    go_wp2_with fail
    refine (HV.out _ (by repeat (first | exact Below.refl _ _ | assumption | refine below_a ?_ _ | refine below_o ?_ _ | refine below_d ?_ | refine below_n ?_ _ | refine below_s ?_ (by first | (simp; done) | (simp; omega) | omega) _))).mono ?_
    rintro y w1 ⟨rfl, hb⟩
    have X2 := hid (box2_next hb (box2_at (w := w.alloc (.cells #[.slice a s.init.length c, .slice b s.procs.length d] 96)) (B := w.heap.size + 1) (a := .slice none 0 0) (b := .slice none 0 0) (t := 91) (by simp)))
    have B1 := hid (below_next (show Below w.heap.size w _ from (by repeat (first | exact Below.refl _ _ | assumption | refine below_a ?_ _ | refine below_o ?_ _ | refine below_d ?_ | refine below_n ?_ _ | refine below_s ?_ (by first | (simp; done) | (simp; omega) | omega) _))) hb)
    have sz1 := X2.out.1
    clear hb
    obtain ⟨p0, p1, p2, _⟩ := id X2.out
    go_wp2_with fail
    obtain ⟨y0, y1, y2, _⟩ := box2_set1 (box2_set0 X2.out (.slice none 0 0)) (.slice none 0 0)
    refine bodyPost_ret (v := .tuple #[.agg #[.slice none 0 0, .slice none 0 0], .bool false]) (by simp [results, Try.results86, go_sem, y1, y2]) rfl ?_
    exact RetP.mk (by rw [E1.out, E2.out]; exact StV.nil _ _ _) ((B1.out.setCell (by simp) _).setCell (by simp) _)
  | true =>
    have HE := hid (show initL s = List.replicate s.procs.length 0 ∧ initM s = s.init by rw [initL, initM, if_pos ho, if_pos ho]; exact ⟨rfl, rfl⟩)
    have hn3 := (okSy_procs ho).1
    have h3 := init_some ho
    obtain ⟨ad, rfl⟩ := ints_some HI.out h3
    have hmk := make_ints s.procs.length (by omega)
    rw [ho] at HV
    have HL := hid h3
    clear ho h3
    go_enter Try.func86, Try.ntmps86
    go_wp2_with fail
    refine (HV.out _ (by repeat (first | exact Below.refl _ _ | assumption | refine below_a ?_ _ | refine below_o ?_ _ | refine below_d ?_ | refine below_n ?_ _ | refine below_s ?_ (by first | (simp; done) | (simp; omega) | omega) _))).mono ?_
    rintro y w1 ⟨rfl, hb⟩
    have X1 := hid (box2_next hb (box2_next (below_alloc _ _) (box2_at (w := w) (a := .slice (some ad) s.init.length c) (b := .slice b s.procs.length d) rfl)))
    have X2 := hid (box2_next hb (box2_at (w := w.alloc (.cells #[.slice (some ad) s.init.length c, .slice b s.procs.length d] 96)) (B := w.heap.size + 1) (a := .slice none 0 0) (b := .slice none 0 0) (t := 91) (by simp)))
    have B1 := hid (below_next (show Below w.heap.size w _ from (by repeat (first | exact Below.refl _ _ | assumption | refine below_a ?_ _ | refine below_o ?_ _ | refine below_d ?_ | refine below_n ?_ _ | refine below_s ?_ (by first | (simp; done) | (simp; omega) | omega) _))) hb)
    have sz1 := X2.out.1
    clear hb
    obtain ⟨p0, p1, p2, p3, p4⟩ := id X1.out
    go_wp2_with fail
    refine wp_region_ord (C := fun wZ => ∃ xZ, wZ = World.over _ xZ) [0,1,2,5,6] (.two 3 4 (.one 4 (.one 7 (.one 8 (.fre 9 (.fre 10 .done))))) (.two 3 7 (.one 7 (.one 8 (.fre 9 (.fre 10 .done)))) (.one 3 (.one 8 (.fre 9 (.fre 10 .done)))))) [9,10] (by kernel_rfl) (by kernel_rfl) (fun d _ _ _ _ h => by cases d <;> exact h) (bex (Below.refl _ _).drew) ?_; simp only [pick, List.getElem?_cons_succ, List.getElem?_cons_zero]; (repeat (go_big_quiet_step (fail))); refine wpQuiet_nil ?_; simp only [ordW, pick, List.getElem?_cons_succ, List.getElem?_cons_zero]
    refine ⟨?_, ?_⟩
    · go_wp2_with fail
      refine ⟨bex (by repeat (first | exact Below.refl _ _ | assumption | refine below_a ?_ _ | refine below_o ?_ _ | refine below_d ?_ | refine below_n ?_ _ | refine below_s ?_ (by first | (simp; done) | (simp; omega) | omega) _)), ?_⟩
      go_wp2_with fail
      refine ⟨bex (by repeat (first | exact Below.refl _ _ | assumption | refine below_a ?_ _ | refine below_o ?_ _ | refine below_d ?_ | refine below_n ?_ _ | refine below_s ?_ (by first | (simp; done) | (simp; omega) | omega) _)), ?_⟩
      have OW := hid (own_at (g := w1.heap.size + 1) (w := ((w1.alloc (.cells (zerosI s.procs.length) 3)).alloc (.cells #[] 3)).drew) (by have := heap_alloc_new (w1.alloc (.cells (zerosI s.procs.length) 3)) (.cells #[] 3); rw [show (w1.alloc (.cells (zerosI s.procs.length) 3)).heap.size = w1.heap.size + 1 by simp] at this; exact this))
      have Z1 := hid (Row.below (row_new (w := w1) (cs := zerosI s.procs.length) (n := s.procs.length) (by rw [zerosI, size_madeCells]) 3) (below_d (below_alloc _ (.cells #[] 3))))
      go_wp2_with (at_builtin; refine wp_app_at rfl _ _ rfl (w1.heap.size + 1) s.init ad c rfl rfl OW.out (by simp; try omega) (HI.out.below (below_next B1.out (by repeat (first | exact Below.refl _ _ | assumption | refine below_a ?_ _ | refine below_o ?_ _ | refine below_d ?_ | refine below_n ?_ _ | refine below_s ?_ (by first | (simp; done) | (simp; omega) | omega) _)))) (by have := HL.out; omega) ?_; intro g' c' w' hg hc1 hc3 hrow hgr)
      have BG := hid (grown_below (w1 := w1) (W := ((w1.alloc (.cells (zerosI s.procs.length) 3)).alloc (.cells #[] 3)).drew) (by repeat (first | exact Below.refl _ _ | assumption | refine below_a ?_ _ | refine below_o ?_ _ | refine below_d ?_ | refine below_n ?_ _ | refine below_s ?_ (by first | (simp; done) | (simp; omega) | omega) _)) hgr (by omega))
      have HR := hid (Row.kept Z1.out hgr.size (hgr.block _ (by first | (simp; done) | (simp; omega) | omega) (by first | (simp; done) | (simp; omega) | omega)))
      have HS := hid (StA.of (B := w1.heap.size) (by omega) HR.out hrow hc1 hc3 (by omega) (by have := BG.out.size; simp at hg; omega) (by simp at hg; omega))
      clear OW Z1 HR
      have X3 := hid (box2_next BG.out X2.out)
      clear hrow hgr hg
      go_wp2_with fail
      refine ⟨bex BG.out, ?_⟩
      go_wp2_with fail
      refine ⟨bex BG.out, ?_⟩
      obtain ⟨x0, x1, x2, x3, x4⟩ := id X3.out
      go_wp2_with fail
      obtain ⟨y0, y1, y2, _⟩ := box2_set1 (box2_set0 X3.out (.slice (some ⟨w1.heap.size, 0, none⟩) s.procs.length s.procs.length)) (.slice (some ⟨g', 0, none⟩) s.init.length c')
      refine bodyPost_ret (v := .tuple #[.agg #[.slice (some ⟨w1.heap.size, 0, none⟩) s.procs.length s.procs.length, .slice (some ⟨g', 0, none⟩) s.init.length c'], .bool true]) (by simp [results, Try.results86, go_sem, y1, y2]) rfl ?_
      exact RetP.mk (by rw [HE.out.1, HE.out.2]; exact ((HS.out.set2 (by omega)).low (by omega)).truth true) (((below_next B1.out BG.out).setCell (by simp) _).setCell (by simp) _)
    · go_wp2_with fail
      refine ⟨bex (by repeat (first | exact Below.refl _ _ | assumption | refine below_a ?_ _ | refine below_o ?_ _ | refine below_d ?_ | refine below_n ?_ _ | refine below_s ?_ (by first | (simp; done) | (simp; omega) | omega) _)), ?_, ?_⟩
      · go_wp2_with fail
        refine ⟨bex (by repeat (first | exact Below.refl _ _ | assumption | refine below_a ?_ _ | refine below_o ?_ _ | refine below_d ?_ | refine below_n ?_ _ | refine below_s ?_ (by first | (simp; done) | (simp; omega) | omega) _)), ?_⟩
        have OW := hid (own_at (g := w1.heap.size) (w := ((w1.alloc (.cells #[] 3)).alloc (.cells (zerosI s.procs.length) 3)).drew) (by exact ((below_alloc (w1.alloc (.cells #[] 3)) (.cells (zerosI s.procs.length) 3)).block _ (by simp)).trans (heap_alloc_new w1 (.cells #[] 3))))
        have Z0 := row_new (w := w1.alloc (.cells #[] 3)) (cs := zerosI s.procs.length) (n := s.procs.length) (by rw [zerosI, size_madeCells]) 3
        rw [show (w1.alloc (.cells #[] 3)).heap.size = w1.heap.size + 1 by simp] at Z0
        have Z1 := hid (Row.below Z0 (below_d (Below.refl _ _)))
        clear Z0
        go_wp2_with (at_builtin; refine wp_app_at rfl _ _ rfl (w1.heap.size) s.init ad c rfl rfl OW.out (by simp; try omega) (HI.out.below (below_next B1.out (by repeat (first | exact Below.refl _ _ | assumption | refine below_a ?_ _ | refine below_o ?_ _ | refine below_d ?_ | refine below_n ?_ _ | refine below_s ?_ (by first | (simp; done) | (simp; omega) | omega) _)))) (by have := HL.out; omega) ?_; intro g' c' w' hg hc1 hc3 hrow hgr)
        have BG := hid (grown_below (w1 := w1) (W := ((w1.alloc (.cells #[] 3)).alloc (.cells (zerosI s.procs.length) 3)).drew) (by repeat (first | exact Below.refl _ _ | assumption | refine below_a ?_ _ | refine below_o ?_ _ | refine below_d ?_ | refine below_n ?_ _ | refine below_s ?_ (by first | (simp; done) | (simp; omega) | omega) _)) hgr (by omega))
        have HR := hid (Row.kept Z1.out hgr.size (hgr.block _ (by first | (simp; done) | (simp; omega) | omega) (by first | (simp; done) | (simp; omega) | omega)))
        have HS := hid (StA.of (B := w1.heap.size) (by omega) HR.out hrow hc1 hc3 (by omega) (by have := BG.out.size; simp at hg; omega) (by simp at hg; omega))
        clear OW Z1 HR
        have X3 := hid (box2_next BG.out X2.out)
        clear hrow hgr hg
        go_wp2_with fail
        refine ⟨bex BG.out, ?_⟩
        go_wp2_with fail
        refine ⟨bex BG.out, ?_⟩
        obtain ⟨x0, x1, x2, x3, x4⟩ := id X3.out
        go_wp2_with fail
        obtain ⟨y0, y1, y2, _⟩ := box2_set1 (box2_set0 X3.out (.slice (some ⟨w1.heap.size + 1, 0, none⟩) s.procs.length s.procs.length)) (.slice (some ⟨g', 0, none⟩) s.init.length c')
        refine bodyPost_ret (v := .tuple #[.agg #[.slice (some ⟨w1.heap.size + 1, 0, none⟩) s.procs.length s.procs.length, .slice (some ⟨g', 0, none⟩) s.init.length c'], .bool true]) (by simp [results, Try.results86, go_sem, y1, y2]) rfl ?_
        exact RetP.mk (by rw [HE.out.1, HE.out.2]; exact ((HS.out.set2 (by omega)).low (by omega)).truth true) (((below_next B1.out BG.out).setCell (by simp) _).setCell (by simp) _)
      · have OW := hid (own_at (g := w1.heap.size) (w := (w1.alloc (.cells #[] 3)).drew) (by exact heap_alloc_new w1 (.cells #[] 3)))
        go_wp2_with (at_builtin; refine wp_app_at rfl _ _ rfl (w1.heap.size) s.init ad c rfl rfl OW.out (by simp; try omega) (HI.out.below (below_next B1.out (by repeat (first | exact Below.refl _ _ | assumption | refine below_a ?_ _ | refine below_o ?_ _ | refine below_d ?_ | refine below_n ?_ _ | refine below_s ?_ (by first | (simp; done) | (simp; omega) | omega) _)))) (by have := HL.out; omega) ?_; intro g' c' w' hg hc1 hc3 hrow hgr)
        have BG := hid (grown_below (w1 := w1) (W := (w1.alloc (.cells #[] 3)).drew) (by repeat (first | exact Below.refl _ _ | assumption | refine below_a ?_ _ | refine below_o ?_ _ | refine below_d ?_ | refine below_n ?_ _ | refine below_s ?_ (by first | (simp; done) | (simp; omega) | omega) _)) hgr (by omega))
        have sg := BG.out.size
        have BG2 := hid (below_then BG.out (below_alloc w' (.cells (zerosI s.procs.length) 3)) BG.out.size)
        have Z1 := hid (row_new (w := w') (cs := zerosI s.procs.length) (n := s.procs.length) (by rw [zerosI, size_madeCells]) 3)
        have HS := hid (StA.of (B := w1.heap.size) (by omega) Z1.out (Row.below hrow (below_alloc _ _)) hc1 hc3 (by omega) (by simp at hg; omega) (by have := hrow.1; omega))
        clear OW Z1 hrow hgr hg
        go_wp2_with fail
        refine ⟨bex BG.out, ?_⟩
        have X3 := hid (box2_next BG2.out X2.out)
        go_wp2_with fail
        refine ⟨bex BG2.out, ?_⟩
        go_wp2_with fail
        refine ⟨bex BG2.out, ?_⟩
        obtain ⟨x0, x1, x2, x3, x4⟩ := id X3.out
        go_wp2_with fail
        obtain ⟨y0, y1, y2, _⟩ := box2_set1 (box2_set0 X3.out (.slice (some ⟨w'.heap.size, 0, none⟩) s.procs.length s.procs.length)) (.slice (some ⟨g', 0, none⟩) s.init.length c')
        refine bodyPost_ret (v := .tuple #[.agg #[.slice (some ⟨w'.heap.size, 0, none⟩) s.procs.length s.procs.length, .slice (some ⟨g', 0, none⟩) s.init.length c'], .bool true]) (by simp [results, Try.results86, go_sem, y1, y2]) rfl ?_
        exact RetP.mk (by rw [HE.out.1, HE.out.2]; exact ((HS.out.set2 (by omega)).low (by omega)).truth true) (((below_next B1.out BG2.out).setCell (by simp) _).setCell (by simp) _)
theorem own_some {l : List Int} {a : Option Addr} {bs : List Nat} {w : World} (h : OwnV (l.map (Value.int .i64)) a bs w) (hl : l.length = 3) : ∃ g, a = some ⟨g, 0, none⟩ ∧ bs = [g] ∧ Row w g l.length (fun i => (l.map (Value.int .i64)).getD i undef) := by
  rcases h with ⟨h0, _⟩ | ⟨R, h1, h2, h3⟩
  · have : l = [] := by simpa using h0
    subst this; simp at hl
  · rw [List.length_map] at h3
    exact ⟨R, h1, h2, h3⟩

end Sys
end Go.Proofs.Ytfemikebklmlpaa
namespace Go.Proofs.Ytfemikebklmlpaa
open Go.RowKit
open Go.Proofs.Ytfemikebklmlpaa.State (PairIn)
open Go.Proofs.Ytfemikebklmlpaa.Sys
set_option linter.unusedVariables false
set_option linter.unusedSimpArgs false

theorem fm_mem {f : Nat → List Stp} {t : Stp} : ∀ n, t ∈ fm f n → ∃ x, x < n ∧ t ∈ f x
  | 0, h => by cases h
  | n + 1, h => by
    rcases List.mem_append.1 h with h | h
    · obtain ⟨x, h1, h2⟩ := fm_mem n h
      exact ⟨x, by omega, h2⟩
    · exact ⟨n, by omega, h⟩
theorem steps_mem {s : Sy} {ls vs : List Int} {t : Stp} (h : t ∈ steps s ls vs s.procs.length) :
    ∃ (i k : Nat) (hi : i < s.procs.length), t.p = i ∧ t.e = k ∧ k < s.procs[i].edges.length ∧ (t.q = -1 ∨ ∃ (j m : Nat) (hj : j < s.procs.length), t.q = j ∧ t.f = m ∧ m < s.procs[j].edges.length) := by
  obtain ⟨i, hi, h⟩ := fm_mem _ h
  obtain ⟨k, hk, h⟩ := fm_mem _ h
  rw [lenE_at hi] at hk
  rw [one, edge?_some hi hk] at h
  simp only [oneE] at h
  split at h
  · cases h
  · split at h
    · simp at h
      subst h
      exact ⟨i, k, hi, rfl, rfl, hk, .inl rfl⟩
    · obtain ⟨j, hj, h⟩ := fm_mem _ h
      obtain ⟨m, hm, h⟩ := fm_mem _ h
      rw [lenE_at hj] at hm
      rw [cand, edge?_some hj hm] at h
      simp only [candE] at h
      split at h
      · simp at h
        subst h
        exact ⟨i, k, hi, rfl, rfl, hk, .inr ⟨j, m, hj, rfl, rfl, hm⟩⟩
      · cases h
theorem stCells_at : ∀ (l : List Stp) (j c : Nat) (hj : j < l.length), c < 4 → (stCells l)[j * 4 + c]? = (l[j].cells)[c]?
  | [], j, c, hj, _ => by simp at hj
  | t :: ts, 0, c, hj, hc => by
    rw [stCells, Nat.zero_mul, Nat.zero_add, List.getElem?_append_left (by simp [Stp.cells]; omega)]
    rfl
  | t :: ts, j + 1, c, hj, hc => by
    rw [stCells, List.getElem?_append_right (by simp [Stp.cells]; omega)]
    have h := stCells_at ts j c (by simpa using hj) hc
    have e : (j + 1) * 4 + c - t.cells.length = j * 4 + c := by simp [Stp.cells]; omega
    rw [e, h]
    rfl
theorem OwnS.cell {B g n c : Nat} {l : List Stp} {w : World} (h : OwnS B (.slice (some ⟨g, 0, none⟩) n c) l w) {j : Nat} (hj : j < l.length) :
    w.cell? ⟨g, j * 4, none⟩ = some (.int .i64 l[j].p) ∧ w.cell? ⟨g, j * 4 + 1, none⟩ = some (.int .i64 l[j].e) ∧ w.cell? ⟨g, j * 4 + 2, none⟩ = some (.int .i64 l[j].q) ∧ w.cell? ⟨g, j * 4 + 3, none⟩ = some (.int .i64 l[j].f) ∧ g < w.heap.size := by
  have hc : ∀ c u, c < 4 → (l[j].cells)[c]? = some u → w.cell? ⟨g, j * 4 + c, none⟩ = some u := fun c u h4 hu => by
    have h2 := World.ownsRow.cells h (g := g) rfl (j * 4 + c) u (by rw [stCells_at l j c hj h4]; exact hu)
    have e : Addr.add ⟨g, 0, none⟩ (j * 4 + c) = ⟨g, j * 4 + c, none⟩ := by unfold Addr.add; split <;> simp_all
    rw [e] at h2
    exact h2
  exact ⟨by simpa using hc 0 _ (by omega) rfl, hc 1 _ (by omega) rfl, hc 2 _ (by omega) rfl, hc 3 _ (by omega) rfl, (World.ownsRow.lt h g rfl).2⟩
theorem locsOk_zero' : ∀ (l : List Pr), (∀ q, q ∈ l → 1 ≤ q.locs) → State.locsOk (List.replicate l.length 0) l = true
  | [], _ => rfl
  | q :: qs, h => by
    have h1 := h q (by simp)
    have h2 := locsOk_zero' qs (fun r hr => h r (by simp [hr]))
    simp only [List.length_cons, List.replicate_succ, State.locsOk, h2, Bool.and_true, decide_eq_true_eq]
    omega
theorem okSt_zero {s : Sy} (h : okSy s = true) : State.okSt s (List.replicate s.procs.length 0) s.init = true := by
  have h0 := h
  simp only [okSy, Bool.and_eq_true, List.all_eq_true] at h
  have h1 : ∀ q, q ∈ s.procs → 1 ≤ q.locs := fun q hq => by
    have := h.1 q hq
    simp only [okP, Bool.and_eq_true, decide_eq_true_eq] at this
    exact this.2.1
  simp only [State.okSt, State.hasB, h0, h.2.1, locsOk_zero' _ h1, List.length_replicate, decide_true, Bool.and_self]
/-- what a state's drawing comes to -/
def SdPost (B K : Nat) (R p : Nat) (w : World) (e : Ending) (w' : World) : Prop :=
  ∃ v ls vs p', e = .returned v ∧ PairIn (fun b => w.heap.size + 1 < b) w' ls vs v ∧ NilO v ∧ ls.length ≤ 20 ∧ vs.length ≤ 20 ∧ But w R w' ∧ Rd B w' R p' ∧ p' ≤ p + K
theorem sd_last {w W : World} {s l : List Int} {R B p K p' c d : Nat} {a b : Option Addr} (h1 : IntsIn (fun b => w.heap.size + 1 < b) W a s) (h2 : IntsIn (fun b => w.heap.size + 1 < b) W b l) (c1 : s.length ≤ c) (c2 : c ≤ maxLen) (d1 : l.length ≤ d) (d2 : d ≤ maxLen) (n1 : a = none → c = 0) (n2 : b = none → d = 0)
    (hb : But w R W) (hr : Rd B W R p') (hB : B ≤ w.heap.size) (m1 : s.length ≤ 20) (m2 : l.length ≤ 20) (u1 u2 : Value) (hp : p' ≤ p + K) :
    SdPost B K R p w (.returned (.agg #[.slice a s.length c, .slice b l.length d])) ((W.setCell ⟨w.heap.size + 1, 0, none⟩ u1).setCell ⟨w.heap.size + 1, 1, none⟩ u2) := by
  obtain ⟨v, s', l', p'', h1, h2, h3, h4, h5, h6, h7, h8⟩ := stm_last (M := 20) h1 h2 c1 c2 d1 d2 n1 n2 hb hr hB m1 m2 u1 u2 hp
  exact ⟨v, s', l', p'', h1, h2, h3, h4, h5, h6, h7, h8⟩
theorem PairIn_frame {p q : Nat → Prop} {w w' : World} {l m : List Int} {v : Value} (h : PairIn p w l m v) (hs : w.heap.size ≤ w'.heap.size) (hp : ∀ b, p b → b < w.heap.size → q b ∧ w'.heap[b]? = w.heap[b]?) : PairIn q w' l m v := by
  obtain ⟨a, b, c, d, rfl, h1, h2, h3⟩ := h
  exact ⟨a, b, c, d, rfl, h1.frame hs hp, h2.frame hs hp, h3⟩
theorem okSt_lens {s : Sy} {ls vs : List Int} (h : State.okSt s ls vs = true) : ls.length ≤ 3 ∧ vs.length = 3 ∧ 0 < s.procs.length := by
  obtain ⟨o1, o2, o3⟩ := okSt_facts h
  have h1 := (okSy_procs o1).1
  rw [Expr.okVals, Bool.and_eq_true, decide_eq_true_eq] at o3
  have h2 : 1 ≤ s.procs.length := by simp only [okSy, Bool.and_eq_true, decide_eq_true_eq] at o1; exact o1.2.2.1
  exact ⟨by omega, o3.2, by omega⟩

end Go.Proofs.Ytfemikebklmlpaa
namespace Go.Proofs.Ytfemikebklmlpaa
open Go.RowKit
set_option linter.unusedVariables false
set_option linter.unusedSimpArgs false
namespace Gr

theorem ne_dec {l m : List Int} {k : Nat} (h1 : k < l.length) (h2 : k < m.length) (h : l[k] ≠ m[k]) : decide (l = m) = false := by
  simp only [decide_eq_false_iff_not]
  intro e
  subst e
  exact h rfl
theorem take_eq {l m : List Int} {k : Nat} (h : l.take k = m.take k) (h1 : k < l.length) (h2 : k < m.length) (h3 : l[k] = m[k]) : l.take (k + 1) = m.take (k + 1) := by
  rw [List.take_add_one, List.take_add_one, h, List.getElem?_eq_getElem h1, List.getElem?_eq_getElem h2, h3]

set_option maxRecDepth 100000 in
set_option maxHeartbeats 1000000 in
theorem l2Ints_any (l m : List Int) (w : World) (a a' : Option Addr) (c c' : Nat) (hl : IntsIn Any w a l) (hm : IntsIn Any w a' m) (h1 : l.length ≤ c ∧ c ≤ maxLen) (h2 : m.length ≤ c' ∧ c' ≤ maxLen) :
    Calls Try.prog 103 #[.slice a l.length c, .slice a' m.length c'] w (Ret (.bool (decide (l = m))) w) := by
  have HL := hid hl
  have HM := hid hm
  obtain ⟨c1, c2⟩ := h1
  obtain ⟨c3, c4⟩ := h2
  unfold maxLen at c2 c4
  clear hl hm
  by_cases hne : l.length = m.length
  · have HNE := hid hne
    have hne1 : ((l.length : Int) == (m.length : Int)) = true := by rw [hne]; simp
    have hne2 : ((l.length : Int) != (m.length : Int)) = false := by rw [hne]; simp
    clear hne
    go_enter Try.func103, Try.ntmps103
    go_wp2_with fail
    go_loopw [5] (fun i wr => ∃ k : Nat, k ≤ l.length ∧ i = .int .i64 k ∧ Hid (Below w.heap.size w wr) ∧ Hid (l.take k = m.take k)) (fun i _ => l.length - (intOf i).toNat)
    case atStart => exact ⟨0, Nat.zero_le _, rfl, hid (Below.refl _ _), hid rfl⟩
    case round =>
      obtain ⟨k, hk, rfl, B, HT⟩ := hrel
      by_cases hlt : k < l.length
      · have hlt2 : (k : Int) < (l.length : Int) := by omega
        have hltm : k < m.length := by have := HNE.out; omega
        have hlt3 : (k : Int) < (m.length : Int) := by omega
        obtain ⟨b, o, rfl, _, _, g1, _⟩ := ints_at HL.out B.out hlt
        obtain ⟨b', o', rfl, _, _, g2, _⟩ := ints_at HM.out B.out hltm
        have HD := hid (fun h => ne_dec hlt hltm h)
        have HE := hid (fun h => take_eq HT.out hlt hltm h)
        generalize l[k] = x at *
        generalize m[k] = y at *
        by_cases hxy : x = y
        · subst hxy
          have HE2 := hid (HE.out rfl)
          clear HD HE HT
          go_wp2_with fail
          refine wp_region_over (by kernel_rfl) (by kernel_rfl) ?_; (repeat (go_big_quiet_step ((fail)))); refine wpQuiet_nil ?_; rintro _ ⟨xq, rfl⟩
          have B2 := hid (below_next B.out (over_below wr xq))
          go_wp2_with fail
          go_roundw
          case rel => exact ⟨k + 1, hlt, by go_num, B2, HE2⟩
          case measure => simp [intOf]; omega
        · have hd := HD.out hxy
          rw [hd]
          have hxy2 : (x == y) = false := by simpa using hxy
          have hxy3 : (x != y) = true := by simpa using hxy
          clear hd HD HE HT hxy
          go_wp2_with fail
          refine wp_region_over (by kernel_rfl) (by kernel_rfl) ?_; (repeat (go_big_quiet_step ((fail)))); refine wpQuiet_nil ?_; rintro _ ⟨xq, rfl⟩
          have B2 := hid (below_next B.out (over_below wr xq))
          go_wp2_with fail
          go_ret
          exact Ret.mk rfl B2.out
      · obtain rfl : k = l.length := by omega
        have hd : decide (l = m) = true := by
          have h := HT.out
          rw [List.take_length, HNE.out, List.take_length] at h
          simpa using h
        have HD := hid hd
        clear hd HT
        go_wp2_with fail
        go_ret
        exact Ret.mk (by rw [HD.out]; rfl) B.out
  · have hne2 : ((l.length : Int) == (m.length : Int)) = false := by simp; omega
    have hne3 : ((l.length : Int) != (m.length : Int)) = true := by simp; omega
    have hd : decide (l = m) = false := by simp only [decide_eq_false_iff_not]; intro e; exact hne (by rw [e])
    rw [hd]
    clear hd
    go_enter Try.func103, Try.ntmps103
    go_wp2_with fail
    go_ret
    exact Ret.mk rfl (Below.refl _ _)

set_option maxHeartbeats 1000000 in
theorem same_any (s l s' l' : List Int) (w : World) (a b a' b' : Option Addr) (c d c' d' : Nat) (i1 : IntsIn Any w a s) (i2 : IntsIn Any w b l) (j1 : IntsIn Any w a' s') (j2 : IntsIn Any w b' l') (e1 : s.length ≤ c ∧ c ≤ maxLen) (e2 : l.length ≤ d ∧ d ≤ maxLen) (f1 : s'.length ≤ c' ∧ c' ≤ maxLen) (f2 : l'.length ≤ d' ∧ d' ≤ maxLen) :
    Calls Try.prog 98 #[.agg #[.slice a s.length c, .slice b l.length d], .agg #[.slice a' s'.length c', .slice b' l'.length d']] w (Ret (.bool (decide (s = s') && decide (l = l'))) w) := by
  have H1 := hid (fun (W : World) (M : Below w.heap.size w W) => l2Ints_any s s' W a a' c c' (i1.below M) (j1.below M) e1 f1)
  have H2 := hid (fun (W : World) (M : Below w.heap.size w W) => l2Ints_any l l' W b b' d d' (i2.below M) (j2.below M) e2 f2)
  clear i1 i2 j1 j2
  generalize decide (s = s') = u at *
  generalize decide (l = l') = v at *
  go_enter Try.func98, Try.ntmps98
  go_wp2_with fail
  refine (H1.out _ (by repeat (first | exact Below.refl _ _ | assumption | refine below_a ?_ _ | refine below_o ?_ _ | refine below_d ?_ | refine below_n ?_ _ | refine below_s ?_ (by first | (simp; done) | (simp; omega) | omega) _))).mono ?_
  rintro e w1 ⟨rfl, hb⟩
  have P := boxp_next hb (boxp_next (below_alloc _ _) (boxp_at (w := w) (a := .slice a s.length c) (b := .slice b l.length d) (t := 91) rfl))
  have Q := boxp_next hb (boxp_at (w := w.alloc (.cells #[.slice a s.length c, .slice b l.length d] 91)) (B := w.heap.size + 1) (a := .slice a' s'.length c') (b := .slice b' l'.length d') (t := 91) (by simp))
  have B := hid (below_next (show Below w.heap.size w _ from (by repeat (first | exact Below.refl _ _ | assumption | refine below_a ?_ _ | refine below_o ?_ _ | refine below_d ?_ | refine below_n ?_ _ | refine below_s ?_ (by first | (simp; done) | (simp; omega) | omega) _))) hb)
  clear hb H1
  obtain ⟨p0, p1, p2, p3, p4⟩ := P
  obtain ⟨q0, q1, q2, q3, q4⟩ := Q
  cases u with
  | false =>
    go_wp2_with fail
    go_ret
    exact Ret.mk rfl B.out
  | true =>
    go_wp2_with fail
    refine (H2.out _ B.out).mono ?_
    rintro e w2 ⟨rfl, hb⟩
    go_wp2_with fail
    go_ret
    exact Ret.mk (by simp) (below_next B.out hb)

end Gr
end Go.Proofs.Ytfemikebklmlpaa
namespace Go.Proofs.Ytfemikebklmlpaa
open Go.RowKit
set_option linter.unusedVariables false
set_option linter.unusedSimpArgs false
namespace Gr

set_option maxRecDepth 100000 in
set_option maxHeartbeats 1000000 in
theorem find_any (L : List S2) (s l : List Int) (w : World) (a a' b' : Option Addr) (c c' d' : Nat) (hL : StsIn Any w L a) (hc : L.length ≤ c) (hc2 : c ≤ maxLen) (j1 : IntsIn Any w a' s) (j2 : IntsIn Any w b' l) (f1 : s.length ≤ c' ∧ c' ≤ maxLen) (f2 : l.length ≤ d' ∧ d' ≤ maxLen) :
    Calls Try.prog 89 #[.slice a L.length c, .agg #[.slice a' s.length c', .slice b' l.length d']] w (RetP (fun v _ => ∃ i : Int, v = .int .i64 i ∧ -1 ≤ i ∧ i < L.length) w) := by
  have HL := hid hL
  have HSA := hid (fun (W : World) (M : Below w.heap.size w W) (t : S2) (a b : Option Addr) (c d : Nat) (h1 : IntsIn Any W a t.locs) (h2 : IntsIn Any W b t.vals) (e1 : t.locs.length ≤ c ∧ c ≤ maxLen) (e2 : t.vals.length ≤ d ∧ d ≤ maxLen) => same_any t.locs t.vals s l W a b a' b' c d c' d' h1 h2 (j1.below M) (j2.below M) e1 e2 f1 f2)
  unfold maxLen at hc2
  clear hL j1 j2 f1 f2
  go_enter Try.func89, Try.ntmps89
  go_wp2_with fail
  have D0 := hid (below_alloc w (.cells #[.slice a' s.length c', .slice b' l.length d'] 91))
  have P0 := hid (boxp_at (w := w) (a := .slice a' s.length c') (b := .slice b' l.length d') (t := 91) rfl)
  go_loopw [5] (fun i wr => ∃ k : Nat, k ≤ L.length ∧ i = .int .i64 k ∧ Hid (Below w.heap.size w wr) ∧ Hid (BoxP wr w.heap.size (.slice a' s.length c') (.slice b' l.length d'))) (fun i _ => L.length - (intOf i).toNat)
  case atStart => exact ⟨0, Nat.zero_le _, rfl, D0, P0⟩
  case round =>
    obtain ⟨k, hk, rfl, HB, HP⟩ := hrel
    obtain ⟨wo, rfl⟩ : ∃ wo : World, wo = wr := ⟨_, rfl⟩
    obtain ⟨p0, p1, p2, p3, p4⟩ := HP.out
    clear D0 P0
    by_cases hkl : k < L.length
    · have hkl2 : (k : Int) < (L.length : Int) := by omega
      obtain ⟨b, o, a1, c1, a2, c2, rfl, hb, _, g0, g1, ⟨x1, y1, r1, r2, r3, r4⟩, ⟨x2, y2, t1, t2, t3, t4⟩⟩ := sts_at (HL.out.below HB.out) hkl
      simp only [Value.slice.injEq, true_and] at r1 t1
      obtain ⟨rfl, rfl⟩ := r1
      obtain ⟨rfl, rfl⟩ := t1
      have HC := hid (show ∀ W, Below wo.heap.size wo W → Calls Try.prog 98 #[.agg #[.slice a1 L[k].locs.length c1, .slice a2 L[k].vals.length c2], .agg #[.slice a' s.length c', .slice b' l.length d']] W (Ret (.bool (decide (L[k].locs = s) && decide (L[k].vals = l))) W) from fun W M =>
        HSA.out W (below_next HB.out M) L[k] a1 a2 c1 c2 (r4.below M) (t4.below M) ⟨r2, r3⟩ ⟨t2, t3⟩)
      generalize (decide (L[k].locs = s) && decide (L[k].vals = l)) = q at *
      generalize L[k] = tk at *
      unfold maxLen at r3 t3
      clear r4 t4
      cases q
      all_goals
        go_wp2_with fail
        refine wp_region_over (by kernel_rfl) (by kernel_rfl) ?_; (repeat (go_big_quiet_step ((go_at_call 98; exact Calls.over (HC.out _ (over_below wo _)))))); refine wpQuiet_nil ?_; rintro _ ⟨xq, rfl⟩
        have B2 := hid (below_next HB.out (over_below wo xq))
        have P2 := hid (boxp_next (over_below wo xq) HP.out)
        go_wp2_with fail
      · go_roundw
        case rel => exact ⟨k + 1, hkl, by go_num, B2, P2⟩
        case measure => (simp [intOf]; try omega)
      · go_ret
        exact RetP.mk ⟨k, rfl, by omega, by omega⟩ B2.out
    · obtain rfl : k = L.length := by omega
      have hkk : ¬ ((L.length : Int) < (L.length : Int)) := by omega
      go_wp2_with fail
      go_ret
      exact RetP.mk ⟨-1, rfl, by omega, by omega⟩ HB.out
end Gr
end Go.Proofs.Ytfemikebklmlpaa
