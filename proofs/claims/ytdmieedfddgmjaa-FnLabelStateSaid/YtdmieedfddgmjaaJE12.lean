/- Joined texts (InitV, StDraw): contracts and plain laws. Conditions: those of each theorem. -/
import Derived.Test.YtdmieedfddgmjaaJE4
import Derived.Test.YtdmieedfddgmjaaJE5
import Derived.Test.YtdmieedfddgmjaaJE6
import Derived.Test.YtdmieedfddgmjaaJE10
import Derived.Test.YtdmieedfddgmjaaJE11
set_option linter.unusedVariables false
set_option linter.unusedSimpArgs false
namespace Go.Proofs.Ytdmieedfddgmjaa
open Go.RowKit
set_option linter.unusedVariables false
set_option linter.unusedSimpArgs false
namespace Sys

/-- what InitialState returns -/
def initL (s : Sy) : List Int := if okSy s = true then List.replicate s.procs.length 0 else []
def initM (s : Sy) : List Int := if okSy s = true then s.init else []
/-- a state of one's own, and a truth -/
def StV (B : Nat) (l m : List Int) (ok : Bool) (v : Value) (w : World) : Prop := ∃ a c bs a' c' bs', v = .tuple #[.agg #[.slice a l.length c, .slice a' m.length c'], .bool ok] ∧
  (l.length ≤ c ∧ c ≤ maxLen ∧ OwnV (l.map (Value.int .i64)) a bs w ∧ ∀ b, b ∈ bs → B ≤ b) ∧ (m.length ≤ c' ∧ c' ≤ maxLen ∧ OwnV (m.map (Value.int .i64)) a' bs' w ∧ ∀ b, b ∈ bs' → B ≤ b) ∧ ∀ b, b ∈ bs → b ∉ bs'
/-- the same, alone -/
def StA (B : Nat) (l m : List Int) (v : Value) (w : World) : Prop := ∃ a c bs a' c' bs', v = .agg #[.slice a l.length c, .slice a' m.length c'] ∧
  (l.length ≤ c ∧ c ≤ maxLen ∧ OwnV (l.map (Value.int .i64)) a bs w ∧ ∀ b, b ∈ bs → B ≤ b) ∧ (m.length ≤ c' ∧ c' ≤ maxLen ∧ OwnV (m.map (Value.int .i64)) a' bs' w ∧ ∀ b, b ∈ bs' → B ≤ b) ∧ ∀ b, b ∈ bs → b ∉ bs'
theorem StV.nil (B : Nat) (ok : Bool) (w : World) : StV B [] [] ok (.tuple #[.agg #[.slice none 0 0, .slice none 0 0], .bool ok]) w := ⟨none, 0, [], none, 0, [], rfl, ⟨Nat.le_refl _, by simp, .inl ⟨rfl, rfl⟩, by simp⟩, ⟨Nat.le_refl _, by simp, .inl ⟨rfl, rfl⟩, by simp⟩, by simp⟩
theorem own_row {w : World} {R : Nat} {l : List Int} (h : Row w R l.length (fun i => (l.map (Value.int .i64)).getD i undef)) : OwnV (l.map (Value.int .i64)) (some ⟨R, 0, none⟩) [R] w := .inr ⟨R, rfl, rfl, by rw [List.length_map]; exact h⟩
theorem StA.of {B R R' c' n : Nat} {w : World} {m : List Int} (hn : n ≤ 1000) (h : Row w R n (fun i => (zerosI n).getD i undef)) (h' : Row w R' m.length (fun i => (m.map (Value.int .i64)).getD i undef)) (hc : m.length ≤ c') (hc2 : c' ≤ maxLen) (hB : B ≤ R) (hB' : B ≤ R') (hne : R ≠ R') :
    StA B (List.replicate n 0) m (.agg #[.slice (some ⟨R, 0, none⟩) n n, .slice (some ⟨R', 0, none⟩) m.length c']) w :=
  ⟨some ⟨R, 0, none⟩, n, [R], some ⟨R', 0, none⟩, c', [R'], by simp, ⟨by simp, by unfold maxLen; omega, own_row (by
    rw [List.length_replicate]
    exact h.congr fun i hi => by simp [zerosI, madeCells, hi, Array.getD, Nat.mod_one]), by simpa using hB⟩, ⟨hc, hc2, own_row h', by simpa using hB'⟩, by simpa using hne⟩
theorem StA.frame {B : Nat} {l m : List Int} {v : Value} {w w' : World} (h : StA B l m v w) (hs : w.heap.size ≤ w'.heap.size) (hb : ∀ b, B ≤ b → b < w.heap.size → w'.heap[b]? = w.heap[b]?) : StA B l m v w' := by
  obtain ⟨a, c, bs, a', c', bs', e, ⟨h1, h2, h3, h4⟩, ⟨k1, k2, k3, k4⟩, hd⟩ := h
  exact ⟨a, c, bs, a', c', bs', e, ⟨h1, h2, h3.frame hs fun b hb' hl => hb b (h4 b hb') hl, h4⟩, ⟨k1, k2, k3.frame hs fun b hb' hl => hb b (k4 b hb') hl, k4⟩, hd⟩

/-- append to an empty row of one's own, at the operation; where the result may lie -/
theorem wp_app_at {ops : Array Oper} {rest : List Oper} {o : Oper} {a : Act} {Q : Exit → Act → World → Prop} {w : World} (hgd : o.guard = none) (s x : Operand)
    (ho : o.op = .call { callee := .builtin .append, args := #[s, x], argTypes := #[22, 22] }) (g : Nat) (l : List Int) (ad : Addr) (c : Nat) (hs : a.eval s = .slice (some ⟨g, 0, none⟩) 0 0) (hx : a.eval x = .slice (some ad) l.length c)
    (hv : OwnI g (.slice (some ⟨g, 0, none⟩) 0 0) [] w) (hB : g ≤ w.heap.size) (hl : IntsIn Any w (some ad) l) (h2 : l.length ≤ 1000000)
    (h : ∀ g' c' w', (g' = g ∨ g' = w.heap.size) → l.length ≤ c' → c' ≤ maxLen → Row w' g' l.length (fun i => (l.map (Value.int .i64)).getD i undef) → w.grownBy w' (some g) → wpList Try.prog ops Q rest (a.put o.dst (.slice (some ⟨g', 0, none⟩) l.length c')) w') :
    wpList Try.prog ops Q (o :: rest) a w := by
  obtain ⟨ri, hi, hz, hs1, hs2⟩ := info_parts ints_info
  refine wpList_append_own_at _ hgd s x 22 ho g 3 ri (.int .i64 0) 1 8 Try.underlying22 hi hz hs1 hs2 rfl (by omega) _ 0 _ hs hv ad l.length c (l.map (Value.int .i64)) hx (by simp) (fun j u hj => ?_) (fun u hu => ?_) (by simp only [maxLen]; omega) (by omega) hB ?_
  · rcases hl.1 with h0 | ⟨b, o', h1, h2, h3, h4⟩
    · rw [h0] at hj; simp at hj
    · obtain rfl : ad = ⟨b, o', none⟩ := by simpa using h1
      have := h4 j u hj
      have e : Addr.add ⟨b, o', none⟩ j = ⟨b, o' + j, none⟩ := by unfold Addr.add; split <;> simp_all
      rw [e]
      exact this
  · simp at hu
    obtain ⟨n, _, rfl⟩ := hu
    rfl
  · intro v2 w3 hown hgrow hnil hblk
    have ho2 : OwnI g v2 l w3 := by unfold OwnI; simpa using hown
    rcases ho2.row with ⟨rfl, rfl⟩ | ⟨g', c', rfl, h1, h3, h4, h5⟩
    · simp at hnil
    · exact h g' c' w3 (by simpa [Value.ownBlock] using hblk) h3 h4 h5 (by simpa [Value.ownBlock] using hgrow)
theorem grown_below {w1 W w' : World} {g : Nat} (hb : Below w1.heap.size w1 W) (hg : W.grownBy w' (some g)) (h : w1.heap.size ≤ g) : Below w1.heap.size w1 w' :=
  ⟨hg.os.trans hb.os, hg.tape.trans hb.tape, hg.output.trans hb.output, Nat.le_trans hb.size hg.size, fun k hk => by
    rw [hg.block k (Nat.lt_of_lt_of_le hk hb.size) (fun e => by simp at e; omega), hb.block k hk]⟩
theorem own_at {g : Nat} {w : World} (h : w.heap[g]? = some (.cells #[] 3)) : OwnI g (.slice (some ⟨g, 0, none⟩) 0 0) [] w := ⟨by simp, .inr ⟨g, 0, #[], rfl, Nat.le_refl _, h, Nat.le_refl _, by simp, by simp, by simp⟩⟩
theorem StA.truth {B : Nat} {l m : List Int} {v : Value} {w : World} (h : StA B l m v w) (ok : Bool) : StV B l m ok (.tuple #[v, .bool ok]) w := by
  obtain ⟨a, c, bs, a', c', bs', rfl, h⟩ := h
  exact ⟨a, c, bs, a', c', bs', rfl, h⟩
theorem StA.low {B B' : Nat} {l m : List Int} {v : Value} {w : World} (h : StA B l m v w) (hb : B' ≤ B) : StA B' l m v w := by
  obtain ⟨a, c, bs, a', c', bs', e, ⟨h1, h2, h3, h4⟩, ⟨k1, k2, k3, k4⟩, hd⟩ := h
  exact ⟨a, c, bs, a', c', bs', e, ⟨h1, h2, h3, fun b h => Nat.le_trans hb (h4 b h)⟩, ⟨k1, k2, k3, fun b h => Nat.le_trans hb (k4 b h)⟩, hd⟩
theorem StA.set2 {B C : Nat} {l m : List Int} {v u1 u2 : Value} {w : World} (h : StA B l m v w) (hC : C < B) : StA B l m v ((w.setCell ⟨C, 0, none⟩ u1).setCell ⟨C, 1, none⟩ u2) :=
  h.frame (by simp) fun b hb _ => by
    rw [Below.heap_setCell _ _ _ _ (by simp; omega), Below.heap_setCell _ _ _ _ (by simp; omega)]
theorem init_some {s : Sy} (h : okSy s = true) : s.init.length = 3 := by
  rw [okSy] at h
  simp only [Bool.and_eq_true, decide_eq_true_eq] at h
  have := h.2.1
  rw [Expr.okVals, Bool.and_eq_true, decide_eq_true_eq] at this
  exact this.2
theorem ints_some {p : Nat → Prop} {w : World} {a : Option Addr} {l : List Int} (h : IntsIn p w a l) (hl : l.length = 3) : ∃ ad, a = some ad := by
  rcases h.1 with h0 | ⟨b, o, h1, _⟩
  · have : l = [] := by simpa using h0
    subst this; simp at hl
  · exact ⟨_, h1⟩

set_option maxRecDepth 100000 in
set_option maxHeartbeats 4000000 in
theorem specInit_any (s : Sy) (w : World) (x : Value) (hx : SyIn Any w s x) : Calls Try.prog 45 #[x] w (RetP (StV w.heap.size (initL s) (initM s) (okSy s)) w) := by
  have HX := hid hx
  have HV := hid (fun (W : World) (M : Below w.heap.size w W) => specValid_any s W x (HX.out.below M))
  obtain ⟨a, c, b, d, rfl, hc, hc2, hi, hd, hd2, hp⟩ := hx
  have HI := hid hi
  clear hi hp hd hd2 HX
  cases ho : okSy s with
  | false =>
    have E1 := hid (show initL s = [] by rw [initL, ho]; simp)
    have E2 := hid (show initM s = [] by rw [initM, ho]; simp)
    rw [ho] at HV
    clear ho
    go_enter Try.func45, Try.ntmps45
    go_wp2_with fail
    refine (HV.out _ (by repeat (first | exact Below.refl _ _ | assumption | refine below_a ?_ _ | refine below_o ?_ _ | refine below_d ?_ | refine below_n ?_ _ | refine below_s ?_ (by first | (simp; done) | (simp; omega) | omega) _))).mono ?_
    rintro y w1 ⟨rfl, hb⟩
    have X2 := hid (box2_next hb (box2_at (w := w.alloc (.cells #[.slice a s.init.length c, .slice b s.procs.length d] 63)) (B := w.heap.size + 1) (a := .slice none 0 0) (b := .slice none 0 0) (t := 30) (by simp)))
    have B1 := hid (below_next (show Below w.heap.size w _ from (by repeat (first | exact Below.refl _ _ | assumption | refine below_a ?_ _ | refine below_o ?_ _ | refine below_d ?_ | refine below_n ?_ _ | refine below_s ?_ (by first | (simp; done) | (simp; omega) | omega) _))) hb)
    have sz1 := X2.out.1
    clear hb
    obtain ⟨p0, p1, p2, _⟩ := id X2.out
    go_wp2_with fail
    obtain ⟨y0, y1, y2, _⟩ := box2_set1 (box2_set0 X2.out (.slice none 0 0)) (.slice none 0 0)
    refine bodyPost_ret (v := .tuple #[.agg #[.slice none 0 0, .slice none 0 0], .bool false]) (by simp [results, Try.results45, go_sem, y1, y2]) rfl ?_
    exact RetP.mk (by rw [E1.out, E2.out]; exact StV.nil _ _ _) ((B1.out.setCell (by simp) _).setCell (by simp) _)
  | true =>
    have HE := hid (show initL s = List.replicate s.procs.length 0 ∧ initM s = s.init by rw [initL, initM, if_pos ho, if_pos ho]; exact ⟨rfl, rfl⟩)
    have hn3 := (okSy_procs ho).1
    have h3 := init_some ho
    obtain ⟨ad, rfl⟩ := ints_some HI.out h3
    have hmk := make_ints s.procs.length (by omega)
    rw [ho] at HV
    have HL := hid h3
    clear ho h3
    go_enter Try.func45, Try.ntmps45
    go_wp2_with fail
    refine (HV.out _ (by repeat (first | exact Below.refl _ _ | assumption | refine below_a ?_ _ | refine below_o ?_ _ | refine below_d ?_ | refine below_n ?_ _ | refine below_s ?_ (by first | (simp; done) | (simp; omega) | omega) _))).mono ?_
    rintro y w1 ⟨rfl, hb⟩
    have X1 := hid (box2_next hb (box2_next (below_alloc _ _) (box2_at (w := w) (a := .slice (some ad) s.init.length c) (b := .slice b s.procs.length d) rfl)))
    have X2 := hid (box2_next hb (box2_at (w := w.alloc (.cells #[.slice (some ad) s.init.length c, .slice b s.procs.length d] 63)) (B := w.heap.size + 1) (a := .slice none 0 0) (b := .slice none 0 0) (t := 30) (by simp)))
    have B1 := hid (below_next (show Below w.heap.size w _ from (by repeat (first | exact Below.refl _ _ | assumption | refine below_a ?_ _ | refine below_o ?_ _ | refine below_d ?_ | refine below_n ?_ _ | refine below_s ?_ (by first | (simp; done) | (simp; omega) | omega) _))) hb)
    have sz1 := X2.out.1
    clear hb
    obtain ⟨p0, p1, p2, p3, p4⟩ := id X1.out
    go_wp2_with fail
    refine wp_region_ord (C := fun wZ => ∃ xZ, wZ = World.over _ xZ) [0,1,2,5,6] (.two 3 4 (.one 4 (.one 7 (.one 8 (.fre 9 (.fre 10 .done))))) (.two 3 7 (.one 7 (.one 8 (.fre 9 (.fre 10 .done)))) (.one 3 (.one 8 (.fre 9 (.fre 10 .done)))))) [9,10] (by kernel_rfl) (by kernel_rfl) (fun d _ _ _ _ h => by cases d <;> exact h) (bex (Below.refl _ _).drew) ?_; simp only [pick, List.getElem?_cons_succ, List.getElem?_cons_zero]; (repeat (go_big_quiet_step (fail))); refine wpQuiet_nil ?_; simp only [ordW, pick, List.getElem?_cons_succ, List.getElem?_cons_zero]
    refine ⟨?_, ?_⟩
    · go_wp2_with fail
      refine ⟨bex (by repeat (first | exact Below.refl _ _ | assumption | refine below_a ?_ _ | refine below_o ?_ _ | refine below_d ?_ | refine below_n ?_ _ | refine below_s ?_ (by first | (simp; done) | (simp; omega) | omega) _)), ?_⟩
      go_wp2_with fail
      refine ⟨bex (by repeat (first | exact Below.refl _ _ | assumption | refine below_a ?_ _ | refine below_o ?_ _ | refine below_d ?_ | refine below_n ?_ _ | refine below_s ?_ (by first | (simp; done) | (simp; omega) | omega) _)), ?_⟩
      have OW := hid (own_at (g := w1.heap.size + 1) (w := ((w1.alloc (.cells (zerosI s.procs.length) 3)).alloc (.cells #[] 3)).drew) (by have := heap_alloc_new (w1.alloc (.cells (zerosI s.procs.length) 3)) (.cells #[] 3); rw [show (w1.alloc (.cells (zerosI s.procs.length) 3)).heap.size = w1.heap.size + 1 by simp] at this; exact this))
      have Z1 := hid (Row.below (row_new (w := w1) (cs := zerosI s.procs.length) (n := s.procs.length) (by rw [zerosI, size_madeCells]) 3) (below_d (below_alloc _ (.cells #[] 3))))
      go_wp2_with (at_builtin; refine wp_app_at rfl _ _ rfl (w1.heap.size + 1) s.init ad c rfl rfl OW.out (by simp; try omega) (HI.out.below (below_next B1.out (by repeat (first | exact Below.refl _ _ | assumption | refine below_a ?_ _ | refine below_o ?_ _ | refine below_d ?_ | refine below_n ?_ _ | refine below_s ?_ (by first | (simp; done) | (simp; omega) | omega) _)))) (by have := HL.out; omega) ?_; intro g' c' w' hg hc1 hc3 hrow hgr)
      have BG := hid (grown_below (w1 := w1) (W := ((w1.alloc (.cells (zerosI s.procs.length) 3)).alloc (.cells #[] 3)).drew) (by repeat (first | exact Below.refl _ _ | assumption | refine below_a ?_ _ | refine below_o ?_ _ | refine below_d ?_ | refine below_n ?_ _ | refine below_s ?_ (by first | (simp; done) | (simp; omega) | omega) _)) hgr (by omega))
      have HR := hid (Row.kept Z1.out hgr.size (hgr.block _ (by first | (simp; done) | (simp; omega) | omega) (by first | (simp; done) | (simp; omega) | omega)))
      have HS := hid (StA.of (B := w1.heap.size) (by omega) HR.out hrow hc1 hc3 (by omega) (by have := BG.out.size; simp at hg; omega) (by simp at hg; omega))
      clear OW Z1 HR
      have X3 := hid (box2_next BG.out X2.out)
      clear hrow hgr hg
      go_wp2_with fail
      refine ⟨bex BG.out, ?_⟩
      go_wp2_with fail
      refine ⟨bex BG.out, ?_⟩
      obtain ⟨x0, x1, x2, x3, x4⟩ := id X3.out
      go_wp2_with fail
      obtain ⟨y0, y1, y2, _⟩ := box2_set1 (box2_set0 X3.out (.slice (some ⟨w1.heap.size, 0, none⟩) s.procs.length s.procs.length)) (.slice (some ⟨g', 0, none⟩) s.init.length c')
      refine bodyPost_ret (v := .tuple #[.agg #[.slice (some ⟨w1.heap.size, 0, none⟩) s.procs.length s.procs.length, .slice (some ⟨g', 0, none⟩) s.init.length c'], .bool true]) (by simp [results, Try.results45, go_sem, y1, y2]) rfl ?_
      exact RetP.mk (by rw [HE.out.1, HE.out.2]; exact ((HS.out.set2 (by omega)).low (by omega)).truth true) (((below_next B1.out BG.out).setCell (by simp) _).setCell (by simp) _)
    · go_wp2_with fail
      refine ⟨bex (by repeat (first | exact Below.refl _ _ | assumption | refine below_a ?_ _ | refine below_o ?_ _ | refine below_d ?_ | refine below_n ?_ _ | refine below_s ?_ (by first | (simp; done) | (simp; omega) | omega) _)), ?_, ?_⟩
      · go_wp2_with fail
        refine ⟨bex (by repeat (first | exact Below.refl _ _ | assumption | refine below_a ?_ _ | refine below_o ?_ _ | refine below_d ?_ | refine below_n ?_ _ | refine below_s ?_ (by first | (simp; done) | (simp; omega) | omega) _)), ?_⟩
        have OW := hid (own_at (g := w1.heap.size) (w := ((w1.alloc (.cells #[] 3)).alloc (.cells (zerosI s.procs.length) 3)).drew) (by exact ((below_alloc (w1.alloc (.cells #[] 3)) (.cells (zerosI s.procs.length) 3)).block _ (by simp)).trans (heap_alloc_new w1 (.cells #[] 3))))
        have Z0 := row_new (w := w1.alloc (.cells #[] 3)) (cs := zerosI s.procs.length) (n := s.procs.length) (by rw [zerosI, size_madeCells]) 3
        rw [show (w1.alloc (.cells #[] 3)).heap.size = w1.heap.size + 1 by simp] at Z0
        have Z1 := hid (Row.below Z0 (below_d (Below.refl _ _)))
        clear Z0
        go_wp2_with (at_builtin; refine wp_app_at rfl _ _ rfl (w1.heap.size) s.init ad c rfl rfl OW.out (by simp; try omega) (HI.out.below (below_next B1.out (by repeat (first | exact Below.refl _ _ | assumption | refine below_a ?_ _ | refine below_o ?_ _ | refine below_d ?_ | refine below_n ?_ _ | refine below_s ?_ (by first | (simp; done) | (simp; omega) | omega) _)))) (by have := HL.out; omega) ?_; intro g' c' w' hg hc1 hc3 hrow hgr)
        have BG := hid (grown_below (w1 := w1) (W := ((w1.alloc (.cells #[] 3)).alloc (.cells (zerosI s.procs.length) 3)).drew) (by repeat (first | exact Below.refl _ _ | assumption | refine below_a ?_ _ | refine below_o ?_ _ | refine below_d ?_ | refine below_n ?_ _ | refine below_s ?_ (by first | (simp; done) | (simp; omega) | omega) _)) hgr (by omega))
        have HR := hid (Row.kept Z1.out hgr.size (hgr.block _ (by first | (simp; done) | (simp; omega) | omega) (by first | (simp; done) | (simp; omega) | omega)))
        have HS := hid (StA.of (B := w1.heap.size) (by omega) HR.out hrow hc1 hc3 (by omega) (by have := BG.out.size; simp at hg; omega) (by simp at hg; omega))
        clear OW Z1 HR
        have X3 := hid (box2_next BG.out X2.out)
        clear hrow hgr hg
        go_wp2_with fail
        refine ⟨bex BG.out, ?_⟩
        go_wp2_with fail
        refine ⟨bex BG.out, ?_⟩
        obtain ⟨x0, x1, x2, x3, x4⟩ := id X3.out
        go_wp2_with fail
        obtain ⟨y0, y1, y2, _⟩ := box2_set1 (box2_set0 X3.out (.slice (some ⟨w1.heap.size + 1, 0, none⟩) s.procs.length s.procs.length)) (.slice (some ⟨g', 0, none⟩) s.init.length c')
        refine bodyPost_ret (v := .tuple #[.agg #[.slice (some ⟨w1.heap.size + 1, 0, none⟩) s.procs.length s.procs.length, .slice (some ⟨g', 0, none⟩) s.init.length c'], .bool true]) (by simp [results, Try.results45, go_sem, y1, y2]) rfl ?_
        exact RetP.mk (by rw [HE.out.1, HE.out.2]; exact ((HS.out.set2 (by omega)).low (by omega)).truth true) (((below_next B1.out BG.out).setCell (by simp) _).setCell (by simp) _)
      · have OW := hid (own_at (g := w1.heap.size) (w := (w1.alloc (.cells #[] 3)).drew) (by exact heap_alloc_new w1 (.cells #[] 3)))
        go_wp2_with (at_builtin; refine wp_app_at rfl _ _ rfl (w1.heap.size) s.init ad c rfl rfl OW.out (by simp; try omega) (HI.out.below (below_next B1.out (by repeat (first | exact Below.refl _ _ | assumption | refine below_a ?_ _ | refine below_o ?_ _ | refine below_d ?_ | refine below_n ?_ _ | refine below_s ?_ (by first | (simp; done) | (simp; omega) | omega) _)))) (by have := HL.out; omega) ?_; intro g' c' w' hg hc1 hc3 hrow hgr)
        have BG := hid (grown_below (w1 := w1) (W := (w1.alloc (.cells #[] 3)).drew) (by repeat (first | exact Below.refl _ _ | assumption | refine below_a ?_ _ | refine below_o ?_ _ | refine below_d ?_ | refine below_n ?_ _ | refine below_s ?_ (by first | (simp; done) | (simp; omega) | omega) _)) hgr (by omega))
        have sg := BG.out.size
        have BG2 := hid (below_then BG.out (below_alloc w' (.cells (zerosI s.procs.length) 3)) BG.out.size)
        have Z1 := hid (row_new (w := w') (cs := zerosI s.procs.length) (n := s.procs.length) (by rw [zerosI, size_madeCells]) 3)
        have HS := hid (StA.of (B := w1.heap.size) (by omega) Z1.out (Row.below hrow (below_alloc _ _)) hc1 hc3 (by omega) (by simp at hg; omega) (by have := hrow.1; omega))
        clear OW Z1 hrow hgr hg
        go_wp2_with fail
        refine ⟨bex BG.out, ?_⟩
        have X3 := hid (box2_next BG2.out X2.out)
        go_wp2_with fail
        refine ⟨bex BG2.out, ?_⟩
        go_wp2_with fail
        refine ⟨bex BG2.out, ?_⟩
        obtain ⟨x0, x1, x2, x3, x4⟩ := id X3.out
        go_wp2_with fail
        obtain ⟨y0, y1, y2, _⟩ := box2_set1 (box2_set0 X3.out (.slice (some ⟨w'.heap.size, 0, none⟩) s.procs.length s.procs.length)) (.slice (some ⟨g', 0, none⟩) s.init.length c')
        refine bodyPost_ret (v := .tuple #[.agg #[.slice (some ⟨w'.heap.size, 0, none⟩) s.procs.length s.procs.length, .slice (some ⟨g', 0, none⟩) s.init.length c'], .bool true]) (by simp [results, Try.results45, go_sem, y1, y2]) rfl ?_
        exact RetP.mk (by rw [HE.out.1, HE.out.2]; exact ((HS.out.set2 (by omega)).low (by omega)).truth true) (((below_next B1.out BG2.out).setCell (by simp) _).setCell (by simp) _)
theorem own_some {l : List Int} {a : Option Addr} {bs : List Nat} {w : World} (h : OwnV (l.map (Value.int .i64)) a bs w) (hl : l.length = 3) : ∃ g, a = some ⟨g, 0, none⟩ ∧ bs = [g] ∧ Row w g l.length (fun i => (l.map (Value.int .i64)).getD i undef) := by
  rcases h with ⟨h0, _⟩ | ⟨R, h1, h2, h3⟩
  · have : l = [] := by simpa using h0
    subst this; simp at hl
  · rw [List.length_map] at h3
    exact ⟨R, h1, h2, h3⟩

end Sys
end Go.Proofs.Ytdmieedfddgmjaa
namespace Go.Proofs.Ytdmieedfddgmjaa
open Go.RowKit
open Go.Proofs.Ytdmieedfddgmjaa.State (PairIn)
open Go.Proofs.Ytdmieedfddgmjaa.Sys
set_option linter.unusedVariables false
set_option linter.unusedSimpArgs false

theorem fm_mem {f : Nat → List Stp} {t : Stp} : ∀ n, t ∈ fm f n → ∃ x, x < n ∧ t ∈ f x
  | 0, h => by cases h
  | n + 1, h => by
    rcases List.mem_append.1 h with h | h
    · obtain ⟨x, h1, h2⟩ := fm_mem n h
      exact ⟨x, by omega, h2⟩
    · exact ⟨n, by omega, h⟩
theorem steps_mem {s : Sy} {ls vs : List Int} {t : Stp} (h : t ∈ steps s ls vs s.procs.length) :
    ∃ (i k : Nat) (hi : i < s.procs.length), t.p = i ∧ t.e = k ∧ k < s.procs[i].edges.length ∧ (t.q = -1 ∨ ∃ (j m : Nat) (hj : j < s.procs.length), t.q = j ∧ t.f = m ∧ m < s.procs[j].edges.length) := by
  obtain ⟨i, hi, h⟩ := fm_mem _ h
  obtain ⟨k, hk, h⟩ := fm_mem _ h
  rw [lenE_at hi] at hk
  rw [one, edge?_some hi hk] at h
  simp only [oneE] at h
  split at h
  · cases h
  · split at h
    · simp at h
      subst h
      exact ⟨i, k, hi, rfl, rfl, hk, .inl rfl⟩
    · obtain ⟨j, hj, h⟩ := fm_mem _ h
      obtain ⟨m, hm, h⟩ := fm_mem _ h
      rw [lenE_at hj] at hm
      rw [cand, edge?_some hj hm] at h
      simp only [candE] at h
      split at h
      · simp at h
        subst h
        exact ⟨i, k, hi, rfl, rfl, hk, .inr ⟨j, m, hj, rfl, rfl, hm⟩⟩
      · cases h
theorem stCells_at : ∀ (l : List Stp) (j c : Nat) (hj : j < l.length), c < 4 → (stCells l)[j * 4 + c]? = (l[j].cells)[c]?
  | [], j, c, hj, _ => by simp at hj
  | t :: ts, 0, c, hj, hc => by
    rw [stCells, Nat.zero_mul, Nat.zero_add, List.getElem?_append_left (by simp [Stp.cells]; omega)]
    rfl
  | t :: ts, j + 1, c, hj, hc => by
    rw [stCells, List.getElem?_append_right (by simp [Stp.cells]; omega)]
    have h := stCells_at ts j c (by simpa using hj) hc
    have e : (j + 1) * 4 + c - t.cells.length = j * 4 + c := by simp [Stp.cells]; omega
    rw [e, h]
    rfl
theorem OwnS.cell {B g n c : Nat} {l : List Stp} {w : World} (h : OwnS B (.slice (some ⟨g, 0, none⟩) n c) l w) {j : Nat} (hj : j < l.length) :
    w.cell? ⟨g, j * 4, none⟩ = some (.int .i64 l[j].p) ∧ w.cell? ⟨g, j * 4 + 1, none⟩ = some (.int .i64 l[j].e) ∧ w.cell? ⟨g, j * 4 + 2, none⟩ = some (.int .i64 l[j].q) ∧ w.cell? ⟨g, j * 4 + 3, none⟩ = some (.int .i64 l[j].f) ∧ g < w.heap.size := by
  have hc : ∀ c u, c < 4 → (l[j].cells)[c]? = some u → w.cell? ⟨g, j * 4 + c, none⟩ = some u := fun c u h4 hu => by
    have h2 := World.ownsRow.cells h (g := g) rfl (j * 4 + c) u (by rw [stCells_at l j c hj h4]; exact hu)
    have e : Addr.add ⟨g, 0, none⟩ (j * 4 + c) = ⟨g, j * 4 + c, none⟩ := by unfold Addr.add; split <;> simp_all
    rw [e] at h2
    exact h2
  exact ⟨by simpa using hc 0 _ (by omega) rfl, hc 1 _ (by omega) rfl, hc 2 _ (by omega) rfl, hc 3 _ (by omega) rfl, (World.ownsRow.lt h g rfl).2⟩
theorem locsOk_zero' : ∀ (l : List Pr), (∀ q, q ∈ l → 1 ≤ q.locs) → State.locsOk (List.replicate l.length 0) l = true
  | [], _ => rfl
  | q :: qs, h => by
    have h1 := h q (by simp)
    have h2 := locsOk_zero' qs (fun r hr => h r (by simp [hr]))
    simp only [List.length_cons, List.replicate_succ, State.locsOk, h2, Bool.and_true, decide_eq_true_eq]
    omega
theorem okSt_zero {s : Sy} (h : okSy s = true) : State.okSt s (List.replicate s.procs.length 0) s.init = true := by
  have h0 := h
  simp only [okSy, Bool.and_eq_true, List.all_eq_true] at h
  have h1 : ∀ q, q ∈ s.procs → 1 ≤ q.locs := fun q hq => by
    have := h.1 q hq
    simp only [okP, Bool.and_eq_true, decide_eq_true_eq] at this
    exact this.2.1
  simp only [State.okSt, State.hasB, h0, h.2.1, locsOk_zero' _ h1, List.length_replicate, decide_true, Bool.and_self]
/-- what a state's drawing comes to -/
def SdPost (B K : Nat) (R p : Nat) (w : World) (e : Ending) (w' : World) : Prop :=
  ∃ v ls vs p', e = .returned v ∧ PairIn (fun b => w.heap.size + 1 < b) w' ls vs v ∧ NilO v ∧ ls.length ≤ 20 ∧ vs.length ≤ 20 ∧ But w R w' ∧ Rd B w' R p' ∧ p' ≤ p + K
theorem sd_last {w W : World} {s l : List Int} {R B p K p' c d : Nat} {a b : Option Addr} (h1 : IntsIn (fun b => w.heap.size + 1 < b) W a s) (h2 : IntsIn (fun b => w.heap.size + 1 < b) W b l) (c1 : s.length ≤ c) (c2 : c ≤ maxLen) (d1 : l.length ≤ d) (d2 : d ≤ maxLen) (n1 : a = none → c = 0) (n2 : b = none → d = 0)
    (hb : But w R W) (hr : Rd B W R p') (hB : B ≤ w.heap.size) (m1 : s.length ≤ 20) (m2 : l.length ≤ 20) (u1 u2 : Value) (hp : p' ≤ p + K) :
    SdPost B K R p w (.returned (.agg #[.slice a s.length c, .slice b l.length d])) ((W.setCell ⟨w.heap.size + 1, 0, none⟩ u1).setCell ⟨w.heap.size + 1, 1, none⟩ u2) := by
  obtain ⟨v, s', l', p'', h1, h2, h3, h4, h5, h6, h7, h8⟩ := stm_last (M := 20) h1 h2 c1 c2 d1 d2 n1 n2 hb hr hB m1 m2 u1 u2 hp
  exact ⟨v, s', l', p'', h1, h2, h3, h4, h5, h6, h7, h8⟩
theorem PairIn_frame {p q : Nat → Prop} {w w' : World} {l m : List Int} {v : Value} (h : PairIn p w l m v) (hs : w.heap.size ≤ w'.heap.size) (hp : ∀ b, p b → b < w.heap.size → q b ∧ w'.heap[b]? = w.heap[b]?) : PairIn q w' l m v := by
  obtain ⟨a, b, c, d, rfl, h1, h2, h3⟩ := h
  exact ⟨a, b, c, d, rfl, h1.frame hs hp, h2.frame hs hp, h3⟩
theorem okSt_lens {s : Sy} {ls vs : List Int} (h : State.okSt s ls vs = true) : ls.length ≤ 3 ∧ vs.length = 3 ∧ 0 < s.procs.length := by
  obtain ⟨o1, o2, o3⟩ := okSt_facts h
  have h1 := (okSy_procs o1).1
  rw [Expr.okVals, Bool.and_eq_true, decide_eq_true_eq] at o3
  have h2 : 1 ≤ s.procs.length := by simp only [okSy, Bool.and_eq_true, decide_eq_true_eq] at o1; exact o1.2.2.1
  exact ⟨by omega, o3.2, by omega⟩

set_option maxRecDepth 100000 in
set_option maxHeartbeats 4000000 in
theorem drawSt_any (s : Sy) (w : World) (x : Value) (R B p : Nat) (hx : SyIn (fun b => b ≠ R) w s x) (hr : Rd B w R p) (hp : p + 100 ≤ 1000000) : Calls Try.prog 30 #[.pointer (some ⟨R, 0, none⟩), x] w (SdPost B 100 R p w) := by
  have hB := hr.lt
  obtain ⟨ax, cx, bx, dx, rfl, hcx1, hcx2, hin, hdx, hdx2, hP⟩ := id hx
  have HSY := hid (fun (W : World) (M : But w R W) => (hx.frame (q := Any) M.size (fun b hb hl => ⟨trivial, M.block b hl hb⟩)))
  have HPR := hid (fun (W : World) (M : But w R W) => (PrsIn.frame (q := fun b => b ≠ R) hP M.size (fun b hb hl => ⟨hb, M.block b hl hb⟩)))
  have HIL := hid (show ∀ n, n ∈ s.init → i64 n from hin.2)
  clear hx hP hin
  go_enter Try.func30, Try.ntmps30
  go_wp2_with fail
  have hA := below_next (below_alloc w (.cells #[.slice ax s.init.length cx, .slice bx s.procs.length dx] 63)) (below_alloc _ (.cells #[.slice none 0 0, .slice none 0 0] 30))
  refine (specInit_any s _ _ (HSY.out _ (But.of hA))).mono ?_
  rintro e w1 ⟨vG, rfl, ⟨aG, cG, bsG, aH, cH, bsH, rfl, ⟨cG1, cG2, oG, gG⟩, ⟨cH1, cH2, oH, gH⟩, hdis⟩, hb⟩
  have b3 := boxp_next hb (boxp_next (below_alloc _ (.cells #[.slice none 0 0, .slice none 0 0] 30)) (boxp_at (w := w) (a := .slice ax s.init.length cx) (b := .slice bx s.procs.length dx) (t := 63) rfl))
  have b4 := boxp_next hb (boxp_at (w := w.alloc (.cells #[.slice ax s.init.length cx, .slice bx s.procs.length dx] 63)) (B := w.heap.size + 1) (a := .slice none 0 0) (b := .slice none 0 0) (t := 30) (by simp))
  have B1 := below_next hA hb
  simp only [World.size_alloc] at gG gH
  clear hb hA
  by_cases hok : okSy s = true
  · have hL : initL s = List.replicate s.procs.length 0 := by rw [initL, if_pos hok]
    have hM : initM s = s.init := by rw [initM, if_pos hok]
    rw [hL] at cG1 oG ⊢
    rw [hM] at cH1 oH ⊢
    rw [hok]
    have hst0 := okSt_zero hok
    have hle0 := okSt_lens hst0
    clear hL hM
    obtain ⟨g1, rfl, hbs1, hR1⟩ : ∃ g1, aG = some ⟨g1, 0, none⟩ ∧ bsG = [g1] ∧ RowI w1 g1 (List.replicate s.procs.length 0) := by
      rcases oG with ⟨h, _⟩ | ⟨g, h1, h2, h3⟩
      · have := congrArg List.length h; rw [List.length_map, List.length_replicate, List.length_nil] at this; omega
      · exact ⟨g, h1, h2, by rw [List.length_map] at h3; exact h3⟩
    obtain ⟨g2, rfl, hbs2, hR2⟩ : ∃ g2, aH = some ⟨g2, 0, none⟩ ∧ bsH = [g2] ∧ RowI w1 g2 s.init := by
      rcases oH with ⟨h, _⟩ | ⟨g, h1, h2, h3⟩
      · have := congrArg List.length h; rw [List.length_map, List.length_nil] at this; omega
      · exact ⟨g, h1, h2, by rw [List.length_map] at h3; exact h3⟩
    have hg1 := gG g1 (by rw [hbs1]; simp)
    have hg2 := gH g2 (by rw [hbs2]; simp)
    have hg12 : g1 ≠ g2 := fun e => hdis g1 (by rw [hbs1]; simp) (by rw [hbs2, e]; simp)
    have hp3 := (okSy_procs hok).1
    have HQP := hid (fun q (hq : q ∈ s.procs) => (okSy_procs hok).2 q hq)
    have hp1 := hle0.2.2
    have hi3 := hid hle0.2.1
    have HST := hid hst0
    clear gG gH hbs1 hbs2 hdis hok hst0 hle0
    rw [List.length_replicate] at cG1 ⊢
    have h0 := below_alloc w1 (.cells #[.slice (some ⟨g1, 0, none⟩) s.procs.length cG, .slice (some ⟨g2, 0, none⟩) s.init.length cH] 30)
    have FF := hid (And.intro (boxp_next h0 b3) (And.intro (boxp_next h0 b4) (And.intro (hR1.next h0) (And.intro (hR2.next h0) (And.intro (below_next B1 h0) (hr.next (below_next B1 h0)))))))
    have hgl1 := hR1.1
    have hgl2 := hR2.1
    have HBX := hid (boxp_at (w := w1) (a := .slice (some ⟨g1, 0, none⟩) s.procs.length cG) (b := .slice (some ⟨g2, 0, none⟩) s.init.length cH) (t := 30) rfl)
    have hws := b4.1
    clear h0 b3 b4 hR1 hR2 B1 hr
    go_upto_region 4 with fail
    obtain ⟨O, hO⟩ : ∃ O, O = w1.heap.size := ⟨_, rfl⟩
    rw [← hO] at HBX hgl1 hgl2 hws
    rw [← hO]
    refine wp_gen (fun W => BoxP W O (.slice (some ⟨g1, 0, none⟩) s.procs.length cG) (.slice (some ⟨g2, 0, none⟩) s.init.length cH) ∧ BoxP W w.heap.size (.slice ax s.init.length cx) (.slice bx s.procs.length dx) ∧ BoxP W (w.heap.size + 1) (.slice none 0 0) (.slice none 0 0) ∧ RowI W g1 (List.replicate s.procs.length 0) ∧ RowI W g2 s.init ∧ But w R W ∧ Rd B W R p)
      ⟨HBX.out, FF.out.1, FF.out.2.1, FF.out.2.2.1, FF.out.2.2.2.1, But.of FF.out.2.2.2.2.1, FF.out.2.2.2.2.2⟩ ?_
    clear FF HBX hO
    rintro W0 ⟨u1, u2, u3, u4, u5, u6, u7⟩
    go_wp2_with fail
    refine (pick_any B _ _ R p u7 (by omega) (by omega) (by omega)).mono ?_
    rintro e W1 ⟨j, rfl, _, hb, hr1⟩
    have HO1 := hid (boxp_but hb (by omega) u1)
    have H31 := hid (boxp_but hb (by omega) u2)
    have H41 := hid (boxp_but hb (by omega) u3)
    have HR1 := hid (u4.keep hb.size (hb.block g1 u4.1 (by omega)))
    have HR2 := hid (u5.keep hb.size (hb.block g2 u5.1 (by omega)))
    have HB1 := hid (u6.trans hb)
    have HD1 := hid hr1
    clear u1 u2 u3 u4 u5 u6 u7 hb hr1
    by_cases hj : j = 0
    · subst hj
      go_wp2_with fail
      go_loopw [7] (fun i wr => ∃ (t q : Nat) (lx : List Int), t ≤ s.procs.length ∧ i = .int .i64 t ∧ Hid (lx.length = s.procs.length) ∧ Hid (∀ m, m ∈ lx → i64 m) ∧ Hid (BoxP wr O (.slice (some ⟨g1, 0, none⟩) s.procs.length cG) (.slice (some ⟨g2, 0, none⟩) s.init.length cH)) ∧ Hid (BoxP wr w.heap.size (.slice ax s.init.length cx) (.slice bx s.procs.length dx)) ∧ Hid (BoxP wr (w.heap.size + 1) (.slice none 0 0) (.slice none 0 0)) ∧ Hid (RowI wr g1 lx) ∧ Hid (But w R wr) ∧ Hid (Rd B wr R q) ∧ Hid (q ≤ p + 1 + t)) (fun i _ => s.procs.length - (intOf i).toNat)
      case atStart => exact ⟨0, p + 1, _, Nat.zero_le _, rfl, hid (by simp), hid (fun m hm => by have := List.eq_of_mem_replicate hm; subst this; unfold i64; omega), HO1, H31, H41, HR1, HB1, HD1, hid (by omega)⟩
      case round =>
        obtain ⟨t, q, lx, ht, rfl, HLX, HXI, HOx, H3, H4, HRx, HBu, HRd, HQ⟩ := hrel
        obtain ⟨wo, rfl⟩ : ∃ wo : World, wo = wr := ⟨_, rfl⟩
        obtain ⟨y0, y1, y2, y3, y4⟩ := id HOx.out
        clear HO1 H31 H41 HR1 HR2 HB1 HD1
        have hq9 := HQ.out
        by_cases htl : t < s.procs.length
        · have htl2 : (t : Int) < (s.procs.length : Int) := by omega
          obtain ⟨bp, op, rfl, hbpR, hbp, _, _, ⟨g0, _⟩, _⟩ := SeqIn.at (HPR.out _ HBu.out) htl
          have hql := okP_locs (HQP.out _ (List.getElem_mem htl))
          generalize s.procs[t] = qq at *
          obtain ⟨z0, z1, z2, z3, z4⟩ := id H3.out
          have htx : t < lx.length := by have := HLX.out; omega
          have hgx := HRx.out.1
          go_wp2_with fail
          refine wp_region_ord (C := fun wZ => ∃ xZ, wZ = World.overP _ ([O, w.heap.size, bp]) xZ) [0,1,2,3,4,5,6,7,8,9] (.one 10 (.fre 11 (.fre 12 .done))) [11,12] (by kernel_rfl) (by kernel_rfl) (fun d _ _ _ _ h => by cases d <;> exact h) (KeepP.refl _ _).drew.ex ?_; simp only [pick, List.getElem?_cons_succ, List.getElem?_cons_zero]; (repeat (go_big_quiet_step (fail))); refine wpQuiet_nil ?_; simp only [ordW, pick, List.getElem?_cons_succ, List.getElem?_cons_zero]
          have hd := below_d (Below.refl wo.heap.size wo)
          go_wp2_with fail
          refine (pick_any B _ _ R q (HRd.out.next hd) (by omega) (by omega) (by omega)).mono ?_
          rintro e W2 ⟨n, rfl, ⟨m0, m1, _⟩, hb, hr2⟩
          have hni : i64 n := by have := m1 (by omega); unfold i64; omega
          have K3 := hid ((KeepP.below (S := [O, w.heap.size, bp]) hd).trans (KeepP.but hb (by simp; omega)))
          have hbA : But wo R W2 := (But.of hd).trans hb
          have R2 := HRx.out.keep hbA.size (hbA.block g1 hgx (by omega))
          obtain ⟨v0, r1, r2⟩ := R2.at htx
          have N1 := hid (boxp_set (boxp_but hbA (by omega) HOx.out) (p := ⟨g1, t, none⟩) (show O ≠ g1 by omega) (.int .i64 n))
          have N2 := hid (boxp_set (boxp_but hbA (by omega) H3.out) (p := ⟨g1, t, none⟩) (show w.heap.size ≠ g1 by omega) (.int .i64 n))
          have N3 := hid (boxp_set (boxp_but hbA (by omega) H4.out) (p := ⟨g1, t, none⟩) (show w.heap.size + 1 ≠ g1 by omega) (.int .i64 n))
          have N4 := hid (R2.set htx n)
          have N5 := hid (show But w R (W2.setCell ⟨g1, t, none⟩ (.int .i64 n)) from But.setNew (HBu.out.trans hbA) (show w.heap.size ≤ g1 by omega) _)
          have N6 := hid (hr2.set (a := ⟨g1, t, none⟩) (show B ≤ g1 by omega) (.int .i64 n))
          have N7 := hid (fun m (hm : m ∈ lx.set t n) => by
            rcases List.mem_or_eq_of_mem_set hm with h | h
            · exact HXI.out m h
            · subst h; exact hni)
          have N8 := hid (show (lx.set t n).length = s.procs.length by rw [List.length_set]; exact HLX.out)
          clear hb hr2 hbA R2 m0 m1 hd y0 y1 y2 y3 y4 z0 z1 z2 z3 z4 HOx H3 H4 HRx HBu HRd HXI HLX g0
          go_wp2_with fail
          refine ⟨K3.out.ex, ?_⟩
          go_wp2_with fail
          go_roundw
          case rel => exact ⟨t + 1, q + 1, lx.set t n, htl, by go_num, N8, N7, N1, N2, N3, N4, N5, N6, hid (by omega)⟩
          case measure => simp [intOf]; omega
        · obtain rfl : t = s.procs.length := by omega
          have hnl : ¬ ((s.procs.length : Int) < (s.procs.length : Int)) := by omega
          clear ht htl
          go_wp2_with fail
          refine (pick_any B _ _ R q HRd.out (by omega) (by omega) (by omega)).mono ?_
          rintro e W3 ⟨e1, rfl, ⟨e10, e11, _⟩, hba, hra⟩
          go_wp2_with fail
          refine (pick_any B _ _ R (q + 1) hra (by omega) (by omega) (by omega)).mono ?_
          rintro e W4 ⟨e2, rfl, ⟨e20, e21, _⟩, hbb, hrb⟩
          go_wp2_with fail
          refine (pick_any B _ _ R (q + 1 + 1) hrb (by omega) (by omega) (by omega)).mono ?_
          rintro e W5 ⟨e3, rfl, ⟨e30, e31, _⟩, hbc, hrc⟩
          have hbA := (hba.trans hbb).trans hbc
          have hE : (0 ≤ e1 ∧ e1 < 4) ∧ (0 ≤ e2 ∧ e2 < 4) ∧ (0 ≤ e3 ∧ e3 < 4) := ⟨⟨e10, e11 (by omega)⟩, ⟨e20, e21 (by omega)⟩, ⟨e30, e31 (by omega)⟩⟩
          have X1 := boxp_but hbA (by omega) HOx.out
          have X4 := boxp_but hbA (by omega) H4.out
          have gx := HRx.out.1
          have Rw := HRx.out.keep hbA.size (hbA.block g1 gx (by omega))
          have BW := HBu.out.trans hbA
          have hsz := BW.size
          have hx1 := X1.1
          have h0 := below_alloc W5 (.cells #[.int .i64 e1, .int .i64 e2, .int .i64 e3] 3)
          have hI : IntsIn (fun b => w.heap.size + 1 < b) ((W5.alloc (.cells #[.int .i64 e1, .int .i64 e2, .int .i64 e3] 3)).setCell ⟨O, 1, none⟩ (.slice (some ⟨W5.heap.size, 0, none⟩) 3 3)) (some ⟨W5.heap.size, 0, none⟩) [e1, e2, e3] :=
            IntsIn.frame (p := fun b => b = W5.heap.size) ⟨.inr ⟨W5.heap.size, 0, rfl, rfl, by simp, fun i v hi => by
              rw [Nat.zero_add, World.cell?_alloc_new]; simpa using hi⟩, fun n hn => by
              simp at hn
              rcases hn with rfl | rfl | rfl <;> (unfold i64; omega)⟩ (by simp) (fun b hb hl => ⟨by omega, Below.heap_setCell _ _ _ _ (show b ≠ O by omega)⟩)
          have hI1 := ((Rw.next h0).other (a := ⟨O, 1, none⟩) (show g1 ≠ O by omega) (.slice (some ⟨W5.heap.size, 0, none⟩) 3 3)).ints HXI.out (p := fun b => w.heap.size + 1 < b) (by omega)
          have hlx : lx.length = s.procs.length := HLX.out
          have hcm : (W5.alloc (.cells #[.int .i64 e1, .int .i64 e2, .int .i64 e3] 3)).setCell ⟨O, 1, none⟩ (.slice (some ⟨W5.heap.size, 0, none⟩) 3 3) = (W5.setCell ⟨O, 1, none⟩ (.slice (some ⟨W5.heap.size, 0, none⟩) 3 3)).alloc (.cells #[.int .i64 e1, .int .i64 e2, .int .i64 e3] 3) := World.setCell_alloc_past _ _ _ _ hx1
          have FF := And.intro hI1 (And.intro hI (And.intro (But.setNew (BW.next h0) (show w.heap.size ≤ O by omega) (.slice (some ⟨W5.heap.size, 0, none⟩) 3 3) : But w R ((W5.alloc (.cells #[.int .i64 e1, .int .i64 e2, .int .i64 e3] 3)).setCell ⟨O, 1, none⟩ (.slice (some ⟨W5.heap.size, 0, none⟩) 3 3))) (And.intro ((hrc.next h0).set (a := ⟨O, 1, none⟩) (show B ≤ O by omega) (.slice (some ⟨W5.heap.size, 0, none⟩) 3 3)) (And.intro (boxp_set (boxp_next h0 X4) (p := ⟨O, 1, none⟩) (show w.heap.size + 1 ≠ O by omega) (.slice (some ⟨W5.heap.size, 0, none⟩) 3 3)) (boxp_set1 (boxp_next h0 X1) (.slice (some ⟨W5.heap.size, 0, none⟩) 3 3))))))
          rw [hcm] at FF
          replace FF := hid FF
          have HLX2 := hid hlx
          clear y0 y1 y2 y3 y4 hba hbb hbc hra hrb hrc hbA HOx H3 H4 HRx HBu HRd HXI HLX hlx hI hI1 h0 Rw BW hE hcm X4
          obtain ⟨y0, y1, y2, y3, y4⟩ := X1
          obtain ⟨G3, hG3⟩ : ∃ G3, G3 = W5.heap.size := ⟨_, rfl⟩
          go_upto_region 10 with fail
          rw [← hG3] at FF ⊢
          refine wp_gen (fun W => IntsIn (fun b => w.heap.size + 1 < b) W (some ⟨g1, 0, none⟩) lx ∧ IntsIn (fun b => w.heap.size + 1 < b) W (some ⟨G3, 0, none⟩) [e1, e2, e3] ∧ But w R W ∧ Rd B W R (q + 1 + 1 + 1) ∧ BoxP W (w.heap.size + 1) (.slice none 0 0) (.slice none 0 0) ∧ BoxP W O (.slice (some ⟨g1, 0, none⟩) s.procs.length cG) (.slice (some ⟨G3, 0, none⟩) 3 3)) FF.out ?_
          clear FF y0 y1 y2 y3 y4 hG3
          rintro W6 ⟨k1, k2, k3, k4, k5, k6⟩
          have hf := fun u1 u2 => sd_last (w := w) (R := R) (B := B) (K := 100) (p := p) (c := cG) (d := 3) k1 k2 (by rw [HLX2.out]; exact cG1) cG2 (by simp) (by decide) (fun h => by cases h) (fun h => by cases h) k3 k4 hB.2 (by rw [HLX2.out]; omega) (by simp) u1 u2 (by omega)
          rw [HLX2.out] at hf
          replace hf := hid hf
          have T := hid (boxp_set1 (boxp_set0 k5 (.slice (some ⟨g1, 0, none⟩) s.procs.length cG)) (.slice (some ⟨G3, 0, none⟩) 3 3))
          clear k1 k2 k3 k4
          obtain ⟨y0, y1, y2, y3, y4⟩ := k6
          obtain ⟨z0, z1, z2, z3, z4⟩ := k5
          go_wp2_with fail
          obtain ⟨_, t0, t1, _, _⟩ := T.out
          refine bodyPost_ret (v := .agg #[.slice (some ⟨g1, 0, none⟩) s.procs.length cG, .slice (some ⟨G3, 0, none⟩) 3 3]) (by simp [results, Try.results30, go_sem, t0, t1]) rfl ?_
          exact hf.out _ _
    · have hj2 : (j == 0) = false := by simpa using hj
      clear hj
      go_wp2_with fail
      refine (num_new [2, 4, 1, 0, 6] 0 6 (by simp) (by decide) (by decide) B W1 _ R (p + 1) HD1.out (by omega)).mono ?_
      rintro e W2 ⟨n0, rfl, ⟨hn1, hn2⟩, hb, hr2⟩
      have h0 := below_alloc W1 (.cells (([2, 4, 1, 0, 6] : List Int).map (Value.int .i64)).toArray 3)
      have hbA : But W1 R W2 := (But.of h0).trans hb
      obtain ⟨nn, rfl⟩ := Int.eq_ofNat_of_zero_le hn1
      have N1 := hid (boxp_but hbA (by omega) HO1.out)
      have N2 := hid (boxp_but hbA (by omega) H31.out)
      have N3 := hid (boxp_but hbA (by omega) H41.out)
      have Ra := HR1.out.keep hbA.size (hbA.block g1 HR1.out.1 (by omega))
      have Rb := HR2.out.keep hbA.size (hbA.block g2 HR2.out.1 (by omega))
      have N4 := hid (HB1.out.trans hbA)
      have N5 := hid hr2
      have hPI := hid (show PairIn (fun b => w.heap.size + 1 < b ∧ b ≠ O) W2 (List.replicate s.procs.length 0) s.init (.agg #[.slice (some ⟨g1, 0, none⟩) (List.replicate s.procs.length (0 : Int)).length cG, .slice (some ⟨g2, 0, none⟩) s.init.length cH]) from
        ⟨_, _, _, _, rfl, Ra.ints (fun m hm => by have := List.eq_of_mem_replicate hm; subst this; unfold i64; omega) ⟨by omega, by omega⟩, Rb.ints HIL.out ⟨by omega, by omega⟩, by rw [List.length_replicate]; exact cG1, cG2, cH1, cH2⟩)
      have hNI := hid (show NilO (.agg #[.slice (some ⟨g1, 0, none⟩) (List.replicate s.procs.length (0 : Int)).length cG, .slice (some ⟨g2, 0, none⟩) s.init.length cH]) from fun a' b' c' d' n m he => by simp at he; obtain ⟨⟨rfl, _, rfl⟩, rfl, _, rfl⟩ := he; exact ⟨fun h => (by cases h), fun h => (by cases h)⟩)
      have hlr : (List.replicate s.procs.length (0 : Int)).length = s.procs.length := List.length_replicate
      have N1' := hid (show BoxP W2 O (.slice (some ⟨g1, 0, none⟩) (List.replicate s.procs.length (0 : Int)).length cG) (.slice (some ⟨g2, 0, none⟩) s.init.length cH) by rw [hlr]; exact N1.out)
      clear hlr N1 Ra Rb hbA hb h0 hr2 HO1 H31 H41 HR1 HR2 HB1 HD1
      go_wp2_with fail
      go_loopw [8] (fun i wr => ∃ (t q : Nat) (lx vx : List Int) (aL : Option Addr) (cL : Nat) (aV : Option Addr) (cV : Nat), i = .int .i64 t ∧ Hid (State.okSt s lx vx = true) ∧ Hid (BoxP wr O (.slice aL lx.length cL) (.slice aV vx.length cV)) ∧ Hid (BoxP wr w.heap.size (.slice ax s.init.length cx) (.slice bx s.procs.length dx)) ∧ Hid (BoxP wr (w.heap.size + 1) (.slice none 0 0) (.slice none 0 0)) ∧ Hid (PairIn (fun b => w.heap.size + 1 < b ∧ b ≠ O) wr lx vx (.agg #[.slice aL lx.length cL, .slice aV vx.length cV])) ∧ Hid (NilO (.agg #[.slice aL lx.length cL, .slice aV vx.length cV])) ∧ Hid (But w R wr) ∧ Hid (Rd B wr R q) ∧ Hid (q + t ≤ p + 8)) (fun i _ => (intOf i).toNat)
      case atStart => exact ⟨nn, p + 2, _, _, _, _, _, _, rfl, HST, N1', N2, N3, hPI, hNI, N4, N5, hid (by omega)⟩
      case round =>
        obtain ⟨t, q, lx, vx, aL, cL, aV, cV, rfl, HOK2, HOx, H3, H4, HPI, HNI, HBu, HRd, HQ⟩ := hrel
        obtain ⟨wo, rfl⟩ : ∃ wo : World, wo = wr := ⟨_, rfl⟩
        clear N1' N2 N3 hPI hNI N4 N5
        by_cases htl : 0 < t
        · have htl2 : (0 : Int) < (t : Int) := by omega
          obtain ⟨t', rfl⟩ : ∃ t', t = t' + 1 := ⟨t - 1, by omega⟩
          have hq9 := HQ.out
          obtain ⟨y0, y1, y2, y3, y4⟩ := id HOx.out
          obtain ⟨z0, z1, z2, z3, z4⟩ := id H3.out
          go_wp2_with fail
          refine (specSteps_any s lx vx HOK2.out hp1 wo _ _ (HSY.out _ HBu.out) (PairIn_frame (q := Any) HPI.out (Nat.le_refl _) (fun _ _ _ => ⟨trivial, rfl⟩))).mono ?_
          rintro e W3 ⟨gS, cS, rfl, hOwn, hb3⟩
          have hbA : But wo R W3 := But.of hb3
          have hsl := hOwn.shape
          have hlen := steps_len (okSt_facts HOK2.out).1 lx vx s.procs.length
          have HMem := hid (fun t (ht : t ∈ steps s lx vx s.procs.length) => steps_mem ht)
          generalize hL : steps s lx vx s.procs.length = L at *
          clear hL
          have N1 := hid (boxp_next hb3 HOx.out)
          have N2 := hid (boxp_next hb3 H3.out)
          have N3 := hid (boxp_next hb3 H4.out)
          have N4 := hid (HBu.out.next hb3)
          have N5 := hid (HRd.out.next hb3)
          have hwsz := HBu.out.size
          have N6 := hid (PairIn_frame (q := fun b => w.heap.size + 1 < b ∧ b ≠ O) HPI.out hb3.size (fun b hb hl => ⟨hb, hb3.block b hl⟩))
          have hgS : wo.heap.size ≤ gS := (World.ownsRow.lt hOwn gS rfl).1
          have HOwn := hid hOwn
          have hOsz := HOx.out.1
          clear hOwn hb3 HOx H3 H4 HBu HRd HPI y0 y1 y2 y3 y4 z0 z1 z2 z3 z4 hbA hsl
          have HOx := N1
          have H3 := N2
          have H4 := N3
          have HBu := N4
          have HRd := N5
          have HPI := N6
          clear N1 N2 N3 N4 N5 N6
          obtain ⟨y0, y1, y2, y3, y4⟩ := id HOx.out
          obtain ⟨z0, z1, z2, z3, z4⟩ := id H3.out
          have hl324 : L.length ≤ 324 := by omega
          by_cases hL0 : L.length = 0
          · have hL1 : ((L.length : Int) == 0) = true := by rw [hL0]; rfl
            clear hL0
            clear y0 y1 y2 y3 y4 z0 z1 z2 z3 z4
            obtain ⟨_, _, _, _, he, ii1, ii2, cc1, cc2, dd1, dd2⟩ := HPI.out
            simp at he
            obtain ⟨⟨rfl, rfl⟩, rfl, rfl⟩ := he
            have hnil := HNI.out _ _ _ _ _ _ rfl
            have hlens := okSt_lens HOK2.out
            have hf := hid (fun u1 u2 => sd_last (w := w) (W := W3) (R := R) (B := B) (K := 100) (p := p) (ii1.frame (q := fun b => w.heap.size + 1 < b) (Nat.le_refl _) (fun b hb _ => ⟨hb.1, rfl⟩)) (ii2.frame (q := fun b => w.heap.size + 1 < b) (Nat.le_refl _) (fun b hb _ => ⟨hb.1, rfl⟩)) cc1 cc2 dd1 dd2 hnil.1 hnil.2 HBu.out HRd.out hB.2 (by omega) (by omega) u1 u2 (by have := HQ.out; omega))
            have T := hid (boxp_set1 (boxp_set0 H4.out (.slice aL lx.length cL)) (.slice aV vx.length cV))
            obtain ⟨y0, y1, y2, y3, y4⟩ := id HOx.out
            obtain ⟨z0, z1, z2, z3, z4⟩ := id H4.out
            clear HOK2 HPI HNI HBu HRd HQ H3 H4 HOx ii1 ii2 hnil hlens
            go_wp2_with fail
            obtain ⟨_, t0, t1, _, _⟩ := T.out
            refine bodyPost_ret (v := .agg #[.slice aL lx.length cL, .slice aV vx.length cV]) (by simp [results, Try.results30, go_sem, t0, t1]) rfl ?_
            exact hf.out _ _
          · have hL1 : ((L.length : Int) == 0) = false := by simp; intro e; rw [e] at hL0; exact hL0 rfl
            have hLp : 0 < L.length := by omega
            clear hL0
            go_wp2_with fail
            refine wp_region_ord (C := fun wZ => ∃ xZ, wZ = World.overP _ ([O, w.heap.size, gS]) xZ) [0,1,2,3,4,5] (.one 6 (.one 7 (.one 8 (.one 9 (.fre 10 .done))))) [10] (by kernel_rfl) (by kernel_rfl) (fun d _ _ _ _ h => by cases d <;> exact h) (KeepP.refl _ _).drew.ex ?_; simp only [pick, List.getElem?_cons_succ, List.getElem?_cons_zero]; (repeat (go_big_quiet_step (fail))); refine wpQuiet_nil ?_; simp only [ordW, pick, List.getElem?_cons_succ, List.getElem?_cons_zero]
            have hd := below_d (Below.refl W3.heap.size W3)
            go_wp2_with fail
            refine (pick_any B _ _ R q (HRd.out.next hd) (by omega) (by omega) (by omega)).mono ?_
            rintro e W4 ⟨n, rfl, ⟨m0, m1, _⟩, hb, hr2⟩
            obtain ⟨nj, rfl⟩ := Int.eq_ofNat_of_zero_le m0
            have hnj0 := m1 (by omega)
            have hnj : nj < L.length := by omega
            have hnjI : (nj : Int) < (L.length : Int) := by omega
            have K4 := hid ((KeepP.below (S := [O, w.heap.size, gS]) hd).trans (KeepP.but hb (by simp; omega)))
            have hbA : But W3 R W4 := (But.of hd).trans hb
            obtain ⟨s1, s2, s3, s4, s5⟩ := OwnS.cell HOwn.out hnj
            have hgR : gS ≠ R := by omega
            have s1' := (hbA.cell (b := gS) (o := nj * 4) s5 hgR).trans s1
            have s2' := (hbA.cell (b := gS) (o := nj * 4 + 1) s5 hgR).trans s2
            have s3' := (hbA.cell (b := gS) (o := nj * 4 + 2) s5 hgR).trans s3
            have s4' := (hbA.cell (b := gS) (o := nj * 4 + 3) s5 hgR).trans s4
            obtain ⟨pi, pk, hpi, hp1', hp2', hpk, hqf⟩ := HMem.out _ (List.getElem_mem hnj)
            rw [hp1'] at s1'
            rw [hp2'] at s2'
            have HQF := hid hqf
            have s5' : gS < W4.heap.size := Nat.lt_of_lt_of_le s5 hbA.size
            have N1 := hid (boxp_but hbA (by omega) HOx.out)
            have N3 := hid (boxp_but hbA (by omega) H4.out)
            have N2 := hid (boxp_but hbA (by omega) H3.out)
            have N4 := hid (HBu.out.trans hbA)
            have N5 := hid hr2
            have N6 := hid (PairIn_frame (q := fun b => w.heap.size + 1 < b ∧ b ≠ O) HPI.out hbA.size (fun b hb hl => ⟨hb, hbA.block b hl (by omega)⟩))
            clear hb hr2 hd m0 m1 s1 s2 s3 s4 s5 hp1' hp2' hqf y0 y1 y2 y3 y4 z0 z1 z2 z3 z4 HOx H3 H4 HBu HRd HPI HMem HOwn hbA hgR
            generalize L[nj] = tt at *
            go_wp2_with fail
            refine ⟨K4.out.ex, ?_⟩
            go_wp2_with fail
            refine ⟨K4.out.ex, ?_⟩
            go_wp2_with fail
            refine ⟨K4.out.ex, ?_⟩
            go_wp2_with fail
            refine (apply_any s lx vx pi pk tt.q tt.f W4 _ _ HOK2.out hpi hpk HQF.out (HSY.out _ N4.out) (PairIn_frame (q := Any) N6.out (Nat.le_refl _) (fun _ _ _ => ⟨trivial, rfl⟩)) HNI.out).mono ?_
            rintro e W5 ⟨v, lx', vx', rfl, hok', hpi', hni', hb5⟩
            obtain ⟨aL', aV', cL', cV', rfl, _⟩ := id hpi'
            have hlx' := okSt_lens hok'
            have hw4 := N4.out.size
            have hO4 := N1.out.1
            have K5 := hid (K4.out.trans (KeepP.below hb5))
            have M1 := hid (boxp_set1 (boxp_set0 (boxp_next hb5 N1.out) (.slice aL' lx'.length cL')) (.slice aV' vx'.length cV'))
            have M2 := hid (boxp_set (boxp_set (boxp_next hb5 N2.out) (p := ⟨O, 0, none⟩) (show w.heap.size ≠ O by omega) (.slice aL' lx'.length cL')) (p := ⟨O, 1, none⟩) (show w.heap.size ≠ O by omega) (.slice aV' vx'.length cV'))
            have M3 := hid (boxp_set (boxp_set (boxp_next hb5 N3.out) (p := ⟨O, 0, none⟩) (show w.heap.size + 1 ≠ O by omega) (.slice aL' lx'.length cL')) (p := ⟨O, 1, none⟩) (show w.heap.size + 1 ≠ O by omega) (.slice aV' vx'.length cV'))
            have M4 := hid (show But w R ((W5.setCell ⟨O, 0, none⟩ (.slice aL' lx'.length cL')).setCell ⟨O, 1, none⟩ (.slice aV' vx'.length cV')) from But.setNew (But.setNew (N4.out.next hb5) (show w.heap.size ≤ O by omega) _) (show w.heap.size ≤ O by omega) _)
            have M5 := hid (((N5.out.next hb5).set (a := ⟨O, 0, none⟩) (show B ≤ O by omega) (.slice aL' lx'.length cL')).set (a := ⟨O, 1, none⟩) (show B ≤ O by omega) (.slice aV' vx'.length cV'))
            have M6 := hid (PairIn_frame (q := fun b => w.heap.size + 1 < b ∧ b ≠ O) (w' := (W5.setCell ⟨O, 0, none⟩ (.slice aL' lx'.length cL')).setCell ⟨O, 1, none⟩ (.slice aV' vx'.length cV')) hpi' (by simp) (fun b hb hl => ⟨⟨by omega, by omega⟩, (Below.heap_setCell _ _ _ _ (show b ≠ O by omega)).trans (Below.heap_setCell _ _ _ _ (show b ≠ O by omega))⟩))
            have M7 := hid hni'
            have M8 := hid hok'
            obtain ⟨y0, y1, y2, y3, y4⟩ := boxp_next hb5 N1.out
            clear hok' hpi' hni' hb5 N1 N2 N3 N4 N5 N6 hlx' s1' s2' s3' s4' K4
            go_wp2_with fail
            refine ⟨K5.out.ex, ?_⟩
            go_wp2_with fail
            go_roundw
            case rel => exact ⟨t', q + 1, lx', vx', aL', cL', aV', cV', by go_num, M8, M1, M2, M3, M6, M7, M4, M5, hid (by omega)⟩
            case measure => simp [intOf, wrap64]
        · obtain rfl : t = 0 := by omega
          have hnl : ¬ ((0 : Int) < ((0 : Nat) : Int)) := by omega
          clear htl
          obtain ⟨_, _, _, _, he, ii1, ii2, cc1, cc2, dd1, dd2⟩ := HPI.out
          simp at he
          obtain ⟨⟨rfl, rfl⟩, rfl, rfl⟩ := he
          have hnil := HNI.out _ _ _ _ _ _ rfl
          have hlens := okSt_lens HOK2.out
          have hf := hid (fun u1 u2 => sd_last (w := w) (W := wo) (R := R) (B := B) (K := 100) (p := p) (ii1.frame (q := fun b => w.heap.size + 1 < b) (Nat.le_refl _) (fun b hb _ => ⟨hb.1, rfl⟩)) (ii2.frame (q := fun b => w.heap.size + 1 < b) (Nat.le_refl _) (fun b hb _ => ⟨hb.1, rfl⟩)) cc1 cc2 dd1 dd2 hnil.1 hnil.2 HBu.out HRd.out hB.2 (by omega) (by omega) u1 u2 (by have := HQ.out; omega))
          have T := hid (boxp_set1 (boxp_set0 H4.out (.slice aL lx.length cL)) (.slice aV vx.length cV))
          obtain ⟨y0, y1, y2, y3, y4⟩ := id HOx.out
          obtain ⟨z0, z1, z2, z3, z4⟩ := id H4.out
          clear HOK2 HPI HNI HBu HRd HQ H3 H4 HOx ii1 ii2 hnil hlens
          go_wp2_with fail
          obtain ⟨_, t0, t1, _, _⟩ := T.out
          refine bodyPost_ret (v := .agg #[.slice aL lx.length cL, .slice aV vx.length cV]) (by simp [results, Try.results30, go_sem, t0, t1]) rfl ?_
          exact hf.out _ _
  · have hL : initL s = [] := by rw [initL, if_neg hok]
    have hM : initM s = [] := by rw [initM, if_neg hok]
    have hok2 : okSy s = false := by simpa using hok
    rw [hL] at cG1 oG ⊢
    rw [hM] at cH1 oH ⊢
    rw [hok2]
    clear hL hM hok hok2 oG oH gG gH hdis
    have h0 := below_alloc w1 (.cells #[.slice aG ([] : List Int).length cG, .slice aH ([] : List Int).length cH] 30)
    have FF := hid (And.intro (boxp_next h0 b4) (And.intro (below_next B1 h0) (hr.next (below_next B1 h0))))
    clear h0 b3 b4 B1 hr
    go_upto_region 3 with fail
    refine wp_gen (fun W => BoxP W (w.heap.size + 1) (.slice none 0 0) (.slice none 0 0) ∧ But w R W ∧ Rd B W R p) ⟨FF.out.1, But.of FF.out.2.1, FF.out.2.2⟩ ?_
    clear FF
    rintro W0 ⟨u1, u2, u3⟩
    have hsz := u2.size
    have hx1 := u1.1
    have k1 := below_alloc W0 (.cells #[.int .i64 0] 3)
    have k2 := below_alloc (W0.alloc (.cells #[.int .i64 0] 3)) (.cells #[.int .i64 0, .int .i64 0, .int .i64 0] 3)
    have i1 : IntsIn (fun b => w.heap.size + 1 < b) ((W0.alloc (.cells #[.int .i64 0] 3)).alloc (.cells #[.int .i64 0, .int .i64 0, .int .i64 0] 3)) (some ⟨W0.heap.size, 0, none⟩) [0] :=
      IntsIn.frame (p := fun b => b = W0.heap.size) ⟨.inr ⟨W0.heap.size, 0, rfl, rfl, by simp, fun i v hi => by
        rw [Nat.zero_add, World.cell?_alloc_new]; simpa using hi⟩, fun n hn => by simp at hn; subst hn; unfold i64; omega⟩ k2.size (fun b hb hl => ⟨by omega, k2.block b hl⟩)
    have i2 : IntsIn (fun b => w.heap.size + 1 < b) ((W0.alloc (.cells #[.int .i64 0] 3)).alloc (.cells #[.int .i64 0, .int .i64 0, .int .i64 0] 3)) (some ⟨W0.heap.size + 1, 0, none⟩) [0, 0, 0] :=
      ⟨.inr ⟨W0.heap.size + 1, 0, rfl, by omega, by simp, fun i v hi => by
        rw [Nat.zero_add]
        have e := World.cell?_alloc_new (W0.alloc (.cells #[.int .i64 0] 3)) #[.int .i64 0, .int .i64 0, .int .i64 0] 3 i
        simp only [World.size_alloc] at e
        rw [e]; simpa using hi⟩, fun n hn => by simp at hn; subst hn; unfold i64; omega⟩
    have hf := sd_last (w := w) (R := R) (B := B) (K := 100) (p := p) (c := 1) (d := 3) i1 i2 (by simp) (by decide) (by simp) (by decide) (fun h => by cases h) (fun h => by cases h) ((u2.next k1).next k2) ((u3.next k1).next k2) hB.2 (by simp) (by simp) (.slice (some ⟨W0.heap.size, 0, none⟩) 1 1) (.slice (some ⟨W0.heap.size + 1, 0, none⟩) 3 3) (by omega)
    have T := boxp_set1 (boxp_set0 (boxp_next k2 (boxp_next k1 u1)) (.slice (some ⟨W0.heap.size, 0, none⟩) 1 1)) (.slice (some ⟨W0.heap.size + 1, 0, none⟩) 3 3)
    have e2 : ∀ (V : World) (k : Nat) (u : Value) (o1 o2 : Obj), w.heap.size + 1 < V.heap.size → ((V.alloc o1).alloc o2).setCell ⟨w.heap.size + 1, k, none⟩ u = ((V.setCell ⟨w.heap.size + 1, k, none⟩ u).alloc o1).alloc o2 := fun V k u o1 o2 hV => by
      rw [World.setCell_alloc_past o2 (w.heap.size + 1) k u (show w.heap.size + 1 < (V.alloc o1).heap.size by simp; omega), World.setCell_alloc_past o1 (w.heap.size + 1) k u hV]
    rw [e2 W0 0 _ _ _ hx1, e2 _ 1 _ _ _ (show w.heap.size + 1 < (W0.setCell ⟨w.heap.size + 1, 0, none⟩ (.slice (some ⟨W0.heap.size, 0, none⟩) 1 1)).heap.size by simpa using hx1)] at hf T
    clear e2
    replace hf := hid hf
    replace T := hid T
    obtain ⟨z0, z1, z2, z3, z4⟩ := u1
    clear i1 i2 k1 k2 u2 u3
    have q1 : w.heap.size < W0.heap.size := by omega
    have q2 : w.heap.size + 1 < W0.heap.size + 1 := by omega
    go_wp2_with fail
    obtain ⟨_, t0, t1, _, _⟩ := T.out
    refine bodyPost_ret (v := .agg #[.slice (some ⟨W0.heap.size, 0, none⟩) 1 1, .slice (some ⟨W0.heap.size + 1, 0, none⟩) 3 3]) (by simp [results, Try.results30, go_sem, t0, t1]) rfl ?_
    exact hf.out
end Go.Proofs.Ytdmieedfddgmjaa
