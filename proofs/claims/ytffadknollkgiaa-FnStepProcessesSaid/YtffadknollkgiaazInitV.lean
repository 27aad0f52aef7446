/- InitialState, of the reference and of the program: what each returns. Conditions: those of each contract. -/
import Derived.Test.YtffadknollkgiaaJS12
import Derived.Test.YtffadknollkgiaazReachP
import Derived.Test.YtffadknollkgiaaJS3
import Derived.Test.YtffadknollkgiaaJS2
set_option linter.unusedVariables false
set_option linter.unusedSimpArgs false
namespace Go.Proofs.Ytffadknollkgiaa
open Go.RowKit
set_option linter.unusedVariables false
set_option linter.unusedSimpArgs false
namespace Sys

/-- what InitialState returns -/
def initL (s : Sy) : List Int := if okSy s = true then List.replicate s.procs.length 0 else []
def initM (s : Sy) : List Int := if okSy s = true then s.init else []
/-- a state of one's own, and a truth -/
def StV (B : Nat) (l m : List Int) (ok : Bool) (v : Value) (w : World) : Prop := ∃ a c bs a' c' bs', v = .tuple #[.agg #[.slice a l.length c, .slice a' m.length c'], .bool ok] ∧
  (l.length ≤ c ∧ c ≤ maxLen ∧ OwnV (l.map (Value.int .i64)) a bs w ∧ ∀ b, b ∈ bs → B ≤ b) ∧ (m.length ≤ c' ∧ c' ≤ maxLen ∧ OwnV (m.map (Value.int .i64)) a' bs' w ∧ ∀ b, b ∈ bs' → B ≤ b) ∧ ∀ b, b ∈ bs → b ∉ bs'
/-- the same, alone -/
def StA (B : Nat) (l m : List Int) (v : Value) (w : World) : Prop := ∃ a c bs a' c' bs', v = .agg #[.slice a l.length c, .slice a' m.length c'] ∧
  (l.length ≤ c ∧ c ≤ maxLen ∧ OwnV (l.map (Value.int .i64)) a bs w ∧ ∀ b, b ∈ bs → B ≤ b) ∧ (m.length ≤ c' ∧ c' ≤ maxLen ∧ OwnV (m.map (Value.int .i64)) a' bs' w ∧ ∀ b, b ∈ bs' → B ≤ b) ∧ ∀ b, b ∈ bs → b ∉ bs'
theorem StV.nil (B : Nat) (ok : Bool) (w : World) : StV B [] [] ok (.tuple #[.agg #[.slice none 0 0, .slice none 0 0], .bool ok]) w := ⟨none, 0, [], none, 0, [], rfl, ⟨Nat.le_refl _, by simp, .inl ⟨rfl, rfl⟩, by simp⟩, ⟨Nat.le_refl _, by simp, .inl ⟨rfl, rfl⟩, by simp⟩, by simp⟩
theorem own_row {w : World} {R : Nat} {l : List Int} (h : Row w R l.length (fun i => (l.map (Value.int .i64)).getD i undef)) : OwnV (l.map (Value.int .i64)) (some ⟨R, 0, none⟩) [R] w := .inr ⟨R, rfl, rfl, by rw [List.length_map]; exact h⟩
theorem StA.of {B R R' c' n : Nat} {w : World} {m : List Int} (hn : n ≤ 1000) (h : Row w R n (fun i => (zerosI n).getD i undef)) (h' : Row w R' m.length (fun i => (m.map (Value.int .i64)).getD i undef)) (hc : m.length ≤ c') (hc2 : c' ≤ maxLen) (hB : B ≤ R) (hB' : B ≤ R') (hne : R ≠ R') :
    StA B (List.replicate n 0) m (.agg #[.slice (some ⟨R, 0, none⟩) n n, .slice (some ⟨R', 0, none⟩) m.length c']) w :=
  ⟨some ⟨R, 0, none⟩, n, [R], some ⟨R', 0, none⟩, c', [R'], by simp, ⟨by simp, by unfold maxLen; omega, own_row (by
    rw [List.length_replicate]
    exact h.congr fun i hi => by simp [zerosI, madeCells, hi, Array.getD, Nat.mod_one]), by simpa using hB⟩, ⟨hc, hc2, own_row h', by simpa using hB'⟩, by simpa using hne⟩
theorem StA.frame {B : Nat} {l m : List Int} {v : Value} {w w' : World} (h : StA B l m v w) (hs : w.heap.size ≤ w'.heap.size) (hb : ∀ b, B ≤ b → b < w.heap.size → w'.heap[b]? = w.heap[b]?) : StA B l m v w' := by
  obtain ⟨a, c, bs, a', c', bs', e, ⟨h1, h2, h3, h4⟩, ⟨k1, k2, k3, k4⟩, hd⟩ := h
  exact ⟨a, c, bs, a', c', bs', e, ⟨h1, h2, h3.frame hs fun b hb' hl => hb b (h4 b hb') hl, h4⟩, ⟨k1, k2, k3.frame hs fun b hb' hl => hb b (k4 b hb') hl, k4⟩, hd⟩

/-- append to an empty row of one's own, at the operation; where the result may lie -/
theorem wp_app_at {ops : Array Oper} {rest : List Oper} {o : Oper} {a : Act} {Q : Exit → Act → World → Prop} {w : World} (hgd : o.guard = none) (s x : Operand)
    (ho : o.op = .call { callee := .builtin .append, args := #[s, x], argTypes := #[33, 33] }) (g : Nat) (l : List Int) (ad : Addr) (c : Nat) (hs : a.eval s = .slice (some ⟨g, 0, none⟩) 0 0) (hx : a.eval x = .slice (some ad) l.length c)
    (hv : OwnI g (.slice (some ⟨g, 0, none⟩) 0 0) [] w) (hB : g ≤ w.heap.size) (hl : IntsIn Any w (some ad) l) (h2 : l.length ≤ 1000000)
    (h : ∀ g' c' w', (g' = g ∨ g' = w.heap.size) → l.length ≤ c' → c' ≤ maxLen → Row w' g' l.length (fun i => (l.map (Value.int .i64)).getD i undef) → w.grownBy w' (some g) → wpList Try.prog ops Q rest (a.put o.dst (.slice (some ⟨g', 0, none⟩) l.length c')) w') :
    wpList Try.prog ops Q (o :: rest) a w := by
  obtain ⟨ri, hi, hz, hs1, hs2⟩ := info_parts ints_info
  refine wpList_append_own_at _ hgd s x 33 ho g 3 ri (.int .i64 0) 1 8 Try.underlying33 hi hz hs1 hs2 rfl (by omega) _ 0 _ hs hv ad l.length c (l.map (Value.int .i64)) hx (by simp) (fun j u hj => ?_) (fun u hu => ?_) (by simp only [maxLen]; omega) (by omega) hB ?_
  · rcases hl.1 with h0 | ⟨b, o', h1, h2, h3, h4⟩
    · rw [h0] at hj; simp at hj
    · obtain rfl : ad = ⟨b, o', none⟩ := by simpa using h1
      have := h4 j u hj
      have e : Addr.add ⟨b, o', none⟩ j = ⟨b, o' + j, none⟩ := by unfold Addr.add; split <;> simp_all
      rw [e]
      exact this
  · simp at hu
    obtain ⟨n, _, rfl⟩ := hu
    rfl
  · intro v2 w3 hown hgrow hnil hblk
    have ho2 : OwnI g v2 l w3 := by unfold OwnI; simpa using hown
    rcases ho2.row with ⟨rfl, rfl⟩ | ⟨g', c', rfl, h1, h3, h4, h5⟩
    · simp at hnil
    · exact h g' c' w3 (by simpa [Value.ownBlock] using hblk) h3 h4 h5 (by simpa [Value.ownBlock] using hgrow)
theorem grown_below {w1 W w' : World} {g : Nat} (hb : Below w1.heap.size w1 W) (hg : W.grownBy w' (some g)) (h : w1.heap.size ≤ g) : Below w1.heap.size w1 w' :=
  ⟨hg.os.trans hb.os, hg.tape.trans hb.tape, hg.output.trans hb.output, Nat.le_trans hb.size hg.size, fun k hk => by
    rw [hg.block k (Nat.lt_of_lt_of_le hk hb.size) (fun e => by simp at e; omega), hb.block k hk]⟩
theorem own_at {g : Nat} {w : World} (h : w.heap[g]? = some (.cells #[] 3)) : OwnI g (.slice (some ⟨g, 0, none⟩) 0 0) [] w := ⟨by simp, .inr ⟨g, 0, #[], rfl, Nat.le_refl _, h, Nat.le_refl _, by simp, by simp, by simp⟩⟩
theorem StA.truth {B : Nat} {l m : List Int} {v : Value} {w : World} (h : StA B l m v w) (ok : Bool) : StV B l m ok (.tuple #[v, .bool ok]) w := by
  obtain ⟨a, c, bs, a', c', bs', rfl, h⟩ := h
  exact ⟨a, c, bs, a', c', bs', rfl, h⟩
theorem StA.low {B B' : Nat} {l m : List Int} {v : Value} {w : World} (h : StA B l m v w) (hb : B' ≤ B) : StA B' l m v w := by
  obtain ⟨a, c, bs, a', c', bs', e, ⟨h1, h2, h3, h4⟩, ⟨k1, k2, k3, k4⟩, hd⟩ := h
  exact ⟨a, c, bs, a', c', bs', e, ⟨h1, h2, h3, fun b h => Nat.le_trans hb (h4 b h)⟩, ⟨k1, k2, k3, fun b h => Nat.le_trans hb (k4 b h)⟩, hd⟩
theorem StA.set2 {B C : Nat} {l m : List Int} {v u1 u2 : Value} {w : World} (h : StA B l m v w) (hC : C < B) : StA B l m v ((w.setCell ⟨C, 0, none⟩ u1).setCell ⟨C, 1, none⟩ u2) :=
  h.frame (by simp) fun b hb _ => by
    rw [Below.heap_setCell _ _ _ _ (by simp; omega), Below.heap_setCell _ _ _ _ (by simp; omega)]
theorem init_some {s : Sy} (h : okSy s = true) : s.init.length = 3 := by
  rw [okSy] at h
  simp only [Bool.and_eq_true, decide_eq_true_eq] at h
  have := h.2.1
  rw [Expr.okVals, Bool.and_eq_true, decide_eq_true_eq] at this
  exact this.2
theorem ints_some {p : Nat → Prop} {w : World} {a : Option Addr} {l : List Int} (h : IntsIn p w a l) (hl : l.length = 3) : ∃ ad, a = some ad := by
  rcases h.1 with h0 | ⟨b, o, h1, _⟩
  · have : l = [] := by simpa using h0
    subst this; simp at hl
  · exact ⟨_, h1⟩

set_option maxRecDepth 100000 in
set_option maxHeartbeats 4000000 in
theorem specInit_any (s : Sy) (w : World) (x : Value) (hx : SyIn Any w s x) : Calls Try.prog 26 #[x] w (RetP (StV w.heap.size (initL s) (initM s) (okSy s)) w) := by
  have HX := hid hx
  have HV := hid (fun (W : World) (M : Below w.heap.size w W) => specValid_any s W x (HX.out.below M))
  obtain ⟨a, c, b, d, rfl, hc, hc2, hi, hd, hd2, hp⟩ := hx
  have HI := hid hi
  clear hi hp hd hd2 HX
  cases ho : okSy s with
  | false =>
    have E1 := hid (show initL s = [] by rw [initL, ho]; simp)
    have E2 := hid (show initM s = [] by rw [initM, ho]; simp)
    rw [ho] at HV
    clear ho
    go_enter Try.func26, Try.ntmps26
    go_wp2_with fail
    refine (HV.out _ (by repeat (first | exact Below.refl _ _ | assumption | refine below_a ?_ _ | refine below_o ?_ _ | refine below_d ?_ | refine below_n ?_ _ | refine below_s ?_ (by first | (simp; done) | (simp; omega) | omega) _))).mono ?_
    rintro y w1 ⟨rfl, hb⟩
    have X2 := hid (box2_next hb (box2_at (w := w.alloc (.cells #[.slice a s.init.length c, .slice b s.procs.length d] 36)) (B := w.heap.size + 1) (a := .slice none 0 0) (b := .slice none 0 0) (t := 50) (by simp)))
    have B1 := hid (below_next (show Below w.heap.size w _ from (by repeat (first | exact Below.refl _ _ | assumption | refine below_a ?_ _ | refine below_o ?_ _ | refine below_d ?_ | refine below_n ?_ _ | refine below_s ?_ (by first | (simp; done) | (simp; omega) | omega) _))) hb)
    have sz1 := X2.out.1
    clear hb
    obtain ⟨p0, p1, p2, _⟩ := id X2.out
    go_wp2_with fail
    obtain ⟨y0, y1, y2, _⟩ := box2_set1 (box2_set0 X2.out (.slice none 0 0)) (.slice none 0 0)
    refine bodyPost_ret (v := .tuple #[.agg #[.slice none 0 0, .slice none 0 0], .bool false]) (by simp [results, Try.results26, go_sem, y1, y2]) rfl ?_
    exact RetP.mk (by rw [E1.out, E2.out]; exact StV.nil _ _ _) ((B1.out.setCell (by simp) _).setCell (by simp) _)
  | true =>
    have HE := hid (show initL s = List.replicate s.procs.length 0 ∧ initM s = s.init by rw [initL, initM, if_pos ho, if_pos ho]; exact ⟨rfl, rfl⟩)
    have hn3 := (okSy_procs ho).1
    have h3 := init_some ho
    obtain ⟨ad, rfl⟩ := ints_some HI.out h3
    have hmk := make_ints s.procs.length (by omega)
    rw [ho] at HV
    have HL := hid h3
    clear ho h3
    go_enter Try.func26, Try.ntmps26
    go_wp2_with fail
    refine (HV.out _ (by repeat (first | exact Below.refl _ _ | assumption | refine below_a ?_ _ | refine below_o ?_ _ | refine below_d ?_ | refine below_n ?_ _ | refine below_s ?_ (by first | (simp; done) | (simp; omega) | omega) _))).mono ?_
    rintro y w1 ⟨rfl, hb⟩
    have X1 := hid (box2_next hb (box2_next (below_alloc _ _) (box2_at (w := w) (a := .slice (some ad) s.init.length c) (b := .slice b s.procs.length d) rfl)))
    have X2 := hid (box2_next hb (box2_at (w := w.alloc (.cells #[.slice (some ad) s.init.length c, .slice b s.procs.length d] 36)) (B := w.heap.size + 1) (a := .slice none 0 0) (b := .slice none 0 0) (t := 50) (by simp)))
    have B1 := hid (below_next (show Below w.heap.size w _ from (by repeat (first | exact Below.refl _ _ | assumption | refine below_a ?_ _ | refine below_o ?_ _ | refine below_d ?_ | refine below_n ?_ _ | refine below_s ?_ (by first | (simp; done) | (simp; omega) | omega) _))) hb)
    have sz1 := X2.out.1
    clear hb
    obtain ⟨p0, p1, p2, p3, p4⟩ := id X1.out
    go_wp2_with fail
    refine wp_region_ord (C := fun wZ => ∃ xZ, wZ = World.over _ xZ) [0,1,2,5,6] (.two 3 4 (.one 4 (.one 7 (.one 8 (.fre 9 (.fre 10 .done))))) (.two 3 7 (.one 7 (.one 8 (.fre 9 (.fre 10 .done)))) (.one 3 (.one 8 (.fre 9 (.fre 10 .done)))))) [9,10] (by kernel_rfl) (by kernel_rfl) (fun d _ _ _ _ h => by cases d <;> exact h) (bex (Below.refl _ _).drew) ?_; simp only [pick, List.getElem?_cons_succ, List.getElem?_cons_zero]; (repeat (go_big_quiet_step (fail))); refine wpQuiet_nil ?_; simp only [ordW, pick, List.getElem?_cons_succ, List.getElem?_cons_zero]
    refine ⟨?_, ?_⟩
    · go_wp2_with fail
      refine ⟨bex (by repeat (first | exact Below.refl _ _ | assumption | refine below_a ?_ _ | refine below_o ?_ _ | refine below_d ?_ | refine below_n ?_ _ | refine below_s ?_ (by first | (simp; done) | (simp; omega) | omega) _)), ?_⟩
      go_wp2_with fail
      refine ⟨bex (by repeat (first | exact Below.refl _ _ | assumption | refine below_a ?_ _ | refine below_o ?_ _ | refine below_d ?_ | refine below_n ?_ _ | refine below_s ?_ (by first | (simp; done) | (simp; omega) | omega) _)), ?_⟩
      have OW := hid (own_at (g := w1.heap.size + 1) (w := ((w1.alloc (.cells (zerosI s.procs.length) 3)).alloc (.cells #[] 3)).drew) (by have := heap_alloc_new (w1.alloc (.cells (zerosI s.procs.length) 3)) (.cells #[] 3); rw [show (w1.alloc (.cells (zerosI s.procs.length) 3)).heap.size = w1.heap.size + 1 by simp] at this; exact this))
      have Z1 := hid (Row.below (row_new (w := w1) (cs := zerosI s.procs.length) (n := s.procs.length) (by rw [zerosI, size_madeCells]) 3) (below_d (below_alloc _ (.cells #[] 3))))
      go_wp2_with (at_builtin; refine wp_app_at rfl _ _ rfl (w1.heap.size + 1) s.init ad c rfl rfl OW.out (by simp; try omega) (HI.out.below (below_next B1.out (by repeat (first | exact Below.refl _ _ | assumption | refine below_a ?_ _ | refine below_o ?_ _ | refine below_d ?_ | refine below_n ?_ _ | refine below_s ?_ (by first | (simp; done) | (simp; omega) | omega) _)))) (by have := HL.out; omega) ?_; intro g' c' w' hg hc1 hc3 hrow hgr)
      have BG := hid (grown_below (w1 := w1) (W := ((w1.alloc (.cells (zerosI s.procs.length) 3)).alloc (.cells #[] 3)).drew) (by repeat (first | exact Below.refl _ _ | assumption | refine below_a ?_ _ | refine below_o ?_ _ | refine below_d ?_ | refine below_n ?_ _ | refine below_s ?_ (by first | (simp; done) | (simp; omega) | omega) _)) hgr (by omega))
      have HR := hid (Row.kept Z1.out hgr.size (hgr.block _ (by first | (simp; done) | (simp; omega) | omega) (by first | (simp; done) | (simp; omega) | omega)))
      have HS := hid (StA.of (B := w1.heap.size) (by omega) HR.out hrow hc1 hc3 (by omega) (by have := BG.out.size; simp at hg; omega) (by simp at hg; omega))
      clear OW Z1 HR
      have X3 := hid (box2_next BG.out X2.out)
      clear hrow hgr hg
      go_wp2_with fail
      refine ⟨bex BG.out, ?_⟩
      go_wp2_with fail
      refine ⟨bex BG.out, ?_⟩
      obtain ⟨x0, x1, x2, x3, x4⟩ := id X3.out
      go_wp2_with fail
      obtain ⟨y0, y1, y2, _⟩ := box2_set1 (box2_set0 X3.out (.slice (some ⟨w1.heap.size, 0, none⟩) s.procs.length s.procs.length)) (.slice (some ⟨g', 0, none⟩) s.init.length c')
      refine bodyPost_ret (v := .tuple #[.agg #[.slice (some ⟨w1.heap.size, 0, none⟩) s.procs.length s.procs.length, .slice (some ⟨g', 0, none⟩) s.init.length c'], .bool true]) (by simp [results, Try.results26, go_sem, y1, y2]) rfl ?_
      exact RetP.mk (by rw [HE.out.1, HE.out.2]; exact ((HS.out.set2 (by omega)).low (by omega)).truth true) (((below_next B1.out BG.out).setCell (by simp) _).setCell (by simp) _)
    · go_wp2_with fail
      refine ⟨bex (by repeat (first | exact Below.refl _ _ | assumption | refine below_a ?_ _ | refine below_o ?_ _ | refine below_d ?_ | refine below_n ?_ _ | refine below_s ?_ (by first | (simp; done) | (simp; omega) | omega) _)), ?_, ?_⟩
      · go_wp2_with fail
        refine ⟨bex (by repeat (first | exact Below.refl _ _ | assumption | refine below_a ?_ _ | refine below_o ?_ _ | refine below_d ?_ | refine below_n ?_ _ | refine below_s ?_ (by first | (simp; done) | (simp; omega) | omega) _)), ?_⟩
        have OW := hid (own_at (g := w1.heap.size) (w := ((w1.alloc (.cells #[] 3)).alloc (.cells (zerosI s.procs.length) 3)).drew) (by exact ((below_alloc (w1.alloc (.cells #[] 3)) (.cells (zerosI s.procs.length) 3)).block _ (by simp)).trans (heap_alloc_new w1 (.cells #[] 3))))
        have Z0 := row_new (w := w1.alloc (.cells #[] 3)) (cs := zerosI s.procs.length) (n := s.procs.length) (by rw [zerosI, size_madeCells]) 3
        rw [show (w1.alloc (.cells #[] 3)).heap.size = w1.heap.size + 1 by simp] at Z0
        have Z1 := hid (Row.below Z0 (below_d (Below.refl _ _)))
        clear Z0
        go_wp2_with (at_builtin; refine wp_app_at rfl _ _ rfl (w1.heap.size) s.init ad c rfl rfl OW.out (by simp; try omega) (HI.out.below (below_next B1.out (by repeat (first | exact Below.refl _ _ | assumption | refine below_a ?_ _ | refine below_o ?_ _ | refine below_d ?_ | refine below_n ?_ _ | refine below_s ?_ (by first | (simp; done) | (simp; omega) | omega) _)))) (by have := HL.out; omega) ?_; intro g' c' w' hg hc1 hc3 hrow hgr)
        have BG := hid (grown_below (w1 := w1) (W := ((w1.alloc (.cells #[] 3)).alloc (.cells (zerosI s.procs.length) 3)).drew) (by repeat (first | exact Below.refl _ _ | assumption | refine below_a ?_ _ | refine below_o ?_ _ | refine below_d ?_ | refine below_n ?_ _ | refine below_s ?_ (by first | (simp; done) | (simp; omega) | omega) _)) hgr (by omega))
        have HR := hid (Row.kept Z1.out hgr.size (hgr.block _ (by first | (simp; done) | (simp; omega) | omega) (by first | (simp; done) | (simp; omega) | omega)))
        have HS := hid (StA.of (B := w1.heap.size) (by omega) HR.out hrow hc1 hc3 (by omega) (by have := BG.out.size; simp at hg; omega) (by simp at hg; omega))
        clear OW Z1 HR
        have X3 := hid (box2_next BG.out X2.out)
        clear hrow hgr hg
        go_wp2_with fail
        refine ⟨bex BG.out, ?_⟩
        go_wp2_with fail
        refine ⟨bex BG.out, ?_⟩
        obtain ⟨x0, x1, x2, x3, x4⟩ := id X3.out
        go_wp2_with fail
        obtain ⟨y0, y1, y2, _⟩ := box2_set1 (box2_set0 X3.out (.slice (some ⟨w1.heap.size + 1, 0, none⟩) s.procs.length s.procs.length)) (.slice (some ⟨g', 0, none⟩) s.init.length c')
        refine bodyPost_ret (v := .tuple #[.agg #[.slice (some ⟨w1.heap.size + 1, 0, none⟩) s.procs.length s.procs.length, .slice (some ⟨g', 0, none⟩) s.init.length c'], .bool true]) (by simp [results, Try.results26, go_sem, y1, y2]) rfl ?_
        exact RetP.mk (by rw [HE.out.1, HE.out.2]; exact ((HS.out.set2 (by omega)).low (by omega)).truth true) (((below_next B1.out BG.out).setCell (by simp) _).setCell (by simp) _)
      · have OW := hid (own_at (g := w1.heap.size) (w := (w1.alloc (.cells #[] 3)).drew) (by exact heap_alloc_new w1 (.cells #[] 3)))
        go_wp2_with (at_builtin; refine wp_app_at rfl _ _ rfl (w1.heap.size) s.init ad c rfl rfl OW.out (by simp; try omega) (HI.out.below (below_next B1.out (by repeat (first | exact Below.refl _ _ | assumption | refine below_a ?_ _ | refine below_o ?_ _ | refine below_d ?_ | refine below_n ?_ _ | refine below_s ?_ (by first | (simp; done) | (simp; omega) | omega) _)))) (by have := HL.out; omega) ?_; intro g' c' w' hg hc1 hc3 hrow hgr)
        have BG := hid (grown_below (w1 := w1) (W := (w1.alloc (.cells #[] 3)).drew) (by repeat (first | exact Below.refl _ _ | assumption | refine below_a ?_ _ | refine below_o ?_ _ | refine below_d ?_ | refine below_n ?_ _ | refine below_s ?_ (by first | (simp; done) | (simp; omega) | omega) _)) hgr (by omega))
        have sg := BG.out.size
        have BG2 := hid (below_then BG.out (below_alloc w' (.cells (zerosI s.procs.length) 3)) BG.out.size)
        have Z1 := hid (row_new (w := w') (cs := zerosI s.procs.length) (n := s.procs.length) (by rw [zerosI, size_madeCells]) 3)
        have HS := hid (StA.of (B := w1.heap.size) (by omega) Z1.out (Row.below hrow (below_alloc _ _)) hc1 hc3 (by omega) (by simp at hg; omega) (by have := hrow.1; omega))
        clear OW Z1 hrow hgr hg
        go_wp2_with fail
        refine ⟨bex BG.out, ?_⟩
        have X3 := hid (box2_next BG2.out X2.out)
        go_wp2_with fail
        refine ⟨bex BG2.out, ?_⟩
        go_wp2_with fail
        refine ⟨bex BG2.out, ?_⟩
        obtain ⟨x0, x1, x2, x3, x4⟩ := id X3.out
        go_wp2_with fail
        obtain ⟨y0, y1, y2, _⟩ := box2_set1 (box2_set0 X3.out (.slice (some ⟨w'.heap.size, 0, none⟩) s.procs.length s.procs.length)) (.slice (some ⟨g', 0, none⟩) s.init.length c')
        refine bodyPost_ret (v := .tuple #[.agg #[.slice (some ⟨w'.heap.size, 0, none⟩) s.procs.length s.procs.length, .slice (some ⟨g', 0, none⟩) s.init.length c'], .bool true]) (by simp [results, Try.results26, go_sem, y1, y2]) rfl ?_
        exact RetP.mk (by rw [HE.out.1, HE.out.2]; exact ((HS.out.set2 (by omega)).low (by omega)).truth true) (((below_next B1.out BG2.out).setCell (by simp) _).setCell (by simp) _)
theorem own_some {l : List Int} {a : Option Addr} {bs : List Nat} {w : World} (h : OwnV (l.map (Value.int .i64)) a bs w) (hl : l.length = 3) : ∃ g, a = some ⟨g, 0, none⟩ ∧ bs = [g] ∧ Row w g l.length (fun i => (l.map (Value.int .i64)).getD i undef) := by
  rcases h with ⟨h0, _⟩ | ⟨R, h1, h2, h3⟩
  · have : l = [] := by simpa using h0
    subst this; simp at hl
  · rw [List.length_map] at h3
    exact ⟨R, h1, h2, h3⟩

set_option maxRecDepth 100000 in
set_option maxHeartbeats 4000000 in
theorem initial_any (s : Sy) (w : World) (x : Value) (hx : SyIn Any w s x) (hn3 : s.procs.length ≤ 3) (h3 : s.init.length = 3) : Calls Try.prog 57 #[x] w (RetP (StA w.heap.size (List.replicate s.procs.length 0) s.init) w) := by
  obtain ⟨a, c, b, d, rfl, hc, hc2, hi, hd, hd2, hp⟩ := hx
  have HI := hid hi
  obtain ⟨ad, rfl⟩ := ints_some HI.out h3
  have HL := hid h3
  have HCL := hid (fun (W : World) (M : Below w.heap.size w W) => clone_any s.init W (some ad) c (HI.out.below M) (by omega) (fun e => by cases e))
  clear hi hp hd hd2 h3
  have hmk := make_ints s.procs.length (by omega)
  go_enter Try.func57, Try.ntmps57
  go_wp2_with fail
  obtain ⟨w1, hw1⟩ : ∃ w1 : World, Hid (w1 = ((w.alloc (.cells #[.slice (some ad) s.init.length c, .slice b s.procs.length d] 36)).alloc (.cells #[.slice none 0 0, .slice none 0 0] 50))) := ⟨_, hid rfl⟩
  have BS := hid (show Below w.heap.size w w1 from by rw [hw1.out]; exact (by repeat (first | exact Below.refl _ _ | assumption | refine below_a ?_ _ | refine below_o ?_ _ | refine below_d ?_ | refine below_n ?_ _ | refine below_s ?_ (by first | (simp; done) | (simp; omega) | omega) _)))
  have X1 := hid (show Box2 w1 w.heap.size (.slice (some ad) s.init.length c) (.slice b s.procs.length d) by rw [hw1.out]; exact box2_next (below_alloc _ _) (box2_at rfl))
  have X2 := hid (show Box2 w1 (w.heap.size + 1) (.slice none 0 0) (.slice none 0 0) by rw [hw1.out]; exact box2_at (by simp))
  have sz1 := X2.out.1
  rw [← hw1.out]
  clear hw1
  obtain ⟨p0, p1, p2, p3, p4⟩ := id X1.out
  refine wp_region_ord (C := fun wZ => ∃ xZ, wZ = World.over _ xZ) [0,1,2,4,5] (.two 3 6 (.one 6 (.one 7 (.fre 8 .done))) (.one 3 (.one 7 (.fre 8 .done)))) [8] (by kernel_rfl) (by kernel_rfl) (fun d _ _ _ _ h => by cases d <;> exact h) (bex (Below.refl _ _).drew) ?_; simp only [pick, List.getElem?_cons_succ, List.getElem?_cons_zero]; (repeat (go_big_quiet_step (fail))); refine wpQuiet_nil ?_; simp only [ordW, pick, List.getElem?_cons_succ, List.getElem?_cons_zero]
  refine ⟨?_, ?_⟩
  · go_wp2_with fail
    refine ⟨bex (by repeat (first | exact Below.refl _ _ | assumption | refine below_a ?_ _ | refine below_o ?_ _ | refine below_d ?_ | refine below_n ?_ _ | refine below_s ?_ (by first | (simp; done) | (simp; omega) | omega) _)), ?_⟩
    have Z1 := hid (Row.below (row_new (w := w1) (cs := zerosI s.procs.length) (n := s.procs.length) (by rw [zerosI, size_madeCells]) 3) (below_d (Below.refl _ _)))
    have BB := hid (show Below w1.heap.size w1 (w1.alloc (.cells (zerosI s.procs.length) 3)).drew from (by repeat (first | exact Below.refl _ _ | assumption | refine below_a ?_ _ | refine below_o ?_ _ | refine below_d ?_ | refine below_n ?_ _ | refine below_s ?_ (by first | (simp; done) | (simp; omega) | omega) _)))
    go_wp2_with fail
    refine (HCL.out _ (below_then BS.out BB.out BS.out.size)).mono ?_
    rintro _ w2 ⟨v, rfl, ⟨a', c', bs', rfl, hc1, hc3, hown, hge⟩, hb⟩
    obtain ⟨g', rfl, rfl, hrow⟩ := own_some hown HL.out
    simp only [List.length_map] at hc1 ⊢
    have hg := hge g' (by simp)
    have BG := hid (below_then BB.out hb BB.out.size)
    have HS := hid (StA.of (B := w1.heap.size) (by omega) (Row.below Z1.out hb) hrow hc1 hc3 (by omega) (by simp at hg; omega) (by simp at hg; omega))
    have X3 := hid (box2_next BG.out X2.out)
    clear hrow hge hg hown hb Z1 BB
    go_wp2_with fail
    refine ⟨bex BG.out, ?_⟩
    go_wp2_with fail
    refine ⟨bex BG.out, ?_⟩
    obtain ⟨x0, x1, x2, x3, x4⟩ := id X3.out
    go_wp2_with fail
    obtain ⟨y0, y1, y2, _⟩ := box2_set1 (box2_set0 X3.out (.slice (some ⟨w1.heap.size, 0, none⟩) s.procs.length s.procs.length)) (.slice (some ⟨g', 0, none⟩) s.init.length c')
    refine bodyPost_ret (v := .agg #[.slice (some ⟨w1.heap.size, 0, none⟩) s.procs.length s.procs.length, .slice (some ⟨g', 0, none⟩) s.init.length c']) (by simp [results, Try.results57, go_sem, y1, y2]) rfl ?_
    exact RetP.mk ((HS.out.set2 (by omega)).low (by omega)) (((below_then BS.out BG.out BS.out.size).setCell (by simp) _).setCell (by simp) _)
  · go_wp2_with fail
    refine (HCL.out _ (below_d BS.out)).mono ?_
    rintro _ w2 ⟨v, rfl, ⟨a', c', bs', rfl, hc1, hc3, hown, hge⟩, hb⟩
    obtain ⟨g', rfl, rfl, hrow⟩ := own_some hown HL.out
    simp only [List.length_map] at hc1 ⊢
    have hg := hge g' (by simp)
    have hg2 := hrow.1
    have BG := hid (show Below w1.heap.size w1 w2 from below_then (below_d (Below.refl _ _)) hb (by simp))
    have sg := BG.out.size
    have BG2 := hid (below_then BG.out (below_alloc w2 (.cells (zerosI s.procs.length) 3)) BG.out.size)
    have Z1 := hid (row_new (w := w2) (cs := zerosI s.procs.length) (n := s.procs.length) (by rw [zerosI, size_madeCells]) 3)
    have HS := hid (StA.of (B := w1.heap.size) (by omega) Z1.out (Row.below hrow (below_alloc _ _)) hc1 hc3 (by omega) (by simp at hg; omega) (by omega))
    have X3 := hid (box2_next BG2.out X2.out)
    clear hrow hge hg hown hb Z1
    go_wp2_with fail
    refine ⟨bex BG.out, ?_⟩
    go_wp2_with fail
    refine ⟨bex BG2.out, ?_⟩
    go_wp2_with fail
    refine ⟨bex BG2.out, ?_⟩
    obtain ⟨x0, x1, x2, x3, x4⟩ := id X3.out
    go_wp2_with fail
    obtain ⟨y0, y1, y2, _⟩ := box2_set1 (box2_set0 X3.out (.slice (some ⟨w2.heap.size, 0, none⟩) s.procs.length s.procs.length)) (.slice (some ⟨g', 0, none⟩) s.init.length c')
    refine bodyPost_ret (v := .agg #[.slice (some ⟨w2.heap.size, 0, none⟩) s.procs.length s.procs.length, .slice (some ⟨g', 0, none⟩) s.init.length c']) (by simp [results, Try.results57, go_sem, y1, y2]) rfl ?_
    exact RetP.mk ((HS.out.set2 (by omega)).low (by omega)) (((below_then BS.out BG2.out BS.out.size).setCell (by simp) _).setCell (by simp) _)

set_option maxRecDepth 100000 in
set_option maxHeartbeats 4000000 in
theorem init_any (s : Sy) (w : World) (x : Value) (hx : SyIn Any w s x) : Calls Try.prog 25 #[x] w (RetP (StV w.heap.size (initL s) (initM s) (okSy s)) w) := by
  have HX := hid hx
  have HV := hid (fun (W : World) (M : Below w.heap.size w W) => valid_any s W x (HX.out.below M))
  obtain ⟨a, c, b, d, rfl⟩ := hx.shape
  clear hx
  cases ho : okSy s with
  | false =>
    have E1 := hid (show initL s = [] by rw [initL, ho]; simp)
    have E2 := hid (show initM s = [] by rw [initM, ho]; simp)
    rw [ho] at HV
    clear ho HX
    go_enter Try.func25, Try.ntmps25
    go_wp2_with fail
    refine (HV.out _ (by repeat (first | exact Below.refl _ _ | assumption | refine below_a ?_ _ | refine below_o ?_ _ | refine below_d ?_ | refine below_n ?_ _ | refine below_s ?_ (by first | (simp; done) | (simp; omega) | omega) _))).mono ?_
    rintro y w1 ⟨rfl, hb⟩
    have X2 := hid (box2_next hb (box2_at (w := w.alloc (.cells #[.slice a s.init.length c, .slice b s.procs.length d] 36)) (B := w.heap.size + 1) (a := .slice none 0 0) (b := .slice none 0 0) (t := 50) (by simp)))
    have B1 := hid (below_next (show Below w.heap.size w _ from (by repeat (first | exact Below.refl _ _ | assumption | refine below_a ?_ _ | refine below_o ?_ _ | refine below_d ?_ | refine below_n ?_ _ | refine below_s ?_ (by first | (simp; done) | (simp; omega) | omega) _))) hb)
    have sz1 := X2.out.1
    clear hb
    obtain ⟨p0, p1, p2, _⟩ := id X2.out
    go_wp2_with fail
    obtain ⟨y0, y1, y2, _⟩ := box2_set1 (box2_set0 X2.out (.slice none 0 0)) (.slice none 0 0)
    refine bodyPost_ret (v := .tuple #[.agg #[.slice none 0 0, .slice none 0 0], .bool false]) (by simp [results, Try.results25, go_sem, y1, y2]) rfl ?_
    exact RetP.mk (by rw [E1.out, E2.out]; exact StV.nil _ _ _) ((B1.out.setCell (by simp) _).setCell (by simp) _)
  | true =>
    have HE := hid (show initL s = List.replicate s.procs.length 0 ∧ initM s = s.init by rw [initL, initM, if_pos ho, if_pos ho]; exact ⟨rfl, rfl⟩)
    have HN := hid (okSy_procs ho).1
    have HIN := hid (fun (W : World) (M : Below w.heap.size w W) => initial_any s W _ (HX.out.below M) (okSy_procs ho).1 (init_some ho))
    rw [ho] at HV
    clear ho HX
    go_enter Try.func25, Try.ntmps25
    go_wp2_with fail
    refine (HV.out _ (by repeat (first | exact Below.refl _ _ | assumption | refine below_a ?_ _ | refine below_o ?_ _ | refine below_d ?_ | refine below_n ?_ _ | refine below_s ?_ (by first | (simp; done) | (simp; omega) | omega) _))).mono ?_
    rintro y w1 ⟨rfl, hb⟩
    have X1 := hid (box2_next hb (box2_next (below_alloc _ _) (box2_at (w := w) (a := .slice a s.init.length c) (b := .slice b s.procs.length d) rfl)))
    have X2 := hid (box2_next hb (box2_at (w := w.alloc (.cells #[.slice a s.init.length c, .slice b s.procs.length d] 36)) (B := w.heap.size + 1) (a := .slice none 0 0) (b := .slice none 0 0) (t := 50) (by simp)))
    have B1 := hid (below_next (show Below w.heap.size w _ from (by repeat (first | exact Below.refl _ _ | assumption | refine below_a ?_ _ | refine below_o ?_ _ | refine below_d ?_ | refine below_n ?_ _ | refine below_s ?_ (by first | (simp; done) | (simp; omega) | omega) _))) hb)
    have sz1 := X2.out.1
    clear hb
    obtain ⟨p0, p1, p2, p3, p4⟩ := id X1.out
    go_wp2_with fail
    refine (HIN.out _ B1.out).mono ?_
    rintro _ w2 ⟨v, rfl, hv, hb⟩
    have X3 := hid (box2_next hb X2.out)
    have HS := hid hv
    have B2 := hid (below_next B1.out hb)
    obtain ⟨aL, cL, bsL, aM, cM, bsM, rfl, _⟩ := hv
    simp only [List.length_replicate] at HS ⊢
    clear hb
    obtain ⟨x0, x1, x2, x3, x4⟩ := id X3.out
    go_wp2_with fail
    obtain ⟨y0, y1, y2, _⟩ := box2_set1 (box2_set0 X3.out (.slice aL s.procs.length cL)) (.slice aM s.init.length cM)
    refine bodyPost_ret (v := .tuple #[.agg #[.slice aL s.procs.length cL, .slice aM s.init.length cM], .bool true]) (by simp [results, Try.results25, go_sem, y1, y2]) rfl ?_
    exact RetP.mk (by rw [HE.out.1, HE.out.2]; exact ((HS.out.set2 (by omega)).low (by omega)).truth true) ((B2.out.setCell (by simp) _).setCell (by simp) _)
end Sys
end Go.Proofs.Ytffadknollkgiaa
