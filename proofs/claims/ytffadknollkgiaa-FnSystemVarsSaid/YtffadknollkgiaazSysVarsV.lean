/- SystemVars, of the reference and of the program: what each returns. Conditions: those of each contract. -/
import Derived.Test.YtffadknollkgiaaJS12
import Derived.Test.YtffadknollkgiaazReachP
import Derived.Test.YtffadknollkgiaazVarsE
import Derived.Test.YtffadknollkgiaaJS3
import Derived.Test.YtffadknollkgiaaJS2
set_option linter.unusedVariables false
set_option linter.unusedSimpArgs false
namespace Go.Proofs.Ytffadknollkgiaa
open Go.RowKit
set_option linter.unusedVariables false
set_option linter.unusedSimpArgs false
namespace Sys

/-- does an edge read, does it write variable i -/
def rdE (e : Ed) (i : Nat) : Bool := occT i e.guard || (decide (0 ≤ e.var) && occT i e.val)
def wrE (e : Ed) (i : Nat) : Bool := decide (e.var = (i : Int))
def anyE (g : Ed → Nat → Bool) (es : List Ed) (i : Nat) : Bool := es.any fun e => g e i
def anyP (g : Ed → Nat → Bool) (ps : List Pr) (i : Nat) : Bool := ps.any fun q => anyE g q.edges i
def acc (g : Ed → Nat → Bool) (ps : List Pr) (es : List Ed) (i : Nat) : Bool := anyP g ps i || anyE g es i
theorem acc_step (g : Ed → Nat → Bool) (ps : List Pr) {es : List Ed} {j : Nat} (hj : j < es.length) (i : Nat) : acc g ps (es.take (j + 1)) i = (acc g ps (es.take j) i || g es[j] i) := by
  have htk : es.take (j + 1) = es.take j ++ [es[j]] := by rw [List.take_add_one, List.getElem?_eq_getElem hj]; rfl
  rw [acc, acc, anyE, anyE, htk, List.any_append]; simp [Bool.or_assoc]
theorem acc_next (g : Ed → Nat → Bool) {ps : List Pr} {r : Nat} (hr : r < ps.length) (i : Nat) : acc g (ps.take (r + 1)) [] i = acc g (ps.take r) (ps[r].edges.take ps[r].edges.length) i := by
  have htk : ps.take (r + 1) = ps.take r ++ [ps[r]] := by rw [List.take_add_one, List.getElem?_eq_getElem hr]; rfl
  rw [acc, acc, anyP, anyP, htk, List.any_append, List.take_length]; simp [anyE]
theorem acc_start (g : Ed → Nat → Bool) (ps : List Pr) (es : List Ed) (i : Nat) : acc g ps [] i = acc g ps (es.take 0) i := by simp
theorem acc_nil (g : Ed → Nat → Bool) (i : Nat) : false = acc g ([].take 0) [] i := by simp [acc, anyP, anyE]
theorem acc_done (g : Ed → Nat → Bool) (ps : List Pr) (i : Nat) : acc g (ps.take ps.length) [] i = anyP g ps i := by simp [acc, anyE]
theorem rd_none {e : Ed} (h : e.var < 0) {f : Nat → Bool} (i : Nat) : Expr.occN f e.guard i = (f i || rdE e i) := by
  have : decide (0 ≤ e.var) = false := by simp; omega
  simp [Expr.occN, rdE, this]
theorem wr_none {e : Ed} (h : e.var < 0) {f : Nat → Bool} (i : Nat) : f i = (f i || wrE e i) := by
  have : decide (e.var = (i : Int)) = false := by simp; omega
  simp [wrE, this]
theorem rd_some {e : Ed} (h : 0 ≤ e.var) {f : Nat → Bool} (i : Nat) : Expr.occN (Expr.occN f e.guard) e.val i = (f i || rdE e i) := by
  simp [Expr.occN, rdE, h, Bool.or_assoc]
theorem wr_some {e : Ed} {v : Nat} (h : e.var = (v : Int)) {f : Nat → Bool} (i : Nat) : (if i = v then true else f i) = (f i || wrE e i) := by
  unfold wrE
  by_cases c : i = v
  · subst c; simp [h]
  · have : decide (e.var = (i : Int)) = false := by simp; omega
    simp [c, this]
/-- what SystemVars returns -/
def varsS (g : Ed → Nat → Bool) (s : Sy) : List Bool := if okSy s = true then [anyP g s.procs 0, anyP g s.procs 1, anyP g s.procs 2] else []
theorem varsS_len (g : Ed → Nat → Bool) (s : Sy) : (varsS g s).length ≤ 1000 := by unfold varsS; split <;> simp
theorem varsS_lens (g k : Ed → Nat → Bool) (s : Sy) : (varsS g s).length = (varsS k s).length := by unfold varsS; split <;> simp

/-- two new rows, apart -/
def TwoV (B : Nat) (l m : List Value) (v : Value) (w : World) : Prop := ∃ a c bs a' c' bs', v = .tuple #[.slice a l.length c, .slice a' m.length c'] ∧ (l.length ≤ c ∧ c ≤ maxLen ∧ OwnV l a bs w ∧ ∀ b, b ∈ bs → B ≤ b) ∧ (m.length ≤ c' ∧ c' ≤ maxLen ∧ OwnV m a' bs' w ∧ ∀ b, b ∈ bs' → B ≤ b) ∧ ∀ b, b ∈ bs → b ∉ bs'
theorem TwoV.nil (B : Nat) (a a' : Option Addr) (w : World) : TwoV B [] [] (.tuple #[.slice a 0 0, .slice a' 0 0]) w := ⟨a, 0, [], a', 0, [], rfl, ⟨Nat.le_refl _, by simp, .inl ⟨rfl, rfl⟩, by simp⟩, ⟨Nat.le_refl _, by simp, .inl ⟨rfl, rfl⟩, by simp⟩, by simp⟩
theorem own3 {w : World} {R : Nat} {f : Nat → Bool} (h : Expr.Three w R f) : OwnV ([f 0, f 1, f 2].map Value.bool) (some ⟨R, 0, none⟩) [R] w := .inr ⟨R, rfl, rfl, Row.congr h fun i hi => by
  match i, hi with
  | 0, _ => rfl
  | 1, _ => rfl
  | 2, _ => rfl⟩
theorem TwoV.three {B R R' : Nat} {w : World} {f g : Nat → Bool} {k k' : Ed → Nat → Bool} {s : Sy} (ho : okSy s = true) (h : Expr.Three w R f) (h' : Expr.Three w R' g) (e : ∀ i, f i = anyP k s.procs i) (e' : ∀ i, g i = anyP k' s.procs i) (hB : B ≤ R) (hB' : B ≤ R') (hn : R ≠ R') :
    TwoV B ((varsS k s).map Value.bool) ((varsS k' s).map Value.bool) (.tuple #[.slice (some ⟨R, 0, none⟩) 3 3, .slice (some ⟨R', 0, none⟩) 3 3]) w := by
  have q : varsS k s = [f 0, f 1, f 2] := by rw [varsS, if_pos ho, e, e, e]
  have q' : varsS k' s = [g 0, g 1, g 2] := by rw [varsS, if_pos ho, e', e', e']
  rw [q, q']
  exact ⟨_, 3, [R], _, 3, [R'], rfl, ⟨Nat.le_refl _, by simp [maxLen], own3 h, by simpa using hB⟩, ⟨Nat.le_refl _, by simp [maxLen], own3 h', by simpa using hB'⟩, by simpa using hn⟩
/-- the facts of a valid edge -/
theorem okP_edge {q : Pr} (h : okP q = true) {e : Ed} (he : e ∈ q.edges) : exprL.shape e.guard 6 = true ∧ e.var ≤ 2 ∧ (0 ≤ e.var → exprL.shape e.val 6 = true) := by
  rw [okP] at h
  simp only [Bool.and_eq_true, decide_eq_true_eq, List.all_eq_true] at h
  have := h.1 e he
  rw [Edge.okB, Bool.and_eq_true, Edge.okV, Bool.and_eq_true, Bool.and_eq_true, Bool.and_eq_true] at this
  obtain ⟨_, h1, _, h2, h3⟩ := this
  simp only [decide_eq_true_eq] at h2
  refine ⟨by rw [Lang.valid, Bool.and_eq_true] at h1; exact h1.1, h2.2, fun h0 => ?_⟩
  rw [if_neg (by omega), Lang.valid, Bool.and_eq_true] at h3
  exact h3.1
theorem three_new (w : World) (e : TypeId) : Expr.Three (w.alloc (.cells (zerosB 3) e)) w.heap.size (fun _ => false) :=
  Row.congr (row_new (cs := zerosB 3) (n := 3) (by rw [zerosB, size_madeCells]) e) fun i hi => by
    match i, hi with
    | 0, _ => simp [zerosB, madeCells, Array.getD]
    | 1, _ => simp [zerosB, madeCells, Array.getD]
    | 2, _ => simp [zerosB, madeCells, Array.getD]
theorem three_only {S : List Nat} {w w' : World} {R : Nat} {f : Nat → Bool} (h : Only S w w') (hn : R ∉ S) (ht : Expr.Three w R f) : Expr.Three w' R f := Row.kept ht h.size (h.block R ht.1 hn)
theorem box2_only {S : List Nat} {w w' : World} {B : Nat} {a b : Value} (h : Only S w w') (hn : B ∉ S) (ht : Box2 w B a b) : Box2 w' B a b := box2_block h.size (h.block B ht.1 hn) ht
theorem box10_only {S : List Nat} {w w' : World} {B : Nat} {a0 a1 a2 a3 a4 a5 a6 a7 a8 a9 : Value} (h : Only S w w') (hn : B ∉ S) (ht : Box10 w B a0 a1 a2 a3 a4 a5 a6 a7 a8 a9) : Box10 w' B a0 a1 a2 a3 a4 a5 a6 a7 a8 a9 := box10_block (h.block B ht.1 hn) h.size ht
theorem tr_only {R : Nat} {w w' : World} {t : Tr} {x : Value} (h : Only [R] w w') (ht : TrIn (· ≠ R) w t x) : TrIn (· ≠ R) w' t x := (TrIn_frame fun b hb hlt => ⟨hb, h.block b hlt (by simpa using hb)⟩).1 _ _ ht
theorem cell_below {w w' : World} (h : Below w.heap.size w w') {b o : Nat} {v : Value} (hb : b < w.heap.size) (hc : w.cell? ⟨b, o, none⟩ = some v) : w'.cell? ⟨b, o, none⟩ = some v := (World.cell?_of_block (w := w) (a := ⟨b, o, none⟩) (h.block b hb)).trans hc

set_option maxRecDepth 100000 in
set_option maxHeartbeats 8000000 in
theorem specSysVars_any (s : Sy) (w : World) (x : Value) (hx : SyIn Any w s x) : Calls Try.prog 22 #[x] w (RetP (TwoV w.heap.size ((varsS rdE s).map Value.bool) ((varsS wrE s).map Value.bool)) w) := by
  have hmk : ∀ w : World, (Instr.makeSlice 44 (.int .i64 3) (.int .i64 3)).run Try.prog w = .ok (.slice (some ⟨w.heap.size, 0, none⟩) 3 3) (w.alloc (.cells (zerosB 3) 4)) := make_bools 3 (by omega)
  have HX := hid hx
  have HV := hid (fun (W : World) (M : Below w.heap.size w W) => specValid_any s W x (HX.out.below M))
  obtain ⟨a, c, b, d, rfl, hc, hc2, hi, hd, hd2, hp⟩ := hx
  have HP := hid (PrsIn.frame (q := fun b => b < w.heap.size) hp (Nat.le_refl _) (fun b _ h => ⟨h, rfl⟩))
  unfold maxLen at hd2
  clear hi hp hc hc2 HX
  cases ho : okSy s with
  | false =>
    have E1 := hid (show varsS rdE s = [] by rw [varsS, ho]; simp)
    have E2 := hid (show varsS wrE s = [] by rw [varsS, ho]; simp)
    rw [ho] at HV
    clear ho
    go_enter Try.func22, Try.ntmps22
    go_wp2_with fail
    refine (HV.out _ (by repeat (first | exact Below.refl _ _ | assumption | refine below_a ?_ _ | refine below_o ?_ _ | refine below_d ?_ | refine below_n ?_ _ | refine below_s ?_ (by first | (simp; done) | (simp; omega) | omega) _))).mono ?_
    rintro y w1 ⟨rfl, hb⟩
    have B1 := hid (below_next (show Below w.heap.size w _ from below_alloc _ _) hb)
    have sz1 := B1.out.size
    clear hb
    go_wp2_with fail
    go_ret2
    exact RetP.mk (by rw [E1.out, E2.out]; exact TwoV.nil _ _ _ _) (by exact (B1.out.alloc (by omega) _).alloc (by simp; omega) _)
  | true =>
    have HO := hid ho
    have HOK := hid (okSy_procs ho).2
    have hn3 := (okSy_procs ho).1
    rw [ho] at HV
    clear ho
    go_enter Try.func22, Try.ntmps22
    go_wp2_with fail
    refine (HV.out _ (by repeat (first | exact Below.refl _ _ | assumption | refine below_a ?_ _ | refine below_o ?_ _ | refine below_d ?_ | refine below_n ?_ _ | refine below_s ?_ (by first | (simp; done) | (simp; omega) | omega) _))).mono ?_
    rintro y w1 ⟨rfl, hb⟩
    have X := hid (box2_next hb (box2_at (w := w) (a := .slice a s.init.length c) (b := .slice b s.procs.length d) rfl))
    have B1 := hid (below_next (show Below w.heap.size w _ from below_alloc _ _) hb)
    have sz1 := X.out.1
    clear hb
    obtain ⟨p0, p1, p2, p3, p4⟩ := id X.out
    go_wp2_with fail
    have BB := hid (show Below w1.heap.size w1 ((w1.alloc (.cells (zerosB 3) 4)).alloc (.cells (zerosB 3) 4)) from (by repeat (first | exact Below.refl _ _ | assumption | refine below_a ?_ _ | refine below_o ?_ _ | refine below_d ?_ | refine below_n ?_ _ | refine below_s ?_ (by first | (simp; done) | (simp; omega) | omega) _)))
    have BW := hid (below_next B1.out BB.out)
    have X2 := hid (box2_next BB.out X.out)
    have H10 := hid (((three_new w1 4).below (below_alloc _ (.cells (zerosB 3) 4))).congr (g := acc rdE (s.procs.take 0) []) fun i _ => (acc_nil rdE i).trans (by simp))
    have H21 := hid ((three_new (w1.alloc (.cells (zerosB 3) 4)) 4).congr (g := acc wrE (s.procs.take 0) []) fun i _ => (acc_nil wrE i).trans (by simp))
    have H11 := hid (((three_new w1 4).below (below_alloc _ (.cells (zerosB 3) 4))).congr (g := acc wrE (s.procs.take 0) []) fun i _ => (acc_nil wrE i).trans (by simp))
    have H20 := hid ((three_new (w1.alloc (.cells (zerosB 3) 4)) 4).congr (g := acc rdE (s.procs.take 0) []) fun i _ => (acc_nil rdE i).trans (by simp))
    go_loopw [6, 4] (fun i v wr => ∃ r : Nat, r ≤ s.procs.length ∧ i = .int .i64 r ∧ v = .slice (some ⟨w1.heap.size, 0, none⟩) 3 3 ∧ Hid (Below w.heap.size w wr) ∧ Hid (w1.heap.size + 2 ≤ wr.heap.size) ∧ Box2 wr w.heap.size (.slice a s.init.length c) (.slice b s.procs.length d) ∧ Hid (Expr.Three wr (w1.heap.size) (acc rdE (s.procs.take r) [])) ∧ Hid (Expr.Three wr (w1.heap.size + 1) (acc wrE (s.procs.take r) []))) (fun i _ _ => s.procs.length - (intOf i).toNat)
    case atStart => exact ⟨0, Nat.zero_le _, rfl, rfl, BW, hid (by simp), by simpa using X2.out, by simpa using H10, by simpa using H21⟩
    case round =>
      obtain ⟨r, hr, rfl, rfl, B, hsz, bx, H1, H2⟩ := hrel
      obtain ⟨wo, rfl⟩ : ∃ wo : World, wo = wr := ⟨_, rfl⟩
      have BX := hid bx
      obtain ⟨p0, p1, p2, p3, p4⟩ := bx
      have hsz2 := hsz.out
      by_cases hlr : r < s.procs.length
      · have hlr2 : (r : Int) < (s.procs.length : Int) := by omega
        obtain ⟨bb, ob, hbb, _, hb3, ac, cc, ⟨e0, e1⟩, hpr⟩ := SeqIn.at HP.out hlr
        have HED := hid (fun (e : Ed) he => okP_edge (HOK.out _ (List.getElem_mem hlr)) (e := e) he)
        have HN1 := hid (acc_next rdE hlr)
        have HN2 := hid (acc_next wrE hlr)
        generalize s.procs[r] = q at *
        subst hbb
        obtain ⟨locs, es⟩ := q
        obtain ⟨_, _, e5, _, hc5, hc6, he5⟩ := hpr
        cases e5
        have HES := hid he5
        have E0 := hid e0
        have E1 := hid e1
        unfold maxLen at hc6
        clear he5 e0 e1
        dsimp only at hc5 hc6
        have hS1 := hid (H1.out.congr fun i _ => acc_start rdE (s.procs.take r) es i)
        have hS2 := hid (H2.out.congr fun i _ => acc_start wrE (s.procs.take r) es i)
        have e0 := cell_below B.out hb3 E0.out
        have e1 := cell_below B.out hb3 E1.out
        try dsimp only at e0 e1
        clear H1 H2
        go_wp2_with fail
        go_loopw [7, 4] (fun i v wr => ∃ j : Nat, j ≤ es.length ∧ i = .int .i64 j ∧ v = .slice (some ⟨w1.heap.size, 0, none⟩) 3 3 ∧ Hid (Below w.heap.size w wr) ∧ Hid (w1.heap.size + 2 ≤ wr.heap.size) ∧ Box2 wr w.heap.size (.slice a s.init.length c) (.slice (some ⟨bb, ob, none⟩) s.procs.length d) ∧ Hid (Expr.Three wr (w1.heap.size) (acc rdE (s.procs.take r) (es.take j))) ∧ Hid (Expr.Three wr (w1.heap.size + 1) (acc wrE (s.procs.take r) (es.take j)))) (fun i _ _ => es.length - (intOf i).toNat)
        case atStart => exact ⟨0, Nat.zero_le _, rfl, rfl, B, hsz, BX.out, hS1, hS2⟩
        case round =>
          obtain ⟨j, hj, rfl, rfl, B3, hsz3, bx3, K1, K2⟩ := hrel
          clear p0 p1 p2 p3 p4 e0 e1 hS1 hS2
          have hsz4 := hsz3.out
          have BX3 := hid bx3
          obtain ⟨p0, p1, p2, p3, p4⟩ := bx3
          have e1 := cell_below B3.out hb3 E1.out
          have e0 : True := trivial
          try dsimp only at e1
          by_cases hlt : j < es.length
          · have hlt2 : (j : Int) < (es.length : Int) := by omega
            obtain ⟨be, oe, rfl, _, hbe, a1, c1, a2, c2, ⟨g0, g1, g2, g3, g4, g5, g6, g7, g8, g9⟩, hed⟩ := SeqIn.at (EdsIn.below HES.out B3.out) hlt
            have HF := hid (HED.out _ (List.getElem_mem hlt))
            have HA1 := hid (acc_step rdE (s.procs.take r) hlt)
            have HA2 := hid (acc_step wrE (s.procs.take r) hlt)
            generalize es[j] = e at *
            obtain ⟨_, _, _, _, e5, _, _, _, _, t1, t2⟩ := hed
            cases e5
            have BA := hid (below_alloc wr (.cells #[.int .i64 e.src, .int .i64 e.dst, .int .i64 e.guard.kind, .int .i64 e.guard.val, .slice a1 e.guard.kids.length c1, .int .i64 e.var, .int .i64 e.val.kind, .int .i64 e.val.val, .slice a2 e.val.kids.length c2, .int .i64 e.sync] 27))
            have T1 := hid (TrIn_mono (q := (· ≠ w1.heap.size)) (fun b hb => by omega) (TrIn_below BA.out t1))
            have T2 := hid (TrIn_mono (q := (· ≠ w1.heap.size)) (fun b hb => by omega) (TrIn_below BA.out t2))
            have EX := hid (box10_at (w := wr) rfl (.int .i64 e.src) (.int .i64 e.dst) (.int .i64 e.guard.kind) (.int .i64 e.guard.val) (.slice a1 e.guard.kids.length c1) (.int .i64 e.var) (.int .i64 e.val.kind) (.int .i64 e.val.val) (.slice a2 e.val.kids.length c2) (.int .i64 e.sync) 27)
            have KA1 := hid (K1.out.below BA.out)
            have KA2 := hid (K2.out.below BA.out)
            have XA := hid (box2_next BA.out BX3.out)
            have BB := hid (below_then B3.out BA.out B3.out.size)
            clear t1 t2 K1 K2
            go_wp2_with fail
            refine (Expr.va_any e.guard 6 _ _ (w1.heap.size) 3 _ HF.out.1 T1.out KA1.out (Nat.le_refl _) (by unfold maxLen; omega)).mono ?_
            rintro _ w2 ⟨rfl, h3, hO⟩
            have M1 := hid h3
            have M2 := hid (three_only hO (by simp) KA2.out)
            have XB := hid (box2_only hO (by simp; omega) XA.out)
            have TB := hid (tr_only hO T2.out)
            have B4 := hid (hO.new BB.out (fun b h => by simp at h; omega))
            have EX2 := hid (box10_only hO (by simp; omega) EX.out)
            have sz4 := hO.size
            simp only [World.size_alloc] at sz4
            clear hO h3 g0 g1 g2 g3 g4 g5 g6 g7 g8 g9 BA T1 T2 EX KA1 KA2 XA BB p0 p1 p2 p3 p4 e0 e1
            obtain ⟨_, ⟨u0, u1, u2, u3, u4, u5, u6, u7, u8, u9⟩, _⟩ := id EX2.out
            by_cases hv : e.var < 0
            · have hv2 : ¬ (0 ≤ e.var) := by omega
              have R1F := hid (M1.out.congr fun i _ => (rd_none hv i).trans (HA1.out i).symm)
              have R2F := hid (M2.out.congr fun i _ => (wr_none hv i).trans (HA2.out i).symm)
              go_wp2_with fail
              go_roundw
              case rel => exact ⟨j + 1, by omega, by go_num, rfl, B4, hid (by omega), XB.out, R1F, R2F⟩
              case measure => simp [intOf]; omega
            · obtain ⟨vn, hvn⟩ := Int.eq_ofNat_of_zero_le (show 0 ≤ e.var by omega)
              have hv3 : vn < 3 := by have := HF.out.2.1; omega
              have HF2 := hid (HF.out.2.2 (by omega))
              have HVN := hid hvn
              rw [hvn] at u5
              clear hv hvn
              go_wp2_with fail
              refine (Expr.va_any e.val 6 _ _ (w1.heap.size) 3 _ HF2.out TB.out M1.out (Nat.le_refl _) (by unfold maxLen; omega)).mono ?_
              rintro _ w3 ⟨rfl, h3, hO⟩
              have N1 := hid h3
              have N2 := hid (three_only hO (by simp) M2.out)
              have XC := hid (box2_only hO (by simp; omega) XB.out)
              have B5 := hid (hO.new B4.out (fun b h => by simp at h; omega))
              have EX3 := hid (box10_only hO (by simp; omega) EX2.out)
              have sz5 := hO.size
              clear hO h3 u0 u1 u2 u3 u4 u5 u6 u7 u8 u9 EX2 M1 M2 XB B4 TB
              obtain ⟨_, ⟨u0, u1, u2, u3, u4, u5, u6, u7, u8, u9⟩, _⟩ := id EX3.out
              rw [HVN.out] at u5
              have r2 := N2.out.2.1 vn hv3
              have rz := N2.out.2.2
              have rl := N2.out.1
              have R1F := hid (N1.out.congr fun i _ => (rd_some (by have := HVN.out; omega) i).trans (HA1.out i).symm)
              have R2F := hid ((Expr.Three.set N2.out hv3 true).congr fun i _ => (wr_some HVN.out i).trans (HA2.out i).symm)
              go_wp2_with fail
              go_roundw
              case rel => exact ⟨j + 1, by omega, by go_num, rfl, hid (B5.out.setCell (by simp; omega) _), hid (by simp; omega), box2_but (But.set _ _ _ _) (by omega) XC.out, hid (Row.setOther R1F.out (by simp) _), R2F⟩
              case measure => simp [intOf]; omega
          · have e : j = es.length := by omega
            subst e
            have hlt2 : ¬ ((es.length : Int) < (es.length : Int)) := by omega
            have R1F := hid (K1.out.congr fun i _ => (HN1.out i).symm)
            have R2F := hid (K2.out.congr fun i _ => (HN2.out i).symm)
            go_wp2_with fail
            go_roundw
            case rel => exact ⟨r + 1, by omega, by go_num, rfl, B3, hsz3, BX3.out, R1F, R2F⟩
            case measure => simp [intOf]; omega
      · have e : r = s.procs.length := by omega
        subst e
        have hlr2 : ¬ ((s.procs.length : Int) < (s.procs.length : Int)) := by omega
        have HT := hid (TwoV.three (B := w.heap.size) HO.out H1.out H2.out (acc_done rdE _) (acc_done wrE _) (by omega) (by omega) (by omega))
        clear H1 H2
        go_wp2_with fail
        go_ret2
        exact RetP.mk HT.out B.out

set_option maxRecDepth 100000 in
set_option maxHeartbeats 8000000 in
theorem sysVars_any (s : Sy) (w : World) (x : Value) (hx : SyIn Any w s x) : Calls Try.prog 21 #[x] w (RetP (TwoV w.heap.size ((varsS rdE s).map Value.bool) ((varsS wrE s).map Value.bool)) w) := by
  have hmk : ∀ w : World, (Instr.makeSlice 44 (.int .i64 3) (.int .i64 3)).run Try.prog w = .ok (.slice (some ⟨w.heap.size, 0, none⟩) 3 3) (w.alloc (.cells (zerosB 3) 4)) := make_bools 3 (by omega)
  have HX := hid hx
  have HV := hid (fun (W : World) (M : Below w.heap.size w W) => valid_any s W x (HX.out.below M))
  obtain ⟨a, c, b, d, rfl, hc, hc2, hi, hd, hd2, hp⟩ := hx
  have HP := hid (PrsIn.frame (q := fun b => b < w.heap.size) hp (Nat.le_refl _) (fun b _ h => ⟨h, rfl⟩))
  unfold maxLen at hd2
  clear hi hp hc hc2 HX
  cases ho : okSy s with
  | false =>
    have E1 := hid (show varsS rdE s = [] by rw [varsS, ho]; simp)
    have E2 := hid (show varsS wrE s = [] by rw [varsS, ho]; simp)
    rw [ho] at HV
    clear ho
    go_enter Try.func21, Try.ntmps21
    go_wp2_with fail
    refine (HV.out _ (by repeat (first | exact Below.refl _ _ | assumption | refine below_a ?_ _ | refine below_o ?_ _ | refine below_d ?_ | refine below_n ?_ _ | refine below_s ?_ (by first | (simp; done) | (simp; omega) | omega) _))).mono ?_
    rintro y w1 ⟨rfl, hb⟩
    have B1 := hid (below_next (show Below w.heap.size w _ from below_alloc _ _) hb)
    have sz1 := B1.out.size
    clear hb
    go_wp2_with fail
    go_ret2
    exact RetP.mk (by rw [E1.out, E2.out]; exact TwoV.nil _ _ _ _) B1.out
  | true =>
    have HO := hid ho
    have HOK := hid (okSy_procs ho).2
    have hn3 := (okSy_procs ho).1
    rw [ho] at HV
    clear ho
    go_enter Try.func21, Try.ntmps21
    go_wp2_with fail
    refine (HV.out _ (by repeat (first | exact Below.refl _ _ | assumption | refine below_a ?_ _ | refine below_o ?_ _ | refine below_d ?_ | refine below_n ?_ _ | refine below_s ?_ (by first | (simp; done) | (simp; omega) | omega) _))).mono ?_
    rintro y w1 ⟨rfl, hb⟩
    have X := hid (box2_next hb (box2_at (w := w) (a := .slice a s.init.length c) (b := .slice b s.procs.length d) rfl))
    have B1 := hid (below_next (show Below w.heap.size w _ from below_alloc _ _) hb)
    have sz1 := X.out.1
    clear hb
    obtain ⟨p0, p1, p2, p3, p4⟩ := id X.out
    go_wp2_with fail
    refine wp_region_ord (C := fun wZ => ∃ xZ, wZ = World.over _ xZ) [] (.two 0 1 (.two 1 2 (.one 2 (.one 3 .done)) (.one 1 (.one 3 .done))) (.one 0 (.one 2 (.one 3 .done)))) [] (by kernel_rfl) (by kernel_rfl) (fun d _ _ _ _ h => by cases d <;> exact h) (bex (Below.refl _ _).drew) ?_; simp only [pick, List.getElem?_cons_succ, List.getElem?_cons_zero]; (repeat (go_big_quiet_step (fail))); refine wpQuiet_nil ?_; simp only [ordW, pick, List.getElem?_cons_succ, List.getElem?_cons_zero]
    refine ⟨?_, ?_⟩
    · go_wp2_with fail
      refine ⟨bex (by repeat (first | exact Below.refl _ _ | assumption | refine below_a ?_ _ | refine below_o ?_ _ | refine below_d ?_ | refine below_n ?_ _ | refine below_s ?_ (by first | (simp; done) | (simp; omega) | omega) _)), ?_, ?_⟩
      all_goals
        go_wp2_with fail
        refine ⟨bex (by repeat (first | exact Below.refl _ _ | assumption | refine below_a ?_ _ | refine below_o ?_ _ | refine below_d ?_ | refine below_n ?_ _ | refine below_s ?_ (by first | (simp; done) | (simp; omega) | omega) _)), ?_⟩
        go_wp2_with fail
        refine ⟨bex (by repeat (first | exact Below.refl _ _ | assumption | refine below_a ?_ _ | refine below_o ?_ _ | refine below_d ?_ | refine below_n ?_ _ | refine below_s ?_ (by first | (simp; done) | (simp; omega) | omega) _)), ?_⟩
        go_wp2_with fail
        refine ⟨bex (by repeat (first | exact Below.refl _ _ | assumption | refine below_a ?_ _ | refine below_o ?_ _ | refine below_d ?_ | refine below_n ?_ _ | refine below_s ?_ (by first | (simp; done) | (simp; omega) | omega) _)), ?_⟩
        go_wp2_with fail
        have BB := hid (show Below w1.heap.size w1 ((w1.alloc (.cells (zerosB 3) 4)).alloc (.cells (zerosB 3) 4)) from (by repeat (first | exact Below.refl _ _ | assumption | refine below_a ?_ _ | refine below_o ?_ _ | refine below_d ?_ | refine below_n ?_ _ | refine below_s ?_ (by first | (simp; done) | (simp; omega) | omega) _)))
        have BW := hid (below_next B1.out BB.out)
        have X2 := hid (box2_next BB.out X.out)
        have H10 := hid (((three_new w1 4).below (below_alloc _ (.cells (zerosB 3) 4))).congr (g := acc rdE (s.procs.take 0) []) fun i _ => (acc_nil rdE i).trans (by simp))
        have H21 := hid ((three_new (w1.alloc (.cells (zerosB 3) 4)) 4).congr (g := acc wrE (s.procs.take 0) []) fun i _ => (acc_nil wrE i).trans (by simp))
        have H11 := hid (((three_new w1 4).below (below_alloc _ (.cells (zerosB 3) 4))).congr (g := acc wrE (s.procs.take 0) []) fun i _ => (acc_nil wrE i).trans (by simp))
        have H20 := hid ((three_new (w1.alloc (.cells (zerosB 3) 4)) 4).congr (g := acc rdE (s.procs.take 0) []) fun i _ => (acc_nil rdE i).trans (by simp))
        go_loopw [18] (fun i wr => ∃ r : Nat, r ≤ s.procs.length ∧ i = .int .i64 r ∧ Hid (Below w.heap.size w wr) ∧ Hid (w1.heap.size + 2 ≤ wr.heap.size) ∧ Box2 wr w.heap.size (.slice a s.init.length c) (.slice b s.procs.length d) ∧ Hid (Expr.Three wr (w1.heap.size) (acc rdE (s.procs.take r) [])) ∧ Hid (Expr.Three wr (w1.heap.size + 1) (acc wrE (s.procs.take r) []))) (fun i _ => s.procs.length - (intOf i).toNat)
        case atStart => exact ⟨0, Nat.zero_le _, rfl, hid (below_d BW.out), hid (by simp), box2_next (below_d (Below.refl _ _)) X2.out, hid (by simpa using Expr.Three.below H10.out (below_d (Below.refl _ _))), hid (by simpa using Expr.Three.below H21.out (below_d (Below.refl _ _)))⟩
        case round =>
          obtain ⟨r, hr, rfl, B, hsz, bx, H1, H2⟩ := hrel
          obtain ⟨wo, rfl⟩ : ∃ wo : World, wo = wr := ⟨_, rfl⟩
          have BX := hid bx
          obtain ⟨p0, p1, p2, p3, p4⟩ := bx
          have hsz2 := hsz.out
          by_cases hlr : r < s.procs.length
          · have hlr2 : (r : Int) < (s.procs.length : Int) := by omega
            obtain ⟨bb, ob, hbb, _, hb3, ac, cc, ⟨e0, e1⟩, hpr⟩ := SeqIn.at HP.out hlr
            have HED := hid (fun (e : Ed) he => okP_edge (HOK.out _ (List.getElem_mem hlr)) (e := e) he)
            have HN1 := hid (acc_next rdE hlr)
            have HN2 := hid (acc_next wrE hlr)
            generalize s.procs[r] = q at *
            subst hbb
            obtain ⟨locs, es⟩ := q
            obtain ⟨_, _, e5, _, hc5, hc6, he5⟩ := hpr
            cases e5
            have HES := hid he5
            have E0 := hid e0
            have E1 := hid e1
            unfold maxLen at hc6
            clear he5 e0 e1
            dsimp only at hc5 hc6
            have hS1 := hid (H1.out.congr fun i _ => acc_start rdE (s.procs.take r) es i)
            have hS2 := hid (H2.out.congr fun i _ => acc_start wrE (s.procs.take r) es i)
            have e0 := cell_below B.out hb3 E0.out
            have e1 := cell_below B.out hb3 E1.out
            try dsimp only at e0 e1
            clear H1 H2
            have BO := hid (below_alloc wo (.cells #[.int .i64 locs, .slice ac es.length cc] 41))
            go_wp2_with fail
            go_loopw [25] (fun i wr => ∃ j : Nat, j ≤ es.length ∧ i = .int .i64 j ∧ Hid (Below w.heap.size w wr) ∧ Hid (w1.heap.size + 2 ≤ wr.heap.size) ∧ Hid (Box2 wr w.heap.size (.slice a s.init.length c) (.slice (some ⟨bb, ob, none⟩) s.procs.length d)) ∧ Hid (Expr.Three wr (w1.heap.size) (acc rdE (s.procs.take r) (es.take j))) ∧ Hid (Expr.Three wr (w1.heap.size + 1) (acc wrE (s.procs.take r) (es.take j)))) (fun i _ => es.length - (intOf i).toNat)
            case atStart => exact ⟨0, Nat.zero_le _, rfl, hid (below_then B.out BO.out B.out.size), hid (by simp; omega), hid (box2_next BO.out BX.out), hid (hS1.out.below BO.out), hid (hS2.out.below BO.out)⟩
            case round =>
              obtain ⟨j, hj, rfl, B3, hsz3, BX3, K1, K2⟩ := hrel
              clear p0 p1 p2 p3 p4 e0 e1 hS1 hS2
              have hsz4 := hsz3.out
              by_cases hlt : j < es.length
              · have hlt2 : (j : Int) < (es.length : Int) := by omega
                obtain ⟨be, oe, rfl, _, hbe, a1, c1, a2, c2, ⟨g0, g1, g2, g3, g4, g5, g6, g7, g8, g9⟩, hed⟩ := SeqIn.at (EdsIn.below HES.out B3.out) hlt
                have HF := hid (HED.out _ (List.getElem_mem hlt))
                have HA1 := hid (acc_step rdE (s.procs.take r) hlt)
                have HA2 := hid (acc_step wrE (s.procs.take r) hlt)
                generalize es[j] = e at *
                obtain ⟨_, _, _, _, e5, _, _, _, _, t1, t2⟩ := hed
                cases e5
                have BA := hid (below_alloc wr (.cells #[.int .i64 e.src, .int .i64 e.dst, .int .i64 e.guard.kind, .int .i64 e.guard.val, .slice a1 e.guard.kids.length c1, .int .i64 e.var, .int .i64 e.val.kind, .int .i64 e.val.val, .slice a2 e.val.kids.length c2, .int .i64 e.sync] 27))
                have T1 := hid (TrIn_mono (q := (· ≠ w1.heap.size)) (fun b hb => by omega) (TrIn_below BA.out t1))
                have T2 := hid (TrIn_mono (q := (· ≠ w1.heap.size)) (fun b hb => by omega) (TrIn_below BA.out t2))
                have EX := hid (box10_at (w := wr) rfl (.int .i64 e.src) (.int .i64 e.dst) (.int .i64 e.guard.kind) (.int .i64 e.guard.val) (.slice a1 e.guard.kids.length c1) (.int .i64 e.var) (.int .i64 e.val.kind) (.int .i64 e.val.val) (.slice a2 e.val.kids.length c2) (.int .i64 e.sync) 27)
                have KA1 := hid (K1.out.below BA.out)
                have KA2 := hid (K2.out.below BA.out)
                have XA := hid (box2_next BA.out BX3.out)
                have BB := hid (below_then B3.out BA.out B3.out.size)
                clear t1 t2 K1 K2
                go_wp2_with fail
                refine (Expr.vb_any e.guard 6 _ _ (w1.heap.size) 3 _ HF.out.1 T1.out KA1.out (Nat.le_refl _) (by unfold maxLen; omega)).mono ?_
                rintro _ w2 ⟨rfl, h3, hO⟩
                have M1 := hid h3
                have M2 := hid (three_only hO (by simp) KA2.out)
                have XB := hid (box2_only hO (by simp; omega) XA.out)
                have TB := hid (tr_only hO T2.out)
                have B4 := hid (hO.new BB.out (fun b h => by simp at h; omega))
                have EX2 := hid (box10_only hO (by simp; omega) EX.out)
                have sz4 := hO.size
                simp only [World.size_alloc] at sz4
                clear hO h3 g0 g1 g2 g3 g4 g5 g6 g7 g8 g9 BA T1 T2 EX KA1 KA2 XA BB
                obtain ⟨_, ⟨u0, u1, u2, u3, u4, u5, u6, u7, u8, u9⟩, _⟩ := id EX2.out
                by_cases hv : e.var < 0
                · have hv2 : ¬ (0 ≤ e.var) := by omega
                  have R1F := hid (M1.out.congr fun i _ => (rd_none hv i).trans (HA1.out i).symm)
                  have R2F := hid (M2.out.congr fun i _ => (wr_none hv i).trans (HA2.out i).symm)
                  go_wp2_with fail
                  go_roundw
                  case rel => exact ⟨j + 1, by omega, by go_num, B4, hid (by omega), XB, R1F, R2F⟩
                  case measure => simp [intOf]; omega
                · obtain ⟨vn, hvn⟩ := Int.eq_ofNat_of_zero_le (show 0 ≤ e.var by omega)
                  have hv3 : vn < 3 := by have := HF.out.2.1; omega
                  have HF2 := hid (HF.out.2.2 (by omega))
                  have HVN := hid hvn
                  rw [hvn] at u5
                  clear hv hvn
                  go_wp2_with fail
                  refine (Expr.vb_any e.val 6 _ _ (w1.heap.size) 3 _ HF2.out TB.out M1.out (Nat.le_refl _) (by unfold maxLen; omega)).mono ?_
                  rintro _ w3 ⟨rfl, h3, hO⟩
                  have N1 := hid h3
                  have N2 := hid (three_only hO (by simp) M2.out)
                  have XC := hid (box2_only hO (by simp; omega) XB.out)
                  have B5 := hid (hO.new B4.out (fun b h => by simp at h; omega))
                  have EX3 := hid (box10_only hO (by simp; omega) EX2.out)
                  have sz5 := hO.size
                  clear hO h3 u0 u1 u2 u3 u4 u5 u6 u7 u8 u9 EX2 M1 M2 XB B4 TB
                  obtain ⟨_, ⟨u0, u1, u2, u3, u4, u5, u6, u7, u8, u9⟩, _⟩ := id EX3.out
                  rw [HVN.out] at u5
                  have r2 := N2.out.2.1 vn hv3
                  have rz := N2.out.2.2
                  have rl := N2.out.1
                  have R1F := hid (N1.out.congr fun i _ => (rd_some (by have := HVN.out; omega) i).trans (HA1.out i).symm)
                  have R2F := hid ((Expr.Three.set N2.out hv3 true).congr fun i _ => (wr_some HVN.out i).trans (HA2.out i).symm)
                  go_wp2_with fail
                  go_roundw
                  case rel => exact ⟨j + 1, by omega, by go_num, hid (B5.out.setCell (by simp; omega) _), hid (by simp; omega), hid (box2_but (But.set _ _ _ _) (by omega) XC.out), hid (Row.setOther R1F.out (by simp) _), R2F⟩
                  case measure => simp [intOf]; omega
              · have e : j = es.length := by omega
                subst e
                have hlt2 : ¬ ((es.length : Int) < (es.length : Int)) := by omega
                have R1F := hid (K1.out.congr fun i _ => (HN1.out i).symm)
                have R2F := hid (K2.out.congr fun i _ => (HN2.out i).symm)
                go_wp2_with fail
                go_roundw
                case rel => exact ⟨r + 1, by omega, by go_num, B3, hsz3, BX3.out, R1F, R2F⟩
                case measure => simp [intOf]; omega
          · have e : r = s.procs.length := by omega
            subst e
            have hlr2 : ¬ ((s.procs.length : Int) < (s.procs.length : Int)) := by omega
            have HT := hid (TwoV.three (B := w.heap.size) HO.out H1.out H2.out (acc_done rdE _) (acc_done wrE _) (by omega) (by omega) (by omega))
            clear H1 H2
            go_wp2_with fail
            go_ret2
            exact RetP.mk HT.out B.out
    · go_wp2_with fail
      refine ⟨bex (by repeat (first | exact Below.refl _ _ | assumption | refine below_a ?_ _ | refine below_o ?_ _ | refine below_d ?_ | refine below_n ?_ _ | refine below_s ?_ (by first | (simp; done) | (simp; omega) | omega) _)), ?_⟩
      go_wp2_with fail
      refine ⟨bex (by repeat (first | exact Below.refl _ _ | assumption | refine below_a ?_ _ | refine below_o ?_ _ | refine below_d ?_ | refine below_n ?_ _ | refine below_s ?_ (by first | (simp; done) | (simp; omega) | omega) _)), ?_⟩
      go_wp2_with fail
      refine ⟨bex (by repeat (first | exact Below.refl _ _ | assumption | refine below_a ?_ _ | refine below_o ?_ _ | refine below_d ?_ | refine below_n ?_ _ | refine below_s ?_ (by first | (simp; done) | (simp; omega) | omega) _)), ?_⟩
      go_wp2_with fail
      refine ⟨bex (by repeat (first | exact Below.refl _ _ | assumption | refine below_a ?_ _ | refine below_o ?_ _ | refine below_d ?_ | refine below_n ?_ _ | refine below_s ?_ (by first | (simp; done) | (simp; omega) | omega) _)), ?_⟩
      go_wp2_with fail
      have BB := hid (show Below w1.heap.size w1 ((w1.alloc (.cells (zerosB 3) 4)).alloc (.cells (zerosB 3) 4)) from (by repeat (first | exact Below.refl _ _ | assumption | refine below_a ?_ _ | refine below_o ?_ _ | refine below_d ?_ | refine below_n ?_ _ | refine below_s ?_ (by first | (simp; done) | (simp; omega) | omega) _)))
      have BW := hid (below_next B1.out BB.out)
      have X2 := hid (box2_next BB.out X.out)
      have H10 := hid (((three_new w1 4).below (below_alloc _ (.cells (zerosB 3) 4))).congr (g := acc rdE (s.procs.take 0) []) fun i _ => (acc_nil rdE i).trans (by simp))
      have H21 := hid ((three_new (w1.alloc (.cells (zerosB 3) 4)) 4).congr (g := acc wrE (s.procs.take 0) []) fun i _ => (acc_nil wrE i).trans (by simp))
      have H11 := hid (((three_new w1 4).below (below_alloc _ (.cells (zerosB 3) 4))).congr (g := acc wrE (s.procs.take 0) []) fun i _ => (acc_nil wrE i).trans (by simp))
      have H20 := hid ((three_new (w1.alloc (.cells (zerosB 3) 4)) 4).congr (g := acc rdE (s.procs.take 0) []) fun i _ => (acc_nil rdE i).trans (by simp))
      go_loopw [18] (fun i wr => ∃ r : Nat, r ≤ s.procs.length ∧ i = .int .i64 r ∧ Hid (Below w.heap.size w wr) ∧ Hid (w1.heap.size + 2 ≤ wr.heap.size) ∧ Box2 wr w.heap.size (.slice a s.init.length c) (.slice b s.procs.length d) ∧ Hid (Expr.Three wr (w1.heap.size + 1) (acc rdE (s.procs.take r) [])) ∧ Hid (Expr.Three wr (w1.heap.size) (acc wrE (s.procs.take r) []))) (fun i _ => s.procs.length - (intOf i).toNat)
      case atStart => exact ⟨0, Nat.zero_le _, rfl, hid (below_d BW.out), hid (by simp), box2_next (below_d (Below.refl _ _)) X2.out, hid (by simpa using Expr.Three.below H20.out (below_d (Below.refl _ _))), hid (by simpa using Expr.Three.below H11.out (below_d (Below.refl _ _)))⟩
      case round =>
        obtain ⟨r, hr, rfl, B, hsz, bx, H1, H2⟩ := hrel
        obtain ⟨wo, rfl⟩ : ∃ wo : World, wo = wr := ⟨_, rfl⟩
        have BX := hid bx
        obtain ⟨p0, p1, p2, p3, p4⟩ := bx
        have hsz2 := hsz.out
        by_cases hlr : r < s.procs.length
        · have hlr2 : (r : Int) < (s.procs.length : Int) := by omega
          obtain ⟨bb, ob, hbb, _, hb3, ac, cc, ⟨e0, e1⟩, hpr⟩ := SeqIn.at HP.out hlr
          have HED := hid (fun (e : Ed) he => okP_edge (HOK.out _ (List.getElem_mem hlr)) (e := e) he)
          have HN1 := hid (acc_next rdE hlr)
          have HN2 := hid (acc_next wrE hlr)
          generalize s.procs[r] = q at *
          subst hbb
          obtain ⟨locs, es⟩ := q
          obtain ⟨_, _, e5, _, hc5, hc6, he5⟩ := hpr
          cases e5
          have HES := hid he5
          have E0 := hid e0
          have E1 := hid e1
          unfold maxLen at hc6
          clear he5 e0 e1
          dsimp only at hc5 hc6
          have hS1 := hid (H1.out.congr fun i _ => acc_start rdE (s.procs.take r) es i)
          have hS2 := hid (H2.out.congr fun i _ => acc_start wrE (s.procs.take r) es i)
          have e0 := cell_below B.out hb3 E0.out
          have e1 := cell_below B.out hb3 E1.out
          try dsimp only at e0 e1
          clear H1 H2
          have BO := hid (below_alloc wo (.cells #[.int .i64 locs, .slice ac es.length cc] 41))
          go_wp2_with fail
          go_loopw [25] (fun i wr => ∃ j : Nat, j ≤ es.length ∧ i = .int .i64 j ∧ Hid (Below w.heap.size w wr) ∧ Hid (w1.heap.size + 2 ≤ wr.heap.size) ∧ Hid (Box2 wr w.heap.size (.slice a s.init.length c) (.slice (some ⟨bb, ob, none⟩) s.procs.length d)) ∧ Hid (Expr.Three wr (w1.heap.size + 1) (acc rdE (s.procs.take r) (es.take j))) ∧ Hid (Expr.Three wr (w1.heap.size) (acc wrE (s.procs.take r) (es.take j)))) (fun i _ => es.length - (intOf i).toNat)
          case atStart => exact ⟨0, Nat.zero_le _, rfl, hid (below_then B.out BO.out B.out.size), hid (by simp; omega), hid (box2_next BO.out BX.out), hid (hS1.out.below BO.out), hid (hS2.out.below BO.out)⟩
          case round =>
            obtain ⟨j, hj, rfl, B3, hsz3, BX3, K1, K2⟩ := hrel
            clear p0 p1 p2 p3 p4 e0 e1 hS1 hS2
            have hsz4 := hsz3.out
            by_cases hlt : j < es.length
            · have hlt2 : (j : Int) < (es.length : Int) := by omega
              obtain ⟨be, oe, rfl, _, hbe, a1, c1, a2, c2, ⟨g0, g1, g2, g3, g4, g5, g6, g7, g8, g9⟩, hed⟩ := SeqIn.at (EdsIn.below HES.out B3.out) hlt
              have HF := hid (HED.out _ (List.getElem_mem hlt))
              have HA1 := hid (acc_step rdE (s.procs.take r) hlt)
              have HA2 := hid (acc_step wrE (s.procs.take r) hlt)
              generalize es[j] = e at *
              obtain ⟨_, _, _, _, e5, _, _, _, _, t1, t2⟩ := hed
              cases e5
              have BA := hid (below_alloc wr (.cells #[.int .i64 e.src, .int .i64 e.dst, .int .i64 e.guard.kind, .int .i64 e.guard.val, .slice a1 e.guard.kids.length c1, .int .i64 e.var, .int .i64 e.val.kind, .int .i64 e.val.val, .slice a2 e.val.kids.length c2, .int .i64 e.sync] 27))
              have T1 := hid (TrIn_mono (q := (· ≠ w1.heap.size + 1)) (fun b hb => by omega) (TrIn_below BA.out t1))
              have T2 := hid (TrIn_mono (q := (· ≠ w1.heap.size + 1)) (fun b hb => by omega) (TrIn_below BA.out t2))
              have EX := hid (box10_at (w := wr) rfl (.int .i64 e.src) (.int .i64 e.dst) (.int .i64 e.guard.kind) (.int .i64 e.guard.val) (.slice a1 e.guard.kids.length c1) (.int .i64 e.var) (.int .i64 e.val.kind) (.int .i64 e.val.val) (.slice a2 e.val.kids.length c2) (.int .i64 e.sync) 27)
              have KA1 := hid (K1.out.below BA.out)
              have KA2 := hid (K2.out.below BA.out)
              have XA := hid (box2_next BA.out BX3.out)
              have BB := hid (below_then B3.out BA.out B3.out.size)
              clear t1 t2 K1 K2
              go_wp2_with fail
              refine (Expr.vb_any e.guard 6 _ _ (w1.heap.size + 1) 3 _ HF.out.1 T1.out KA1.out (Nat.le_refl _) (by unfold maxLen; omega)).mono ?_
              rintro _ w2 ⟨rfl, h3, hO⟩
              have M1 := hid h3
              have M2 := hid (three_only hO (by simp) KA2.out)
              have XB := hid (box2_only hO (by simp; omega) XA.out)
              have TB := hid (tr_only hO T2.out)
              have B4 := hid (hO.new BB.out (fun b h => by simp at h; omega))
              have EX2 := hid (box10_only hO (by simp; omega) EX.out)
              have sz4 := hO.size
              simp only [World.size_alloc] at sz4
              clear hO h3 g0 g1 g2 g3 g4 g5 g6 g7 g8 g9 BA T1 T2 EX KA1 KA2 XA BB
              obtain ⟨_, ⟨u0, u1, u2, u3, u4, u5, u6, u7, u8, u9⟩, _⟩ := id EX2.out
              by_cases hv : e.var < 0
              · have hv2 : ¬ (0 ≤ e.var) := by omega
                have R1F := hid (M1.out.congr fun i _ => (rd_none hv i).trans (HA1.out i).symm)
                have R2F := hid (M2.out.congr fun i _ => (wr_none hv i).trans (HA2.out i).symm)
                go_wp2_with fail
                go_roundw
                case rel => exact ⟨j + 1, by omega, by go_num, B4, hid (by omega), XB, R1F, R2F⟩
                case measure => simp [intOf]; omega
              · obtain ⟨vn, hvn⟩ := Int.eq_ofNat_of_zero_le (show 0 ≤ e.var by omega)
                have hv3 : vn < 3 := by have := HF.out.2.1; omega
                have HF2 := hid (HF.out.2.2 (by omega))
                have HVN := hid hvn
                rw [hvn] at u5
                clear hv hvn
                go_wp2_with fail
                refine (Expr.vb_any e.val 6 _ _ (w1.heap.size + 1) 3 _ HF2.out TB.out M1.out (Nat.le_refl _) (by unfold maxLen; omega)).mono ?_
                rintro _ w3 ⟨rfl, h3, hO⟩
                have N1 := hid h3
                have N2 := hid (three_only hO (by simp) M2.out)
                have XC := hid (box2_only hO (by simp; omega) XB.out)
                have B5 := hid (hO.new B4.out (fun b h => by simp at h; omega))
                have EX3 := hid (box10_only hO (by simp; omega) EX2.out)
                have sz5 := hO.size
                clear hO h3 u0 u1 u2 u3 u4 u5 u6 u7 u8 u9 EX2 M1 M2 XB B4 TB
                obtain ⟨_, ⟨u0, u1, u2, u3, u4, u5, u6, u7, u8, u9⟩, _⟩ := id EX3.out
                rw [HVN.out] at u5
                have r2 := N2.out.2.1 vn hv3
                have rz := N2.out.2.2
                have rl := N2.out.1
                have R1F := hid (N1.out.congr fun i _ => (rd_some (by have := HVN.out; omega) i).trans (HA1.out i).symm)
                have R2F := hid ((Expr.Three.set N2.out hv3 true).congr fun i _ => (wr_some HVN.out i).trans (HA2.out i).symm)
                go_wp2_with fail
                go_roundw
                case rel => exact ⟨j + 1, by omega, by go_num, hid (B5.out.setCell (by simp; omega) _), hid (by simp; omega), hid (box2_but (But.set _ _ _ _) (by omega) XC.out), hid (Row.setOther R1F.out (by simp) _), R2F⟩
                case measure => simp [intOf]; omega
            · have e : j = es.length := by omega
              subst e
              have hlt2 : ¬ ((es.length : Int) < (es.length : Int)) := by omega
              have R1F := hid (K1.out.congr fun i _ => (HN1.out i).symm)
              have R2F := hid (K2.out.congr fun i _ => (HN2.out i).symm)
              go_wp2_with fail
              go_roundw
              case rel => exact ⟨r + 1, by omega, by go_num, B3, hsz3, BX3.out, R1F, R2F⟩
              case measure => simp [intOf]; omega
        · have e : r = s.procs.length := by omega
          subst e
          have hlr2 : ¬ ((s.procs.length : Int) < (s.procs.length : Int)) := by omega
          have HT := hid (TwoV.three (B := w.heap.size) HO.out H1.out H2.out (acc_done rdE _) (acc_done wrE _) (by omega) (by omega) (by omega))
          clear H1 H2
          go_wp2_with fail
          go_ret2
          exact RetP.mk HT.out B.out
end Sys
end Go.Proofs.Ytffadknollkgiaa
