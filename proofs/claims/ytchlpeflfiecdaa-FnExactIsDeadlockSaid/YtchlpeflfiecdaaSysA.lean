/- The laws' own functions on systems: szEdgeS, szProcess, szProcessS, szSystem. Conditions: those of each contract. -/
import Derived.Test.YtchlpeflfiecdaaSysIn
import Derived.Test.YtchlpeflfiecdaaEdgeA
import Derived.Test.YtchlpeflfiecdaaIntsA
import Derived.Test.YtchlpeflfiecdaaSzPlain
namespace Go.Proofs.Ytchlpeflfiecdaa
open Go.RowKit
namespace Sys

theorem szE_ok : SzOk Edge.szE := fun e left h1 h2 => Edge.szE_bd e left h1 h2
def szEs (l : List Ed) (left : Int) : Int := szG Edge.szE l (left - l.length)
def szP (q : Pr) (left : Int) : Int := if szEs q.edges left < 0 then -1 else szEs q.edges left
theorem szP_eq (q : Pr) (left : Int) (h : left ≤ 1048576) : szP q left = szEs q.edges left := by
  have := szG_bd szE_ok q.edges (left - q.edges.length) (by omega)
  unfold szP szEs
  split <;> omega
theorem szP_ok : SzOk szP := fun q left _ h2 => by
  rw [szP_eq q left h2]
  exact szG_bd szE_ok q.edges (left - q.edges.length) (by omega)
def szPs (l : List Pr) (left : Int) : Int := szG szP l (left - l.length)
def szI (l : List Int) (left : Int) : Int := if left - l.length < 0 then -1 else left - l.length
def szS (s : Sy) (left : Int) : Int := if szI s.init left < 0 then -1 else szPs s.procs (szI s.init left)
theorem szS_bd (s : Sy) (left : Int) (_ : -1 ≤ left) (h2 : left ≤ 1048576) : -1 ≤ szS s left ∧ szS s left ≤ 1048576 := by
  unfold szS
  split
  · omega
  · refine szG_bd szP_ok _ _ ?_
    unfold szI; split <;> omega

/-- how many numbers are in it -/
def cE (e : Ed) : Int := nodesL e.guard.kids + nodesL e.val.kids
def cP (q : Pr) : Int := q.edges.length + sumC cE q.edges
def cS (s : Sy) : Int := s.init.length + s.procs.length + sumC cP s.procs
theorem cE_eq (e : Ed) (left : Int) (h1 : -1 ≤ left) (h2 : left ≤ 1048576) (h : 0 ≤ Edge.szE e left) : Edge.szE e left = left - cE e := by
  have hb := szT_bd e.guard left h1 h2
  unfold Edge.szE at h ⊢
  split at h
  · omega
  · rename_i k1
    split at h
    · omega
    · rename_i k2
      rw [if_neg k1, if_neg k2, szT_eq _ _ (by omega), szT_eq e.guard left (by omega)]
      unfold cE; omega
theorem cP_eq (q : Pr) (left : Int) (_ : -1 ≤ left) (h2 : left ≤ 1048576) (h : 0 ≤ szP q left) : szP q left = left - cP q := by
  rw [szP_eq q left h2] at h ⊢
  unfold szEs at h ⊢
  rw [szG_eq szE_ok cE_eq _ _ (by omega) h]
  unfold cP; omega
theorem cE_nonneg (e : Ed) : 0 ≤ cE e := by
  have := nodesL_pos e.guard.kids
  have := nodesL_pos e.val.kids
  unfold cE; omega
theorem cP_nonneg (q : Pr) : 0 ≤ cP q := by
  have := sumC_nonneg cE_nonneg q.edges
  unfold cP; omega
/-- a system not too large -/
structure SmallS (s : Sy) : Prop where
  init : s.init.length ≤ 1048576
  procs : s.procs.length ≤ 1048576
  edges : ∀ q, q ∈ s.procs → q.edges.length ≤ 1048576 ∧ ∀ e, e ∈ q.edges → Edge.SmallE e
  all : cS s ≤ 1048576
theorem small_of_sz (s : Sy) (h : 0 ≤ szS s 1048576) : SmallS s := by
  unfold szS at h
  split at h
  · omega
  · rename_i hi
    unfold szI at hi h
    split at hi
    · omega
    · rename_i hi2
      rw [if_neg hi2] at h
      unfold szPs at h
      have e := szG_eq szP_ok cP_eq _ _ (by omega) h
      have hn := sumC_nonneg cP_nonneg s.procs
      refine ⟨by omega, by omega, fun q hq => ?_, by unfold cS; omega⟩
      obtain ⟨lf, k1, k2, k3⟩ := szG_mem szP_ok _ _ (by omega) h hq
      have e2 := cP_eq q lf k1 k2 k3
      rw [szP_eq q lf k2] at k3
      unfold szEs at k3
      have hn2 := sumC_nonneg cE_nonneg q.edges
      refine ⟨by rw [cP] at e2; rw [szP_eq q lf k2] at e2; unfold szEs at e2; omega, fun x hx => ?_⟩
      obtain ⟨lf2, j1, j2, j3⟩ := szG_mem szE_ok _ _ (by omega) k3 hx
      exact Edge.smallE_of_sz x lf2 j1 j2 j3

set_option maxHeartbeats 1000000 in
theorem szIntS_any (l : List Int) (w : World) (a : Option Addr) (c : Nat) (left : Int) (hl : l.length ≤ maxLen) (h1 : left ≤ 1048576) (h2 : -1 ≤ left) : Calls Try.prog 57 #[.slice a l.length c, .int .i64 left] w (Ret (.int .i64 (szI l left)) w) := by
  unfold maxLen at hl
  have f1 : IntKind.i64.wrap (left - (l.length : Int)) = left - l.length := IntWalk.i64_in _ (by omega)
  by_cases h : left - l.length < 0
  · have E := hid (show szI l left = -1 by rw [szI, if_pos h])
    go_enter Try.func57, Try.ntmps57
    go_wp2_with fail
    go_ret
    exact Ret.mk (int_val (by rw [E.out])) (Below.refl _ _)
  · have E := hid (show szI l left = left - l.length by rw [szI, if_neg h])
    go_enter Try.func57, Try.ntmps57
    go_wp2_with fail
    go_ret
    exact Ret.mk (int_val (by rw [E.out])) (Below.refl _ _)

set_option maxHeartbeats 1000000 in
theorem szEs_any (l : List Ed) (w : World) (a : Option Addr) (c : Nat) (left : Int) (hl : EdsIn Any w l a) (h1 : left ≤ 1048576) (h2 : -1 ≤ left) (hc : l.length ≤ c) (hc2 : c ≤ maxLen) :
    Calls Try.prog 100 #[.slice a l.length c, .int .i64 left] w (Ret (.int .i64 (szEs l left)) w) := by
  unfold maxLen at hc2
  by_cases hneg : left - l.length < 0
  · go_enter Try.func100, Try.ntmps100
    go_wp2_with fail
    go_ret
    refine Ret.mk (int_val ?_) (Below.refl _ _)
    rw [szEs, szG_neg _ _ _ hneg]
  · go_enter Try.func100, Try.ntmps100
    go_wp2_with fail
    go_loopw [1, 5] (fun u i wr => ∃ (k : Nat) (lf : Int), k ≤ l.length ∧ u = .int .i64 lf ∧ i = .int .i64 k ∧ 0 ≤ lf ∧ lf ≤ 1048576 ∧ Below w.heap.size w wr ∧ Hid (szG Edge.szE (l.drop k) lf = szEs l left))
      (fun _ i _ => l.length - (intOf i).toNat)
    case atStart => exact ⟨0, _, Nat.zero_le _, rfl, rfl, by omega, by omega, Below.refl _ _, hid rfl⟩
    case round =>
      obtain ⟨k, lf, hk, rfl, rfl, h0, h5, B, hr⟩ := hrel
      by_cases hlt : k < l.length
      · obtain ⟨b, o, rfl, _, hb, a1, c1, a2, c2, ⟨g0, g1, g2, g3, g4, g5, g6, g7, g8, g9⟩, hT⟩ := SeqIn.at (EdsIn.below hl B) hlt
        have HT := hid hT
        have hr2 := hr.out
        rw [List.drop_eq_getElem_cons hlt] at hr2
        simp only [szG] at hr2
        rw [if_neg (by omega)] at hr2
        have HR := hid hr2
        clear hT hr hr2
        have hlt2 : (k : Int) < (l.length : Int) := by omega
        generalize l[k] = t at *
        go_wp2_with fail
        refine (Edge.sz_any t _ _ lf HT.out h5 (by omega)).mono ?_
        rintro e w2 ⟨rfl, hby⟩
        have hbd := Edge.szE_bd t lf (by omega) h5
        replace B := below_next B hby
        clear hby
        by_cases hn : Edge.szE t lf < 0
        · have E := hid (show -1 = szEs l left by rw [← HR.out, szG_neg _ _ _ hn])
          go_wp2_with fail
          go_ret
          exact Ret.mk (int_val E.out) B
        · go_wp2_with fail
          go_roundw
          case rel => exact ⟨k + 1, _, by omega, rfl, by go_num, by omega, by omega, B, HR⟩
          case measure => simp [intOf]; omega
      · have HR := hid (show lf = szEs l left by
          rw [← hr.out, List.drop_of_length_le (by omega)]
          simp only [szG]
          rw [if_neg (by omega)])
        have hlt2 : ¬ ((k : Int) < (l.length : Int)) := by omega
        clear hr
        go_wp2_with fail
        go_ret
        exact Ret.mk (int_val HR.out) B

set_option maxHeartbeats 1000000 in
theorem szP_any (q : Pr) (w : World) (x : Value) (left : Int) (hx : PrIn Any w q x) (h1 : left ≤ 1048576) (h2 : -1 ≤ left) : Calls Try.prog 86 #[x, .int .i64 left] w (Ret (.int .i64 (szP q left)) w) := by
  obtain ⟨a, c, rfl, _, hc, hc2, he⟩ := hx
  have HE := hid (fun (w' : World) (M : Below w.heap.size w w') => szEs_any q.edges w' a c left (he.below M) h1 h2 hc hc2)
  have E := hid (show szP q left = if szEs q.edges left < 0 then -1 else szEs q.edges left from rfl)
  have hbd := szG_bd szE_ok q.edges (left - q.edges.length) (by omega)
  change -1 ≤ szEs q.edges left ∧ szEs q.edges left ≤ 1048576 at hbd
  generalize szEs q.edges left = g at *
  by_cases k1 : g < 0
  · have E2 := hid (show szP q left = -1 by rw [E.out, if_pos k1])
    go_enter Try.func86, Try.ntmps86
    go_wp2_with fail
    refine (HE.out _ (by repeat (first | exact Below.refl _ _ | assumption | refine below_a ?_ _ | refine below_o ?_ _ | refine below_d ?_ | refine below_n ?_ _ | refine below_s ?_ (by first | (simp; done) | (simp; omega) | omega) _))).mono ?_
    rintro y w1 ⟨rfl, hb⟩
    go_wp2_with fail
    go_ret
    exact Ret.mk (int_val (by rw [E2.out])) (below_next (below_alloc _ _) hb)
  · have E2 := hid (show szP q left = g by rw [E.out, if_neg k1])
    go_enter Try.func86, Try.ntmps86
    go_wp2_with fail
    refine (HE.out _ (by repeat (first | exact Below.refl _ _ | assumption | refine below_a ?_ _ | refine below_o ?_ _ | refine below_d ?_ | refine below_n ?_ _ | refine below_s ?_ (by first | (simp; done) | (simp; omega) | omega) _))).mono ?_
    rintro y w1 ⟨rfl, hb⟩
    go_wp2_with fail
    go_ret
    exact Ret.mk (int_val (by rw [E2.out])) (below_next (below_alloc _ _) hb)

set_option maxHeartbeats 1000000 in
theorem szPs_any (l : List Pr) (w : World) (a : Option Addr) (c : Nat) (left : Int) (hl : PrsIn Any w l a) (h1 : left ≤ 1048576) (h2 : -1 ≤ left) (hc : l.length ≤ c) (hc2 : c ≤ maxLen) :
    Calls Try.prog 58 #[.slice a l.length c, .int .i64 left] w (Ret (.int .i64 (szPs l left)) w) := by
  unfold maxLen at hc2
  by_cases hneg : left - l.length < 0
  · go_enter Try.func58, Try.ntmps58
    go_wp2_with fail
    go_ret
    refine Ret.mk (int_val ?_) (Below.refl _ _)
    rw [szPs, szG_neg _ _ _ hneg]
  · go_enter Try.func58, Try.ntmps58
    go_wp2_with fail
    go_loopw [1, 5] (fun u i wr => ∃ (k : Nat) (lf : Int), k ≤ l.length ∧ u = .int .i64 lf ∧ i = .int .i64 k ∧ 0 ≤ lf ∧ lf ≤ 1048576 ∧ Below w.heap.size w wr ∧ Hid (szG szP (l.drop k) lf = szPs l left))
      (fun _ i _ => l.length - (intOf i).toNat)
    case atStart => exact ⟨0, _, Nat.zero_le _, rfl, rfl, by omega, by omega, Below.refl _ _, hid rfl⟩
    case round =>
      obtain ⟨k, lf, hk, rfl, rfl, h0, h5, B, hr⟩ := hrel
      by_cases hlt : k < l.length
      · obtain ⟨b, o, rfl, _, hb, a1, c1, ⟨g0, g1⟩, hT⟩ := SeqIn.at (PrsIn.below hl B) hlt
        have HT := hid hT
        have hr2 := hr.out
        rw [List.drop_eq_getElem_cons hlt] at hr2
        simp only [szG] at hr2
        rw [if_neg (by omega)] at hr2
        have HR := hid hr2
        clear hT hr hr2
        have hlt2 : (k : Int) < (l.length : Int) := by omega
        generalize l[k] = t at *
        go_wp2_with fail
        refine (szP_any t _ _ lf HT.out h5 (by omega)).mono ?_
        rintro e w2 ⟨rfl, hby⟩
        have hbd := szP_ok t lf (by omega) h5
        replace B := below_next B hby
        clear hby
        by_cases hn : szP t lf < 0
        · have E := hid (show -1 = szPs l left by rw [← HR.out, szG_neg _ _ _ hn])
          go_wp2_with fail
          go_ret
          exact Ret.mk (int_val E.out) B
        · go_wp2_with fail
          go_roundw
          case rel => exact ⟨k + 1, _, by omega, rfl, by go_num, by omega, by omega, B, HR⟩
          case measure => simp [intOf]; omega
      · have HR := hid (show lf = szPs l left by
          rw [← hr.out, List.drop_of_length_le (by omega)]
          simp only [szG]
          rw [if_neg (by omega)])
        have hlt2 : ¬ ((k : Int) < (l.length : Int)) := by omega
        clear hr
        go_wp2_with fail
        go_ret
        exact Ret.mk (int_val HR.out) B

/-- a variable of two cells -/
abbrev Box2 (w : World) (B : Nat) (a b : Value) : Prop := B < w.heap.size ∧ w.cell? ⟨B, 0, none⟩ = some a ∧ w.cell? ⟨B, 1, none⟩ = some b ∧ w.frozen? ⟨B, 0, none⟩ = false ∧ w.frozen? ⟨B, 1, none⟩ = false
theorem box2_next {w w' : World} (h : Below w.heap.size w w') {B : Nat} {a b : Value} (hb : Box2 w B a b) : Box2 w' B a b :=
  ⟨Nat.lt_of_lt_of_le hb.1 h.size, by rw [h.cell (p := ⟨B, 0, none⟩) hb.1]; exact hb.2.1, by rw [h.cell (p := ⟨B, 1, none⟩) hb.1]; exact hb.2.2.1,
    by rw [h.frozen (p := ⟨B, 0, none⟩) hb.1]; exact hb.2.2.2.1, by rw [h.frozen (p := ⟨B, 1, none⟩) hb.1]; exact hb.2.2.2.2⟩
theorem box2_at {w : World} {B : Nat} {a b : Value} {t : TypeId} (h : B = w.heap.size) : Box2 (w.alloc (.cells #[a, b] t)) B a b := by subst h; exact ⟨by simp, by simp, by simp, by simp, by simp⟩
theorem box2_set0 {w : World} {B : Nat} {a b : Value} (h : Box2 w B a b) (v : Value) : Box2 (w.setCell ⟨B, 0, none⟩ v) B v b :=
  ⟨by simpa using h.1, World.cell?_setCell_same _ _ _ h.2.1, by rw [World.cell?_setCell_other _ _ _ _ (by simp)]; exact h.2.2.1, by simpa using h.2.2.2.1, by simpa using h.2.2.2.2⟩
theorem box2_set1 {w : World} {B : Nat} {a b : Value} (h : Box2 w B a b) (v : Value) : Box2 (w.setCell ⟨B, 1, none⟩ v) B a v :=
  ⟨by simpa using h.1, by rw [World.cell?_setCell_other _ _ _ _ (by simp)]; exact h.2.1, World.cell?_setCell_same _ _ _ h.2.2.1, by simpa using h.2.2.2.1, by simpa using h.2.2.2.2⟩
theorem box2_block {w w' : World} (hs : w.heap.size ≤ w'.heap.size) {B : Nat} {a b : Value} (he : w'.heap[B]? = w.heap[B]?) (hb : Box2 w B a b) : Box2 w' B a b :=
  ⟨Nat.lt_of_lt_of_le hb.1 hs, by rw [World.cell?_of_block (w := w) (a := ⟨B, 0, none⟩) he]; exact hb.2.1, by rw [World.cell?_of_block (w := w) (a := ⟨B, 1, none⟩) he]; exact hb.2.2.1,
    by rw [World.frozen?_of_block (w := w) (a := ⟨B, 0, none⟩) he]; exact hb.2.2.2.1, by rw [World.frozen?_of_block (w := w) (a := ⟨B, 1, none⟩) he]; exact hb.2.2.2.2⟩
theorem box2_but {w w' : World} {D : Nat} (h : But w D w') {B : Nat} {a b : Value} (hd : B ≠ D) (hb : Box2 w B a b) : Box2 w' B a b := box2_block h.size (h.block B hb.1 hd) hb

set_option maxHeartbeats 1000000 in
theorem szS_any (s : Sy) (w : World) (x : Value) (left : Int) (hx : SyIn Any w s x) (h1 : left ≤ 1048576) (h2 : -1 ≤ left) : Calls Try.prog 17 #[x, .int .i64 left] w (Ret (.int .i64 (szS s left)) w) := by
  obtain ⟨a, c, b, d, rfl, hc, hc2, _, hd, hd2, hp⟩ := hx
  have hI : -1 ≤ szI s.init left ∧ szI s.init left ≤ 1048576 := by unfold szI; split <;> omega
  have HI := hid (fun (w' : World) => szIntS_any s.init w' a c left (Nat.le_trans hc hc2) h1 h2)
  have HP := hid (fun (w' : World) (M : Below w.heap.size w w') => szPs_any s.procs w' b d (szI s.init left) (hp.below M) hI.2 hI.1 hd hd2)
  have E := hid (show szS s left = if szI s.init left < 0 then -1 else szPs s.procs (szI s.init left) from rfl)
  have hbd := szG_bd szP_ok s.procs (szI s.init left - s.procs.length) (by omega)
  change -1 ≤ szPs s.procs (szI s.init left) ∧ szPs s.procs (szI s.init left) ≤ 1048576 at hbd
  generalize szI s.init left = g at *
  generalize szPs s.procs g = v at *
  by_cases k1 : g < 0
  · have E2 := hid (show szS s left = -1 by rw [E.out, if_pos k1])
    go_enter Try.func17, Try.ntmps17
    go_wp2_with fail
    refine (HI.out _).mono ?_
    rintro y w1 ⟨rfl, hb⟩
    go_wp2_with fail
    go_ret
    exact Ret.mk (int_val (by rw [E2.out])) (below_next (below_alloc _ _) hb)
  · have E2 := hid (show szS s left = v by rw [E.out, if_neg k1])
    go_enter Try.func17, Try.ntmps17
    go_wp2_with fail
    refine (HI.out _).mono ?_
    rintro y w1 ⟨rfl, hb⟩
    obtain ⟨z, q0, q1, q2, q3⟩ := box2_next hb (box2_at rfl)
    have B := below_next (below_alloc _ _) hb
    clear hb
    go_wp2_with fail
    refine (HP.out _ B).mono ?_
    rintro y w2 ⟨rfl, hb⟩
    by_cases k2 : v < 0
    · have E3 := hid (show szS s left = -1 by rw [E2.out]; omega)
      go_wp2_with fail
      go_ret
      exact Ret.mk (int_val (by rw [E3.out])) (below_next B hb)
    · go_wp2_with fail
      go_ret
      exact Ret.mk (int_val (by rw [E2.out])) (below_next B hb)
end Sys
end Go.Proofs.Ytchlpeflfiecdaa
