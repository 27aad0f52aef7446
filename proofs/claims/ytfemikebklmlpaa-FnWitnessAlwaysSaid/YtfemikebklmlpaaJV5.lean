/- Joined texts (SysA, ExprSpecV, ExprSpecVB, ImplIn, ExprImplC, ExprImplV, ExprImplN, ExprSame, More, EdgeSpecV, EdgeImplV, TxtPlain): contracts and plain laws. Conditions: those of each theorem. -/
import Derived.Test.YtfemikebklmlpaaJV2
import Derived.Test.YtfemikebklmlpaaJV4
import Derived.Test.YtfemikebklmlpaaRows
import Derived.Test.YtfemikebklmlpaaJV0
import Derived.Test.YtfemikebklmlpaaJV1
import Derived.WalkSpells
import Derived.WalkLawsBesides
import Derived.Deep.DeepCutAuto
import Derived.Deep.CutBlock
set_option linter.unusedVariables false
set_option linter.unusedSimpArgs false
namespace Go.Proofs.Ytfemikebklmlpaa
open Go.RowKit
namespace Sys

theorem szE_ok : SzOk Edge.szE := fun e left h1 h2 => Edge.szE_bd e left h1 h2
def szEs (l : List Ed) (left : Int) : Int := szG Edge.szE l (left - l.length)
def szP (q : Pr) (left : Int) : Int := if szEs q.edges left < 0 then -1 else szEs q.edges left
theorem szP_eq (q : Pr) (left : Int) (h : left ≤ 1048576) : szP q left = szEs q.edges left := by
  have := szG_bd szE_ok q.edges (left - q.edges.length) (by omega)
  unfold szP szEs
  split <;> omega
theorem szP_ok : SzOk szP := fun q left _ h2 => by
  rw [szP_eq q left h2]
  exact szG_bd szE_ok q.edges (left - q.edges.length) (by omega)
def szPs (l : List Pr) (left : Int) : Int := szG szP l (left - l.length)
def szI (l : List Int) (left : Int) : Int := if left - l.length < 0 then -1 else left - l.length
def szS (s : Sy) (left : Int) : Int := if szI s.init left < 0 then -1 else szPs s.procs (szI s.init left)
theorem szS_bd (s : Sy) (left : Int) (_ : -1 ≤ left) (h2 : left ≤ 1048576) : -1 ≤ szS s left ∧ szS s left ≤ 1048576 := by
  unfold szS
  split
  · omega
  · refine szG_bd szP_ok _ _ ?_
    unfold szI; split <;> omega

/-- how many numbers are in it -/
def cE (e : Ed) : Int := nodesL e.guard.kids + nodesL e.val.kids
def cP (q : Pr) : Int := q.edges.length + sumC cE q.edges
def cS (s : Sy) : Int := s.init.length + s.procs.length + sumC cP s.procs
theorem cE_eq (e : Ed) (left : Int) (h1 : -1 ≤ left) (h2 : left ≤ 1048576) (h : 0 ≤ Edge.szE e left) : Edge.szE e left = left - cE e := by
  have hb := szT_bd e.guard left h1 h2
  unfold Edge.szE at h ⊢
  split at h
  · omega
  · rename_i k1
    split at h
    · omega
    · rename_i k2
      rw [if_neg k1, if_neg k2, szT_eq _ _ (by omega), szT_eq e.guard left (by omega)]
      unfold cE; omega
theorem cP_eq (q : Pr) (left : Int) (_ : -1 ≤ left) (h2 : left ≤ 1048576) (h : 0 ≤ szP q left) : szP q left = left - cP q := by
  rw [szP_eq q left h2] at h ⊢
  unfold szEs at h ⊢
  rw [szG_eq szE_ok cE_eq _ _ (by omega) h]
  unfold cP; omega
theorem cE_nonneg (e : Ed) : 0 ≤ cE e := by
  have := nodesL_pos e.guard.kids
  have := nodesL_pos e.val.kids
  unfold cE; omega
theorem cP_nonneg (q : Pr) : 0 ≤ cP q := by
  have := sumC_nonneg cE_nonneg q.edges
  unfold cP; omega
/-- a system not too large -/
structure SmallS (s : Sy) : Prop where
  init : s.init.length ≤ 1048576
  procs : s.procs.length ≤ 1048576
  edges : ∀ q, q ∈ s.procs → q.edges.length ≤ 1048576 ∧ ∀ e, e ∈ q.edges → Edge.SmallE e
  all : cS s ≤ 1048576
theorem small_of_sz (s : Sy) (h : 0 ≤ szS s 1048576) : SmallS s := by
  unfold szS at h
  split at h
  · omega
  · rename_i hi
    unfold szI at hi h
    split at hi
    · omega
    · rename_i hi2
      rw [if_neg hi2] at h
      unfold szPs at h
      have e := szG_eq szP_ok cP_eq _ _ (by omega) h
      have hn := sumC_nonneg cP_nonneg s.procs
      refine ⟨by omega, by omega, fun q hq => ?_, by unfold cS; omega⟩
      obtain ⟨lf, k1, k2, k3⟩ := szG_mem szP_ok _ _ (by omega) h hq
      have e2 := cP_eq q lf k1 k2 k3
      rw [szP_eq q lf k2] at k3
      unfold szEs at k3
      have hn2 := sumC_nonneg cE_nonneg q.edges
      refine ⟨by rw [cP] at e2; rw [szP_eq q lf k2] at e2; unfold szEs at e2; omega, fun x hx => ?_⟩
      obtain ⟨lf2, j1, j2, j3⟩ := szG_mem szE_ok _ _ (by omega) k3 hx
      exact Edge.smallE_of_sz x lf2 j1 j2 j3

/-- a variable of two cells -/
abbrev Box2 (w : World) (B : Nat) (a b : Value) : Prop := B < w.heap.size ∧ w.cell? ⟨B, 0, none⟩ = some a ∧ w.cell? ⟨B, 1, none⟩ = some b ∧ w.frozen? ⟨B, 0, none⟩ = false ∧ w.frozen? ⟨B, 1, none⟩ = false
theorem box2_next {w w' : World} (h : Below w.heap.size w w') {B : Nat} {a b : Value} (hb : Box2 w B a b) : Box2 w' B a b :=
  ⟨Nat.lt_of_lt_of_le hb.1 h.size, by rw [h.cell (p := ⟨B, 0, none⟩) hb.1]; exact hb.2.1, by rw [h.cell (p := ⟨B, 1, none⟩) hb.1]; exact hb.2.2.1,
    by rw [h.frozen (p := ⟨B, 0, none⟩) hb.1]; exact hb.2.2.2.1, by rw [h.frozen (p := ⟨B, 1, none⟩) hb.1]; exact hb.2.2.2.2⟩
theorem box2_at {w : World} {B : Nat} {a b : Value} {t : TypeId} (h : B = w.heap.size) : Box2 (w.alloc (.cells #[a, b] t)) B a b := by subst h; exact ⟨by simp, by simp, by simp, by simp, by simp⟩
theorem box2_set0 {w : World} {B : Nat} {a b : Value} (h : Box2 w B a b) (v : Value) : Box2 (w.setCell ⟨B, 0, none⟩ v) B v b :=
  ⟨by simpa using h.1, World.cell?_setCell_same _ _ _ h.2.1, by rw [World.cell?_setCell_other _ _ _ _ (by simp)]; exact h.2.2.1, by simpa using h.2.2.2.1, by simpa using h.2.2.2.2⟩
theorem box2_set1 {w : World} {B : Nat} {a b : Value} (h : Box2 w B a b) (v : Value) : Box2 (w.setCell ⟨B, 1, none⟩ v) B a v :=
  ⟨by simpa using h.1, by rw [World.cell?_setCell_other _ _ _ _ (by simp)]; exact h.2.1, World.cell?_setCell_same _ _ _ h.2.2.1, by simpa using h.2.2.2.1, by simpa using h.2.2.2.2⟩
theorem box2_block {w w' : World} (hs : w.heap.size ≤ w'.heap.size) {B : Nat} {a b : Value} (he : w'.heap[B]? = w.heap[B]?) (hb : Box2 w B a b) : Box2 w' B a b :=
  ⟨Nat.lt_of_lt_of_le hb.1 hs, by rw [World.cell?_of_block (w := w) (a := ⟨B, 0, none⟩) he]; exact hb.2.1, by rw [World.cell?_of_block (w := w) (a := ⟨B, 1, none⟩) he]; exact hb.2.2.1,
    by rw [World.frozen?_of_block (w := w) (a := ⟨B, 0, none⟩) he]; exact hb.2.2.2.1, by rw [World.frozen?_of_block (w := w) (a := ⟨B, 1, none⟩) he]; exact hb.2.2.2.2⟩
theorem box2_but {w w' : World} {D : Nat} (h : But w D w') {B : Nat} {a b : Value} (hd : B ≠ D) (hb : Box2 w B a b) : Box2 w' B a b := box2_block h.size (h.block B hb.1 hd) hb

end Sys
end Go.Proofs.Ytfemikebklmlpaa
namespace Go.Proofs.Ytfemikebklmlpaa
open Go.RowKit
namespace Expr

def arityV (k : Int) : Int := if k = 1 ∨ k = 2 then 0 else if k = 3 then 1 else if 4 ≤ k ∧ k ≤ 9 then 2 else -1
theorem arityV_ok {k v : Int} {n : Nat} : exprL.okB k v n = (decide ((n : Int) = arityV k) && decide (0 ≤ v ∧ v ≤ exprL.most k)) := by
  rw [Bool.eq_iff_iff, Lang.okB_iff, Bool.and_eq_true, decide_eq_true_eq, decide_eq_true_eq, exprL_K, exprL_ar]
  unfold arityV
  constructor
  · rintro ⟨h1, h2, h3⟩
    refine ⟨?_, h2⟩
    rw [h3]
    by_cases h4 : k = 1 ∨ k = 2
    · rw [if_pos h4, if_pos h4]
    · by_cases h5 : k = 3
      · rw [if_neg h4, if_neg h4, if_pos h5, if_pos h5]
      · rw [if_neg h4, if_neg h4, if_neg h5, if_neg h5, if_pos (by omega)]
  · rintro ⟨h1, h2⟩
    by_cases h4 : k = 1 ∨ k = 2
    · rw [if_pos h4] at h1; exact ⟨by omega, h2, by rw [if_pos h4]; exact h1⟩
    · by_cases h5 : k = 3
      · rw [if_neg h4, if_pos h5] at h1; exact ⟨by omega, h2, by rw [if_neg h4, if_pos h5]; exact h1⟩
      · by_cases h6 : 4 ≤ k ∧ k ≤ 9
        · rw [if_neg h4, if_neg h5, if_pos h6] at h1; exact ⟨by omega, h2, by rw [if_neg h4, if_neg h5]; exact h1⟩
        · rw [if_neg h4, if_neg h5, if_neg h6] at h1; omega
theorem arityV_bd (k : Int) : -1 ≤ arityV k ∧ arityV k ≤ 2 := by unfold arityV; split <;> (try split) <;> (try split) <;> omega

set_option maxHeartbeats 400000 in
theorem arity_any (k : Int) (w : World) : Calls Try.prog 108 #[.int .i64 k] w (Ret (.int .i64 (arityV k)) w) := by
  by_cases h1 : k = 1
  · subst h1
    go_enter Try.func108, Try.ntmps108
    go_wp2_with fail
    go_ret
    exact Ret.mk rfl (Below.refl _ _)
  by_cases h2 : k = 2
  · subst h2
    go_enter Try.func108, Try.ntmps108
    go_wp2_with fail
    go_ret
    exact Ret.mk rfl (Below.refl _ _)
  by_cases h3 : k = 3
  · subst h3
    go_enter Try.func108, Try.ntmps108
    go_wp2_with fail
    go_ret
    exact Ret.mk rfl (Below.refl _ _)
  have e1 : (k == 1) = false := by simpa using h1
  have e2 : (k == 2) = false := by simpa using h2
  have e3 : (k == 3) = false := by simpa using h3
  have E := hid (show arityV k = if 4 ≤ k ∧ k ≤ 9 then 2 else -1 by unfold arityV; rw [if_neg (by omega), if_neg h3])
  clear h1 h2 h3
  by_cases h4 : 4 ≤ k
  · by_cases h9 : k ≤ 9
    · go_enter Try.func108, Try.ntmps108
      go_wp2_with fail
      go_ret
      exact Ret.mk (int_val (by rw [E.out, if_pos ⟨h4, h9⟩])) (Below.refl _ _)
    · go_enter Try.func108, Try.ntmps108
      go_wp2_with fail
      go_ret
      exact Ret.mk (int_val (by rw [E.out, if_neg (by omega)])) (Below.refl _ _)
  · go_enter Try.func108, Try.ntmps108
    go_wp2_with fail
    go_ret
    exact Ret.mk (int_val (by rw [E.out, if_neg (by omega)])) (Below.refl _ _)

def ShT (t : Tr) : Prop := ∀ (w : World) (x : Value) (d : Int), TrIn Any w t x → -1 ≤ d → d ≤ 6 → Calls Try.prog 109 #[x, .int .i64 d] w (Ret (.bool (exprL.shape t d)) w)

set_option maxHeartbeats 1000000 in
theorem shT_of (k v : Int) (kids : List Tr) (h : ∀ t, t ∈ kids → ShT t) : ShT (.mk k v kids) := by
  intro w x d hx hd1 hd2
  rw [TrIn_mk] at hx
  obtain ⟨a, n, c, rfl, hk, hv, rfl, hc, hc2, hks⟩ := hx
  by_cases hd : d < 1
  · have E := hid (show exprL.shape (.mk k v kids) d = false by simp only [Lang.shape]; rw [decide_eq_false (by omega), Bool.false_and])
    have hd' : decide (d < 1) = true := by simpa using hd
    go_enter Try.func109, Try.ntmps109
    go_wp2_with fail
    refine wp_region_over (by kernel_rfl) (by kernel_rfl) ?_; (repeat (go_big_quiet_step ((fail)))); refine wpQuiet_nil ?_; rintro _ ⟨xq, rfl⟩
    go_wp2_with fail
    go_ret
    exact Ret.mk (bool_val E.out.symm) (by repeat (first | exact Below.refl _ _ | assumption | refine below_a ?_ _ | refine below_o ?_ _ | refine below_d ?_ | refine below_n ?_ _ | refine below_s ?_ (by first | (simp; done) | (simp; omega) | omega) _))
  have E0 := hid (show exprL.shape (.mk k v kids) d = (exprL.okB k v kids.length && exprL.shapeL kids (d - 1)) by simp only [Lang.shape]; rw [decide_eq_true (by omega), Bool.true_and])
  have hd' : decide (d < 1) = false := by simpa using hd
  by_cases hn : (kids.length : Int) = arityV k
  · have hn1 : ((kids.length : Int) != arityV k) = false := by simpa using hn
    have HN := hid hn; clear hn
    go_enter Try.func109, Try.ntmps109
    go_wp2_with fail
    refine wp_region_over (by kernel_rfl) (by kernel_rfl) ?_; (repeat (go_big_quiet_step ((go_at_call 108; exact Calls.over (arity_any _ _))))); refine wpQuiet_nil ?_; rintro _ ⟨xq, rfl⟩
    go_upto_block 0 with fail
    go_cut [5] (fun s5 wx => s5 = .int .i64 (exprL.most k) ∧ Below w.heap.size w wx ∧ w.heap.size < wx.heap.size ∧ wx.cell? ⟨w.heap.size, 0, none⟩ = some (.int .i64 k) ∧ wx.cell? ⟨w.heap.size, 1, none⟩ = some (.int .i64 v) ∧ wx.cell? ⟨w.heap.size, 2, none⟩ = some (.slice a kids.length c))
    case first =>
      go_wp2_with fail
      all_goals go_meet
      all_goals refine ⟨int_val ?_, (by repeat (first | exact Below.refl _ _ | assumption | refine below_a ?_ _ | refine below_o ?_ _ | refine below_d ?_ | refine below_n ?_ _ | refine below_s ?_ (by first | (simp; done) | (simp; omega) | omega) _)), by simp [go_sem], by simp [go_sem], by simp [go_sem], by simp [go_sem]⟩
      all_goals first
        | (have e := ‹(k == 1) = true›; simp at e; rw [exprL_most, if_pos e])
        | (have e1 := ‹(k == 1) = false›; have e := ‹(k == 2) = true›; simp at e1 e; rw [exprL_most, if_neg e1, if_pos e])
        | (have e1 := ‹(k == 1) = false›; have e := ‹(k == 2) = false›; simp at e1 e; rw [exprL_most, if_neg e1, if_neg e])
    case rest =>
      obtain ⟨rfl, hb, hsz, q0, q1, q2⟩ := hcut
      by_cases hv0 : v < 0
      · have E := hid (show exprL.shape (.mk k v kids) d = false by rw [E0.out, arityV_ok, decide_eq_false (show ¬(0 ≤ v ∧ v ≤ exprL.most k) by omega)]; simp)
        go_wp2_with fail
        go_ret
        exact Ret.mk (bool_val E.out.symm) hb
      by_cases hv1 : exprL.most k < v
      · have E := hid (show exprL.shape (.mk k v kids) d = false by rw [E0.out, arityV_ok, decide_eq_false (show ¬(0 ≤ v ∧ v ≤ exprL.most k) by omega)]; simp)
        go_wp2_with fail
        go_ret
        exact Ret.mk (bool_val E.out.symm) hb
      have E := hid (show exprL.shape (.mk k v kids) d = exprL.shapeL kids (d - 1) by rw [E0.out, arityV_ok, decide_eq_true HN.out, decide_eq_true (show (0 ≤ v ∧ v ≤ exprL.most k) by omega)]; simp)
      unfold maxLen at hc2
      go_wp2_with fail
      clear q0 q1
      go_loopw [6] (fun i wr => ∃ j : Nat, j ≤ kids.length ∧ i = .int .i64 j ∧ Below w.heap.size w wr ∧ w.heap.size < wr.heap.size ∧ wr.cell? ⟨w.heap.size, 2, none⟩ = some (.slice a kids.length c) ∧ Hid (exprL.shapeL (kids.drop j) (d - 1) = exprL.shapeL kids (d - 1)))
        (fun i _ => kids.length - (intOf i).toNat)
      case atStart => exact ⟨0, Nat.zero_le _, rfl, hb, hsz, q2, hid rfl⟩
      case round =>
        clear hb hsz q2
        obtain ⟨j, hj, rfl, hb, hsz, q2, hr⟩ := hrel
        by_cases hlt : j < kids.length
        · obtain ⟨b, o, c0, c1, c2, t, rfl, gb, g0, g1, g2, hT⟩ := TrsIn_round hks hb hlt
          have HR2 := hr.out
          rw [hT.out.2.2.1] at HR2
          simp only [Lang.shapeL] at HR2
          have HR := hid HR2; clear HR2
          go_wp2_with fail
          refine (h t hT.out.2.1 _ _ (d - 1) hT.out.1 (by omega) (by omega)).mono ?_
          rintro e w2 ⟨rfl, hby⟩
          obtain ⟨y, rfl⟩ := bex hby
          clear hby
          cases hq : exprL.shape t (d - 1) with
          | true =>
            have HR3 := HR.out
            rw [hq, Bool.true_and] at HR3
            have HR4 := hid HR3; clear HR3 hq
            go_wp2_with fail
            go_roundw
            case rel => exact ⟨j + 1, by omega, by go_num, (by repeat (first | exact Below.refl _ _ | assumption | refine below_a ?_ _ | refine below_o ?_ _ | refine below_d ?_ | refine below_n ?_ _ | refine below_s ?_ (by first | (simp; done) | (simp; omega) | omega) _)), by simp [go_sem, hsz], by simp [go_sem, hsz, q2], HR4⟩
            case measure => simp [intOf]; omega
          | false =>
            have HR3 := HR.out
            rw [hq, Bool.false_and] at HR3
            have HR4 := hid HR3; clear HR3 hq
            go_wp2_with fail
            go_ret
            exact Ret.mk (bool_val (HR4.out.trans E.out.symm)) (by repeat (first | exact Below.refl _ _ | assumption | refine below_a ?_ _ | refine below_o ?_ _ | refine below_d ?_ | refine below_n ?_ _ | refine below_s ?_ (by first | (simp; done) | (simp; omega) | omega) _))
        · have HR2 := hr.out
          rw [List.drop_of_length_le (by omega)] at HR2
          have HR := hid HR2; clear HR2
          go_wp2_with fail
          go_ret
          exact Ret.mk (bool_val (HR.out.trans E.out.symm)) hb
  · have hn1 : ((kids.length : Int) != arityV k) = true := by simpa using hn
    have E := hid (show exprL.shape (.mk k v kids) d = false by rw [E0.out, arityV_ok, decide_eq_false hn]; simp)
    clear hn
    go_enter Try.func109, Try.ntmps109
    go_wp2_with fail
    refine wp_region_over (by kernel_rfl) (by kernel_rfl) ?_; (repeat (go_big_quiet_step ((go_at_call 108; exact Calls.over (arity_any _ _))))); refine wpQuiet_nil ?_; rintro _ ⟨xq, rfl⟩
    go_wp2_with fail
    go_ret
    exact Ret.mk (bool_val E.out.symm) (by repeat (first | exact Below.refl _ _ | assumption | refine below_a ?_ _ | refine below_o ?_ _ | refine below_d ?_ | refine below_n ?_ _ | refine below_s ?_ (by first | (simp; done) | (simp; omega) | omega) _))

theorem shape_any : ∀ t, ShT t := fun t => Tr.ind (fun k v kids ih => shT_of k v kids ih) t

end Expr
end Go.Proofs.Ytfemikebklmlpaa
namespace Go.Proofs.Ytfemikebklmlpaa
open Go.RowKit
namespace Expr

def CntT (t : Tr) : Prop := ∀ (w : World) (x : Value) (d : Int), TrIn Any w t x → 0 ≤ d → d ≤ 6 → nodes t ≤ 1000 → Calls Try.prog 110 #[x, .int .i64 d] w (Ret (.int .i64 (cnt t d)) w)

set_option maxHeartbeats 1000000 in
theorem cntT_of (k v : Int) (kids : List Tr) (h : ∀ t, t ∈ kids → CntT t) : CntT (.mk k v kids) := by
  intro w x d hx hd1 hd2 hn
  rw [TrIn_mk] at hx
  obtain ⟨a, n, c, rfl, hk, hv, rfl, hc, hc2, hks⟩ := hx
  unfold maxLen at hc2
  have hbnd := cnt_le_nodesL kids (d - 1)
  simp only [nodes] at hn
  have E := hid (show cnt (.mk k v kids) d = 1 + if 0 < d then cntL kids (d - 1) else 0 by simp only [cnt])
  by_cases hd : 0 < d
  · go_enter Try.func110, Try.ntmps110
    go_wp2_with fail
    go_loopw [5, 6] (fun s i wr => ∃ (j : Nat) (m : Int), j ≤ kids.length ∧ s = .int .i64 m ∧ i = .int .i64 j ∧ 1 ≤ m ∧ m ≤ 1001 ∧ Below w.heap.size w wr ∧ w.heap.size < wr.heap.size ∧ wr.cell? ⟨w.heap.size, 2, none⟩ = some (.slice a kids.length c) ∧ Hid (m + cntL (kids.drop j) (d - 1) = 1 + cntL kids (d - 1)))
      (fun _ i _ => kids.length - (intOf i).toNat)
    case atStart => exact ⟨0, 1, Nat.zero_le _, rfl, rfl, by omega, by omega, (by repeat (first | exact Below.refl _ _ | assumption | refine below_a ?_ _ | refine below_o ?_ _ | refine below_d ?_ | refine below_n ?_ _ | refine below_s ?_ (by first | (simp; done) | (simp; omega) | omega) _)), by simp, by simp [go_sem], hid rfl⟩
    case round =>
      obtain ⟨j, m, hj, rfl, rfl, hm1, hm2, hb, hsz, q2, hr⟩ := hrel
      by_cases hlt : j < kids.length
      · obtain ⟨b, o, c0, c1, c2, t, rfl, gb, g0, g1, g2, hT⟩ := TrsIn_round hks hb hlt
        have HR2 := hr.out
        rw [hT.out.2.2.1] at HR2
        simp only [cntL] at HR2
        have hp := cntL_pos (kids.drop (j + 1)) (d - 1)
        have hp2 := cnt_pos t (d - 1)
        have hm3 : m + cnt t (d - 1) ≤ 1001 := by omega
        have HR := hid (show m + cnt t (d - 1) + cntL (kids.drop (j + 1)) (d - 1) = 1 + cntL kids (d - 1) by omega); clear HR2
        have htn : nodes t ≤ 1000 := by have := nodes_mem hT.out.2.1; omega
        clear hp
        go_wp2_with fail
        refine (h t hT.out.2.1 _ _ (d - 1) hT.out.1 (by omega) (by omega) htn).mono ?_
        rintro e w2 ⟨rfl, hby⟩
        obtain ⟨y, rfl⟩ := bex hby
        clear hby
        go_wp2_with fail
        go_roundw
        case rel => exact ⟨j + 1, m + cnt t (d - 1), by omega, rfl, by go_num, by omega, hm3, (by repeat (first | exact Below.refl _ _ | assumption | refine below_a ?_ _ | refine below_o ?_ _ | refine below_d ?_ | refine below_n ?_ _ | refine below_s ?_ (by first | (simp; done) | (simp; omega) | omega) _)), by simp [go_sem, hsz], by simp [go_sem, hsz, q2], HR⟩
        case measure => simp [intOf]; omega
      · have HR2 := hr.out
        rw [List.drop_of_length_le (by omega)] at HR2
        simp only [cntL] at HR2
        have HR := hid (show m = cnt (.mk k v kids) d by rw [E.out, if_pos hd]; omega); clear HR2
        go_wp2_with fail
        go_ret
        exact Ret.mk (int_val HR.out) hb
  · have E2 := hid (show cnt (.mk k v kids) d = 1 by rw [E.out, if_neg hd]; omega)
    go_enter Try.func110, Try.ntmps110
    go_wp2_with fail
    go_loopw [5, 6] (fun s i wr => s = .int .i64 1 ∧ i = .int .i64 0 ∧ Below w.heap.size w wr ∧ w.heap.size < wr.heap.size ∧ wr.cell? ⟨w.heap.size, 2, none⟩ = some (.slice a kids.length c)) (fun _ _ _ => 0)
    case atStart => exact ⟨rfl, rfl, (by repeat (first | exact Below.refl _ _ | assumption | refine below_a ?_ _ | refine below_o ?_ _ | refine below_d ?_ | refine below_n ?_ _ | refine below_s ?_ (by first | (simp; done) | (simp; omega) | omega) _)), by simp, by simp [go_sem]⟩
    case round =>
      obtain ⟨rfl, rfl, hb, hsz, q2⟩ := hrel
      by_cases hlt : 0 < kids.length
      all_goals
        go_wp2_with fail
        go_ret
        exact Ret.mk (int_val E2.out.symm) hb

theorem cnt_any : ∀ t, CntT t := fun t => Tr.ind (fun k v kids ih => cntT_of k v kids ih) t

set_option maxHeartbeats 400000 in
/-- the reference's ExprValid -/
theorem specValid_any (t : Tr) (w : World) (x : Value) (hx : TrIn Any w t x) : Calls Try.prog 105 #[x] w (Ret (.bool (exprL.valid t)) w) := by
  have hx0 := hx
  obtain ⟨a, c, rfl⟩ := TrIn_shape hx
  have E := hid (exprL.valid_cnt t)
  cases hs : exprL.shape t 6 with
  | false =>
    have E2 := E.out
    rw [hs, Bool.false_and] at E2
    have E3 := hid E2; clear E2
    go_enter Try.func105, Try.ntmps105
    go_wp2_with fail
    refine (shape_any t _ _ 6 (TrIn_alloc hx _) (by omega) (by omega)).mono ?_
    rintro e w2 ⟨rfl, hby⟩
    obtain ⟨y, rfl⟩ := bex hby
    clear hby
    rw [hs]
    clear hs
    go_wp2_with fail
    go_ret
    exact Ret.mk (bool_val E3.out.symm) (by repeat (first | exact Below.refl _ _ | assumption | refine below_a ?_ _ | refine below_o ?_ _ | refine below_d ?_ | refine below_n ?_ _ | refine below_s ?_ (by first | (simp; done) | (simp; omega) | omega) _))
  | true =>
    have E2 := E.out
    rw [hs, Bool.true_and] at E2
    have E3 := hid E2; clear E2
    have hn : nodes t ≤ 1000 := by have := Lang.nodes_cap exprL exprL_two t 6 hs; rw [Lang.cap6] at this; omega
    go_enter Try.func105, Try.ntmps105
    go_wp2_with fail
    refine (shape_any t _ _ 6 (TrIn_alloc hx _) (by omega) (by omega)).mono ?_
    rintro e w2 ⟨rfl, hby⟩
    obtain ⟨y, rfl⟩ := bex hby
    clear hby
    rw [hs]
    clear hs
    go_wp2_with fail
    refine (cnt_any t _ _ 6 (TrIn_over (TrIn_alloc hx _) _) (by omega) (by omega) hn).mono ?_
    rintro e w3 ⟨rfl, hby⟩
    obtain ⟨y2, rfl⟩ := bex hby
    clear hby
    go_wp2_with fail
    all_goals go_ret
    all_goals refine Ret.mk (bool_val ?_) (by repeat (first | exact Below.refl _ _ | assumption | refine below_a ?_ _ | refine below_o ?_ _ | refine below_d ?_ | refine below_n ?_ _ | refine below_s ?_ (by first | (simp; done) | (simp; omega) | omega) _))
    all_goals rw [E3.out]
    all_goals rfl

end Expr
end Go.Proofs.Ytfemikebklmlpaa
namespace Go.Proofs.Ytfemikebklmlpaa
open Go.RowKit

/-- is a number in a range -/
def inB (a b c : Int) : Bool := decide (b ≤ a ∧ a ≤ c)
set_option maxHeartbeats 400000 in
theorem in_any (a b c : Int) (w : World) : Calls Try.prog 36 #[.int .i64 a, .int .i64 b, .int .i64 c] w (RetW (.bool (inB a b c)) w) := by
  by_cases h1 : b ≤ a
  · have E := hid (show decide (a ≤ c) = inB a b c by simp [inB, h1])
    go_enter Try.func36, Try.ntmps36
    go_wp2_with fail
    go_ret
    exact ⟨congrArg (fun x => Ending.returned (.bool x)) E.out, rfl⟩
  · have E := hid (show false = inB a b c by simp [inB]; omega)
    go_enter Try.func36, Try.ntmps36
    go_wp2_with fail
    go_ret
    exact ⟨congrArg (fun x => Ending.returned (.bool x)) E.out, rfl⟩
theorem in_yes {a b c : Int} (h : b ≤ a ∧ a ≤ c) (w : World) : Calls Try.prog 36 #[.int .i64 a, .int .i64 b, .int .i64 c] w (RetW (.bool true) w) := by
  have := in_any a b c w
  rwa [inB, decide_eq_true h] at this
theorem in_no {a b c : Int} (h : ¬(b ≤ a ∧ a ≤ c)) (w : World) : Calls Try.prog 36 #[.int .i64 a, .int .i64 b, .int .i64 c] w (RetW (.bool false) w) := by
  have := in_any a b c w
  rwa [inB, decide_eq_false h] at this

theorem upd_past {w W W' : World} {R : Nat} {v : Value} (h : Upd W R v W') (hb : Below w.heap.size w W) (hR : R < w.heap.size) : Upd w R v W' :=
  (Upd.of_below hb hR).trans_below h
theorem Calls.over_same {P : Program} {f : FuncId} {args : Array Value} {w : World} {x : Over w} {v : Value} (h : Calls P f args (w.over x) (RetW v (w.over x))) :
    Calls P f args (w.over x) fun e w'' => e = .returned v ∧ ∃ m, w'' = w.over m :=
  h.mono fun _ _ ⟨he, hy⟩ => ⟨he, x, hy⟩

end Go.Proofs.Ytfemikebklmlpaa
namespace Go.Proofs.Ytfemikebklmlpaa
open Go.RowKit
namespace Expr
/-- what a call of walk comes to: the counter, in block R, is m behind it -/
def WkPost (v : Value) (R : Nat) (m : Int) (w : World) (e : Ending) (w' : World) : Prop := e = .returned v ∧ Upd w R (.int .i64 m) w'

/-- what a call of IndexFunc comes to: an index, not negative exactly where some node failed -/
def IxPost (bad : Bool) (R : Nat) (m : Int) (w : World) (e : Ending) (w' : World) : Prop := ∃ i : Int, e = .returned (.int .i64 i) ∧ decide (0 ≤ i) = bad ∧ Upd w R (.int .i64 m) w'

end Expr
end Go.Proofs.Ytfemikebklmlpaa
namespace Go.Proofs.Ytfemikebklmlpaa
open Go.RowKit
namespace Expr
end Expr
end Go.Proofs.Ytfemikebklmlpaa
namespace Go.Proofs.Ytfemikebklmlpaa
open Go.RowKit
namespace Expr
end Expr
end Go.Proofs.Ytfemikebklmlpaa
namespace Go.Proofs.Ytfemikebklmlpaa
open Go.RowKit
namespace Expr



end Expr
end Go.Proofs.Ytfemikebklmlpaa
namespace Go.Proofs.Ytfemikebklmlpaa
open Go.RowKit

/-- of the world where the walk stands only this is kept -/
theorem wp_gen {P : Program} {C : Code} {Q : Exit → Act → World → Prop} {a : Act} {w0 : World} (R : World → Prop) (h0 : R w0) (h : ∀ W, R W → C.wp P Q a W) : C.wp P Q a w0 := h _ h0
/-- three cells of an old node, in a later world -/
theorem cells_next {w W : World} (B : Below w.heap.size w W) {b o : Nat} {c0 c1 c2 : Value} (hb : b < w.heap.size) (g0 : w.cell? ⟨b, o, none⟩ = some c0) (g1 : w.cell? ⟨b, o + 1, none⟩ = some c1) (g2 : w.cell? ⟨b, o + 2, none⟩ = some c2) :
    W.cell? ⟨b, o, none⟩ = some c0 ∧ W.cell? ⟨b, o + 1, none⟩ = some c1 ∧ W.cell? ⟨b, o + 2, none⟩ = some c2 :=
  ⟨(B.cell (p := ⟨b, o, none⟩) hb).trans g0, (B.cell (p := ⟨b, o + 1, none⟩) hb).trans g1, (B.cell (p := ⟨b, o + 2, none⟩) hb).trans g2⟩

end Go.Proofs.Ytfemikebklmlpaa
namespace Go.Proofs.Ytfemikebklmlpaa
open Go.RowKit
namespace Edge

/-- the empty expression -/
def none0 : Tr := .mk 0 0 []
theorem none0_in (p : Nat → Prop) (w : World) : TrIn p w none0 (.agg #[.int .i64 0, .int .i64 0, .slice none 0 0]) :=
  (TrIn_mk ..).2 ⟨none, 0, 0, rfl, by unfold i64; omega, by unfold i64; omega, rfl, Nat.le_refl _, Nat.zero_le _, TrsIn_nil _ _ _⟩
def isNone (t : Tr) : Bool := decide (t.kind = 0) && (decide (t.val = 0) && decide (t.kids.length = 0))
theorem isNone_eq (t : Tr) : eqT t none0 = isNone t := by
  rw [Bool.eq_iff_iff, eqT_true]
  simp only [isNone, Bool.and_eq_true, decide_eq_true_eq]
  cases t with
  | mk k v kids => cases kids <;> simp [none0, Tr.kind, Tr.val, Tr.kids]

theorem none_any (t : Tr) (w : World) (x : Value) (hx : TrIn Any w t x) : Calls Try.prog 111 #[x] w (Ret (.bool (isNone t)) w) := by
  obtain ⟨a, c, rfl⟩ := TrIn_shape hx
  by_cases h1 : t.kind = 0
  · by_cases h2 : t.val = 0
    · have E := hid (show isNone t = decide ((t.kids.length : Int) = 0) by simp [isNone, h1, h2])
      go_enter Try.func111, Try.ntmps111
      go_wp2_with fail
      go_ret
      exact Ret.mk (bool_val (by rw [E.out, Bool.eq_iff_iff]; simp)) (by repeat (first | exact Below.refl _ _ | assumption | refine below_a ?_ _ | refine below_o ?_ _ | refine below_d ?_ | refine below_n ?_ _ | refine below_s ?_ (by first | (simp; done) | (simp; omega) | omega) _))
    · have E := hid (show isNone t = false by simp [isNone, h2])
      go_enter Try.func111, Try.ntmps111
      go_wp2_with fail
      go_ret
      exact Ret.mk (bool_val (by rw [E.out])) (by repeat (first | exact Below.refl _ _ | assumption | refine below_a ?_ _ | refine below_o ?_ _ | refine below_d ?_ | refine below_n ?_ _ | refine below_s ?_ (by first | (simp; done) | (simp; omega) | omega) _))
  · have E := hid (show isNone t = false by simp [isNone, h1])
    go_enter Try.func111, Try.ntmps111
    go_wp2_with fail
    go_ret
    exact Ret.mk (bool_val (by rw [E.out])) (by repeat (first | exact Below.refl _ _ | assumption | refine below_a ?_ _ | refine below_o ?_ _ | refine below_d ?_ | refine below_n ?_ _ | refine below_s ?_ (by first | (simp; done) | (simp; omega) | omega) _))

def okV (e : Ed) (g v : Bool) : Bool := g && (decide (-2 ≤ e.sync ∧ e.sync ≤ 2) && (decide (-1 ≤ e.var ∧ e.var ≤ 2) && (if e.var < 0 then isNone e.val else v)))
/-- is an edge valid among so many locations -/
def okB (e : Ed) (n : Int) : Bool := decide ((0 ≤ e.src ∧ e.src < n) ∧ (0 ≤ e.dst ∧ e.dst < n) ∧ n ≤ 4) && okV e (exprL.valid e.guard) (exprL.valid e.val)

set_option maxHeartbeats 4000000 in
theorem specEdge_any (e : Ed) (n : Int) (w : World) (x : Value) (hx : EdIn Any w e x) : Calls Try.prog 106 #[x, .int .i64 n] w (Ret (.bool (okB e n)) w) := by
  obtain ⟨a, c, a', c', rfl, _, _, _, _, hg, hv⟩ := hx
  have HG := hid (fun w' (M : Below w.heap.size w w') => Expr.specValid_any e.guard w' _ (TrIn_below M hg))
  have HV := hid (fun w' (M : Below w.heap.size w w') => Expr.specValid_any e.val w' _ (TrIn_below M hv))
  have HN := hid (fun w' (M : Below w.heap.size w w') => none_any e.val w' _ (TrIn_below M hv))
  clear hg hv
  by_cases h0 : (0 ≤ e.src ∧ e.src < n) ∧ (0 ≤ e.dst ∧ e.dst < n) ∧ n ≤ 4
  · obtain ⟨⟨h1, h2⟩, ⟨h3, h4⟩, h5⟩ := h0
    have E0 := hid (show okB e n = okV e (exprL.valid e.guard) (exprL.valid e.val) by simp [okB, h1, h2, h3, h4, h5])
    generalize exprL.valid e.guard = g at *
    generalize exprL.valid e.val = v at *
    cases g with
    | false =>
      have E := hid (show okB e n = false by rw [E0.out]; rfl)
      go_enter Try.func106, Try.ntmps106
      go_wp2_with fail
      refine (HG.out _ (below_alloc _ _)).mono ?_
      rintro y w1 ⟨rfl, hb⟩
      obtain ⟨z, ⟨k0, k1, k2, k3, k4, k5, k6, k7, k8, k9⟩, _⟩ := box10_next hb (box10_new ..)
      have B := below_next (below_alloc _ _) hb
      clear hb
      go_wp2_with fail
      go_ret
      exact Ret.mk (bool_val (by rw [E.out])) B
    | true =>
      by_cases h6 : -2 ≤ e.sync ∧ e.sync ≤ 2
      · by_cases h7 : -1 ≤ e.var ∧ e.var ≤ 2
        · obtain ⟨h6, h6'⟩ := h6
          obtain ⟨h7, h7'⟩ := h7
          by_cases h8 : e.var < 0
          · have E := hid (show okB e n = isNone e.val by rw [E0.out]; simp [okV, h6, h6', h7, h7', h8])
            have h9 : ¬ (e.var ≥ 0) := by omega
            generalize isNone e.val = q at *
            cases q
            all_goals
              go_enter Try.func106, Try.ntmps106
              go_wp2_with fail
              refine (HG.out _ (below_alloc _ _)).mono ?_
              rintro y w1 ⟨rfl, hb⟩
              have bx := box10_next hb (box10_new ..)
              have B := below_next (below_alloc _ _) hb
              clear hb
              obtain ⟨z, ⟨k0, k1, k2, k3, k4, k5, k6, k7, k8, k9⟩, _⟩ := id bx
              go_wp2_with fail
              refine (HN.out _ B).mono ?_
              rintro y w2 ⟨rfl, hb⟩
              obtain ⟨z, ⟨k0, k1, k2, k3, k4, k5, k6, k7, k8, k9⟩, _⟩ := box10_next hb bx
              replace B := below_next B hb
              clear hb bx
              go_wp2_with fail
              go_ret
              exact Ret.mk (bool_val (by rw [E.out])) B
          · have E := hid (show okB e n = v by rw [E0.out]; simp [okV, h6, h6', h7, h7', h8])
            have h9 : e.var ≥ 0 := by omega
            go_enter Try.func106, Try.ntmps106
            go_wp2_with fail
            refine (HG.out _ (below_alloc _ _)).mono ?_
            rintro y w1 ⟨rfl, hb⟩
            have bx := box10_next hb (box10_new ..)
            have B := below_next (below_alloc _ _) hb
            clear hb
            obtain ⟨z, ⟨k0, k1, k2, k3, k4, k5, k6, k7, k8, k9⟩, _⟩ := id bx
            go_wp2_with fail
            refine (HV.out _ B).mono ?_
            rintro y w2 ⟨rfl, hb⟩
            obtain ⟨z, ⟨k0, k1, k2, k3, k4, k5, k6, k7, k8, k9⟩, _⟩ := box10_next hb bx
            replace B := below_next B hb
            clear hb bx
            go_wp2_with fail
            go_ret
            exact Ret.mk (bool_val (by rw [E.out])) B
        · have E := hid (show okB e n = false by rw [E0.out]; simp [okV]; omega)
          obtain ⟨h6, h6'⟩ := h6
          have h7' : e.var < -1 ∨ (¬ e.var < -1 ∧ e.var ≥ 3) := by omega
          clear h7
          rcases h7' with h7 | ⟨h7, h8⟩
          all_goals
            go_enter Try.func106, Try.ntmps106
            go_wp2_with fail
            refine (HG.out _ (below_alloc _ _)).mono ?_
            rintro y w1 ⟨rfl, hb⟩
            obtain ⟨z, ⟨k0, k1, k2, k3, k4, k5, k6, k7, k8, k9⟩, _⟩ := box10_next hb (box10_new ..)
            have B := below_next (below_alloc _ _) hb
            clear hb
            go_wp2_with fail
            go_ret
            exact Ret.mk (bool_val (by rw [E.out])) B
      · have E := hid (show okB e n = false by rw [E0.out]; simp [okV]; omega)
        have h6' : e.sync < -2 ∨ (¬ e.sync < -2 ∧ e.sync > 2) := by omega
        clear h6
        rcases h6' with h7 | ⟨h7, h8⟩
        all_goals
          go_enter Try.func106, Try.ntmps106
          go_wp2_with fail
          refine (HG.out _ (below_alloc _ _)).mono ?_
          rintro y w1 ⟨rfl, hb⟩
          obtain ⟨z, ⟨k0, k1, k2, k3, k4, k5, k6, k7, k8, k9⟩, _⟩ := box10_next hb (box10_new ..)
          have B := below_next (below_alloc _ _) hb
          clear hb
          go_wp2_with fail
          go_ret
          exact Ret.mk (bool_val (by rw [E.out])) B
  · have E := hid (show okB e n = false by simp only [okB, decide_eq_false h0, Bool.false_and])
    have h1 : e.src < 0 ∨ (¬ e.src < 0 ∧ e.src ≥ n) ∨ (¬ e.src < 0 ∧ ¬ e.src ≥ n ∧ e.dst < 0) ∨ (¬ e.src < 0 ∧ ¬ e.src ≥ n ∧ ¬ e.dst < 0 ∧ e.dst ≥ n) ∨ (¬ e.src < 0 ∧ ¬ e.src ≥ n ∧ ¬ e.dst < 0 ∧ ¬ e.dst ≥ n ∧ n > 4) := by omega
    clear h0
    rcases h1 with h1 | ⟨h1, h2⟩ | ⟨h1, h2, h3⟩ | ⟨h1, h2, h3, h4⟩ | ⟨h1, h2, h3, h4, h5⟩
    all_goals
      go_enter Try.func106, Try.ntmps106
      go_wp2_with fail
      go_ret
      exact Ret.mk (bool_val (by rw [E.out])) (below_alloc _ _)
end Edge
end Go.Proofs.Ytfemikebklmlpaa
namespace Go.Proofs.Ytfemikebklmlpaa
open Go.RowKit
namespace Edge

end Edge
end Go.Proofs.Ytfemikebklmlpaa
namespace Go.Proofs.Ytfemikebklmlpaa

/-- a string of given bytes -/
def bs (l : List UInt8) : ByteArray := ⟨l.toArray⟩
theorem bs_append (a b : List UInt8) : bs a ++ bs b = bs (a ++ b) := by
  unfold bs; rw [ByteArray.mk_append_mk]
theorem bs_size (a : List UInt8) : (bs a).size = a.length := by simp [bs, ByteArray.size]
theorem bs_inj {a b : List UInt8} (h : bs a = bs b) : a = b := by
  have := congrArg (fun x => x.data.toList) h
  simpa [bs] using this

theorem str_val {a b : ByteArray} (h : a = b) : Value.string a = .string b := by rw [h]
/-- how a language writes a node: what stands ahead of it, and what stands between two operands -/
structure TLang where
  pre : Int → Int → List UInt8
  mid : Int → List UInt8
  pre2 : ∀ k v, (pre k v).length ≤ 2
  mid1 : ∀ k, (mid k).length ≤ 1

def nodeTxt (pre mid : List UInt8) : List (List UInt8) → List UInt8
  | [] => pre
  | [a] => pre ++ a
  | a :: b :: _ => pre ++ (a ++ (mid ++ (b ++ [41])))

namespace TLang
variable (L : TLang)
mutual
def txt : Tr → List UInt8 | .mk k v kids => nodeTxt (L.pre k v) (L.mid k) (txts kids)
def txts : List Tr → List (List UInt8) | [] => [] | t :: ts => txt t :: txts ts
end
theorem txts_map : ∀ l, L.txts l = l.map L.txt | [] => by simp [txts] | t :: ts => by simp [txts, txts_map ts]

mutual
theorem txt_len : ∀ t, ((L.txt t).length : Int) ≤ 4 * nodes t
  | .mk k v kids => by
    have h1 := L.pre2 k v
    have h2 := L.mid1 k
    have hp := nodesL_pos kids
    simp only [txt, nodes]
    match kids with
    | [] => simp [txts, nodeTxt, nodesL]; omega
    | [a] => have ha := txt_len a; simp [txts, nodeTxt, nodesL]; omega
    | a :: b :: r =>
      have ha := txt_len a
      have hb := txt_len b
      have hr := nodesL_pos r
      simp [txts, nodeTxt, nodesL]; omega
end
end TLang

/-- a byte above another -/
def byte (n : Int) : UInt8 := UInt8.ofNat n.toNat

def exprT : TLang where
  pre k v := if k = 1 then [byte (48 + v)] else if k = 2 then [byte (120 + v)] else if k = 3 then [33] else [40]
  mid k := if k = 4 then [38] else if k = 5 then [124] else if k = 6 then [61] else if k = 7 then [60] else if k = 8 then [43] else [45]
  pre2 k v := by repeat' split
                 all_goals simp
  mid1 k := by repeat' split
               all_goals simp
def formT : TLang where
  pre k v := if k = 1 then [84] else if k = 2 then [byte (112 + v)] else if k = 3 then [33] else if k = 6 then [88] else if k = 9 then [70] else if k = 10 then [71] else [40]
  mid k := if k = 4 then [38] else if k = 5 then [124] else if k = 7 then [85] else [82]
  pre2 k v := by repeat' split
                 all_goals simp
  mid1 k := by repeat' split
               all_goals simp
def branT : TLang where
  pre k v := if k = 1 then [84] else if k = 2 then [byte (112 + v)] else if k = 3 then [33] else if k = 6 then [69, 88] else if k = 8 then [69, 71] else if k = 9 then [65, 88] else if k = 11 then [65, 71] else if k = 7 then [69, 40] else if k = 10 then [65, 40] else [40]
  mid k := if k = 4 then [38] else if k = 5 then [124] else [85]
  pre2 k v := by repeat' split
                 all_goals simp
  mid1 k := by repeat' split
               all_goals simp

/-! ### expressions, read -/
def exprOp (c : UInt8) : Option Int := if c = 38 then some 4 else if c = 124 then some 5 else if c = 61 then some 6 else if c = 60 then some 7 else if c = 43 then some 8 else if c = 45 then some 9 else none
/-- two operands with a sign between, and a bracket behind -/
def pairWith (rd : List UInt8 → Option (Tr × List UInt8)) (op : UInt8 → Option Int) (s : List UInt8) : Option (Tr × List UInt8) :=
  match rd s with
  | some (a, o :: r1) => match op o with
    | some k => match rd r1 with
      | some (b, c :: r2) => if c = 41 then some (.mk k 0 [a, b], r2) else none
      | _ => none
    | none => none
  | _ => none
def oneWith (rd : List UInt8 → Option (Tr × List UInt8)) (k : Int) (s : List UInt8) : Option (Tr × List UInt8) :=
  match rd s with
  | some (a, r) => some (.mk k 0 [a], r)
  | none => none
def rdE (top : UInt8) : Nat → List UInt8 → Option (Tr × List UInt8)
  | 0, _ => none
  | _ + 1, [] => none
  | n + 1, c :: s =>
    if 48 ≤ c ∧ c ≤ top then some (.mk 1 ((c.toNat : Int) - 48) [], s)
    else if 120 ≤ c ∧ c ≤ 122 then some (.mk 2 ((c.toNat : Int) - 120) [], s)
    else if c = 33 then oneWith (rdE top n) 3 s
    else if c = 40 then pairWith (rdE top n) exprOp s
    else none

def formUn (c : UInt8) : Option Int := if c = 33 then some 3 else if c = 88 then some 6 else if c = 70 then some 9 else if c = 71 then some 10 else none
def formOp (c : UInt8) : Option Int := if c = 38 then some 4 else if c = 124 then some 5 else if c = 85 then some 7 else if c = 82 then some 8 else none
def rdF : Nat → List UInt8 → Option (Tr × List UInt8)
  | 0, _ => none
  | _ + 1, [] => none
  | n + 1, c :: s =>
    if c = 84 then some (.mk 1 0 [], s)
    else if 112 ≤ c ∧ c ≤ 114 then some (.mk 2 ((c.toNat : Int) - 112) [], s)
    else match formUn c with
      | some k => oneWith (rdF n) k s
      | none => if c = 40 then pairWith (rdF n) formOp s else none

/-- the operators behind E, A -/
def rdB2 (rd : List UInt8 → Option (Tr × List UInt8)) (k : Int) : List UInt8 → Option (Tr × List UInt8)
  | [] => none
  | c :: s => if c = 88 then oneWith rd k s else if c = 40 then pairWith rd (fun o => if o = 85 then some (k + 1) else none) s else if c = 71 then oneWith rd (k + 2) s else none
def branOp (c : UInt8) : Option Int := if c = 38 then some 4 else if c = 124 then some 5 else none
def rdB : Nat → List UInt8 → Option (Tr × List UInt8)
  | 0, _ => none
  | _ + 1, [] => none
  | n + 1, c :: s =>
    if c = 84 then some (.mk 1 0 [], s)
    else if 112 ≤ c ∧ c ≤ 114 then some (.mk 2 ((c.toNat : Int) - 112) [], s)
    else if c = 33 then oneWith (rdB n) 3 s
    else if c = 40 then pairWith (rdB n) branOp s
    else if c = 69 then rdB2 (rdB n) 6 s
    else if c = 65 then rdB2 (rdB n) 9 s
    else none

theorem oneWith_txt {rd : List UInt8 → Option (Tr × List UInt8)} {a : Tr} {s r : List UInt8} {k : Int} (h : rd s = some (a, r)) : oneWith rd k s = some (.mk k 0 [a], r) := by simp [oneWith, h]
theorem pairWith_txt {rd : List UInt8 → Option (Tr × List UInt8)} {op : UInt8 → Option Int} {a b : Tr} {s r r1 : List UInt8} {o : UInt8} {k : Int} (h : rd s = some (a, o :: r1)) (ho : op o = some k) (hb : rd r1 = some (b, 41 :: r)) :
    pairWith rd op s = some (.mk k 0 [a, b], r) := by simp [pairWith, h, ho, hb]

namespace Lang
variable (L : Lang)
/-- what a well-made node looks like -/
theorem shape_mk {k v : Int} {kids : List Tr} {n : Nat} (h : L.shape (.mk k v kids) n = true) : ∃ m, n = m + 1 ∧ 1 ≤ k ∧ k ≤ L.K ∧ 0 ≤ v ∧ v ≤ L.most k ∧ (kids.length : Int) = L.ar k ∧ ∀ t, t ∈ kids → L.shape t m = true := by
  simp only [shape, Bool.and_eq_true, decide_eq_true_eq, okB_iff] at h
  obtain ⟨h1, ⟨⟨h2, h3⟩, ⟨h4, h5⟩, h6⟩, h7⟩ := h
  obtain ⟨m, rfl⟩ : ∃ m, n = m + 1 := ⟨n - 1, by omega⟩
  refine ⟨m, rfl, h2, h3, h4, h5, h6, ?_⟩
  rw [show ((m + 1 : Nat) : Int) - 1 = (m : Int) by omega] at h7
  clear h6
  induction kids with
  | nil => intro t ht; cases ht
  | cons u us ih =>
    simp only [shapeL, Bool.and_eq_true] at h7
    intro t ht
    cases ht with
    | head => exact h7.1
    | tail _ ht => exact ih h7.2 t ht
end Lang

theorem len0 {l : List Tr} (h : (l.length : Int) = 0) : l = [] := List.eq_nil_of_length_eq_zero (by omega)
theorem len1 {l : List Tr} (h : (l.length : Int) = 1) : ∃ a, l = [a] := by
  match l, h with
  | [a], _ => exact ⟨a, rfl⟩
  | [], h => simp at h
  | _ :: _ :: _, h => simp at h; omega
theorem len2 {l : List Tr} (h : (l.length : Int) = 2) : ∃ a b, l = [a, b] := by
  match l, h with
  | [a, b], _ => exact ⟨a, b, rfl⟩
  | [], h => simp at h
  | [_], h => simp at h
  | _ :: _ :: _ :: _, h => simp at h; omega

/-- WHAT IS WRITTEN IS READ -/
theorem rdE_txt (top : UInt8) (ht : 51 ≤ top) (ht2 : top < 120) : ∀ (n : Nat) (t : Tr) (r : List UInt8), exprL.shape t n = true → rdE top n (exprT.txt t ++ r) = some (t, r) := by
  intro n
  induction n with
  | zero => intro t r h; cases t with | mk k v kids => obtain ⟨m, h1, _⟩ := exprL.shape_mk h; omega
  | succ n ih =>
    intro t r h
    cases t with
    | mk k v kids =>
    obtain ⟨m, h1, h2, h3, h4, h5, h6, h7⟩ := exprL.shape_mk h
    obtain rfl : n = m := by omega
    rw [exprL_K] at h3
    rw [exprL_most] at h5
    rw [exprL_ar] at h6
    have hk : k = 1 ∨ k = 2 ∨ k = 3 ∨ k = 4 ∨ k = 5 ∨ k = 6 ∨ k = 7 ∨ k = 8 ∨ k = 9 := by omega
    rcases hk with rfl | rfl | rfl | hk
    · obtain rfl := len0 (by simpa using h6)
      simp at h5
      have hv : v = 0 ∨ v = 1 ∨ v = 2 ∨ v = 3 := by omega
      have e1 : (48 : UInt8) ≤ top := UInt8.le_trans (by decide) ht
      have e2 : (49 : UInt8) ≤ top := UInt8.le_trans (by decide) ht
      have e3 : (50 : UInt8) ≤ top := UInt8.le_trans (by decide) ht
      rcases hv with rfl | rfl | rfl | rfl <;> simp [TLang.txt, TLang.txts, nodeTxt, exprT, byte, rdE, ht, e1, e2, e3]
    · obtain rfl := len0 (by simpa using h6)
      simp at h5
      have hv : v = 0 ∨ v = 1 ∨ v = 2 := by omega
      have e0 : ¬ (120 : UInt8) ≤ top := by rw [UInt8.not_le]; exact ht2
      have e1 : ¬ (121 : UInt8) ≤ top := by rw [UInt8.not_le]; exact UInt8.lt_trans ht2 (by decide)
      have e2 : ¬ (122 : UInt8) ≤ top := by rw [UInt8.not_le]; exact UInt8.lt_trans ht2 (by decide)
      rcases hv with rfl | rfl | rfl <;> simp [TLang.txt, TLang.txts, nodeTxt, exprT, byte, rdE, e0, e1, e2]
    · obtain ⟨a, rfl⟩ := len1 (by simpa using h6)
      obtain rfl : v = 0 := by simp at h5; omega
      have := ih a r (h7 a (by simp))
      simp [TLang.txt, TLang.txts, nodeTxt, exprT, rdE]
      exact oneWith_txt this
    · obtain ⟨a, b, rfl⟩ := len2 (by rw [h6]; rcases hk with rfl | rfl | rfl | rfl | rfl | rfl <;> simp)
      obtain rfl : v = 0 := by rw [if_neg (by omega), if_neg (by omega)] at h5; omega
      rcases hk with rfl | rfl | rfl | rfl | rfl | rfl
      all_goals
        simp [TLang.txt, TLang.txts, nodeTxt, exprT, rdE]
        exact pairWith_txt (ih a _ (h7 a (by simp))) (by simp [exprOp]) (ih b _ (h7 b (by simp)))

theorem rdF_txt : ∀ (n : Nat) (t : Tr) (r : List UInt8), formL.shape t n = true → rdF n (formT.txt t ++ r) = some (t, r) := by
  intro n
  induction n with
  | zero => intro t r h; cases t with | mk k v kids => obtain ⟨m, h1, _⟩ := formL.shape_mk h; omega
  | succ n ih =>
    intro t r h
    cases t with
    | mk k v kids =>
    obtain ⟨m, h1, h2, h3, h4, h5, h6, h7⟩ := formL.shape_mk h
    obtain rfl : n = m := by omega
    rw [formL_K] at h3
    rw [formL_most] at h5
    rw [formL_ar] at h6
    have hk : k = 1 ∨ k = 2 ∨ (k = 3 ∨ k = 6 ∨ k = 9 ∨ k = 10) ∨ (k = 4 ∨ k = 5 ∨ k = 7 ∨ k = 8) := by omega
    rcases hk with rfl | rfl | hk | hk
    · obtain rfl := len0 (by simpa using h6)
      obtain rfl : v = 0 := by simp at h5; omega
      simp [TLang.txt, TLang.txts, nodeTxt, formT, rdF]
    · obtain rfl := len0 (by simpa using h6)
      simp at h5
      have hv : v = 0 ∨ v = 1 ∨ v = 2 := by omega
      rcases hv with rfl | rfl | rfl <;> simp [TLang.txt, TLang.txts, nodeTxt, formT, byte, rdF]
    · obtain ⟨a, rfl⟩ := len1 (by rw [h6]; rcases hk with rfl | rfl | rfl | rfl <;> simp)
      obtain rfl : v = 0 := by rw [if_neg (by omega)] at h5; omega
      have := ih a r (h7 a (by simp))
      rcases hk with rfl | rfl | rfl | rfl
      all_goals
        simp [TLang.txt, TLang.txts, nodeTxt, formT, rdF, formUn]
        exact oneWith_txt this
    · obtain ⟨a, b, rfl⟩ := len2 (by rw [h6]; rcases hk with rfl | rfl | rfl | rfl <;> simp)
      obtain rfl : v = 0 := by rw [if_neg (by omega)] at h5; omega
      rcases hk with rfl | rfl | rfl | rfl
      all_goals
        simp [TLang.txt, TLang.txts, nodeTxt, formT, rdF, formUn]
        exact pairWith_txt (ih a _ (h7 a (by simp))) (by simp [formOp]) (ih b _ (h7 b (by simp)))

theorem rdB_txt : ∀ (n : Nat) (t : Tr) (r : List UInt8), branL.shape t n = true → rdB n (branT.txt t ++ r) = some (t, r) := by
  intro n
  induction n with
  | zero => intro t r h; cases t with | mk k v kids => obtain ⟨m, h1, _⟩ := branL.shape_mk h; omega
  | succ n ih =>
    intro t r h
    cases t with
    | mk k v kids =>
    obtain ⟨m, h1, h2, h3, h4, h5, h6, h7⟩ := branL.shape_mk h
    obtain rfl : n = m := by omega
    rw [branL_K] at h3
    rw [branL_most] at h5
    rw [branL_ar] at h6
    have hk : k = 1 ∨ k = 2 ∨ (k = 3 ∨ k = 6 ∨ k = 8 ∨ k = 9 ∨ k = 11) ∨ (k = 4 ∨ k = 5 ∨ k = 7 ∨ k = 10) := by omega
    rcases hk with rfl | rfl | hk | hk
    · obtain rfl := len0 (by simpa using h6)
      obtain rfl : v = 0 := by simp at h5; omega
      simp [TLang.txt, TLang.txts, nodeTxt, branT, rdB]
    · obtain rfl := len0 (by simpa using h6)
      simp at h5
      have hv : v = 0 ∨ v = 1 ∨ v = 2 := by omega
      rcases hv with rfl | rfl | rfl <;> simp [TLang.txt, TLang.txts, nodeTxt, branT, byte, rdB]
    · obtain ⟨a, rfl⟩ := len1 (by rw [h6]; rcases hk with rfl | rfl | rfl | rfl | rfl <;> simp)
      obtain rfl : v = 0 := by rw [if_neg (by omega)] at h5; omega
      have := ih a r (h7 a (by simp))
      rcases hk with rfl | rfl | rfl | rfl | rfl
      all_goals
        simp [TLang.txt, TLang.txts, nodeTxt, branT, rdB, rdB2]
        exact oneWith_txt this
    · obtain ⟨a, b, rfl⟩ := len2 (by rw [h6]; rcases hk with rfl | rfl | rfl | rfl <;> simp)
      obtain rfl : v = 0 := by rw [if_neg (by omega)] at h5; omega
      rcases hk with rfl | rfl | rfl | rfl
      all_goals
        simp [TLang.txt, TLang.txts, nodeTxt, branT, rdB, rdB2]
        exact pairWith_txt (ih a _ (h7 a (by simp))) (by simp [branOp]) (ih b _ (h7 b (by simp)))

theorem exprT_inj {n : Nat} {t u : Tr} (ht : exprL.shape t n = true) (hu : exprL.shape u n = true) (h : exprT.txt t = exprT.txt u) : t = u := by
  have h1 := rdE_txt 51 (by decide) (by decide) n t [] ht
  have h2 := rdE_txt 51 (by decide) (by decide) n u [] hu
  rw [h, h2] at h1
  simpa using h1.symm
theorem formT_inj {n : Nat} {t u : Tr} (ht : formL.shape t n = true) (hu : formL.shape u n = true) (h : formT.txt t = formT.txt u) : t = u := by
  have h1 := rdF_txt n t [] ht
  have h2 := rdF_txt n u [] hu
  rw [h, h2] at h1
  simpa using h1.symm
theorem branT_inj {n : Nat} {t u : Tr} (ht : branL.shape t n = true) (hu : branL.shape u n = true) (h : branT.txt t = branT.txt u) : t = u := by
  have h1 := rdB_txt n t [] ht
  have h2 := rdB_txt n u [] hu
  rw [h, h2] at h1
  simpa using h1.symm

/-! ### what is read was written -/
theorem oneWith_back {L : TLang} {rd : List UInt8 → Option (Tr × List UInt8)} {k : Int} {s r p : List UInt8} {t : Tr} (h : oneWith rd k s = some (t, r)) (ih : ∀ s t r, rd s = some (t, r) → s = L.txt t ++ r) (hp : L.pre k 0 = p) : p ++ s = L.txt t ++ r ∧ ∃ a r', rd s = some (a, r') ∧ t = .mk k 0 [a] := by
  unfold oneWith at h
  split at h
  · rename_i a r' hr
    simp at h
    obtain ⟨rfl, rfl⟩ := h
    have := ih _ _ _ hr
    refine ⟨?_, a, r', hr, rfl⟩
    rw [this]
    simp [TLang.txt, TLang.txts, nodeTxt, hp]
  · cases h
theorem pairWith_back {L : TLang} {rd : List UInt8 → Option (Tr × List UInt8)} {op : UInt8 → Option Int} {s r p : List UInt8} {t : Tr} (h : pairWith rd op s = some (t, r)) (ih : ∀ s t r, rd s = some (t, r) → s = L.txt t ++ r)
    (hp : ∀ o k, op o = some k → L.pre k 0 = p ∧ L.mid k = [o]) : p ++ s = L.txt t ++ r ∧ ∃ k a b s1 r1 s2 r2 o, op o = some k ∧ rd s1 = some (a, r1) ∧ rd s2 = some (b, r2) ∧ t = .mk k 0 [a, b] := by
  unfold pairWith at h
  split at h
  · rename_i a o r1 ha
    split at h
    · rename_i k hk
      split at h
      · rename_i b c r2 hb
        split at h
        · rename_i hc
          simp at h
          obtain ⟨rfl, rfl⟩ := h
          obtain ⟨h1, h2⟩ := hp o k hk
          refine ⟨?_, k, a, b, s, _, r1, _, o, hk, ha, hb, rfl⟩
          rw [ih _ _ _ ha, ih _ _ _ hb, hc]
          simp [TLang.txt, TLang.txts, nodeTxt, h1, h2]
        · cases h
      · cases h
    · cases h
  · cases h
theorem byte_back (c : UInt8) (b : Nat) (h : b ≤ c.toNat) : byte ((b : Int) + ((c.toNat : Int) - b)) = c := by
  rw [show (b : Int) + ((c.toNat : Int) - b) = (c.toNat : Int) by omega]
  simp [byte]

theorem exprOp_pre {o : UInt8} {k : Int} (h : exprOp o = some k) : exprT.pre k 0 = [40] ∧ exprT.mid k = [o] ∧ 4 ≤ k ∧ k ≤ 9 := by
  unfold exprOp at h
  repeat' split at h
  all_goals (first | cases h; done | (rename_i hc; subst hc; simp at h; subst h; simp [exprT]))
theorem formUn_pre {o : UInt8} {k : Int} (h : formUn o = some k) : formT.pre k 0 = [o] ∧ (k = 3 ∨ k = 6 ∨ k = 9 ∨ k = 10) := by
  unfold formUn at h
  repeat' split at h
  all_goals (first | cases h; done | (rename_i hc; subst hc; simp at h; subst h; simp [formT]))
theorem formOp_pre {o : UInt8} {k : Int} (h : formOp o = some k) : formT.pre k 0 = [40] ∧ formT.mid k = [o] ∧ (k = 4 ∨ k = 5 ∨ k = 7 ∨ k = 8) := by
  unfold formOp at h
  repeat' split at h
  all_goals (first | cases h; done | (rename_i hc; subst hc; simp at h; subst h; simp [formT]))
theorem branOp_pre {o : UInt8} {k : Int} (h : branOp o = some k) : branT.pre k 0 = [40] ∧ branT.mid k = [o] ∧ (k = 4 ∨ k = 5) := by
  unfold branOp at h
  repeat' split at h
  all_goals (first | cases h; done | (rename_i hc; subst hc; simp at h; subst h; simp [branT]))

theorem rdE_back (top : UInt8) : ∀ (n : Nat) (s : List UInt8) (t : Tr) (r : List UInt8), rdE top n s = some (t, r) → s = exprT.txt t ++ r := by
  intro n
  induction n with
  | zero => intro s t r h; simp [rdE] at h
  | succ n ih =>
    intro s t r h
    match s, h with
    | [], h => simp [rdE] at h
    | c :: s, h =>
      simp only [rdE] at h
      split at h
      · rename_i hc
        simp at h
        obtain ⟨rfl, rfl⟩ := h
        have := byte_back c 48 (by have := UInt8.le_iff_toNat_le.1 hc.1; simpa using this)
        simp [TLang.txt, TLang.txts, nodeTxt, exprT]
        exact this.symm
      · split at h
        · rename_i hc
          simp at h
          obtain ⟨rfl, rfl⟩ := h
          have := byte_back c 120 (by have := UInt8.le_iff_toNat_le.1 hc.1; simpa using this)
          simp [TLang.txt, TLang.txts, nodeTxt, exprT]
          exact this.symm
        · split at h
          · rename_i hc
            rw [hc]
            exact (oneWith_back (L := exprT) (p := [33]) h (fun s t r h => ih s t r h) (by simp [exprT])).1
          · split at h
            · rename_i hc
              rw [hc]
              refine (pairWith_back (L := exprT) (p := [40]) h (fun s t r h => ih s t r h) ?_).1
              intro o k ho
              exact ⟨(exprOp_pre ho).1, (exprOp_pre ho).2.1⟩
            · cases h

theorem rdF_back : ∀ (n : Nat) (s : List UInt8) (t : Tr) (r : List UInt8), rdF n s = some (t, r) → s = formT.txt t ++ r := by
  intro n
  induction n with
  | zero => intro s t r h; simp [rdF] at h
  | succ n ih =>
    intro s t r h
    match s, h with
    | [], h => simp [rdF] at h
    | c :: s, h =>
      simp only [rdF] at h
      split at h
      · rename_i hc
        simp at h
        obtain ⟨rfl, rfl⟩ := h
        simp [TLang.txt, TLang.txts, nodeTxt, formT, hc]
      · split at h
        · rename_i hc
          simp at h
          obtain ⟨rfl, rfl⟩ := h
          have := byte_back c 112 (by have := UInt8.le_iff_toNat_le.1 hc.1; simpa using this)
          simp [TLang.txt, TLang.txts, nodeTxt, formT]
          exact this.symm
        · split at h
          · rename_i k hk
            refine (oneWith_back (L := formT) (p := [c]) h (fun s t r h => ih s t r h) ?_).1
            exact (formUn_pre hk).1
          · split at h
            · rename_i hc
              rw [hc]
              refine (pairWith_back (L := formT) (p := [40]) h (fun s t r h => ih s t r h) ?_).1
              intro o k ho
              exact ⟨(formOp_pre ho).1, (formOp_pre ho).2.1⟩
            · cases h

theorem rdB2_back {rd : List UInt8 → Option (Tr × List UInt8)} {k : Int} {c : UInt8} (hk : (k = 6 ∧ c = 69) ∨ (k = 9 ∧ c = 65)) {s r : List UInt8} {t : Tr} (h : rdB2 rd k s = some (t, r)) (ih : ∀ s t r, rd s = some (t, r) → s = branT.txt t ++ r) : c :: s = branT.txt t ++ r := by
  match s, h with
  | [], h => simp [rdB2] at h
  | d :: s, h =>
    simp only [rdB2] at h
    split at h
    · rename_i hd
      rw [hd]
      exact (oneWith_back (L := branT) (p := [c, 88]) h ih (by rcases hk with ⟨rfl, rfl⟩ | ⟨rfl, rfl⟩ <;> simp [branT])).1
    · split at h
      · rename_i hd
        rw [hd]
        refine (pairWith_back (L := branT) (p := [c, 40]) h ih ?_).1
        intro o k' ho
        simp at ho
        obtain ⟨rfl, rfl⟩ := ho
        rcases hk with ⟨rfl, rfl⟩ | ⟨rfl, rfl⟩ <;> simp [branT]
      · split at h
        · rename_i hd
          rw [hd]
          exact (oneWith_back (L := branT) (p := [c, 71]) h ih (by rcases hk with ⟨rfl, rfl⟩ | ⟨rfl, rfl⟩ <;> simp [branT])).1
        · cases h

theorem rdB_back : ∀ (n : Nat) (s : List UInt8) (t : Tr) (r : List UInt8), rdB n s = some (t, r) → s = branT.txt t ++ r := by
  intro n
  induction n with
  | zero => intro s t r h; simp [rdB] at h
  | succ n ih =>
    intro s t r h
    match s, h with
    | [], h => simp [rdB] at h
    | c :: s, h =>
      simp only [rdB] at h
      split at h
      · rename_i hc
        simp at h
        obtain ⟨rfl, rfl⟩ := h
        simp [TLang.txt, TLang.txts, nodeTxt, branT, hc]
      · split at h
        · rename_i hc
          simp at h
          obtain ⟨rfl, rfl⟩ := h
          have := byte_back c 112 (by have := UInt8.le_iff_toNat_le.1 hc.1; simpa using this)
          simp [TLang.txt, TLang.txts, nodeTxt, branT]
          exact this.symm
        · split at h
          · rename_i hc
            rw [hc]
            exact (oneWith_back (L := branT) (p := [33]) h (fun s t r h => ih s t r h) (by simp [branT])).1
          · split at h
            · rename_i hc
              rw [hc]
              refine (pairWith_back (L := branT) (p := [40]) h (fun s t r h => ih s t r h) ?_).1
              intro o k ho
              exact ⟨(branOp_pre ho).1, (branOp_pre ho).2.1⟩
            · split at h
              · rename_i hc
                rw [hc]
                exact rdB2_back (.inl ⟨rfl, rfl⟩) h (fun s t r h => ih s t r h)
              · split at h
                · rename_i hc
                  rw [hc]
                  exact rdB2_back (.inr ⟨rfl, rfl⟩) h (fun s t r h => ih s t r h)
                · cases h

end Go.Proofs.Ytfemikebklmlpaa
