/- Joined texts (ExprSpecV, Box, TxtPlain, EvalPlain, SubstS): contracts and plain laws. Conditions: those of each theorem. -/
import Derived.Test.YtgopfjnpjkpelaaDoorRows
import Derived.Test.YtgopfjnpjkpelaaDoorJY0
import Derived.Test.YtgopfjnpjkpelaaDoorJY3
import Derived.Test.YtgopfjnpjkpelaaDoorJY1
import Derived.WalkSpells
import Derived.WalkLawsBesides
import Derived.Deep.DeepCutAuto
import Derived.Deep.CutBlock
import Derived.Deep.QuietTactic
import Derived.BigQuiet
set_option linter.unusedVariables false
set_option linter.unusedSimpArgs false
namespace Go.Proofs.YtgopfjnpjkpelaaDoor
open Go.RowKit
namespace Expr

def arityV (k : Int) : Int := if k = 1 ∨ k = 2 then 0 else if k = 3 then 1 else if 4 ≤ k ∧ k ≤ 9 then 2 else -1
theorem arityV_ok {k v : Int} {n : Nat} : exprL.okB k v n = (decide ((n : Int) = arityV k) && decide (0 ≤ v ∧ v ≤ exprL.most k)) := by
  rw [Bool.eq_iff_iff, Lang.okB_iff, Bool.and_eq_true, decide_eq_true_eq, decide_eq_true_eq, exprL_K, exprL_ar]
  unfold arityV
  constructor
  · rintro ⟨h1, h2, h3⟩
    refine ⟨?_, h2⟩
    rw [h3]
    by_cases h4 : k = 1 ∨ k = 2
    · rw [if_pos h4, if_pos h4]
    · by_cases h5 : k = 3
      · rw [if_neg h4, if_neg h4, if_pos h5, if_pos h5]
      · rw [if_neg h4, if_neg h4, if_neg h5, if_neg h5, if_pos (by omega)]
  · rintro ⟨h1, h2⟩
    by_cases h4 : k = 1 ∨ k = 2
    · rw [if_pos h4] at h1; exact ⟨by omega, h2, by rw [if_pos h4]; exact h1⟩
    · by_cases h5 : k = 3
      · rw [if_neg h4, if_pos h5] at h1; exact ⟨by omega, h2, by rw [if_neg h4, if_pos h5]; exact h1⟩
      · by_cases h6 : 4 ≤ k ∧ k ≤ 9
        · rw [if_neg h4, if_neg h5, if_pos h6] at h1; exact ⟨by omega, h2, by rw [if_neg h4, if_neg h5]; exact h1⟩
        · rw [if_neg h4, if_neg h5, if_neg h6] at h1; omega
theorem arityV_bd (k : Int) : -1 ≤ arityV k ∧ arityV k ≤ 2 := by unfold arityV; split <;> (try split) <;> (try split) <;> omega

set_option maxHeartbeats 400000 in
theorem arity_any (k : Int) (w : World) : Calls Tryd.prog 51 #[.int .i64 k] w (Ret (.int .i64 (arityV k)) w) := by
  by_cases h1 : k = 1
  · subst h1
    go_enter Tryd.func51, Tryd.ntmps51
    go_wp2_with fail
    go_ret
    exact Ret.mk rfl (Below.refl _ _)
  by_cases h2 : k = 2
  · subst h2
    go_enter Tryd.func51, Tryd.ntmps51
    go_wp2_with fail
    go_ret
    exact Ret.mk rfl (Below.refl _ _)
  by_cases h3 : k = 3
  · subst h3
    go_enter Tryd.func51, Tryd.ntmps51
    go_wp2_with fail
    go_ret
    exact Ret.mk rfl (Below.refl _ _)
  have e1 : (k == 1) = false := by simpa using h1
  have e2 : (k == 2) = false := by simpa using h2
  have e3 : (k == 3) = false := by simpa using h3
  have E := hid (show arityV k = if 4 ≤ k ∧ k ≤ 9 then 2 else -1 by unfold arityV; rw [if_neg (by omega), if_neg h3])
  clear h1 h2 h3
  by_cases h4 : 4 ≤ k
  · by_cases h9 : k ≤ 9
    · go_enter Tryd.func51, Tryd.ntmps51
      go_wp2_with fail
      go_ret
      exact Ret.mk (int_val (by rw [E.out, if_pos ⟨h4, h9⟩])) (Below.refl _ _)
    · go_enter Tryd.func51, Tryd.ntmps51
      go_wp2_with fail
      go_ret
      exact Ret.mk (int_val (by rw [E.out, if_neg (by omega)])) (Below.refl _ _)
  · go_enter Tryd.func51, Tryd.ntmps51
    go_wp2_with fail
    go_ret
    exact Ret.mk (int_val (by rw [E.out, if_neg (by omega)])) (Below.refl _ _)

def ShT (t : Tr) : Prop := ∀ (w : World) (x : Value) (d : Int), TrIn Any w t x → -1 ≤ d → d ≤ 6 → Calls Tryd.prog 52 #[x, .int .i64 d] w (Ret (.bool (exprL.shape t d)) w)

set_option maxHeartbeats 1000000 in
theorem shT_of (k v : Int) (kids : List Tr) (h : ∀ t, t ∈ kids → ShT t) : ShT (.mk k v kids) := by
  intro w x d hx hd1 hd2
  rw [TrIn_mk] at hx
  obtain ⟨a, n, c, rfl, hk, hv, rfl, hc, hc2, hks⟩ := hx
  by_cases hd : d < 1
  · have E := hid (show exprL.shape (.mk k v kids) d = false by simp only [Lang.shape]; rw [decide_eq_false (by omega), Bool.false_and])
    have hd' : decide (d < 1) = true := by simpa using hd
    go_enter Tryd.func52, Tryd.ntmps52
    go_wp2_with fail
    refine wp_region_over (by kernel_rfl) (by kernel_rfl) ?_; (repeat (go_big_quiet_step ((fail)))); refine wpQuiet_nil ?_; rintro _ ⟨xq, rfl⟩
    go_wp2_with fail
    go_ret
    exact Ret.mk (bool_val E.out.symm) (by repeat (first | exact Below.refl _ _ | assumption | refine below_a ?_ _ | refine below_o ?_ _ | refine below_d ?_ | refine below_n ?_ _ | refine below_s ?_ (by first | (simp; done) | (simp; omega) | omega) _))
  have E0 := hid (show exprL.shape (.mk k v kids) d = (exprL.okB k v kids.length && exprL.shapeL kids (d - 1)) by simp only [Lang.shape]; rw [decide_eq_true (by omega), Bool.true_and])
  have hd' : decide (d < 1) = false := by simpa using hd
  by_cases hn : (kids.length : Int) = arityV k
  · have hn1 : ((kids.length : Int) != arityV k) = false := by simpa using hn
    have HN := hid hn; clear hn
    go_enter Tryd.func52, Tryd.ntmps52
    go_wp2_with fail
    refine wp_region_over (by kernel_rfl) (by kernel_rfl) ?_; (repeat (go_big_quiet_step ((go_at_call 51; exact Calls.over (arity_any _ _))))); refine wpQuiet_nil ?_; rintro _ ⟨xq, rfl⟩
    go_upto_block 0 with fail
    go_cut [5] (fun s5 wx => s5 = .int .i64 (exprL.most k) ∧ Below w.heap.size w wx ∧ w.heap.size < wx.heap.size ∧ wx.cell? ⟨w.heap.size, 0, none⟩ = some (.int .i64 k) ∧ wx.cell? ⟨w.heap.size, 1, none⟩ = some (.int .i64 v) ∧ wx.cell? ⟨w.heap.size, 2, none⟩ = some (.slice a kids.length c))
    case first =>
      go_wp2_with fail
      all_goals go_meet
      all_goals refine ⟨int_val ?_, (by repeat (first | exact Below.refl _ _ | assumption | refine below_a ?_ _ | refine below_o ?_ _ | refine below_d ?_ | refine below_n ?_ _ | refine below_s ?_ (by first | (simp; done) | (simp; omega) | omega) _)), by simp [go_sem], by simp [go_sem], by simp [go_sem], by simp [go_sem]⟩
      all_goals first
        | (have e := ‹(k == 1) = true›; simp at e; rw [exprL_most, if_pos e])
        | (have e1 := ‹(k == 1) = false›; have e := ‹(k == 2) = true›; simp at e1 e; rw [exprL_most, if_neg e1, if_pos e])
        | (have e1 := ‹(k == 1) = false›; have e := ‹(k == 2) = false›; simp at e1 e; rw [exprL_most, if_neg e1, if_neg e])
    case rest =>
      obtain ⟨rfl, hb, hsz, q0, q1, q2⟩ := hcut
      by_cases hv0 : v < 0
      · have E := hid (show exprL.shape (.mk k v kids) d = false by rw [E0.out, arityV_ok, decide_eq_false (show ¬(0 ≤ v ∧ v ≤ exprL.most k) by omega)]; simp)
        go_wp2_with fail
        go_ret
        exact Ret.mk (bool_val E.out.symm) hb
      by_cases hv1 : exprL.most k < v
      · have E := hid (show exprL.shape (.mk k v kids) d = false by rw [E0.out, arityV_ok, decide_eq_false (show ¬(0 ≤ v ∧ v ≤ exprL.most k) by omega)]; simp)
        go_wp2_with fail
        go_ret
        exact Ret.mk (bool_val E.out.symm) hb
      have E := hid (show exprL.shape (.mk k v kids) d = exprL.shapeL kids (d - 1) by rw [E0.out, arityV_ok, decide_eq_true HN.out, decide_eq_true (show (0 ≤ v ∧ v ≤ exprL.most k) by omega)]; simp)
      unfold maxLen at hc2
      go_wp2_with fail
      clear q0 q1
      go_loopw [6] (fun i wr => ∃ j : Nat, j ≤ kids.length ∧ i = .int .i64 j ∧ Below w.heap.size w wr ∧ w.heap.size < wr.heap.size ∧ wr.cell? ⟨w.heap.size, 2, none⟩ = some (.slice a kids.length c) ∧ Hid (exprL.shapeL (kids.drop j) (d - 1) = exprL.shapeL kids (d - 1)))
        (fun i _ => kids.length - (intOf i).toNat)
      case atStart => exact ⟨0, Nat.zero_le _, rfl, hb, hsz, q2, hid rfl⟩
      case round =>
        clear hb hsz q2
        obtain ⟨j, hj, rfl, hb, hsz, q2, hr⟩ := hrel
        by_cases hlt : j < kids.length
        · obtain ⟨b, o, c0, c1, c2, t, rfl, gb, g0, g1, g2, hT⟩ := TrsIn_round hks hb hlt
          have HR2 := hr.out
          rw [hT.out.2.2.1] at HR2
          simp only [Lang.shapeL] at HR2
          have HR := hid HR2; clear HR2
          go_wp2_with fail
          refine (h t hT.out.2.1 _ _ (d - 1) hT.out.1 (by omega) (by omega)).mono ?_
          rintro e w2 ⟨rfl, hby⟩
          obtain ⟨y, rfl⟩ := bex hby
          clear hby
          cases hq : exprL.shape t (d - 1) with
          | true =>
            have HR3 := HR.out
            rw [hq, Bool.true_and] at HR3
            have HR4 := hid HR3; clear HR3 hq
            go_wp2_with fail
            go_roundw
            case rel => exact ⟨j + 1, by omega, by go_num, (by repeat (first | exact Below.refl _ _ | assumption | refine below_a ?_ _ | refine below_o ?_ _ | refine below_d ?_ | refine below_n ?_ _ | refine below_s ?_ (by first | (simp; done) | (simp; omega) | omega) _)), by simp [go_sem, hsz], by simp [go_sem, hsz, q2], HR4⟩
            case measure => simp [intOf]; omega
          | false =>
            have HR3 := HR.out
            rw [hq, Bool.false_and] at HR3
            have HR4 := hid HR3; clear HR3 hq
            go_wp2_with fail
            go_ret
            exact Ret.mk (bool_val (HR4.out.trans E.out.symm)) (by repeat (first | exact Below.refl _ _ | assumption | refine below_a ?_ _ | refine below_o ?_ _ | refine below_d ?_ | refine below_n ?_ _ | refine below_s ?_ (by first | (simp; done) | (simp; omega) | omega) _))
        · have HR2 := hr.out
          rw [List.drop_of_length_le (by omega)] at HR2
          have HR := hid HR2; clear HR2
          go_wp2_with fail
          go_ret
          exact Ret.mk (bool_val (HR.out.trans E.out.symm)) hb
  · have hn1 : ((kids.length : Int) != arityV k) = true := by simpa using hn
    have E := hid (show exprL.shape (.mk k v kids) d = false by rw [E0.out, arityV_ok, decide_eq_false hn]; simp)
    clear hn
    go_enter Tryd.func52, Tryd.ntmps52
    go_wp2_with fail
    refine wp_region_over (by kernel_rfl) (by kernel_rfl) ?_; (repeat (go_big_quiet_step ((go_at_call 51; exact Calls.over (arity_any _ _))))); refine wpQuiet_nil ?_; rintro _ ⟨xq, rfl⟩
    go_wp2_with fail
    go_ret
    exact Ret.mk (bool_val E.out.symm) (by repeat (first | exact Below.refl _ _ | assumption | refine below_a ?_ _ | refine below_o ?_ _ | refine below_d ?_ | refine below_n ?_ _ | refine below_s ?_ (by first | (simp; done) | (simp; omega) | omega) _))

theorem shape_any : ∀ t, ShT t := fun t => Tr.ind (fun k v kids ih => shT_of k v kids ih) t

end Expr
end Go.Proofs.YtgopfjnpjkpelaaDoor
namespace Go.Proofs.YtgopfjnpjkpelaaDoor
open Go.RowKit

theorem newTr_set3 {B P : Nat} {t : Tr} {v : Value} {w : World} (h : NewTr B t v w) (hP : P < B) (u0 u1 u2 : Value) : NewTr B t v (((w.setCell ⟨P, 0, none⟩ u0).setCell ⟨P, 1, none⟩ u1).setCell ⟨P, 2, none⟩ u2) := by
  obtain ⟨bs, h1, h2⟩ := h
  have hn : P ∉ bs := fun e => by have := h2 _ e; omega
  exact ⟨bs, TrOwn_set (TrOwn_set (TrOwn_set h1 hn _) hn _) hn _, h2⟩
theorem below_set3 {B P : Nat} {w W : World} (h : Below B w W) (hP : B ≤ P) (u0 u1 u2 : Value) : Below B w (((W.setCell ⟨P, 0, none⟩ u0).setCell ⟨P, 1, none⟩ u1).setCell ⟨P, 2, none⟩ u2) := ((h.setCell hP _).setCell hP _).setCell hP _
theorem row_three (w : World) (x y z : Value) (t : TypeId) : Row (w.alloc (.cells #[x, y, z] t)) w.heap.size 3 (fun i => #[x, y, z].getD i undef) :=
  ⟨by simp, fun i hi => by
    rw [World.cell?_alloc_new]
    match i, hi with
    | 0, _ => rfl
    | 1, _ => rfl
    | 2, _ => rfl, fun i => by simp⟩
theorem row_six (w : World) (x y z x' y' z' : Value) (t : TypeId) : Row (w.alloc (.cells #[x, y, z, x', y', z'] t)) w.heap.size 6 (fun i => #[x, y, z, x', y', z'].getD i undef) :=
  ⟨by simp, fun i hi => by
    rw [World.cell?_alloc_new]
    match i, hi with
    | 0, _ => rfl
    | 1, _ => rfl
    | 2, _ => rfl
    | 3, _ => rfl
    | 4, _ => rfl
    | 5, _ => rfl, fun i => by simp⟩
theorem TrIn_shapeMk {p : Nat → Prop} {w : World} {k v : Int} {kids : List Tr} {x : Value} (h : TrIn p w (.mk k v kids) x) : ∃ a c, x = .agg #[.int .i64 k, .int .i64 v, .slice a kids.length c] := TrIn_shape h
theorem box3_only {S : List Nat} {w w' : World} (h : Only S w w') {B : Nat} {a b c : Value} (hd : B ∉ S) (hb : Box3 w B a b c) : Box3 w' B a b c := by
  have e := h.block B hb.1 hd
  refine ⟨Nat.lt_of_lt_of_le hb.1 h.size, ?_, ?_, ?_, ?_, ?_, ?_⟩
  · rw [World.cell?_of_block (w := w) (a := ⟨B, 0, none⟩) e]; exact hb.2.1
  · rw [World.cell?_of_block (w := w) (a := ⟨B, 1, none⟩) e]; exact hb.2.2.1
  · rw [World.cell?_of_block (w := w) (a := ⟨B, 2, none⟩) e]; exact hb.2.2.2.1
  · rw [World.frozen?_of_block (w := w) (a := ⟨B, 0, none⟩) e]; exact hb.2.2.2.2.1
  · rw [World.frozen?_of_block (w := w) (a := ⟨B, 1, none⟩) e]; exact hb.2.2.2.2.2.1
  · rw [World.frozen?_of_block (w := w) (a := ⟨B, 2, none⟩) e]; exact hb.2.2.2.2.2.2
theorem newTr_over {B : Nat} {t : Tr} {v : Value} {w w' : World} (h : NewTr B t v w) (hb : Below w.heap.size w w') : NewTr B t v w' := h.below hb

end Go.Proofs.YtgopfjnpjkpelaaDoor
namespace Go.Proofs.YtgopfjnpjkpelaaDoor

/-- a string of given bytes -/
def bs (l : List UInt8) : ByteArray := ⟨l.toArray⟩
theorem bs_append (a b : List UInt8) : bs a ++ bs b = bs (a ++ b) := by
  unfold bs; rw [ByteArray.mk_append_mk]
theorem bs_size (a : List UInt8) : (bs a).size = a.length := by simp [bs, ByteArray.size]
theorem bs_inj {a b : List UInt8} (h : bs a = bs b) : a = b := by
  have := congrArg (fun x => x.data.toList) h
  simpa [bs] using this

theorem str_val {a b : ByteArray} (h : a = b) : Value.string a = .string b := by rw [h]
/-- how a language writes a node: what stands ahead of it, and what stands between two operands -/
structure TLang where
  pre : Int → Int → List UInt8
  mid : Int → List UInt8
  pre2 : ∀ k v, (pre k v).length ≤ 2
  mid1 : ∀ k, (mid k).length ≤ 1

def nodeTxt (pre mid : List UInt8) : List (List UInt8) → List UInt8
  | [] => pre
  | [a] => pre ++ a
  | a :: b :: _ => pre ++ (a ++ (mid ++ (b ++ [41])))

namespace TLang
variable (L : TLang)
mutual
def txt : Tr → List UInt8 | .mk k v kids => nodeTxt (L.pre k v) (L.mid k) (txts kids)
def txts : List Tr → List (List UInt8) | [] => [] | t :: ts => txt t :: txts ts
end
theorem txts_map : ∀ l, L.txts l = l.map L.txt | [] => by simp [txts] | t :: ts => by simp [txts, txts_map ts]

mutual
theorem txt_len : ∀ t, ((L.txt t).length : Int) ≤ 4 * nodes t
  | .mk k v kids => by
    have h1 := L.pre2 k v
    have h2 := L.mid1 k
    have hp := nodesL_pos kids
    simp only [txt, nodes]
    match kids with
    | [] => simp [txts, nodeTxt, nodesL]; omega
    | [a] => have ha := txt_len a; simp [txts, nodeTxt, nodesL]; omega
    | a :: b :: r =>
      have ha := txt_len a
      have hb := txt_len b
      have hr := nodesL_pos r
      simp [txts, nodeTxt, nodesL]; omega
end
end TLang

/-- a byte above another -/
def byte (n : Int) : UInt8 := UInt8.ofNat n.toNat

def exprT : TLang where
  pre k v := if k = 1 then [byte (48 + v)] else if k = 2 then [byte (120 + v)] else if k = 3 then [33] else [40]
  mid k := if k = 4 then [38] else if k = 5 then [124] else if k = 6 then [61] else if k = 7 then [60] else if k = 8 then [43] else [45]
  pre2 k v := by repeat' split
                 all_goals simp
  mid1 k := by repeat' split
               all_goals simp
def formT : TLang where
  pre k v := if k = 1 then [84] else if k = 2 then [byte (112 + v)] else if k = 3 then [33] else if k = 6 then [88] else if k = 9 then [70] else if k = 10 then [71] else [40]
  mid k := if k = 4 then [38] else if k = 5 then [124] else if k = 7 then [85] else [82]
  pre2 k v := by repeat' split
                 all_goals simp
  mid1 k := by repeat' split
               all_goals simp
def branT : TLang where
  pre k v := if k = 1 then [84] else if k = 2 then [byte (112 + v)] else if k = 3 then [33] else if k = 6 then [69, 88] else if k = 8 then [69, 71] else if k = 9 then [65, 88] else if k = 11 then [65, 71] else if k = 7 then [69, 40] else if k = 10 then [65, 40] else [40]
  mid k := if k = 4 then [38] else if k = 5 then [124] else [85]
  pre2 k v := by repeat' split
                 all_goals simp
  mid1 k := by repeat' split
               all_goals simp

/-! ### expressions, read -/
def exprOp (c : UInt8) : Option Int := if c = 38 then some 4 else if c = 124 then some 5 else if c = 61 then some 6 else if c = 60 then some 7 else if c = 43 then some 8 else if c = 45 then some 9 else none
/-- two operands with a sign between, and a bracket behind -/
def pairWith (rd : List UInt8 → Option (Tr × List UInt8)) (op : UInt8 → Option Int) (s : List UInt8) : Option (Tr × List UInt8) :=
  match rd s with
  | some (a, o :: r1) => match op o with
    | some k => match rd r1 with
      | some (b, c :: r2) => if c = 41 then some (.mk k 0 [a, b], r2) else none
      | _ => none
    | none => none
  | _ => none
def oneWith (rd : List UInt8 → Option (Tr × List UInt8)) (k : Int) (s : List UInt8) : Option (Tr × List UInt8) :=
  match rd s with
  | some (a, r) => some (.mk k 0 [a], r)
  | none => none
def rdE (top : UInt8) : Nat → List UInt8 → Option (Tr × List UInt8)
  | 0, _ => none
  | _ + 1, [] => none
  | n + 1, c :: s =>
    if 48 ≤ c ∧ c ≤ top then some (.mk 1 ((c.toNat : Int) - 48) [], s)
    else if 120 ≤ c ∧ c ≤ 122 then some (.mk 2 ((c.toNat : Int) - 120) [], s)
    else if c = 33 then oneWith (rdE top n) 3 s
    else if c = 40 then pairWith (rdE top n) exprOp s
    else none

def formUn (c : UInt8) : Option Int := if c = 33 then some 3 else if c = 88 then some 6 else if c = 70 then some 9 else if c = 71 then some 10 else none
def formOp (c : UInt8) : Option Int := if c = 38 then some 4 else if c = 124 then some 5 else if c = 85 then some 7 else if c = 82 then some 8 else none
def rdF : Nat → List UInt8 → Option (Tr × List UInt8)
  | 0, _ => none
  | _ + 1, [] => none
  | n + 1, c :: s =>
    if c = 84 then some (.mk 1 0 [], s)
    else if 112 ≤ c ∧ c ≤ 114 then some (.mk 2 ((c.toNat : Int) - 112) [], s)
    else match formUn c with
      | some k => oneWith (rdF n) k s
      | none => if c = 40 then pairWith (rdF n) formOp s else none

/-- the operators behind E, A -/
def rdB2 (rd : List UInt8 → Option (Tr × List UInt8)) (k : Int) : List UInt8 → Option (Tr × List UInt8)
  | [] => none
  | c :: s => if c = 88 then oneWith rd k s else if c = 40 then pairWith rd (fun o => if o = 85 then some (k + 1) else none) s else if c = 71 then oneWith rd (k + 2) s else none
def branOp (c : UInt8) : Option Int := if c = 38 then some 4 else if c = 124 then some 5 else none
def rdB : Nat → List UInt8 → Option (Tr × List UInt8)
  | 0, _ => none
  | _ + 1, [] => none
  | n + 1, c :: s =>
    if c = 84 then some (.mk 1 0 [], s)
    else if 112 ≤ c ∧ c ≤ 114 then some (.mk 2 ((c.toNat : Int) - 112) [], s)
    else if c = 33 then oneWith (rdB n) 3 s
    else if c = 40 then pairWith (rdB n) branOp s
    else if c = 69 then rdB2 (rdB n) 6 s
    else if c = 65 then rdB2 (rdB n) 9 s
    else none

theorem oneWith_txt {rd : List UInt8 → Option (Tr × List UInt8)} {a : Tr} {s r : List UInt8} {k : Int} (h : rd s = some (a, r)) : oneWith rd k s = some (.mk k 0 [a], r) := by simp [oneWith, h]
theorem pairWith_txt {rd : List UInt8 → Option (Tr × List UInt8)} {op : UInt8 → Option Int} {a b : Tr} {s r r1 : List UInt8} {o : UInt8} {k : Int} (h : rd s = some (a, o :: r1)) (ho : op o = some k) (hb : rd r1 = some (b, 41 :: r)) :
    pairWith rd op s = some (.mk k 0 [a, b], r) := by simp [pairWith, h, ho, hb]

namespace Lang
variable (L : Lang)
/-- what a well-made node looks like -/
theorem shape_mk {k v : Int} {kids : List Tr} {n : Nat} (h : L.shape (.mk k v kids) n = true) : ∃ m, n = m + 1 ∧ 1 ≤ k ∧ k ≤ L.K ∧ 0 ≤ v ∧ v ≤ L.most k ∧ (kids.length : Int) = L.ar k ∧ ∀ t, t ∈ kids → L.shape t m = true := by
  simp only [shape, Bool.and_eq_true, decide_eq_true_eq, okB_iff] at h
  obtain ⟨h1, ⟨⟨h2, h3⟩, ⟨h4, h5⟩, h6⟩, h7⟩ := h
  obtain ⟨m, rfl⟩ : ∃ m, n = m + 1 := ⟨n - 1, by omega⟩
  refine ⟨m, rfl, h2, h3, h4, h5, h6, ?_⟩
  rw [show ((m + 1 : Nat) : Int) - 1 = (m : Int) by omega] at h7
  clear h6
  induction kids with
  | nil => intro t ht; cases ht
  | cons u us ih =>
    simp only [shapeL, Bool.and_eq_true] at h7
    intro t ht
    cases ht with
    | head => exact h7.1
    | tail _ ht => exact ih h7.2 t ht
end Lang

theorem len0 {l : List Tr} (h : (l.length : Int) = 0) : l = [] := List.eq_nil_of_length_eq_zero (by omega)
theorem len1 {l : List Tr} (h : (l.length : Int) = 1) : ∃ a, l = [a] := by
  match l, h with
  | [a], _ => exact ⟨a, rfl⟩
  | [], h => simp at h
  | _ :: _ :: _, h => simp at h; omega
theorem len2 {l : List Tr} (h : (l.length : Int) = 2) : ∃ a b, l = [a, b] := by
  match l, h with
  | [a, b], _ => exact ⟨a, b, rfl⟩
  | [], h => simp at h
  | [_], h => simp at h
  | _ :: _ :: _ :: _, h => simp at h; omega

/-- WHAT IS WRITTEN IS READ -/
theorem rdE_txt (top : UInt8) (ht : 51 ≤ top) (ht2 : top < 120) : ∀ (n : Nat) (t : Tr) (r : List UInt8), exprL.shape t n = true → rdE top n (exprT.txt t ++ r) = some (t, r) := by
  intro n
  induction n with
  | zero => intro t r h; cases t with | mk k v kids => obtain ⟨m, h1, _⟩ := exprL.shape_mk h; omega
  | succ n ih =>
    intro t r h
    cases t with
    | mk k v kids =>
    obtain ⟨m, h1, h2, h3, h4, h5, h6, h7⟩ := exprL.shape_mk h
    obtain rfl : n = m := by omega
    rw [exprL_K] at h3
    rw [exprL_most] at h5
    rw [exprL_ar] at h6
    have hk : k = 1 ∨ k = 2 ∨ k = 3 ∨ k = 4 ∨ k = 5 ∨ k = 6 ∨ k = 7 ∨ k = 8 ∨ k = 9 := by omega
    rcases hk with rfl | rfl | rfl | hk
    · obtain rfl := len0 (by simpa using h6)
      simp at h5
      have hv : v = 0 ∨ v = 1 ∨ v = 2 ∨ v = 3 := by omega
      have e1 : (48 : UInt8) ≤ top := UInt8.le_trans (by decide) ht
      have e2 : (49 : UInt8) ≤ top := UInt8.le_trans (by decide) ht
      have e3 : (50 : UInt8) ≤ top := UInt8.le_trans (by decide) ht
      rcases hv with rfl | rfl | rfl | rfl <;> simp [TLang.txt, TLang.txts, nodeTxt, exprT, byte, rdE, ht, e1, e2, e3]
    · obtain rfl := len0 (by simpa using h6)
      simp at h5
      have hv : v = 0 ∨ v = 1 ∨ v = 2 := by omega
      have e0 : ¬ (120 : UInt8) ≤ top := by rw [UInt8.not_le]; exact ht2
      have e1 : ¬ (121 : UInt8) ≤ top := by rw [UInt8.not_le]; exact UInt8.lt_trans ht2 (by decide)
      have e2 : ¬ (122 : UInt8) ≤ top := by rw [UInt8.not_le]; exact UInt8.lt_trans ht2 (by decide)
      rcases hv with rfl | rfl | rfl <;> simp [TLang.txt, TLang.txts, nodeTxt, exprT, byte, rdE, e0, e1, e2]
    · obtain ⟨a, rfl⟩ := len1 (by simpa using h6)
      obtain rfl : v = 0 := by simp at h5; omega
      have := ih a r (h7 a (by simp))
      simp [TLang.txt, TLang.txts, nodeTxt, exprT, rdE]
      exact oneWith_txt this
    · obtain ⟨a, b, rfl⟩ := len2 (by rw [h6]; rcases hk with rfl | rfl | rfl | rfl | rfl | rfl <;> simp)
      obtain rfl : v = 0 := by rw [if_neg (by omega), if_neg (by omega)] at h5; omega
      rcases hk with rfl | rfl | rfl | rfl | rfl | rfl
      all_goals
        simp [TLang.txt, TLang.txts, nodeTxt, exprT, rdE]
        exact pairWith_txt (ih a _ (h7 a (by simp))) (by simp [exprOp]) (ih b _ (h7 b (by simp)))

theorem rdF_txt : ∀ (n : Nat) (t : Tr) (r : List UInt8), formL.shape t n = true → rdF n (formT.txt t ++ r) = some (t, r) := by
  intro n
  induction n with
  | zero => intro t r h; cases t with | mk k v kids => obtain ⟨m, h1, _⟩ := formL.shape_mk h; omega
  | succ n ih =>
    intro t r h
    cases t with
    | mk k v kids =>
    obtain ⟨m, h1, h2, h3, h4, h5, h6, h7⟩ := formL.shape_mk h
    obtain rfl : n = m := by omega
    rw [formL_K] at h3
    rw [formL_most] at h5
    rw [formL_ar] at h6
    have hk : k = 1 ∨ k = 2 ∨ (k = 3 ∨ k = 6 ∨ k = 9 ∨ k = 10) ∨ (k = 4 ∨ k = 5 ∨ k = 7 ∨ k = 8) := by omega
    rcases hk with rfl | rfl | hk | hk
    · obtain rfl := len0 (by simpa using h6)
      obtain rfl : v = 0 := by simp at h5; omega
      simp [TLang.txt, TLang.txts, nodeTxt, formT, rdF]
    · obtain rfl := len0 (by simpa using h6)
      simp at h5
      have hv : v = 0 ∨ v = 1 ∨ v = 2 := by omega
      rcases hv with rfl | rfl | rfl <;> simp [TLang.txt, TLang.txts, nodeTxt, formT, byte, rdF]
    · obtain ⟨a, rfl⟩ := len1 (by rw [h6]; rcases hk with rfl | rfl | rfl | rfl <;> simp)
      obtain rfl : v = 0 := by rw [if_neg (by omega)] at h5; omega
      have := ih a r (h7 a (by simp))
      rcases hk with rfl | rfl | rfl | rfl
      all_goals
        simp [TLang.txt, TLang.txts, nodeTxt, formT, rdF, formUn]
        exact oneWith_txt this
    · obtain ⟨a, b, rfl⟩ := len2 (by rw [h6]; rcases hk with rfl | rfl | rfl | rfl <;> simp)
      obtain rfl : v = 0 := by rw [if_neg (by omega)] at h5; omega
      rcases hk with rfl | rfl | rfl | rfl
      all_goals
        simp [TLang.txt, TLang.txts, nodeTxt, formT, rdF, formUn]
        exact pairWith_txt (ih a _ (h7 a (by simp))) (by simp [formOp]) (ih b _ (h7 b (by simp)))

theorem rdB_txt : ∀ (n : Nat) (t : Tr) (r : List UInt8), branL.shape t n = true → rdB n (branT.txt t ++ r) = some (t, r) := by
  intro n
  induction n with
  | zero => intro t r h; cases t with | mk k v kids => obtain ⟨m, h1, _⟩ := branL.shape_mk h; omega
  | succ n ih =>
    intro t r h
    cases t with
    | mk k v kids =>
    obtain ⟨m, h1, h2, h3, h4, h5, h6, h7⟩ := branL.shape_mk h
    obtain rfl : n = m := by omega
    rw [branL_K] at h3
    rw [branL_most] at h5
    rw [branL_ar] at h6
    have hk : k = 1 ∨ k = 2 ∨ (k = 3 ∨ k = 6 ∨ k = 8 ∨ k = 9 ∨ k = 11) ∨ (k = 4 ∨ k = 5 ∨ k = 7 ∨ k = 10) := by omega
    rcases hk with rfl | rfl | hk | hk
    · obtain rfl := len0 (by simpa using h6)
      obtain rfl : v = 0 := by simp at h5; omega
      simp [TLang.txt, TLang.txts, nodeTxt, branT, rdB]
    · obtain rfl := len0 (by simpa using h6)
      simp at h5
      have hv : v = 0 ∨ v = 1 ∨ v = 2 := by omega
      rcases hv with rfl | rfl | rfl <;> simp [TLang.txt, TLang.txts, nodeTxt, branT, byte, rdB]
    · obtain ⟨a, rfl⟩ := len1 (by rw [h6]; rcases hk with rfl | rfl | rfl | rfl | rfl <;> simp)
      obtain rfl : v = 0 := by rw [if_neg (by omega)] at h5; omega
      have := ih a r (h7 a (by simp))
      rcases hk with rfl | rfl | rfl | rfl | rfl
      all_goals
        simp [TLang.txt, TLang.txts, nodeTxt, branT, rdB, rdB2]
        exact oneWith_txt this
    · obtain ⟨a, b, rfl⟩ := len2 (by rw [h6]; rcases hk with rfl | rfl | rfl | rfl <;> simp)
      obtain rfl : v = 0 := by rw [if_neg (by omega)] at h5; omega
      rcases hk with rfl | rfl | rfl | rfl
      all_goals
        simp [TLang.txt, TLang.txts, nodeTxt, branT, rdB, rdB2]
        exact pairWith_txt (ih a _ (h7 a (by simp))) (by simp [branOp]) (ih b _ (h7 b (by simp)))

theorem exprT_inj {n : Nat} {t u : Tr} (ht : exprL.shape t n = true) (hu : exprL.shape u n = true) (h : exprT.txt t = exprT.txt u) : t = u := by
  have h1 := rdE_txt 51 (by decide) (by decide) n t [] ht
  have h2 := rdE_txt 51 (by decide) (by decide) n u [] hu
  rw [h, h2] at h1
  simpa using h1.symm
theorem formT_inj {n : Nat} {t u : Tr} (ht : formL.shape t n = true) (hu : formL.shape u n = true) (h : formT.txt t = formT.txt u) : t = u := by
  have h1 := rdF_txt n t [] ht
  have h2 := rdF_txt n u [] hu
  rw [h, h2] at h1
  simpa using h1.symm
theorem branT_inj {n : Nat} {t u : Tr} (ht : branL.shape t n = true) (hu : branL.shape u n = true) (h : branT.txt t = branT.txt u) : t = u := by
  have h1 := rdB_txt n t [] ht
  have h2 := rdB_txt n u [] hu
  rw [h, h2] at h1
  simpa using h1.symm

/-! ### what is read was written -/
theorem oneWith_back {L : TLang} {rd : List UInt8 → Option (Tr × List UInt8)} {k : Int} {s r p : List UInt8} {t : Tr} (h : oneWith rd k s = some (t, r)) (ih : ∀ s t r, rd s = some (t, r) → s = L.txt t ++ r) (hp : L.pre k 0 = p) : p ++ s = L.txt t ++ r ∧ ∃ a r', rd s = some (a, r') ∧ t = .mk k 0 [a] := by
  unfold oneWith at h
  split at h
  · rename_i a r' hr
    simp at h
    obtain ⟨rfl, rfl⟩ := h
    have := ih _ _ _ hr
    refine ⟨?_, a, r', hr, rfl⟩
    rw [this]
    simp [TLang.txt, TLang.txts, nodeTxt, hp]
  · cases h
theorem pairWith_back {L : TLang} {rd : List UInt8 → Option (Tr × List UInt8)} {op : UInt8 → Option Int} {s r p : List UInt8} {t : Tr} (h : pairWith rd op s = some (t, r)) (ih : ∀ s t r, rd s = some (t, r) → s = L.txt t ++ r)
    (hp : ∀ o k, op o = some k → L.pre k 0 = p ∧ L.mid k = [o]) : p ++ s = L.txt t ++ r ∧ ∃ k a b s1 r1 s2 r2 o, op o = some k ∧ rd s1 = some (a, r1) ∧ rd s2 = some (b, r2) ∧ t = .mk k 0 [a, b] := by
  unfold pairWith at h
  split at h
  · rename_i a o r1 ha
    split at h
    · rename_i k hk
      split at h
      · rename_i b c r2 hb
        split at h
        · rename_i hc
          simp at h
          obtain ⟨rfl, rfl⟩ := h
          obtain ⟨h1, h2⟩ := hp o k hk
          refine ⟨?_, k, a, b, s, _, r1, _, o, hk, ha, hb, rfl⟩
          rw [ih _ _ _ ha, ih _ _ _ hb, hc]
          simp [TLang.txt, TLang.txts, nodeTxt, h1, h2]
        · cases h
      · cases h
    · cases h
  · cases h
theorem byte_back (c : UInt8) (b : Nat) (h : b ≤ c.toNat) : byte ((b : Int) + ((c.toNat : Int) - b)) = c := by
  rw [show (b : Int) + ((c.toNat : Int) - b) = (c.toNat : Int) by omega]
  simp [byte]

theorem exprOp_pre {o : UInt8} {k : Int} (h : exprOp o = some k) : exprT.pre k 0 = [40] ∧ exprT.mid k = [o] ∧ 4 ≤ k ∧ k ≤ 9 := by
  unfold exprOp at h
  repeat' split at h
  all_goals (first | cases h; done | (rename_i hc; subst hc; simp at h; subst h; simp [exprT]))
theorem formUn_pre {o : UInt8} {k : Int} (h : formUn o = some k) : formT.pre k 0 = [o] ∧ (k = 3 ∨ k = 6 ∨ k = 9 ∨ k = 10) := by
  unfold formUn at h
  repeat' split at h
  all_goals (first | cases h; done | (rename_i hc; subst hc; simp at h; subst h; simp [formT]))
theorem formOp_pre {o : UInt8} {k : Int} (h : formOp o = some k) : formT.pre k 0 = [40] ∧ formT.mid k = [o] ∧ (k = 4 ∨ k = 5 ∨ k = 7 ∨ k = 8) := by
  unfold formOp at h
  repeat' split at h
  all_goals (first | cases h; done | (rename_i hc; subst hc; simp at h; subst h; simp [formT]))
theorem branOp_pre {o : UInt8} {k : Int} (h : branOp o = some k) : branT.pre k 0 = [40] ∧ branT.mid k = [o] ∧ (k = 4 ∨ k = 5) := by
  unfold branOp at h
  repeat' split at h
  all_goals (first | cases h; done | (rename_i hc; subst hc; simp at h; subst h; simp [branT]))

theorem rdE_back (top : UInt8) : ∀ (n : Nat) (s : List UInt8) (t : Tr) (r : List UInt8), rdE top n s = some (t, r) → s = exprT.txt t ++ r := by
  intro n
  induction n with
  | zero => intro s t r h; simp [rdE] at h
  | succ n ih =>
    intro s t r h
    match s, h with
    | [], h => simp [rdE] at h
    | c :: s, h =>
      simp only [rdE] at h
      split at h
      · rename_i hc
        simp at h
        obtain ⟨rfl, rfl⟩ := h
        have := byte_back c 48 (by have := UInt8.le_iff_toNat_le.1 hc.1; simpa using this)
        simp [TLang.txt, TLang.txts, nodeTxt, exprT]
        exact this.symm
      · split at h
        · rename_i hc
          simp at h
          obtain ⟨rfl, rfl⟩ := h
          have := byte_back c 120 (by have := UInt8.le_iff_toNat_le.1 hc.1; simpa using this)
          simp [TLang.txt, TLang.txts, nodeTxt, exprT]
          exact this.symm
        · split at h
          · rename_i hc
            rw [hc]
            exact (oneWith_back (L := exprT) (p := [33]) h (fun s t r h => ih s t r h) (by simp [exprT])).1
          · split at h
            · rename_i hc
              rw [hc]
              refine (pairWith_back (L := exprT) (p := [40]) h (fun s t r h => ih s t r h) ?_).1
              intro o k ho
              exact ⟨(exprOp_pre ho).1, (exprOp_pre ho).2.1⟩
            · cases h

theorem rdF_back : ∀ (n : Nat) (s : List UInt8) (t : Tr) (r : List UInt8), rdF n s = some (t, r) → s = formT.txt t ++ r := by
  intro n
  induction n with
  | zero => intro s t r h; simp [rdF] at h
  | succ n ih =>
    intro s t r h
    match s, h with
    | [], h => simp [rdF] at h
    | c :: s, h =>
      simp only [rdF] at h
      split at h
      · rename_i hc
        simp at h
        obtain ⟨rfl, rfl⟩ := h
        simp [TLang.txt, TLang.txts, nodeTxt, formT, hc]
      · split at h
        · rename_i hc
          simp at h
          obtain ⟨rfl, rfl⟩ := h
          have := byte_back c 112 (by have := UInt8.le_iff_toNat_le.1 hc.1; simpa using this)
          simp [TLang.txt, TLang.txts, nodeTxt, formT]
          exact this.symm
        · split at h
          · rename_i k hk
            refine (oneWith_back (L := formT) (p := [c]) h (fun s t r h => ih s t r h) ?_).1
            exact (formUn_pre hk).1
          · split at h
            · rename_i hc
              rw [hc]
              refine (pairWith_back (L := formT) (p := [40]) h (fun s t r h => ih s t r h) ?_).1
              intro o k ho
              exact ⟨(formOp_pre ho).1, (formOp_pre ho).2.1⟩
            · cases h

theorem rdB2_back {rd : List UInt8 → Option (Tr × List UInt8)} {k : Int} {c : UInt8} (hk : (k = 6 ∧ c = 69) ∨ (k = 9 ∧ c = 65)) {s r : List UInt8} {t : Tr} (h : rdB2 rd k s = some (t, r)) (ih : ∀ s t r, rd s = some (t, r) → s = branT.txt t ++ r) : c :: s = branT.txt t ++ r := by
  match s, h with
  | [], h => simp [rdB2] at h
  | d :: s, h =>
    simp only [rdB2] at h
    split at h
    · rename_i hd
      rw [hd]
      exact (oneWith_back (L := branT) (p := [c, 88]) h ih (by rcases hk with ⟨rfl, rfl⟩ | ⟨rfl, rfl⟩ <;> simp [branT])).1
    · split at h
      · rename_i hd
        rw [hd]
        refine (pairWith_back (L := branT) (p := [c, 40]) h ih ?_).1
        intro o k' ho
        simp at ho
        obtain ⟨rfl, rfl⟩ := ho
        rcases hk with ⟨rfl, rfl⟩ | ⟨rfl, rfl⟩ <;> simp [branT]
      · split at h
        · rename_i hd
          rw [hd]
          exact (oneWith_back (L := branT) (p := [c, 71]) h ih (by rcases hk with ⟨rfl, rfl⟩ | ⟨rfl, rfl⟩ <;> simp [branT])).1
        · cases h

theorem rdB_back : ∀ (n : Nat) (s : List UInt8) (t : Tr) (r : List UInt8), rdB n s = some (t, r) → s = branT.txt t ++ r := by
  intro n
  induction n with
  | zero => intro s t r h; simp [rdB] at h
  | succ n ih =>
    intro s t r h
    match s, h with
    | [], h => simp [rdB] at h
    | c :: s, h =>
      simp only [rdB] at h
      split at h
      · rename_i hc
        simp at h
        obtain ⟨rfl, rfl⟩ := h
        simp [TLang.txt, TLang.txts, nodeTxt, branT, hc]
      · split at h
        · rename_i hc
          simp at h
          obtain ⟨rfl, rfl⟩ := h
          have := byte_back c 112 (by have := UInt8.le_iff_toNat_le.1 hc.1; simpa using this)
          simp [TLang.txt, TLang.txts, nodeTxt, branT]
          exact this.symm
        · split at h
          · rename_i hc
            rw [hc]
            exact (oneWith_back (L := branT) (p := [33]) h (fun s t r h => ih s t r h) (by simp [branT])).1
          · split at h
            · rename_i hc
              rw [hc]
              refine (pairWith_back (L := branT) (p := [40]) h (fun s t r h => ih s t r h) ?_).1
              intro o k ho
              exact ⟨(branOp_pre ho).1, (branOp_pre ho).2.1⟩
            · split at h
              · rename_i hc
                rw [hc]
                exact rdB2_back (.inl ⟨rfl, rfl⟩) h (fun s t r h => ih s t r h)
              · split at h
                · rename_i hc
                  rw [hc]
                  exact rdB2_back (.inr ⟨rfl, rfl⟩) h (fun s t r h => ih s t r h)
                · cases h

end Go.Proofs.YtgopfjnpjkpelaaDoor
namespace Go.Proofs.YtgopfjnpjkpelaaDoor

def tr01 (b : Bool) : Int := if b then 1 else 0
/-- a node's value, of the values below -/
def nodeVal (g : Int → Int) (k v : Int) : List Int → Int
  | [] => if k = 1 then v else g v
  | [a] => tr01 (a == 0)
  | a :: b :: _ => if k = 4 then tr01 (a != 0 && b != 0) else if k = 5 then tr01 (a != 0 || b != 0) else if k = 6 then tr01 (a == b) else if k = 7 then tr01 (decide (a < b)) else if k = 8 then (a + b) % 4 else (a - b + 4) % 4
mutual
def evalT (g : Int → Int) : Tr → Int | .mk k v kids => nodeVal g k v (evalTs g kids)
def evalTs (g : Int → Int) : List Tr → List Int | [] => [] | t :: ts => evalT g t :: evalTs g ts
end

theorem tr01_bd (b : Bool) : 0 ≤ tr01 b ∧ tr01 b ≤ 3 := by cases b <;> simp [tr01]
theorem evalT_bd (g : Int → Int) (hg : ∀ v, 0 ≤ v → v ≤ 2 → 0 ≤ g v ∧ g v ≤ 3) : ∀ (n : Nat) (t : Tr), exprL.shape t n = true → 0 ≤ evalT g t ∧ evalT g t ≤ 3 := by
  intro n t h
  cases t with
  | mk k v kids =>
  obtain ⟨m, h1, h2, h3, h4, h5, h6, h7⟩ := exprL.shape_mk h
  rw [exprL_K] at h3
  rw [exprL_most] at h5
  rw [exprL_ar] at h6
  by_cases hk : k = 1
  · subst hk
    obtain rfl := len0 (by simpa using h6)
    simp at h5
    simp [evalT, evalTs, nodeVal, h4, h5]
  by_cases hk2 : k = 2
  · subst hk2
    obtain rfl := len0 (by simpa using h6)
    simp at h5
    simp [evalT, evalTs, nodeVal]
    exact hg v h4 h5
  by_cases hk3 : k = 3
  · subst hk3
    obtain ⟨a, rfl⟩ := len1 (by simpa using h6)
    simp only [evalT, evalTs, nodeVal]
    exact tr01_bd _
  · obtain ⟨a, b, rfl⟩ := len2 (by rw [h6, if_neg (by omega), if_neg (by omega)])
    simp only [evalT, evalTs, nodeVal]
    repeat' split
    all_goals (first | exact tr01_bd _ | omega)

/-! ### variables -/
mutual
/-- does a variable occur -/
def occT (x : Int) : Tr → Bool | .mk k v kids => (k == 2 && v == x) || occL x kids
def occL (x : Int) : List Tr → Bool | [] => false | t :: ts => occT x t || occL x ts
end

/-! ### an expression put for a variable -/
mutual
def subT (x : Int) (y : Tr) : Tr → Tr | .mk k v kids => if k = 2 ∧ v = x then y else .mk k v (subL x y kids)
def subL (x : Int) (y : Tr) : List Tr → List Tr | [] => [] | t :: ts => subT x y t :: subL x y ts
end
theorem subL_map (x : Int) (y : Tr) : ∀ l, subL x y l = l.map (subT x y) | [] => by simp [subL] | t :: ts => by simp [subL, subL_map x y ts]
theorem subL_len (x : Int) (y : Tr) (l : List Tr) : (subL x y l).length = l.length := by rw [subL_map]; simp

end Go.Proofs.YtgopfjnpjkpelaaDoor
namespace Go.Proofs.YtgopfjnpjkpelaaDoor
open Go.RowKit
namespace Expr

theorem rowInfo : (Tryd.prog.info? 45).map (fun i => (i.zero, i.size, i.bytes)) = some (some (.agg #[.int .i64 0, .int .i64 0, .slice none 0 0]), 3, 40) := by kernel_rfl

/-- l1Subst of t: x, by stand for what is put for the variable x: the tree r -/
def SbT (x : Int) (y r : Tr) (t : Tr) : Prop := ∀ (w : World) (v u : Value), TrIn Any w t v → TrIn Any w y u → Small t → Calls Tryd.prog 39 #[v, .int .i64 x, u] w (RetP (OwnN w.heap.size 45 (subT x r t)) w)

set_option maxHeartbeats 1000000 in
set_option maxRecDepth 100000 in
theorem sb_of (x : Int) (y r : Tr) (k v : Int) (kids : List Tr) (hkx : ¬ (k = 2 ∧ v = x)) (h : ∀ t, t ∈ kids → SbT x y r t) : SbT x y r (.mk k v kids) := by
  intro w xv yv hx hy hs
  have hx0 := hx
  rw [TrIn_mk] at hx
  obtain ⟨a, n, c, rfl, hk, hv, rfl, hc, hc2, hks⟩ := hx
  obtain ⟨a', c', rfl⟩ := TrIn_shape hy
  unfold maxLen at hc2
  replace hs : kids.length ≤ 1048576 ∧ SmallL kids := hs
  have hres : subT x r (.mk k v kids) = .mk k v (kids.map (subT x r)) := by rw [subT, if_neg hkx, subL_map]
  have HR := hid hres
  clear hres
  obtain ⟨kd, kdv, hkd⟩ : ∃ kd kdv, kd = y.kind ∧ kdv = y.val := ⟨_, _, rfl, rfl⟩
  have hcase : (k = 2 ∧ (v == x) = false) ∨ (k == 2) = false := by
    by_cases h2 : k = 2
    · left; refine ⟨h2, ?_⟩; rw [beq_eq_false_iff_ne]; intro e; exact hkx ⟨h2, e⟩
    · right; rw [beq_eq_false_iff_ne]; exact h2
  clear hkx hkd kd kdv
  rcases hcase with ⟨rfl, hvx⟩ | hk2
  all_goals
    go_enter Tryd.func39, Tryd.ntmps39
    go_wp2_with fail
    go_loopw [8] (fun i wr => ∃ (j : Nat) (u : Value), j ≤ kids.length ∧ i = .int .i64 j ∧ Below w.heap.size w wr ∧ Box3 wr w.heap.size (.int .i64 _) (.int .i64 v) (.slice a kids.length c) ∧ Box3 wr (w.heap.size + 1) (.int .i64 y.kind) (.int .i64 y.val) (.slice a' y.kids.length c') ∧
      Box3 wr (w.heap.size + 1 + 1) (.int .i64 0) (.int .i64 0) (.slice none 0 0) ∧ Box3 wr (w.heap.size + 1 + 1 + 1) (.int .i64 _) (.int .i64 v) u ∧ OwnRow (w.heap.size + 1 + 1 + 1 + 1) 45 u ((kids.map (subT x r)).take j) wr) (fun i _ => kids.length - (intOf i).toNat)
    case atStart =>
      refine ⟨0, .slice none 0 0, Nat.zero_le _, rfl, (by repeat (first | exact Below.refl _ _ | assumption | refine below_a ?_ _ | refine below_o ?_ _ | refine below_d ?_ | refine below_n ?_ _ | refine below_s ?_ (by first | (simp; done) | (simp; omega) | omega) _)), ?_, ?_, ?_, ?_, OwnRow.nil _ _ _⟩
      · exact box3_next (below_alloc _ _) (box3_next (below_alloc _ _) (box3_next (below_alloc _ _) (box3_new ..)))
      · exact box3_next (below_alloc _ _) (box3_next (below_alloc _ _) (box3_at (by simp)))
      · exact box3_next (below_alloc _ _) (box3_at (by simp))
      · exact box3_at (by simp)
    case round =>
      obtain ⟨j, u, hj, rfl, hb, b0, bY, b1, b2, ho⟩ := hrel
      by_cases hlt : j < kids.length
      · obtain ⟨b, o, rfl, gb0, _⟩ := TrsIn_addr hks (by omega)
        obtain ⟨b', o', c0, c1, c2, t, hbo, gb, g0, g1, g2, hT⟩ := TrsIn_round hks hb hlt
        obtain ⟨rfl, rfl⟩ : b = b' ∧ o = o' := by simpa using hbo
        have hlt2 : (j : Int) < (kids.length : Int) := by omega
        have b2l : w.heap.size + 1 + 1 + 1 + 1 ≤ wr.heap.size := b2.1
        have b0' := b0
        have b2' := b2
        have bY' := bY
        obtain ⟨p0, p1, p2, p3, p4, p5, p6⟩ := b0'
        obtain ⟨q0, q1, q2, q3, q4, q5, q6⟩ := b2'
        obtain ⟨r0, r1, r2, r3, r4, r5, r6⟩ := bY'
        obtain ⟨B, hB⟩ : ∃ B, B = w.heap.size + 1 + 1 + 1 + 1 := ⟨_, rfl⟩
        have f0 : ∀ x, (wr.overX B B x).cell? ⟨w.heap.size + 1 + 1 + 1, 2, none⟩ = some u := fun x => by rw [overX_cell _ _ _ _ _ _ (by omega) (by omega)]; exact q3
        have f1 : ∀ x, (wr.overX B B x).cell? ⟨w.heap.size, 2, none⟩ = some (.slice (some ⟨b, o, none⟩) kids.length c) := fun x => by rw [overX_cell _ _ _ _ _ _ (by omega) (by omega)]; exact p3
        have f2 : ∀ x, (wr.overX B B x).cell? ⟨b, o + j * 3, none⟩ = some c0 := fun x => by rw [overX_cell _ _ _ _ _ _ (by omega) (by omega)]; exact g0
        have f3 : ∀ x, (wr.overX B B x).cell? ⟨b, o + j * 3 + 1, none⟩ = some c1 := fun x => by rw [overX_cell _ _ _ _ _ _ (by omega) (by omega)]; exact g1
        have f4 : ∀ x, (wr.overX B B x).cell? ⟨b, o + j * 3 + 2, none⟩ = some c2 := fun x => by rw [overX_cell _ _ _ _ _ _ (by omega) (by omega)]; exact g2
        have f5 : ∀ x, (wr.overX B B x).cell? ⟨w.heap.size + 1, 0, none⟩ = some (.int .i64 y.kind) := fun x => by rw [overX_cell _ _ _ _ _ _ (by omega) (by omega)]; exact r1
        have f6 : ∀ x, (wr.overX B B x).cell? ⟨w.heap.size + 1, 1, none⟩ = some (.int .i64 y.val) := fun x => by rw [overX_cell _ _ _ _ _ _ (by omega) (by omega)]; exact r2
        have f7 : ∀ x, (wr.overX B B x).cell? ⟨w.heap.size + 1, 2, none⟩ = some (.slice a' y.kids.length c') := fun x => by rw [overX_cell _ _ _ _ _ _ (by omega) (by omega)]; exact r3
        go_wp2_with fail
        refine wp_region_tail (C := fun wZ => ∃ xZ, wZ = World.overX _ (B) (B) xZ) [0,1,2,3,4,5,6,7,8] [9,10,11,12,13] (13) (by kernel_rfl) (by kernel_rfl) (fun d _ _ _ _ h => by cases d <;> exact h) (ButX.refl _ _ _).drew.ex ?_; simp only [pick, List.getElem?_cons_succ, List.getElem?_cons_zero]; (repeat (go_big_quiet_step (fail))); refine wpQuiet_nil ?_; simp only [tailW]
        go_wp2_with fail
        refine (h t hT.out.2.1 _ _ _ (TrIn_below (below_d (Below.refl _ _)) hT.out.1) (TrIn_below (below_d hb) hy) (smallL_mem hs.2 hT.out.2.1)).mono ?_
        rintro e w1 ⟨v1, rfl, hn0, hb1⟩
        have hn := hn0.new; clear hn0
        obtain ⟨a1, n1, rfl⟩ := TrIn_shape hn.any
        have hb2 : ButX B B wr w1 := ButX.next (ButX.refl B B wr).drew hb1 (by simp; omega)
        have s1 := hb1.size
        simp at s1
        go_wp2_with fail
        refine ⟨hb2.ex, ?_⟩
        go_wp2_with fail
        refine ⟨(hb2.next (below_alloc _ _) (by omega)).ex, ?_⟩
        have hk1 : Keep (w.heap.size + 1 + 1 + 1 + 1) wr w1 := (Keep.drew wr).trans (Keep.below hb1)
        refine wp_append_node rfl (.tmp 34) (.tmp 43) 43 rfl 45 Tryd.underlying43 rowInfo (by rfl) (by rfl) (by intro x hx; simp at hx; rcases hx with rfl | rfl | rfl <;> rfl) ho b2l hk1 (Nat.le_refl _) hn (by simp only [List.length_take, List.length_map]; omega) ?_
        intro a2 n2 m2 w3 ho3' hb4 _ _
        have hb3 : ButX B B wr w3 := hb2.trans (ButX.ofB (hB ▸ hb4))
        have hk3 : (kids.map (subT x r)).take j ++ [subT x r t] = (kids.map (subT x r)).take (j + 1) := by rw [List.take_add_one, List.getElem?_map, hT.out.2.2.2]; rfl
        rw [hk3] at ho3'
        have B3 : Below w.heap.size w w3 := hb.trans ⟨hb3.os, hb3.tape, hb3.output, hb3.size, fun k hk => hb3.block k (by omega) (by omega)⟩
        have t1 := box3_butx hb3 (by omega) (by omega) b1
        have t0 := box3_butx hb3 (by omega) (by omega) b0
        have tY := box3_butx hb3 (by omega) (by omega) bY
        have t2 := box3_butx hb3 (by omega) (by omega) b2
        have HO := hid ho3'
        have hw3 : B ≤ w3.heap.size := by have := hb3.size; omega
        clear ho ho3' hn hb1 hb2 hb4 hk1 f0 f1 f2 f3 f4 f5 f6 f7 p0 p1 p2 p3 p4 p5 p6 q0 q1 q2 q3 q4 q5 q6 r0 r1 r2 r3 r4 r5 r6 b0 b1 b2 bY hk3
        have t2' := t2
        obtain ⟨q0, q1, q2, q3, q4, q5, q6⟩ := t2
        refine ⟨hb3.ex, ?_⟩
        go_wp2_with fail
        refine ⟨hb3.ex, ?_⟩
        go_wp2_with fail
        go_roundw
        case rel => exact ⟨j + 1, .slice a2 n2 m2, by omega, by go_num, B3.setCell (by simp; omega) _, box3_but (But.set w3 (w.heap.size + 1 + 1 + 1) 2 _) (by omega) t0, box3_but (But.set w3 (w.heap.size + 1 + 1 + 1) 2 _) (by omega) tY, box3_but (But.set w3 (w.heap.size + 1 + 1 + 1) 2 _) (by omega) t1, box3_set2 t2' _, HO.out.keep (Keep.set _ (by simp) _)⟩
        case measure => simp [intOf]; omega
      · have hlt2 : ¬ ((j : Int) < (kids.length : Int)) := by omega
        obtain rfl : j = kids.length := by omega
        have hfull : (kids.map (subT x r)).take kids.length = kids.map (subT x r) := List.take_of_length_le (by simp)
        rw [hfull] at ho
        obtain ⟨a2, n2, m2, rfl⟩ : ∃ a2 n2 m2, u = .slice a2 n2 m2 := by obtain ⟨a2, m2, h2, _⟩ := ho.shape; exact ⟨_, _, _, h2⟩
        have HO := hid ho
        clear ho hfull
        go_wp2_with fail
        refine bodyPost_ret (v := .agg #[.int .i64 _, .int .i64 v, .slice a2 n2 m2]) (by simp [results, Tryd.results39, go_sem, b1]; rfl) rfl ?_
        rw [HR.out]
        exact RetP.mk ⟨_, rfl, hk, hv, (HO.out.keep (((Keep.set _ (by simp) _).trans (Keep.set _ (by simp) _)).trans (Keep.set _ (by simp) _))).mono (by omega)⟩ (by repeat (first | exact Below.refl _ _ | assumption | refine below_a ?_ _ | refine below_o ?_ _ | refine below_d ?_ | refine below_n ?_ _ | refine below_s ?_ (by first | (simp; done) | (simp; omega) | omega) _))

mutual
theorem sub_none (x : Int) (r : Tr) : ∀ t, occT x t = false → subT x r t = t
  | .mk k v kids, h => by
    simp only [occT, Bool.or_eq_false_iff, Bool.and_eq_false_iff, beq_eq_false_iff_ne] at h
    rw [subT, if_neg (by rintro ⟨h1, h2⟩; rcases h.1 with h3 | h3 <;> contradiction), subL_none x r kids h.2]
theorem subL_none (x : Int) (r : Tr) : ∀ l, occL x l = false → subL x r l = l
  | [], _ => by simp [subL]
  | t :: ts, h => by
    simp only [occL, Bool.or_eq_false_iff] at h
    simp only [subL]
    rw [sub_none x r t h.1, subL_none x r ts h.2]
end
theorem occL_mem {x : Int} {t : Tr} : ∀ {l : List Tr}, occL x l = false → t ∈ l → occT x t = false
  | u :: us, h, hm => by
    simp only [occL, Bool.or_eq_false_iff] at h
    cases hm with
    | head => exact h.1
    | tail _ hm => exact occL_mem h.2 hm
theorem cps_any (y r : Tr) : ∀ t, occT (-1) t = false → SbT (-1) y r t := by
  refine Tr.ind fun k v kids ih h => ?_
  simp only [occT, Bool.or_eq_false_iff, Bool.and_eq_false_iff, beq_eq_false_iff_ne] at h
  exact sb_of (-1) y r k v kids (by rintro ⟨h1, h2⟩; rcases h.1 with h3 | h3 <;> contradiction) fun t ht => ih t ht (occL_mem h.2 ht)

set_option maxHeartbeats 1000000 in
theorem sb_var (x : Int) (y : Tr) (hy : occT (-1) y = false) (hys : Small y) (v : Int) (kids : List Tr) (hvx : v = x) : SbT x y y (.mk 2 v kids) := by
  intro w xv yv hx hyy hs
  obtain ⟨a, c, rfl⟩ := TrIn_shapeMk hx
  obtain ⟨a', c', rfl⟩ := TrIn_shape hyy
  have HR := hid (show subT x y (.mk 2 v kids) = y by rw [subT, if_pos ⟨rfl, hvx⟩])
  have e1 : (v == x) = true := by simpa using hvx
  have HC := hid (fun w v' u hv hu => cps_any (.mk 0 0 []) y y hy w v' u hv hu hys)
  clear hvx
  go_enter Tryd.func39, Tryd.ntmps39
  have hne := hid (sub_none (-1) y y hy)
  go_wp2_with fail
  refine (HC.out _ _ _ (TrIn_below (by repeat (first | exact Below.refl _ _ | assumption | refine below_a ?_ _ | refine below_o ?_ _ | refine below_d ?_ | refine below_n ?_ _ | refine below_s ?_ (by first | (simp; done) | (simp; omega) | omega) _)) hyy) (leaf_new 0 _ (by unfold i64; omega) (by unfold i64; omega)).any).mono ?_
  rintro e w1 ⟨v1, rfl, hn, hb⟩
  rw [hne.out] at hn
  obtain ⟨u, rfl, i1, i2, ho⟩ := hn
  obtain ⟨a2, c2, rfl, _⟩ := ho.shape
  have HO := hid ho
  have bP := box3_next hb (box3_at (B := w.heap.size + 1 + 1) (by simp))
  have bP' := bP
  obtain ⟨z0, z1, z2, z3, z4, z5, z6⟩ := bP
  have B1 := hid (below_next (show Below w.heap.size w _ from (by repeat (first | exact Below.refl _ _ | assumption | refine below_a ?_ _ | refine below_o ?_ _ | refine below_d ?_ | refine below_n ?_ _ | refine below_s ?_ (by first | (simp; done) | (simp; omega) | omega) _))) hb)
  clear ho hb
  go_wp2_with fail
  obtain ⟨y0, y1, y2, y3, _⟩ := box3_set2 (box3_set1 (box3_set0 bP' (.int .i64 y.kind)) (.int .i64 y.val)) (.slice a2 y.kids.length c2); refine bodyPost_ret (v := .agg #[.int .i64 y.kind, .int .i64 y.val, .slice a2 y.kids.length c2]) (by simp [results, Tryd.results39, go_sem, y1, y2, y3]) rfl ?_
  rw [HR.out]
  exact RetP.mk ⟨_, rfl, i1, i2, (HO.out.keep (((Keep.set _ (by simp) _).trans (Keep.set _ (by simp) _)).trans (Keep.set _ (by simp) _))).mono (by simp; omega)⟩ (below_set3 B1.out (by omega) _ _ _)

/-- .. for every tree -/
theorem sb_any (x : Int) (y : Tr) (hy : occT (-1) y = false) (hys : Small y) : ∀ t, SbT x y y t := Tr.ind fun k v kids ih => by
  by_cases h : k = 2 ∧ v = x
  · obtain ⟨rfl, hv⟩ := h
    exact sb_var x y hy hys v kids hv
  · exact sb_of x y y k v kids h ih

mutual
theorem noneg : ∀ (t : Tr) (d : Int), exprL.shape t d = true → occT (-1) t = false
  | .mk k v kids, d, h => by
    simp only [Lang.shape, Bool.and_eq_true, decide_eq_true_eq, Lang.okB_iff] at h
    simp only [occT, Bool.or_eq_false_iff, Bool.and_eq_false_iff, beq_eq_false_iff_ne]
    exact ⟨.inr (by omega), nonegL kids (d - 1) h.2.2⟩
theorem nonegL : ∀ (l : List Tr) (d : Int), exprL.shapeL l d = true → occL (-1) l = false
  | [], _, _ => by simp [occL]
  | t :: ts, d, h => by
    simp only [Lang.shapeL, Bool.and_eq_true] at h
    simp only [occL, Bool.or_eq_false_iff]
    exact ⟨noneg t d h.1, nonegL ts d h.2⟩
end
theorem noneg_valid {t : Tr} (h : exprL.valid t = true) : occT (-1) t = false := noneg t 6 (by rw [Lang.valid, Bool.and_eq_true] at h; exact h.1)

end Expr
end Go.Proofs.YtgopfjnpjkpelaaDoor
