/- Joined texts (EdgeSpecV, EdgeImplV, TxtPlain, EvalPlain, EvalE, ValsV, SysV, SysVI): contracts and plain laws. Conditions: those of each theorem. -/
import Derived.Test.YtdmieedfddgmjaaJE1
import Derived.Test.YtdmieedfddgmjaaJE3
import Derived.Test.YtdmieedfddgmjaaRows
import Derived.Test.YtdmieedfddgmjaaJE2
import Derived.WalkSpells
import Derived.WalkLawsBesides
set_option linter.unusedVariables false
set_option linter.unusedSimpArgs false
namespace Go.Proofs.Ytdmieedfddgmjaa
open Go.RowKit
namespace Edge

/-- the empty expression -/
def none0 : Tr := .mk 0 0 []
theorem none0_in (p : Nat → Prop) (w : World) : TrIn p w none0 (.agg #[.int .i64 0, .int .i64 0, .slice none 0 0]) :=
  (TrIn_mk ..).2 ⟨none, 0, 0, rfl, by unfold i64; omega, by unfold i64; omega, rfl, Nat.le_refl _, Nat.zero_le _, TrsIn_nil _ _ _⟩
def isNone (t : Tr) : Bool := decide (t.kind = 0) && (decide (t.val = 0) && decide (t.kids.length = 0))
theorem isNone_eq (t : Tr) : eqT t none0 = isNone t := by
  rw [Bool.eq_iff_iff, eqT_true]
  simp only [isNone, Bool.and_eq_true, decide_eq_true_eq]
  cases t with
  | mk k v kids => cases kids <;> simp [none0, Tr.kind, Tr.val, Tr.kids]

theorem none_any (t : Tr) (w : World) (x : Value) (hx : TrIn Any w t x) : Calls Try.prog 68 #[x] w (Ret (.bool (isNone t)) w) := by
  obtain ⟨a, c, rfl⟩ := TrIn_shape hx
  by_cases h1 : t.kind = 0
  · by_cases h2 : t.val = 0
    · have E := hid (show isNone t = decide ((t.kids.length : Int) = 0) by simp [isNone, h1, h2])
      go_enter Try.func68, Try.ntmps68
      go_wp2_with fail
      go_ret
      exact Ret.mk (bool_val (by rw [E.out, Bool.eq_iff_iff]; simp)) (by repeat (first | exact Below.refl _ _ | assumption | refine below_a ?_ _ | refine below_o ?_ _ | refine below_d ?_ | refine below_n ?_ _ | refine below_s ?_ (by first | (simp; done) | (simp; omega) | omega) _))
    · have E := hid (show isNone t = false by simp [isNone, h2])
      go_enter Try.func68, Try.ntmps68
      go_wp2_with fail
      go_ret
      exact Ret.mk (bool_val (by rw [E.out])) (by repeat (first | exact Below.refl _ _ | assumption | refine below_a ?_ _ | refine below_o ?_ _ | refine below_d ?_ | refine below_n ?_ _ | refine below_s ?_ (by first | (simp; done) | (simp; omega) | omega) _))
  · have E := hid (show isNone t = false by simp [isNone, h1])
    go_enter Try.func68, Try.ntmps68
    go_wp2_with fail
    go_ret
    exact Ret.mk (bool_val (by rw [E.out])) (by repeat (first | exact Below.refl _ _ | assumption | refine below_a ?_ _ | refine below_o ?_ _ | refine below_d ?_ | refine below_n ?_ _ | refine below_s ?_ (by first | (simp; done) | (simp; omega) | omega) _))

def okV (e : Ed) (g v : Bool) : Bool := g && (decide (-2 ≤ e.sync ∧ e.sync ≤ 2) && (decide (-1 ≤ e.var ∧ e.var ≤ 2) && (if e.var < 0 then isNone e.val else v)))
/-- is an edge valid among so many locations -/
def okB (e : Ed) (n : Int) : Bool := decide ((0 ≤ e.src ∧ e.src < n) ∧ (0 ≤ e.dst ∧ e.dst < n) ∧ n ≤ 4) && okV e (exprL.valid e.guard) (exprL.valid e.val)

set_option maxHeartbeats 4000000 in
theorem specEdge_any (e : Ed) (n : Int) (w : World) (x : Value) (hx : EdIn Any w e x) : Calls Try.prog 67 #[x, .int .i64 n] w (Ret (.bool (okB e n)) w) := by
  obtain ⟨a, c, a', c', rfl, _, _, _, _, hg, hv⟩ := hx
  have HG := hid (fun w' (M : Below w.heap.size w w') => Expr.specValid_any e.guard w' _ (TrIn_below M hg))
  have HV := hid (fun w' (M : Below w.heap.size w w') => Expr.specValid_any e.val w' _ (TrIn_below M hv))
  have HN := hid (fun w' (M : Below w.heap.size w w') => none_any e.val w' _ (TrIn_below M hv))
  clear hg hv
  by_cases h0 : (0 ≤ e.src ∧ e.src < n) ∧ (0 ≤ e.dst ∧ e.dst < n) ∧ n ≤ 4
  · obtain ⟨⟨h1, h2⟩, ⟨h3, h4⟩, h5⟩ := h0
    have E0 := hid (show okB e n = okV e (exprL.valid e.guard) (exprL.valid e.val) by simp [okB, h1, h2, h3, h4, h5])
    generalize exprL.valid e.guard = g at *
    generalize exprL.valid e.val = v at *
    cases g with
    | false =>
      have E := hid (show okB e n = false by rw [E0.out]; rfl)
      go_enter Try.func67, Try.ntmps67
      go_wp2_with fail
      refine (HG.out _ (below_alloc _ _)).mono ?_
      rintro y w1 ⟨rfl, hb⟩
      obtain ⟨z, ⟨k0, k1, k2, k3, k4, k5, k6, k7, k8, k9⟩, _⟩ := box10_next hb (box10_new ..)
      have B := below_next (below_alloc _ _) hb
      clear hb
      go_wp2_with fail
      go_ret
      exact Ret.mk (bool_val (by rw [E.out])) B
    | true =>
      by_cases h6 : -2 ≤ e.sync ∧ e.sync ≤ 2
      · by_cases h7 : -1 ≤ e.var ∧ e.var ≤ 2
        · obtain ⟨h6, h6'⟩ := h6
          obtain ⟨h7, h7'⟩ := h7
          by_cases h8 : e.var < 0
          · have E := hid (show okB e n = isNone e.val by rw [E0.out]; simp [okV, h6, h6', h7, h7', h8])
            have h9 : ¬ (e.var ≥ 0) := by omega
            generalize isNone e.val = q at *
            cases q
            all_goals
              go_enter Try.func67, Try.ntmps67
              go_wp2_with fail
              refine (HG.out _ (below_alloc _ _)).mono ?_
              rintro y w1 ⟨rfl, hb⟩
              have bx := box10_next hb (box10_new ..)
              have B := below_next (below_alloc _ _) hb
              clear hb
              obtain ⟨z, ⟨k0, k1, k2, k3, k4, k5, k6, k7, k8, k9⟩, _⟩ := id bx
              go_wp2_with fail
              refine (HN.out _ B).mono ?_
              rintro y w2 ⟨rfl, hb⟩
              obtain ⟨z, ⟨k0, k1, k2, k3, k4, k5, k6, k7, k8, k9⟩, _⟩ := box10_next hb bx
              replace B := below_next B hb
              clear hb bx
              go_wp2_with fail
              go_ret
              exact Ret.mk (bool_val (by rw [E.out])) B
          · have E := hid (show okB e n = v by rw [E0.out]; simp [okV, h6, h6', h7, h7', h8])
            have h9 : e.var ≥ 0 := by omega
            go_enter Try.func67, Try.ntmps67
            go_wp2_with fail
            refine (HG.out _ (below_alloc _ _)).mono ?_
            rintro y w1 ⟨rfl, hb⟩
            have bx := box10_next hb (box10_new ..)
            have B := below_next (below_alloc _ _) hb
            clear hb
            obtain ⟨z, ⟨k0, k1, k2, k3, k4, k5, k6, k7, k8, k9⟩, _⟩ := id bx
            go_wp2_with fail
            refine (HV.out _ B).mono ?_
            rintro y w2 ⟨rfl, hb⟩
            obtain ⟨z, ⟨k0, k1, k2, k3, k4, k5, k6, k7, k8, k9⟩, _⟩ := box10_next hb bx
            replace B := below_next B hb
            clear hb bx
            go_wp2_with fail
            go_ret
            exact Ret.mk (bool_val (by rw [E.out])) B
        · have E := hid (show okB e n = false by rw [E0.out]; simp [okV]; omega)
          obtain ⟨h6, h6'⟩ := h6
          have h7' : e.var < -1 ∨ (¬ e.var < -1 ∧ e.var ≥ 3) := by omega
          clear h7
          rcases h7' with h7 | ⟨h7, h8⟩
          all_goals
            go_enter Try.func67, Try.ntmps67
            go_wp2_with fail
            refine (HG.out _ (below_alloc _ _)).mono ?_
            rintro y w1 ⟨rfl, hb⟩
            obtain ⟨z, ⟨k0, k1, k2, k3, k4, k5, k6, k7, k8, k9⟩, _⟩ := box10_next hb (box10_new ..)
            have B := below_next (below_alloc _ _) hb
            clear hb
            go_wp2_with fail
            go_ret
            exact Ret.mk (bool_val (by rw [E.out])) B
      · have E := hid (show okB e n = false by rw [E0.out]; simp [okV]; omega)
        have h6' : e.sync < -2 ∨ (¬ e.sync < -2 ∧ e.sync > 2) := by omega
        clear h6
        rcases h6' with h7 | ⟨h7, h8⟩
        all_goals
          go_enter Try.func67, Try.ntmps67
          go_wp2_with fail
          refine (HG.out _ (below_alloc _ _)).mono ?_
          rintro y w1 ⟨rfl, hb⟩
          obtain ⟨z, ⟨k0, k1, k2, k3, k4, k5, k6, k7, k8, k9⟩, _⟩ := box10_next hb (box10_new ..)
          have B := below_next (below_alloc _ _) hb
          clear hb
          go_wp2_with fail
          go_ret
          exact Ret.mk (bool_val (by rw [E.out])) B
  · have E := hid (show okB e n = false by simp only [okB, decide_eq_false h0, Bool.false_and])
    have h1 : e.src < 0 ∨ (¬ e.src < 0 ∧ e.src ≥ n) ∨ (¬ e.src < 0 ∧ ¬ e.src ≥ n ∧ e.dst < 0) ∨ (¬ e.src < 0 ∧ ¬ e.src ≥ n ∧ ¬ e.dst < 0 ∧ e.dst ≥ n) ∨ (¬ e.src < 0 ∧ ¬ e.src ≥ n ∧ ¬ e.dst < 0 ∧ ¬ e.dst ≥ n ∧ n > 4) := by omega
    clear h0
    rcases h1 with h1 | ⟨h1, h2⟩ | ⟨h1, h2, h3⟩ | ⟨h1, h2, h3, h4⟩ | ⟨h1, h2, h3, h4, h5⟩
    all_goals
      go_enter Try.func67, Try.ntmps67
      go_wp2_with fail
      go_ret
      exact Ret.mk (bool_val (by rw [E.out])) (below_alloc _ _)
end Edge
end Go.Proofs.Ytdmieedfddgmjaa
namespace Go.Proofs.Ytdmieedfddgmjaa
open Go.RowKit
namespace Edge

end Edge
end Go.Proofs.Ytdmieedfddgmjaa
namespace Go.Proofs.Ytdmieedfddgmjaa

/-- a string of given bytes -/
def bs (l : List UInt8) : ByteArray := ⟨l.toArray⟩
theorem bs_append (a b : List UInt8) : bs a ++ bs b = bs (a ++ b) := by
  unfold bs; rw [ByteArray.mk_append_mk]
theorem bs_size (a : List UInt8) : (bs a).size = a.length := by simp [bs, ByteArray.size]
theorem bs_inj {a b : List UInt8} (h : bs a = bs b) : a = b := by
  have := congrArg (fun x => x.data.toList) h
  simpa [bs] using this

theorem str_val {a b : ByteArray} (h : a = b) : Value.string a = .string b := by rw [h]
/-- how a language writes a node: what stands ahead of it, and what stands between two operands -/
structure TLang where
  pre : Int → Int → List UInt8
  mid : Int → List UInt8
  pre2 : ∀ k v, (pre k v).length ≤ 2
  mid1 : ∀ k, (mid k).length ≤ 1

def nodeTxt (pre mid : List UInt8) : List (List UInt8) → List UInt8
  | [] => pre
  | [a] => pre ++ a
  | a :: b :: _ => pre ++ (a ++ (mid ++ (b ++ [41])))

namespace TLang
variable (L : TLang)
mutual
def txt : Tr → List UInt8 | .mk k v kids => nodeTxt (L.pre k v) (L.mid k) (txts kids)
def txts : List Tr → List (List UInt8) | [] => [] | t :: ts => txt t :: txts ts
end
theorem txts_map : ∀ l, L.txts l = l.map L.txt | [] => by simp [txts] | t :: ts => by simp [txts, txts_map ts]

mutual
theorem txt_len : ∀ t, ((L.txt t).length : Int) ≤ 4 * nodes t
  | .mk k v kids => by
    have h1 := L.pre2 k v
    have h2 := L.mid1 k
    have hp := nodesL_pos kids
    simp only [txt, nodes]
    match kids with
    | [] => simp [txts, nodeTxt, nodesL]; omega
    | [a] => have ha := txt_len a; simp [txts, nodeTxt, nodesL]; omega
    | a :: b :: r =>
      have ha := txt_len a
      have hb := txt_len b
      have hr := nodesL_pos r
      simp [txts, nodeTxt, nodesL]; omega
end
end TLang

/-- a byte above another -/
def byte (n : Int) : UInt8 := UInt8.ofNat n.toNat

def exprT : TLang where
  pre k v := if k = 1 then [byte (48 + v)] else if k = 2 then [byte (120 + v)] else if k = 3 then [33] else [40]
  mid k := if k = 4 then [38] else if k = 5 then [124] else if k = 6 then [61] else if k = 7 then [60] else if k = 8 then [43] else [45]
  pre2 k v := by repeat' split
                 all_goals simp
  mid1 k := by repeat' split
               all_goals simp
def formT : TLang where
  pre k v := if k = 1 then [84] else if k = 2 then [byte (112 + v)] else if k = 3 then [33] else if k = 6 then [88] else if k = 9 then [70] else if k = 10 then [71] else [40]
  mid k := if k = 4 then [38] else if k = 5 then [124] else if k = 7 then [85] else [82]
  pre2 k v := by repeat' split
                 all_goals simp
  mid1 k := by repeat' split
               all_goals simp
def branT : TLang where
  pre k v := if k = 1 then [84] else if k = 2 then [byte (112 + v)] else if k = 3 then [33] else if k = 6 then [69, 88] else if k = 8 then [69, 71] else if k = 9 then [65, 88] else if k = 11 then [65, 71] else if k = 7 then [69, 40] else if k = 10 then [65, 40] else [40]
  mid k := if k = 4 then [38] else if k = 5 then [124] else [85]
  pre2 k v := by repeat' split
                 all_goals simp
  mid1 k := by repeat' split
               all_goals simp

/-! ### expressions, read -/
def exprOp (c : UInt8) : Option Int := if c = 38 then some 4 else if c = 124 then some 5 else if c = 61 then some 6 else if c = 60 then some 7 else if c = 43 then some 8 else if c = 45 then some 9 else none
/-- two operands with a sign between, and a bracket behind -/
def pairWith (rd : List UInt8 → Option (Tr × List UInt8)) (op : UInt8 → Option Int) (s : List UInt8) : Option (Tr × List UInt8) :=
  match rd s with
  | some (a, o :: r1) => match op o with
    | some k => match rd r1 with
      | some (b, c :: r2) => if c = 41 then some (.mk k 0 [a, b], r2) else none
      | _ => none
    | none => none
  | _ => none
def oneWith (rd : List UInt8 → Option (Tr × List UInt8)) (k : Int) (s : List UInt8) : Option (Tr × List UInt8) :=
  match rd s with
  | some (a, r) => some (.mk k 0 [a], r)
  | none => none
def rdE (top : UInt8) : Nat → List UInt8 → Option (Tr × List UInt8)
  | 0, _ => none
  | _ + 1, [] => none
  | n + 1, c :: s =>
    if 48 ≤ c ∧ c ≤ top then some (.mk 1 ((c.toNat : Int) - 48) [], s)
    else if 120 ≤ c ∧ c ≤ 122 then some (.mk 2 ((c.toNat : Int) - 120) [], s)
    else if c = 33 then oneWith (rdE top n) 3 s
    else if c = 40 then pairWith (rdE top n) exprOp s
    else none

def formUn (c : UInt8) : Option Int := if c = 33 then some 3 else if c = 88 then some 6 else if c = 70 then some 9 else if c = 71 then some 10 else none
def formOp (c : UInt8) : Option Int := if c = 38 then some 4 else if c = 124 then some 5 else if c = 85 then some 7 else if c = 82 then some 8 else none
def rdF : Nat → List UInt8 → Option (Tr × List UInt8)
  | 0, _ => none
  | _ + 1, [] => none
  | n + 1, c :: s =>
    if c = 84 then some (.mk 1 0 [], s)
    else if 112 ≤ c ∧ c ≤ 114 then some (.mk 2 ((c.toNat : Int) - 112) [], s)
    else match formUn c with
      | some k => oneWith (rdF n) k s
      | none => if c = 40 then pairWith (rdF n) formOp s else none

/-- the operators behind E, A -/
def rdB2 (rd : List UInt8 → Option (Tr × List UInt8)) (k : Int) : List UInt8 → Option (Tr × List UInt8)
  | [] => none
  | c :: s => if c = 88 then oneWith rd k s else if c = 40 then pairWith rd (fun o => if o = 85 then some (k + 1) else none) s else if c = 71 then oneWith rd (k + 2) s else none
def branOp (c : UInt8) : Option Int := if c = 38 then some 4 else if c = 124 then some 5 else none
def rdB : Nat → List UInt8 → Option (Tr × List UInt8)
  | 0, _ => none
  | _ + 1, [] => none
  | n + 1, c :: s =>
    if c = 84 then some (.mk 1 0 [], s)
    else if 112 ≤ c ∧ c ≤ 114 then some (.mk 2 ((c.toNat : Int) - 112) [], s)
    else if c = 33 then oneWith (rdB n) 3 s
    else if c = 40 then pairWith (rdB n) branOp s
    else if c = 69 then rdB2 (rdB n) 6 s
    else if c = 65 then rdB2 (rdB n) 9 s
    else none

theorem oneWith_txt {rd : List UInt8 → Option (Tr × List UInt8)} {a : Tr} {s r : List UInt8} {k : Int} (h : rd s = some (a, r)) : oneWith rd k s = some (.mk k 0 [a], r) := by simp [oneWith, h]
theorem pairWith_txt {rd : List UInt8 → Option (Tr × List UInt8)} {op : UInt8 → Option Int} {a b : Tr} {s r r1 : List UInt8} {o : UInt8} {k : Int} (h : rd s = some (a, o :: r1)) (ho : op o = some k) (hb : rd r1 = some (b, 41 :: r)) :
    pairWith rd op s = some (.mk k 0 [a, b], r) := by simp [pairWith, h, ho, hb]

namespace Lang
variable (L : Lang)
/-- what a well-made node looks like -/
theorem shape_mk {k v : Int} {kids : List Tr} {n : Nat} (h : L.shape (.mk k v kids) n = true) : ∃ m, n = m + 1 ∧ 1 ≤ k ∧ k ≤ L.K ∧ 0 ≤ v ∧ v ≤ L.most k ∧ (kids.length : Int) = L.ar k ∧ ∀ t, t ∈ kids → L.shape t m = true := by
  simp only [shape, Bool.and_eq_true, decide_eq_true_eq, okB_iff] at h
  obtain ⟨h1, ⟨⟨h2, h3⟩, ⟨h4, h5⟩, h6⟩, h7⟩ := h
  obtain ⟨m, rfl⟩ : ∃ m, n = m + 1 := ⟨n - 1, by omega⟩
  refine ⟨m, rfl, h2, h3, h4, h5, h6, ?_⟩
  rw [show ((m + 1 : Nat) : Int) - 1 = (m : Int) by omega] at h7
  clear h6
  induction kids with
  | nil => intro t ht; cases ht
  | cons u us ih =>
    simp only [shapeL, Bool.and_eq_true] at h7
    intro t ht
    cases ht with
    | head => exact h7.1
    | tail _ ht => exact ih h7.2 t ht
end Lang

theorem len0 {l : List Tr} (h : (l.length : Int) = 0) : l = [] := List.eq_nil_of_length_eq_zero (by omega)
theorem len1 {l : List Tr} (h : (l.length : Int) = 1) : ∃ a, l = [a] := by
  match l, h with
  | [a], _ => exact ⟨a, rfl⟩
  | [], h => simp at h
  | _ :: _ :: _, h => simp at h; omega
theorem len2 {l : List Tr} (h : (l.length : Int) = 2) : ∃ a b, l = [a, b] := by
  match l, h with
  | [a, b], _ => exact ⟨a, b, rfl⟩
  | [], h => simp at h
  | [_], h => simp at h
  | _ :: _ :: _ :: _, h => simp at h; omega

/-- WHAT IS WRITTEN IS READ -/
theorem rdE_txt (top : UInt8) (ht : 51 ≤ top) (ht2 : top < 120) : ∀ (n : Nat) (t : Tr) (r : List UInt8), exprL.shape t n = true → rdE top n (exprT.txt t ++ r) = some (t, r) := by
  intro n
  induction n with
  | zero => intro t r h; cases t with | mk k v kids => obtain ⟨m, h1, _⟩ := exprL.shape_mk h; omega
  | succ n ih =>
    intro t r h
    cases t with
    | mk k v kids =>
    obtain ⟨m, h1, h2, h3, h4, h5, h6, h7⟩ := exprL.shape_mk h
    obtain rfl : n = m := by omega
    rw [exprL_K] at h3
    rw [exprL_most] at h5
    rw [exprL_ar] at h6
    have hk : k = 1 ∨ k = 2 ∨ k = 3 ∨ k = 4 ∨ k = 5 ∨ k = 6 ∨ k = 7 ∨ k = 8 ∨ k = 9 := by omega
    rcases hk with rfl | rfl | rfl | hk
    · obtain rfl := len0 (by simpa using h6)
      simp at h5
      have hv : v = 0 ∨ v = 1 ∨ v = 2 ∨ v = 3 := by omega
      have e1 : (48 : UInt8) ≤ top := UInt8.le_trans (by decide) ht
      have e2 : (49 : UInt8) ≤ top := UInt8.le_trans (by decide) ht
      have e3 : (50 : UInt8) ≤ top := UInt8.le_trans (by decide) ht
      rcases hv with rfl | rfl | rfl | rfl <;> simp [TLang.txt, TLang.txts, nodeTxt, exprT, byte, rdE, ht, e1, e2, e3]
    · obtain rfl := len0 (by simpa using h6)
      simp at h5
      have hv : v = 0 ∨ v = 1 ∨ v = 2 := by omega
      have e0 : ¬ (120 : UInt8) ≤ top := by rw [UInt8.not_le]; exact ht2
      have e1 : ¬ (121 : UInt8) ≤ top := by rw [UInt8.not_le]; exact UInt8.lt_trans ht2 (by decide)
      have e2 : ¬ (122 : UInt8) ≤ top := by rw [UInt8.not_le]; exact UInt8.lt_trans ht2 (by decide)
      rcases hv with rfl | rfl | rfl <;> simp [TLang.txt, TLang.txts, nodeTxt, exprT, byte, rdE, e0, e1, e2]
    · obtain ⟨a, rfl⟩ := len1 (by simpa using h6)
      obtain rfl : v = 0 := by simp at h5; omega
      have := ih a r (h7 a (by simp))
      simp [TLang.txt, TLang.txts, nodeTxt, exprT, rdE]
      exact oneWith_txt this
    · obtain ⟨a, b, rfl⟩ := len2 (by rw [h6]; rcases hk with rfl | rfl | rfl | rfl | rfl | rfl <;> simp)
      obtain rfl : v = 0 := by rw [if_neg (by omega), if_neg (by omega)] at h5; omega
      rcases hk with rfl | rfl | rfl | rfl | rfl | rfl
      all_goals
        simp [TLang.txt, TLang.txts, nodeTxt, exprT, rdE]
        exact pairWith_txt (ih a _ (h7 a (by simp))) (by simp [exprOp]) (ih b _ (h7 b (by simp)))

theorem rdF_txt : ∀ (n : Nat) (t : Tr) (r : List UInt8), formL.shape t n = true → rdF n (formT.txt t ++ r) = some (t, r) := by
  intro n
  induction n with
  | zero => intro t r h; cases t with | mk k v kids => obtain ⟨m, h1, _⟩ := formL.shape_mk h; omega
  | succ n ih =>
    intro t r h
    cases t with
    | mk k v kids =>
    obtain ⟨m, h1, h2, h3, h4, h5, h6, h7⟩ := formL.shape_mk h
    obtain rfl : n = m := by omega
    rw [formL_K] at h3
    rw [formL_most] at h5
    rw [formL_ar] at h6
    have hk : k = 1 ∨ k = 2 ∨ (k = 3 ∨ k = 6 ∨ k = 9 ∨ k = 10) ∨ (k = 4 ∨ k = 5 ∨ k = 7 ∨ k = 8) := by omega
    rcases hk with rfl | rfl | hk | hk
    · obtain rfl := len0 (by simpa using h6)
      obtain rfl : v = 0 := by simp at h5; omega
      simp [TLang.txt, TLang.txts, nodeTxt, formT, rdF]
    · obtain rfl := len0 (by simpa using h6)
      simp at h5
      have hv : v = 0 ∨ v = 1 ∨ v = 2 := by omega
      rcases hv with rfl | rfl | rfl <;> simp [TLang.txt, TLang.txts, nodeTxt, formT, byte, rdF]
    · obtain ⟨a, rfl⟩ := len1 (by rw [h6]; rcases hk with rfl | rfl | rfl | rfl <;> simp)
      obtain rfl : v = 0 := by rw [if_neg (by omega)] at h5; omega
      have := ih a r (h7 a (by simp))
      rcases hk with rfl | rfl | rfl | rfl
      all_goals
        simp [TLang.txt, TLang.txts, nodeTxt, formT, rdF, formUn]
        exact oneWith_txt this
    · obtain ⟨a, b, rfl⟩ := len2 (by rw [h6]; rcases hk with rfl | rfl | rfl | rfl <;> simp)
      obtain rfl : v = 0 := by rw [if_neg (by omega)] at h5; omega
      rcases hk with rfl | rfl | rfl | rfl
      all_goals
        simp [TLang.txt, TLang.txts, nodeTxt, formT, rdF, formUn]
        exact pairWith_txt (ih a _ (h7 a (by simp))) (by simp [formOp]) (ih b _ (h7 b (by simp)))

theorem rdB_txt : ∀ (n : Nat) (t : Tr) (r : List UInt8), branL.shape t n = true → rdB n (branT.txt t ++ r) = some (t, r) := by
  intro n
  induction n with
  | zero => intro t r h; cases t with | mk k v kids => obtain ⟨m, h1, _⟩ := branL.shape_mk h; omega
  | succ n ih =>
    intro t r h
    cases t with
    | mk k v kids =>
    obtain ⟨m, h1, h2, h3, h4, h5, h6, h7⟩ := branL.shape_mk h
    obtain rfl : n = m := by omega
    rw [branL_K] at h3
    rw [branL_most] at h5
    rw [branL_ar] at h6
    have hk : k = 1 ∨ k = 2 ∨ (k = 3 ∨ k = 6 ∨ k = 8 ∨ k = 9 ∨ k = 11) ∨ (k = 4 ∨ k = 5 ∨ k = 7 ∨ k = 10) := by omega
    rcases hk with rfl | rfl | hk | hk
    · obtain rfl := len0 (by simpa using h6)
      obtain rfl : v = 0 := by simp at h5; omega
      simp [TLang.txt, TLang.txts, nodeTxt, branT, rdB]
    · obtain rfl := len0 (by simpa using h6)
      simp at h5
      have hv : v = 0 ∨ v = 1 ∨ v = 2 := by omega
      rcases hv with rfl | rfl | rfl <;> simp [TLang.txt, TLang.txts, nodeTxt, branT, byte, rdB]
    · obtain ⟨a, rfl⟩ := len1 (by rw [h6]; rcases hk with rfl | rfl | rfl | rfl | rfl <;> simp)
      obtain rfl : v = 0 := by rw [if_neg (by omega)] at h5; omega
      have := ih a r (h7 a (by simp))
      rcases hk with rfl | rfl | rfl | rfl | rfl
      all_goals
        simp [TLang.txt, TLang.txts, nodeTxt, branT, rdB, rdB2]
        exact oneWith_txt this
    · obtain ⟨a, b, rfl⟩ := len2 (by rw [h6]; rcases hk with rfl | rfl | rfl | rfl <;> simp)
      obtain rfl : v = 0 := by rw [if_neg (by omega)] at h5; omega
      rcases hk with rfl | rfl | rfl | rfl
      all_goals
        simp [TLang.txt, TLang.txts, nodeTxt, branT, rdB, rdB2]
        exact pairWith_txt (ih a _ (h7 a (by simp))) (by simp [branOp]) (ih b _ (h7 b (by simp)))

theorem exprT_inj {n : Nat} {t u : Tr} (ht : exprL.shape t n = true) (hu : exprL.shape u n = true) (h : exprT.txt t = exprT.txt u) : t = u := by
  have h1 := rdE_txt 51 (by decide) (by decide) n t [] ht
  have h2 := rdE_txt 51 (by decide) (by decide) n u [] hu
  rw [h, h2] at h1
  simpa using h1.symm
theorem formT_inj {n : Nat} {t u : Tr} (ht : formL.shape t n = true) (hu : formL.shape u n = true) (h : formT.txt t = formT.txt u) : t = u := by
  have h1 := rdF_txt n t [] ht
  have h2 := rdF_txt n u [] hu
  rw [h, h2] at h1
  simpa using h1.symm
theorem branT_inj {n : Nat} {t u : Tr} (ht : branL.shape t n = true) (hu : branL.shape u n = true) (h : branT.txt t = branT.txt u) : t = u := by
  have h1 := rdB_txt n t [] ht
  have h2 := rdB_txt n u [] hu
  rw [h, h2] at h1
  simpa using h1.symm

/-! ### what is read was written -/
theorem oneWith_back {L : TLang} {rd : List UInt8 → Option (Tr × List UInt8)} {k : Int} {s r p : List UInt8} {t : Tr} (h : oneWith rd k s = some (t, r)) (ih : ∀ s t r, rd s = some (t, r) → s = L.txt t ++ r) (hp : L.pre k 0 = p) : p ++ s = L.txt t ++ r ∧ ∃ a r', rd s = some (a, r') ∧ t = .mk k 0 [a] := by
  unfold oneWith at h
  split at h
  · rename_i a r' hr
    simp at h
    obtain ⟨rfl, rfl⟩ := h
    have := ih _ _ _ hr
    refine ⟨?_, a, r', hr, rfl⟩
    rw [this]
    simp [TLang.txt, TLang.txts, nodeTxt, hp]
  · cases h
theorem pairWith_back {L : TLang} {rd : List UInt8 → Option (Tr × List UInt8)} {op : UInt8 → Option Int} {s r p : List UInt8} {t : Tr} (h : pairWith rd op s = some (t, r)) (ih : ∀ s t r, rd s = some (t, r) → s = L.txt t ++ r)
    (hp : ∀ o k, op o = some k → L.pre k 0 = p ∧ L.mid k = [o]) : p ++ s = L.txt t ++ r ∧ ∃ k a b s1 r1 s2 r2 o, op o = some k ∧ rd s1 = some (a, r1) ∧ rd s2 = some (b, r2) ∧ t = .mk k 0 [a, b] := by
  unfold pairWith at h
  split at h
  · rename_i a o r1 ha
    split at h
    · rename_i k hk
      split at h
      · rename_i b c r2 hb
        split at h
        · rename_i hc
          simp at h
          obtain ⟨rfl, rfl⟩ := h
          obtain ⟨h1, h2⟩ := hp o k hk
          refine ⟨?_, k, a, b, s, _, r1, _, o, hk, ha, hb, rfl⟩
          rw [ih _ _ _ ha, ih _ _ _ hb, hc]
          simp [TLang.txt, TLang.txts, nodeTxt, h1, h2]
        · cases h
      · cases h
    · cases h
  · cases h
theorem byte_back (c : UInt8) (b : Nat) (h : b ≤ c.toNat) : byte ((b : Int) + ((c.toNat : Int) - b)) = c := by
  rw [show (b : Int) + ((c.toNat : Int) - b) = (c.toNat : Int) by omega]
  simp [byte]

theorem exprOp_pre {o : UInt8} {k : Int} (h : exprOp o = some k) : exprT.pre k 0 = [40] ∧ exprT.mid k = [o] ∧ 4 ≤ k ∧ k ≤ 9 := by
  unfold exprOp at h
  repeat' split at h
  all_goals (first | cases h; done | (rename_i hc; subst hc; simp at h; subst h; simp [exprT]))
theorem formUn_pre {o : UInt8} {k : Int} (h : formUn o = some k) : formT.pre k 0 = [o] ∧ (k = 3 ∨ k = 6 ∨ k = 9 ∨ k = 10) := by
  unfold formUn at h
  repeat' split at h
  all_goals (first | cases h; done | (rename_i hc; subst hc; simp at h; subst h; simp [formT]))
theorem formOp_pre {o : UInt8} {k : Int} (h : formOp o = some k) : formT.pre k 0 = [40] ∧ formT.mid k = [o] ∧ (k = 4 ∨ k = 5 ∨ k = 7 ∨ k = 8) := by
  unfold formOp at h
  repeat' split at h
  all_goals (first | cases h; done | (rename_i hc; subst hc; simp at h; subst h; simp [formT]))
theorem branOp_pre {o : UInt8} {k : Int} (h : branOp o = some k) : branT.pre k 0 = [40] ∧ branT.mid k = [o] ∧ (k = 4 ∨ k = 5) := by
  unfold branOp at h
  repeat' split at h
  all_goals (first | cases h; done | (rename_i hc; subst hc; simp at h; subst h; simp [branT]))

theorem rdE_back (top : UInt8) : ∀ (n : Nat) (s : List UInt8) (t : Tr) (r : List UInt8), rdE top n s = some (t, r) → s = exprT.txt t ++ r := by
  intro n
  induction n with
  | zero => intro s t r h; simp [rdE] at h
  | succ n ih =>
    intro s t r h
    match s, h with
    | [], h => simp [rdE] at h
    | c :: s, h =>
      simp only [rdE] at h
      split at h
      · rename_i hc
        simp at h
        obtain ⟨rfl, rfl⟩ := h
        have := byte_back c 48 (by have := UInt8.le_iff_toNat_le.1 hc.1; simpa using this)
        simp [TLang.txt, TLang.txts, nodeTxt, exprT]
        exact this.symm
      · split at h
        · rename_i hc
          simp at h
          obtain ⟨rfl, rfl⟩ := h
          have := byte_back c 120 (by have := UInt8.le_iff_toNat_le.1 hc.1; simpa using this)
          simp [TLang.txt, TLang.txts, nodeTxt, exprT]
          exact this.symm
        · split at h
          · rename_i hc
            rw [hc]
            exact (oneWith_back (L := exprT) (p := [33]) h (fun s t r h => ih s t r h) (by simp [exprT])).1
          · split at h
            · rename_i hc
              rw [hc]
              refine (pairWith_back (L := exprT) (p := [40]) h (fun s t r h => ih s t r h) ?_).1
              intro o k ho
              exact ⟨(exprOp_pre ho).1, (exprOp_pre ho).2.1⟩
            · cases h

theorem rdF_back : ∀ (n : Nat) (s : List UInt8) (t : Tr) (r : List UInt8), rdF n s = some (t, r) → s = formT.txt t ++ r := by
  intro n
  induction n with
  | zero => intro s t r h; simp [rdF] at h
  | succ n ih =>
    intro s t r h
    match s, h with
    | [], h => simp [rdF] at h
    | c :: s, h =>
      simp only [rdF] at h
      split at h
      · rename_i hc
        simp at h
        obtain ⟨rfl, rfl⟩ := h
        simp [TLang.txt, TLang.txts, nodeTxt, formT, hc]
      · split at h
        · rename_i hc
          simp at h
          obtain ⟨rfl, rfl⟩ := h
          have := byte_back c 112 (by have := UInt8.le_iff_toNat_le.1 hc.1; simpa using this)
          simp [TLang.txt, TLang.txts, nodeTxt, formT]
          exact this.symm
        · split at h
          · rename_i k hk
            refine (oneWith_back (L := formT) (p := [c]) h (fun s t r h => ih s t r h) ?_).1
            exact (formUn_pre hk).1
          · split at h
            · rename_i hc
              rw [hc]
              refine (pairWith_back (L := formT) (p := [40]) h (fun s t r h => ih s t r h) ?_).1
              intro o k ho
              exact ⟨(formOp_pre ho).1, (formOp_pre ho).2.1⟩
            · cases h

theorem rdB2_back {rd : List UInt8 → Option (Tr × List UInt8)} {k : Int} {c : UInt8} (hk : (k = 6 ∧ c = 69) ∨ (k = 9 ∧ c = 65)) {s r : List UInt8} {t : Tr} (h : rdB2 rd k s = some (t, r)) (ih : ∀ s t r, rd s = some (t, r) → s = branT.txt t ++ r) : c :: s = branT.txt t ++ r := by
  match s, h with
  | [], h => simp [rdB2] at h
  | d :: s, h =>
    simp only [rdB2] at h
    split at h
    · rename_i hd
      rw [hd]
      exact (oneWith_back (L := branT) (p := [c, 88]) h ih (by rcases hk with ⟨rfl, rfl⟩ | ⟨rfl, rfl⟩ <;> simp [branT])).1
    · split at h
      · rename_i hd
        rw [hd]
        refine (pairWith_back (L := branT) (p := [c, 40]) h ih ?_).1
        intro o k' ho
        simp at ho
        obtain ⟨rfl, rfl⟩ := ho
        rcases hk with ⟨rfl, rfl⟩ | ⟨rfl, rfl⟩ <;> simp [branT]
      · split at h
        · rename_i hd
          rw [hd]
          exact (oneWith_back (L := branT) (p := [c, 71]) h ih (by rcases hk with ⟨rfl, rfl⟩ | ⟨rfl, rfl⟩ <;> simp [branT])).1
        · cases h

theorem rdB_back : ∀ (n : Nat) (s : List UInt8) (t : Tr) (r : List UInt8), rdB n s = some (t, r) → s = branT.txt t ++ r := by
  intro n
  induction n with
  | zero => intro s t r h; simp [rdB] at h
  | succ n ih =>
    intro s t r h
    match s, h with
    | [], h => simp [rdB] at h
    | c :: s, h =>
      simp only [rdB] at h
      split at h
      · rename_i hc
        simp at h
        obtain ⟨rfl, rfl⟩ := h
        simp [TLang.txt, TLang.txts, nodeTxt, branT, hc]
      · split at h
        · rename_i hc
          simp at h
          obtain ⟨rfl, rfl⟩ := h
          have := byte_back c 112 (by have := UInt8.le_iff_toNat_le.1 hc.1; simpa using this)
          simp [TLang.txt, TLang.txts, nodeTxt, branT]
          exact this.symm
        · split at h
          · rename_i hc
            rw [hc]
            exact (oneWith_back (L := branT) (p := [33]) h (fun s t r h => ih s t r h) (by simp [branT])).1
          · split at h
            · rename_i hc
              rw [hc]
              refine (pairWith_back (L := branT) (p := [40]) h (fun s t r h => ih s t r h) ?_).1
              intro o k ho
              exact ⟨(branOp_pre ho).1, (branOp_pre ho).2.1⟩
            · split at h
              · rename_i hc
                rw [hc]
                exact rdB2_back (.inl ⟨rfl, rfl⟩) h (fun s t r h => ih s t r h)
              · split at h
                · rename_i hc
                  rw [hc]
                  exact rdB2_back (.inr ⟨rfl, rfl⟩) h (fun s t r h => ih s t r h)
                · cases h

end Go.Proofs.Ytdmieedfddgmjaa
namespace Go.Proofs.Ytdmieedfddgmjaa

def tr01 (b : Bool) : Int := if b then 1 else 0
/-- a node's value, of the values below -/
def nodeVal (g : Int → Int) (k v : Int) : List Int → Int
  | [] => if k = 1 then v else g v
  | [a] => tr01 (a == 0)
  | a :: b :: _ => if k = 4 then tr01 (a != 0 && b != 0) else if k = 5 then tr01 (a != 0 || b != 0) else if k = 6 then tr01 (a == b) else if k = 7 then tr01 (decide (a < b)) else if k = 8 then (a + b) % 4 else (a - b + 4) % 4
mutual
def evalT (g : Int → Int) : Tr → Int | .mk k v kids => nodeVal g k v (evalTs g kids)
def evalTs (g : Int → Int) : List Tr → List Int | [] => [] | t :: ts => evalT g t :: evalTs g ts
end

theorem tr01_bd (b : Bool) : 0 ≤ tr01 b ∧ tr01 b ≤ 3 := by cases b <;> simp [tr01]
theorem evalT_bd (g : Int → Int) (hg : ∀ v, 0 ≤ v → v ≤ 2 → 0 ≤ g v ∧ g v ≤ 3) : ∀ (n : Nat) (t : Tr), exprL.shape t n = true → 0 ≤ evalT g t ∧ evalT g t ≤ 3 := by
  intro n t h
  cases t with
  | mk k v kids =>
  obtain ⟨m, h1, h2, h3, h4, h5, h6, h7⟩ := exprL.shape_mk h
  rw [exprL_K] at h3
  rw [exprL_most] at h5
  rw [exprL_ar] at h6
  by_cases hk : k = 1
  · subst hk
    obtain rfl := len0 (by simpa using h6)
    simp at h5
    simp [evalT, evalTs, nodeVal, h4, h5]
  by_cases hk2 : k = 2
  · subst hk2
    obtain rfl := len0 (by simpa using h6)
    simp at h5
    simp [evalT, evalTs, nodeVal]
    exact hg v h4 h5
  by_cases hk3 : k = 3
  · subst hk3
    obtain ⟨a, rfl⟩ := len1 (by simpa using h6)
    simp only [evalT, evalTs, nodeVal]
    exact tr01_bd _
  · obtain ⟨a, b, rfl⟩ := len2 (by rw [h6, if_neg (by omega), if_neg (by omega)])
    simp only [evalT, evalTs, nodeVal]
    repeat' split
    all_goals (first | exact tr01_bd _ | omega)

/-! ### variables -/
mutual
/-- does a variable occur -/
def occT (x : Int) : Tr → Bool | .mk k v kids => (k == 2 && v == x) || occL x kids
def occL (x : Int) : List Tr → Bool | [] => false | t :: ts => occT x t || occL x ts
end

/-! ### an expression put for a variable -/
mutual
def subT (x : Int) (y : Tr) : Tr → Tr | .mk k v kids => if k = 2 ∧ v = x then y else .mk k v (subL x y kids)
def subL (x : Int) (y : Tr) : List Tr → List Tr | [] => [] | t :: ts => subT x y t :: subL x y ts
end
theorem subL_map (x : Int) (y : Tr) : ∀ l, subL x y l = l.map (subT x y) | [] => by simp [subL] | t :: ts => by simp [subL, subL_map x y ts]
theorem subL_len (x : Int) (y : Tr) (l : List Tr) : (subL x y l).length = l.length := by rw [subL_map]; simp

end Go.Proofs.Ytdmieedfddgmjaa
namespace Go.Proofs.Ytdmieedfddgmjaa
open Go.RowKit
namespace Expr

/-- three numbers from 0 to 3 lie there -/
def Vals (w : World) (a : Option Addr) (l : List Int) : Prop := IntsIn Any w a l ∧ l.length = 3 ∧ ∀ n, n ∈ l → 0 ≤ n ∧ n ≤ 3
theorem Vals.below {w w' : World} {a : Option Addr} {l : List Int} (h : Vals w a l) (hb : Below w.heap.size w w') : Vals w' a l := ⟨h.1.below hb, h.2⟩
theorem Vals.cells {w : World} {a : Option Addr} {l : List Int} (h : Vals w a l) : ∃ b o x y z, l = [x, y, z] ∧ a = some ⟨b, o, none⟩ ∧ b < w.heap.size ∧ w.cell? ⟨b, o, none⟩ = some (.int .i64 x) ∧ w.cell? ⟨b, o + 1, none⟩ = some (.int .i64 y) ∧ w.cell? ⟨b, o + 2, none⟩ = some (.int .i64 z) := by
  obtain ⟨h1, h2, h3⟩ := h
  obtain ⟨x, y, z, rfl⟩ : ∃ x y z, l = [x, y, z] := by
    match l, h2 with
    | [x, y, z], _ => exact ⟨x, y, z, rfl⟩
  obtain ⟨b, o, rfl, hb, _, e0, _⟩ := ints_at (k := 0) h1 (Below.refl _ _) (by simp)
  obtain ⟨b', o', hbo, _, _, e1, _⟩ := ints_at (k := 1) h1 (Below.refl _ _) (by simp)
  obtain ⟨b2, o2, hbo2, _, _, e2, _⟩ := ints_at (k := 2) h1 (Below.refl _ _) (by simp)
  simp only [Option.some.injEq, Addr.mk.injEq, and_true] at hbo hbo2
  obtain ⟨rfl, rfl⟩ := hbo
  obtain ⟨rfl, rfl⟩ := hbo2
  exact ⟨b, o, x, y, z, rfl, rfl, hb, e0, e1, e2⟩
def gOf (l : List Int) (v : Int) : Int := l.getD v.toNat 0
theorem Vals.bd {w : World} {a : Option Addr} {l : List Int} (h : Vals w a l) : ∀ v, 0 ≤ v → v ≤ 2 → 0 ≤ gOf l v ∧ gOf l v ≤ 3 := by
  obtain ⟨b, o, x, y, z, rfl, _⟩ := h.cells
  intro v h1 h2
  have := h.2.2
  have hv : v = 0 ∨ v = 1 ∨ v = 2 := by omega
  rcases hv with rfl | rfl | rfl
  · exact this x (by simp)
  · exact this y (by simp)
  · exact this z (by simp)

def EvT (F : Nat) (t : Tr) : Prop := ∀ (n : Nat) (w : World) (x : Value) (a : Option Addr) (l : List Int) (c : Nat), exprL.shape t n = true → TrIn Any w t x → Vals w a l → 3 ≤ c → c ≤ maxLen → Calls Try.prog F #[x, .slice a 3 c] w (Ret (.int .i64 (evalT (gOf l) t)) w)

theorem bool01 (b : Bool) (w : World) : Calls Try.prog 54 #[.bool b] w (RetW (.int .i64 (tr01 b)) w) := by
  cases b
  all_goals
    go_enter Try.func54, Try.ntmps54
    go_wp2_with fail
    go_ret
    exact ⟨rfl, rfl⟩
theorem truth01 (b : Bool) (w : World) : Calls Try.prog 53 #[.bool b] w (RetW (.int .i64 (tr01 b)) w) := by
  cases b
  all_goals
    go_enter Try.func53, Try.ntmps53
    go_wp2_with fail
    go_ret
    exact ⟨rfl, rfl⟩

theorem two_cells {w : World} {t u : Tr} {a : Option Addr} (h : TrsIn Any w [t, u] a) : ∃ b o c0 c1 c2 d0 d1 d2, a = some ⟨b, o, none⟩ ∧ b < w.heap.size ∧ w.cell? ⟨b, o, none⟩ = some c0 ∧ w.cell? ⟨b, o + 1, none⟩ = some c1 ∧ w.cell? ⟨b, o + 2, none⟩ = some c2 ∧
    w.cell? ⟨b, o + 3, none⟩ = some d0 ∧ w.cell? ⟨b, o + 3 + 1, none⟩ = some d1 ∧ w.cell? ⟨b, o + 3 + 2, none⟩ = some d2 ∧ TrIn Any w t (.agg #[c0, c1, c2]) ∧ TrIn Any w u (.agg #[d0, d1, d2]) := by
  rw [TrsIn_cons] at h
  obtain ⟨b, o, c0, c1, c2, rfl, _, g0, g1, g2, hT, h⟩ := h
  rw [TrsIn_cons] at h
  obtain ⟨b', o', d0, d1, d2, hbo, _, f0, f1, f2, hU, _⟩ := h
  simp only [Option.some.injEq, Addr.mk.injEq, and_true] at hbo
  obtain ⟨rfl, rfl⟩ := hbo
  exact ⟨b, o, c0, c1, c2, d0, d1, d2, rfl, blt g0, g0, g1, g2, f0, f1, f2, hT, hU⟩


end Expr
end Go.Proofs.Ytdmieedfddgmjaa
namespace Go.Proofs.Ytdmieedfddgmjaa
open Go.RowKit
namespace Expr

def inV (n : Int) : Bool := decide (0 ≤ n ∧ n ≤ 3)
/-- three numbers from 0 to 3 -/
def okVals (l : List Int) : Bool := l.all inV && decide (l.length = 3)
theorem okVals_vals {w : World} {a : Option Addr} {l : List Int} (h : okVals l = true) (hl : IntsIn Any w a l) : Vals w a l := by
  rw [okVals, Bool.and_eq_true, decide_eq_true_eq] at h
  exact ⟨hl, h.2, fun n hn => by have := List.all_eq_true.1 h.1 n hn; simpa [inV] using this⟩

set_option maxHeartbeats 1000000 in
theorem specVals_any (l : List Int) (w : World) (a : Option Addr) (c : Nat) (hl : IntsIn Any w a l) (hc : l.length ≤ c) (hc2 : c ≤ maxLen) :
    Calls Try.prog 19 #[.slice a l.length c] w (Ret (.bool (okVals l)) w) := by
  unfold maxLen at hc2
  go_enter Try.func19, Try.ntmps19
  go_wp2_with fail
  go_loopw [3] (fun i wr => ∃ j : Nat, j ≤ l.length ∧ i = .int .i64 j ∧ Below w.heap.size w wr ∧ Hid ((l.drop j).all inV = l.all inV)) (fun i _ => l.length - (intOf i).toNat)
  case atStart => exact ⟨0, Nat.zero_le _, rfl, Below.refl _ _, hid rfl⟩
  case round =>
    obtain ⟨j, hj, rfl, B, hr⟩ := hrel
    by_cases hlt : j < l.length
    · obtain ⟨b, o, rfl, hb, _, g0, hi⟩ := ints_at hl B hlt
      have HR2 := hr.out
      rw [List.drop_eq_getElem_cons hlt, List.all_cons] at HR2
      have HR := hid HR2; clear HR2
      have hlt2 : (j : Int) < (l.length : Int) := by omega
      generalize l[j] = x at *
      by_cases h0 : x < 0
      · have E := hid (show okVals l = false by rw [okVals, ← HR.out]; simp [inV]; omega)
        go_wp2_with fail
        go_ret
        exact Ret.mk (bool_val E.out.symm) B
      · by_cases h3 : x > 3
        · have E := hid (show okVals l = false by rw [okVals, ← HR.out]; simp [inV]; omega)
          go_wp2_with fail
          go_ret
          exact Ret.mk (bool_val E.out.symm) B
        · have HR3 := HR.out
          rw [show inV x = true by simp [inV]; omega, Bool.true_and] at HR3
          have HR4 := hid HR3; clear HR3
          go_wp2_with fail
          go_roundw
          case rel => exact ⟨j + 1, by omega, by go_num, B, HR4⟩
          case measure => simp [intOf]; omega
    · have HR2 := hr.out
      rw [List.drop_of_length_le (by omega), List.all_nil] at HR2
      have hlt2 : ¬ ((j : Int) < (l.length : Int)) := by omega
      have E := hid (show ((l.length : Int) == 3) = okVals l by
        rw [okVals, ← HR2, Bool.true_and, Bool.eq_iff_iff, beq_iff_eq, decide_eq_true_eq]; omega)
      clear HR2
      go_wp2_with fail
      go_ret
      exact Ret.mk (bool_val E.out) B

set_option maxHeartbeats 400000 in
theorem vclo_any (x : Int) (w : World) : Calls Try.prog 39 #[.int .i64 x] w (Ret (.bool (!inV x)) w) := by
  go_enter Try.func39, Try.ntmps39
  go_wp2_with fail
  refine (in_any x 0 3 _).mono ?_
  rintro e w1 ⟨rfl, rfl⟩
  go_wp2_with fail
  go_ret
  exact Ret.mk rfl (Below.refl _ _)

def IxV (bad : Bool) (w : World) (e : Ending) (w' : World) : Prop := ∃ i : Int, e = .returned (.int .i64 i) ∧ decide (0 ≤ i) = bad ∧ Below w.heap.size w w'

set_option maxHeartbeats 1000000 in
theorem vix_any (l : List Int) (w : World) (a : Option Addr) (c : Nat) (hl : IntsIn Any w a l) (hc : l.length ≤ c) (hc2 : c ≤ maxLen) :
    Calls Try.prog 55 #[.slice a l.length c, .func (.func 39) #[] #[]] w (IxV (!l.all inV) w) := by
  unfold maxLen at hc2
  go_enter Try.func55, Try.ntmps55
  go_wp2_with fail
  go_loopw [5, 8] (fun _ i wr => ∃ j : Nat, j ≤ l.length ∧ i = .int .i64 j ∧ Below w.heap.size w wr ∧ Hid ((l.drop j).all inV = l.all inV)) (fun _ i _ => l.length - (intOf i).toNat)
  case atStart => exact ⟨0, Nat.zero_le _, rfl, Below.refl _ _, hid rfl⟩
  case round =>
    obtain ⟨j, hj, rfl, B, hr⟩ := hrel
    by_cases hlt : j < l.length
    · obtain ⟨b, o, rfl, hb, _, g0, hi⟩ := ints_at hl B hlt
      have HR2 := hr.out
      rw [List.drop_eq_getElem_cons hlt, List.all_cons] at HR2
      have HR := hid HR2; clear HR2
      have hlt2 : (j : Int) < (l.length : Int) := by omega
      generalize l[j] = x at *
      go_wp2_with fail
      refine (vclo_any x _).mono ?_
      rintro e w2 ⟨rfl, hb2⟩
      replace B := below_next B hb2
      clear hb2
      cases hq : inV x with
      | true =>
        have HR3 := HR.out
        rw [hq, Bool.true_and] at HR3
        have HR4 := hid HR3; clear HR3 hq
        go_wp2_with fail
        go_roundw
        case rel => exact ⟨j + 1, by omega, by go_num, B, HR4⟩
        case measure => simp [intOf]; omega
      | false =>
        have HR3 := HR.out
        rw [hq, Bool.false_and] at HR3
        have HR4 := hid HR3; clear HR3 hq
        go_wp2_with fail
        go_ret
        exact ⟨j, rfl, by rw [← HR4.out]; simp, B⟩
    · have HR2 := hr.out
      rw [List.drop_of_length_le (by omega), List.all_nil] at HR2
      have HR := hid HR2; clear HR2
      have hlt2 : ¬ ((j : Int) < (l.length : Int)) := by omega
      go_wp2_with fail
      go_ret
      exact ⟨-1, rfl, by rw [← HR.out]; simp, B⟩

set_option maxHeartbeats 400000 in
theorem vcf_any (l : List Int) (w : World) (a : Option Addr) (c : Nat) (hl : IntsIn Any w a l) (hc : l.length ≤ c) (hc2 : c ≤ maxLen) :
    Calls Try.prog 38 #[.slice a l.length c, .func (.func 39) #[] #[]] w (Ret (.bool (!l.all inV)) w) := by
  have HH := hid (vix_any l w a c hl hc hc2)
  go_enter Try.func38, Try.ntmps38
  go_wp2_with fail
  refine HH.out.mono ?_
  rintro e w2 ⟨i, rfl, hi, hb⟩
  have HI := hid hi; clear hi
  go_wp2_with fail
  go_ret
  exact Ret.mk (bool_val HI.out) hb

set_option maxHeartbeats 400000 in
theorem vals_any (l : List Int) (w : World) (a : Option Addr) (c : Nat) (hl : IntsIn Any w a l) (hc : l.length ≤ c) (hc2 : c ≤ maxLen) :
    Calls Try.prog 23 #[.slice a l.length c] w (Ret (.bool (okVals l)) w) := by
  by_cases h3 : l.length = 3
  · have E := hid (show okVals l = l.all inV by rw [okVals, decide_eq_true h3, Bool.and_true])
    have e3 : ((l.length : Int) == 3) = true := by rw [beq_iff_eq]; omega
    have HH := hid (vcf_any l w a c hl hc hc2)
    clear h3
    go_enter Try.func23, Try.ntmps23
    go_wp2_with fail
    refine HH.out.mono ?_
    rintro e w2 ⟨rfl, hb⟩
    go_wp2_with fail
    go_ret
    exact Ret.mk (bool_val (by rw [E.out])) hb
  · have E := hid (show okVals l = false by rw [okVals, decide_eq_false h3, Bool.and_false])
    have e3 : ((l.length : Int) == 3) = false := by rw [beq_eq_false_iff_ne]; omega
    clear h3
    go_enter Try.func23, Try.ntmps23
    go_wp2_with fail
    go_ret
    exact Ret.mk (bool_val E.out.symm) (Below.refl _ _)

end Expr
end Go.Proofs.Ytdmieedfddgmjaa
namespace Go.Proofs.Ytdmieedfddgmjaa
open Go.RowKit
set_option linter.unusedVariables false
namespace Sys

/-- a valid process; a valid system -/
def okP (q : Pr) : Bool := q.edges.all (fun e => Edge.okB e q.locs) && (decide (1 ≤ q.locs) && (decide (q.locs ≤ 4) && decide (q.edges.length ≤ 6)))
def okSy (s : Sy) : Bool := s.procs.all okP && (Expr.okVals s.init && (decide (1 ≤ s.procs.length) && decide (s.procs.length ≤ 3)))

set_option maxRecDepth 100000 in
set_option maxHeartbeats 2000000 in
theorem specP_any (q : Pr) (w : World) (x : Value) (hx : PrIn Any w q x) : Calls Try.prog 64 #[x] w (Ret (.bool (okP q)) w) := by
  obtain ⟨a, c, rfl, hi, hc, hc2, he⟩ := hx
  have HE := hid he
  unfold i64 at hi
  unfold maxLen at hc2
  have E := hid (show okP q = (q.edges.all (fun e => Edge.okB e q.locs) && (decide (1 ≤ q.locs) && (decide (q.locs ≤ 4) && decide (q.edges.length ≤ 6)))) from rfl)
  generalize okP q = r at *
  clear he
  go_enter Try.func64, Try.ntmps64
  go_wp2_with fail
  go_loopw [3] (fun i wr => ∃ j : Nat, j ≤ q.edges.length ∧ i = .int .i64 j ∧ Hid (Below w.heap.size w wr) ∧ Box2 wr w.heap.size (.int .i64 q.locs) (.slice a q.edges.length c) ∧ Hid ((q.edges.drop j).all (fun e => Edge.okB e q.locs) = q.edges.all (fun e => Edge.okB e q.locs))) (fun i _ => q.edges.length - (intOf i).toNat)
  case atStart => exact ⟨0, Nat.zero_le _, rfl, hid (below_alloc _ _), box2_at rfl, hid rfl⟩
  case round =>
    obtain ⟨j, hj, rfl, B, bx, hr⟩ := hrel
    have BX := hid bx
    obtain ⟨p0, p1, p2, p3, p4⟩ := bx
    by_cases hlt : j < q.edges.length
    · obtain ⟨b, o, rfl, _, hb, a1, c1, a2, c2, ⟨g0, g1, g2, g3, g4, g5, g6, g7, g8, g9⟩, hT⟩ := SeqIn.at (EdsIn.below HE.out B.out) hlt
      have HT := hid hT
      have HR2 := hr.out
      rw [List.drop_eq_getElem_cons hlt, List.all_cons] at HR2
      have HR := hid HR2
      clear HR2 hr hT
      have hlt2 : (j : Int) < (q.edges.length : Int) := by omega
      generalize q.edges[j] = e at *
      have HC := hid (fun (W : World) (M : Below wr.heap.size wr W) => Edge.specEdge_any e q.locs W _ (EdIn_below M HT.out))
      cases hq : Edge.okB e q.locs with
      | true =>
        have HR3 := HR.out
        rw [hq, Bool.true_and] at HR3
        have HR4 := hid HR3
        rw [hq] at HC
        clear HR3 hq HR
        go_wp2_with fail
        refine wp_region_over (by kernel_rfl) (by kernel_rfl) ?_; (repeat (go_big_quiet_step ((go_at_call 67; exact Calls.over (HC.out _ (over_below _ _)))))); refine wpQuiet_nil ?_; rintro _ ⟨xq, rfl⟩
        have B2 := hid (below_next B.out (over_below wr xq))
        replace BX := hid (box2_next (over_below wr xq) BX.out)
        clear p0 p1 p2 p3 p4 g0 g1 g2 g3 g4 g5 g6 g7 g8 g9
        go_wp2_with fail
        go_roundw
        case rel => exact ⟨j + 1, by omega, by go_num, B2, BX.out, HR4⟩
        case measure => simp [intOf]; omega
      | false =>
        have HR3 := HR.out
        rw [hq, Bool.false_and] at HR3
        have E2 := hid (show r = false by rw [E.out, ← HR3]; rfl)
        rw [hq] at HC
        clear HR3 hq HR
        go_wp2_with fail
        refine wp_region_over (by kernel_rfl) (by kernel_rfl) ?_; (repeat (go_big_quiet_step ((go_at_call 67; exact Calls.over (HC.out _ (over_below _ _)))))); refine wpQuiet_nil ?_; rintro _ ⟨xq, rfl⟩
        have B2 := hid (below_next B.out (over_below wr xq))
        clear p0 p1 p2 p3 p4 g0 g1 g2 g3 g4 g5 g6 g7 g8 g9
        go_wp2_with fail
        go_ret
        exact Ret.mk (bool_val E2.out.symm) B2.out
    · have HR2 := hr.out
      rw [List.drop_of_length_le (by omega), List.all_nil] at HR2
      have hlt2 : ¬ ((j : Int) < (q.edges.length : Int)) := by omega
      have E2 := hid (show r = (decide (1 ≤ q.locs) && (decide (q.locs ≤ 4) && decide (q.edges.length ≤ 6))) by rw [E.out, ← HR2, Bool.true_and])
      clear HR2 hr E
      by_cases k1 : q.locs ≥ 1
      · by_cases k2 : q.locs ≤ 4
        · have E3 := hid (show r = decide ((q.edges.length : Int) ≤ 6) by rw [E2.out, decide_eq_true (show 1 ≤ q.locs from k1), decide_eq_true k2]; simp; omega)
          go_wp2_with fail
          go_ret
          exact Ret.mk (bool_val E3.out.symm) B.out
        · have E3 := hid (show r = false by rw [E2.out, decide_eq_false k2]; simp)
          go_wp2_with fail
          go_ret
          exact Ret.mk (bool_val E3.out.symm) B.out
      · have E3 := hid (show r = false by rw [E2.out, decide_eq_false (show ¬ 1 ≤ q.locs from k1)]; simp)
        go_wp2_with fail
        go_ret
        exact Ret.mk (bool_val E3.out.symm) B.out

set_option maxRecDepth 100000 in
set_option maxHeartbeats 2000000 in
theorem specValid_any (s : Sy) (w : World) (x : Value) (hx : SyIn Any w s x) : Calls Try.prog 57 #[x] w (Ret (.bool (okSy s)) w) := by
  obtain ⟨a, c, b, d, rfl, hc, hc2, hi, hd, hd2, hp⟩ := hx
  have HP := hid hp
  have HV := hid (fun (W : World) (M : Below w.heap.size w W) => Expr.specVals_any s.init W a c (hi.below M) hc hc2)
  unfold maxLen at hd2
  have E := hid (show okSy s = (s.procs.all okP && (Expr.okVals s.init && (decide (1 ≤ s.procs.length) && decide (s.procs.length ≤ 3)))) from rfl)
  generalize okSy s = r at *
  generalize Expr.okVals s.init = ov at *
  clear hp hi
  go_enter Try.func57, Try.ntmps57
  go_wp2_with fail
  go_loopw [3] (fun i wr => ∃ j : Nat, j ≤ s.procs.length ∧ i = .int .i64 j ∧ Hid (Below w.heap.size w wr) ∧ Box2 wr w.heap.size (.slice a s.init.length c) (.slice b s.procs.length d) ∧ Hid ((s.procs.drop j).all okP = s.procs.all okP)) (fun i _ => s.procs.length - (intOf i).toNat)
  case atStart => exact ⟨0, Nat.zero_le _, rfl, hid (below_alloc _ _), box2_at rfl, hid rfl⟩
  case round =>
    obtain ⟨j, hj, rfl, B, bx, hr⟩ := hrel
    have BX := hid bx
    obtain ⟨p0, p1, p2, p3, p4⟩ := bx
    by_cases hlt : j < s.procs.length
    · obtain ⟨b', o, rfl, _, hb, a1, c1, ⟨g0, g1⟩, hT⟩ := SeqIn.at (PrsIn.below HP.out B.out) hlt
      have HT := hid hT
      have HR2 := hr.out
      rw [List.drop_eq_getElem_cons hlt, List.all_cons] at HR2
      have HR := hid HR2
      clear HR2 hr hT
      have hlt2 : (j : Int) < (s.procs.length : Int) := by omega
      generalize s.procs[j] = q at *
      have HC := hid (specP_any q wr _ HT.out)
      cases hq : okP q with
      | true =>
        have HR3 := HR.out
        rw [hq, Bool.true_and] at HR3
        have HR4 := hid HR3
        rw [hq] at HC
        clear HR3 hq HR
        go_wp2_with fail
        refine HC.out.mono ?_
        rintro y w2 ⟨rfl, hb2⟩
        have B2 := hid (below_next B.out hb2)
        replace BX := hid (box2_next hb2 BX.out)
        clear p0 p1 p2 p3 p4 g0 g1 hb2
        go_wp2_with fail
        go_roundw
        case rel => exact ⟨j + 1, by omega, by go_num, B2, BX.out, HR4⟩
        case measure => simp [intOf]; omega
      | false =>
        have HR3 := HR.out
        rw [hq, Bool.false_and] at HR3
        have E2 := hid (show r = false by rw [E.out, ← HR3]; rfl)
        rw [hq] at HC
        clear HR3 hq HR
        go_wp2_with fail
        refine HC.out.mono ?_
        rintro y w2 ⟨rfl, hb2⟩
        have B2 := hid (below_next B.out hb2)
        clear p0 p1 p2 p3 p4 g0 g1 hb2
        go_wp2_with fail
        go_ret
        exact Ret.mk (bool_val E2.out.symm) B2.out
    · have HR2 := hr.out
      rw [List.drop_of_length_le (by omega), List.all_nil] at HR2
      have hlt2 : ¬ ((j : Int) < (s.procs.length : Int)) := by omega
      have E2 := hid (show r = (ov && (decide (1 ≤ s.procs.length) && decide (s.procs.length ≤ 3))) by rw [E.out, ← HR2, Bool.true_and])
      clear HR2 hr E
      go_wp2_with fail
      refine (HV.out _ B.out).mono ?_
      rintro y w2 ⟨rfl, hb2⟩
      have B2 := hid (below_next B.out hb2)
      obtain ⟨p0', p1', p2', p3', p4'⟩ := box2_next hb2 BX.out
      clear p0 p1 p2 p3 p4 hb2
      cases ov
      · have E3 := hid (show r = false by rw [E2.out]; rfl)
        go_wp2_with fail
        go_ret
        exact Ret.mk (bool_val E3.out.symm) B2.out
      · by_cases k1 : (s.procs.length : Int) ≥ 1
        · have E3 := hid (show r = decide ((s.procs.length : Int) ≤ 3) by rw [E2.out, decide_eq_true (show 1 ≤ s.procs.length by omega)]; simp; omega)
          go_wp2_with fail
          go_ret
          exact Ret.mk (bool_val E3.out.symm) B2.out
        · have E3 := hid (show r = false by rw [E2.out, decide_eq_false (show ¬ 1 ≤ s.procs.length by omega)]; simp)
          go_wp2_with fail
          go_ret
          exact Ret.mk (bool_val E3.out.symm) B2.out
end Sys
end Go.Proofs.Ytdmieedfddgmjaa
namespace Go.Proofs.Ytdmieedfddgmjaa
open Go.RowKit
set_option linter.unusedVariables false
namespace Sys

def IxE (bad : Bool) (w : World) (e : Ending) (w' : World) : Prop := ∃ i : Int, e = .returned (.int .i64 i) ∧ decide (0 ≤ i) = bad ∧ Below w.heap.size w w'

end Sys
end Go.Proofs.Ytdmieedfddgmjaa
