/- Joined texts (TxtPlain, BranTxt, More, BranTxtI, ImplIn, BranchingImplC, BranchingImplV, BranchingImplN): contracts and plain laws. Conditions: those of each theorem. -/
import Derived.Test.YthjhokifonjeaaaJB1
import Derived.Test.YthjhokifonjeaaaRows
import Derived.Test.YthjhokifonjeaaaJB0
import Derived.WalkSpells
import Derived.WalkLawsBesides
import Derived.Laws.Concat
import Derived.Deep.DeepCutAuto
import Derived.Deep.CutBlock
set_option linter.unusedVariables false
set_option linter.unusedSimpArgs false
namespace Go.Proofs.Ythjhokifonjeaaa

/-- a string of given bytes -/
def bs (l : List UInt8) : ByteArray := ⟨l.toArray⟩
theorem bs_append (a b : List UInt8) : bs a ++ bs b = bs (a ++ b) := by
  unfold bs; rw [ByteArray.mk_append_mk]
theorem bs_size (a : List UInt8) : (bs a).size = a.length := by simp [bs, ByteArray.size]
theorem bs_inj {a b : List UInt8} (h : bs a = bs b) : a = b := by
  have := congrArg (fun x => x.data.toList) h
  simpa [bs] using this

theorem str_val {a b : ByteArray} (h : a = b) : Value.string a = .string b := by rw [h]
/-- how a language writes a node: what stands ahead of it, and what stands between two operands -/
structure TLang where
  pre : Int → Int → List UInt8
  mid : Int → List UInt8
  pre2 : ∀ k v, (pre k v).length ≤ 2
  mid1 : ∀ k, (mid k).length ≤ 1

def nodeTxt (pre mid : List UInt8) : List (List UInt8) → List UInt8
  | [] => pre
  | [a] => pre ++ a
  | a :: b :: _ => pre ++ (a ++ (mid ++ (b ++ [41])))

namespace TLang
variable (L : TLang)
mutual
def txt : Tr → List UInt8 | .mk k v kids => nodeTxt (L.pre k v) (L.mid k) (txts kids)
def txts : List Tr → List (List UInt8) | [] => [] | t :: ts => txt t :: txts ts
end
theorem txts_map : ∀ l, L.txts l = l.map L.txt | [] => by simp [txts] | t :: ts => by simp [txts, txts_map ts]

mutual
theorem txt_len : ∀ t, ((L.txt t).length : Int) ≤ 4 * nodes t
  | .mk k v kids => by
    have h1 := L.pre2 k v
    have h2 := L.mid1 k
    have hp := nodesL_pos kids
    simp only [txt, nodes]
    match kids with
    | [] => simp [txts, nodeTxt, nodesL]; omega
    | [a] => have ha := txt_len a; simp [txts, nodeTxt, nodesL]; omega
    | a :: b :: r =>
      have ha := txt_len a
      have hb := txt_len b
      have hr := nodesL_pos r
      simp [txts, nodeTxt, nodesL]; omega
end
end TLang

/-- a byte above another -/
def byte (n : Int) : UInt8 := UInt8.ofNat n.toNat

def exprT : TLang where
  pre k v := if k = 1 then [byte (48 + v)] else if k = 2 then [byte (120 + v)] else if k = 3 then [33] else [40]
  mid k := if k = 4 then [38] else if k = 5 then [124] else if k = 6 then [61] else if k = 7 then [60] else if k = 8 then [43] else [45]
  pre2 k v := by repeat' split
                 all_goals simp
  mid1 k := by repeat' split
               all_goals simp
def formT : TLang where
  pre k v := if k = 1 then [84] else if k = 2 then [byte (112 + v)] else if k = 3 then [33] else if k = 6 then [88] else if k = 9 then [70] else if k = 10 then [71] else [40]
  mid k := if k = 4 then [38] else if k = 5 then [124] else if k = 7 then [85] else [82]
  pre2 k v := by repeat' split
                 all_goals simp
  mid1 k := by repeat' split
               all_goals simp
def branT : TLang where
  pre k v := if k = 1 then [84] else if k = 2 then [byte (112 + v)] else if k = 3 then [33] else if k = 6 then [69, 88] else if k = 8 then [69, 71] else if k = 9 then [65, 88] else if k = 11 then [65, 71] else if k = 7 then [69, 40] else if k = 10 then [65, 40] else [40]
  mid k := if k = 4 then [38] else if k = 5 then [124] else [85]
  pre2 k v := by repeat' split
                 all_goals simp
  mid1 k := by repeat' split
               all_goals simp

/-! ### expressions, read -/
def exprOp (c : UInt8) : Option Int := if c = 38 then some 4 else if c = 124 then some 5 else if c = 61 then some 6 else if c = 60 then some 7 else if c = 43 then some 8 else if c = 45 then some 9 else none
/-- two operands with a sign between, and a bracket behind -/
def pairWith (rd : List UInt8 → Option (Tr × List UInt8)) (op : UInt8 → Option Int) (s : List UInt8) : Option (Tr × List UInt8) :=
  match rd s with
  | some (a, o :: r1) => match op o with
    | some k => match rd r1 with
      | some (b, c :: r2) => if c = 41 then some (.mk k 0 [a, b], r2) else none
      | _ => none
    | none => none
  | _ => none
def oneWith (rd : List UInt8 → Option (Tr × List UInt8)) (k : Int) (s : List UInt8) : Option (Tr × List UInt8) :=
  match rd s with
  | some (a, r) => some (.mk k 0 [a], r)
  | none => none
def rdE (top : UInt8) : Nat → List UInt8 → Option (Tr × List UInt8)
  | 0, _ => none
  | _ + 1, [] => none
  | n + 1, c :: s =>
    if 48 ≤ c ∧ c ≤ top then some (.mk 1 ((c.toNat : Int) - 48) [], s)
    else if 120 ≤ c ∧ c ≤ 122 then some (.mk 2 ((c.toNat : Int) - 120) [], s)
    else if c = 33 then oneWith (rdE top n) 3 s
    else if c = 40 then pairWith (rdE top n) exprOp s
    else none

def formUn (c : UInt8) : Option Int := if c = 33 then some 3 else if c = 88 then some 6 else if c = 70 then some 9 else if c = 71 then some 10 else none
def formOp (c : UInt8) : Option Int := if c = 38 then some 4 else if c = 124 then some 5 else if c = 85 then some 7 else if c = 82 then some 8 else none
def rdF : Nat → List UInt8 → Option (Tr × List UInt8)
  | 0, _ => none
  | _ + 1, [] => none
  | n + 1, c :: s =>
    if c = 84 then some (.mk 1 0 [], s)
    else if 112 ≤ c ∧ c ≤ 114 then some (.mk 2 ((c.toNat : Int) - 112) [], s)
    else match formUn c with
      | some k => oneWith (rdF n) k s
      | none => if c = 40 then pairWith (rdF n) formOp s else none

/-- the operators behind E, A -/
def rdB2 (rd : List UInt8 → Option (Tr × List UInt8)) (k : Int) : List UInt8 → Option (Tr × List UInt8)
  | [] => none
  | c :: s => if c = 88 then oneWith rd k s else if c = 40 then pairWith rd (fun o => if o = 85 then some (k + 1) else none) s else if c = 71 then oneWith rd (k + 2) s else none
def branOp (c : UInt8) : Option Int := if c = 38 then some 4 else if c = 124 then some 5 else none
def rdB : Nat → List UInt8 → Option (Tr × List UInt8)
  | 0, _ => none
  | _ + 1, [] => none
  | n + 1, c :: s =>
    if c = 84 then some (.mk 1 0 [], s)
    else if 112 ≤ c ∧ c ≤ 114 then some (.mk 2 ((c.toNat : Int) - 112) [], s)
    else if c = 33 then oneWith (rdB n) 3 s
    else if c = 40 then pairWith (rdB n) branOp s
    else if c = 69 then rdB2 (rdB n) 6 s
    else if c = 65 then rdB2 (rdB n) 9 s
    else none

theorem oneWith_txt {rd : List UInt8 → Option (Tr × List UInt8)} {a : Tr} {s r : List UInt8} {k : Int} (h : rd s = some (a, r)) : oneWith rd k s = some (.mk k 0 [a], r) := by simp [oneWith, h]
theorem pairWith_txt {rd : List UInt8 → Option (Tr × List UInt8)} {op : UInt8 → Option Int} {a b : Tr} {s r r1 : List UInt8} {o : UInt8} {k : Int} (h : rd s = some (a, o :: r1)) (ho : op o = some k) (hb : rd r1 = some (b, 41 :: r)) :
    pairWith rd op s = some (.mk k 0 [a, b], r) := by simp [pairWith, h, ho, hb]

namespace Lang
variable (L : Lang)
/-- what a well-made node looks like -/
theorem shape_mk {k v : Int} {kids : List Tr} {n : Nat} (h : L.shape (.mk k v kids) n = true) : ∃ m, n = m + 1 ∧ 1 ≤ k ∧ k ≤ L.K ∧ 0 ≤ v ∧ v ≤ L.most k ∧ (kids.length : Int) = L.ar k ∧ ∀ t, t ∈ kids → L.shape t m = true := by
  simp only [shape, Bool.and_eq_true, decide_eq_true_eq, okB_iff] at h
  obtain ⟨h1, ⟨⟨h2, h3⟩, ⟨h4, h5⟩, h6⟩, h7⟩ := h
  obtain ⟨m, rfl⟩ : ∃ m, n = m + 1 := ⟨n - 1, by omega⟩
  refine ⟨m, rfl, h2, h3, h4, h5, h6, ?_⟩
  rw [show ((m + 1 : Nat) : Int) - 1 = (m : Int) by omega] at h7
  clear h6
  induction kids with
  | nil => intro t ht; cases ht
  | cons u us ih =>
    simp only [shapeL, Bool.and_eq_true] at h7
    intro t ht
    cases ht with
    | head => exact h7.1
    | tail _ ht => exact ih h7.2 t ht
end Lang

theorem len0 {l : List Tr} (h : (l.length : Int) = 0) : l = [] := List.eq_nil_of_length_eq_zero (by omega)
theorem len1 {l : List Tr} (h : (l.length : Int) = 1) : ∃ a, l = [a] := by
  match l, h with
  | [a], _ => exact ⟨a, rfl⟩
  | [], h => simp at h
  | _ :: _ :: _, h => simp at h; omega
theorem len2 {l : List Tr} (h : (l.length : Int) = 2) : ∃ a b, l = [a, b] := by
  match l, h with
  | [a, b], _ => exact ⟨a, b, rfl⟩
  | [], h => simp at h
  | [_], h => simp at h
  | _ :: _ :: _ :: _, h => simp at h; omega

/-- WHAT IS WRITTEN IS READ -/
theorem rdE_txt (top : UInt8) (ht : 51 ≤ top) (ht2 : top < 120) : ∀ (n : Nat) (t : Tr) (r : List UInt8), exprL.shape t n = true → rdE top n (exprT.txt t ++ r) = some (t, r) := by
  intro n
  induction n with
  | zero => intro t r h; cases t with | mk k v kids => obtain ⟨m, h1, _⟩ := exprL.shape_mk h; omega
  | succ n ih =>
    intro t r h
    cases t with
    | mk k v kids =>
    obtain ⟨m, h1, h2, h3, h4, h5, h6, h7⟩ := exprL.shape_mk h
    obtain rfl : n = m := by omega
    rw [exprL_K] at h3
    rw [exprL_most] at h5
    rw [exprL_ar] at h6
    have hk : k = 1 ∨ k = 2 ∨ k = 3 ∨ k = 4 ∨ k = 5 ∨ k = 6 ∨ k = 7 ∨ k = 8 ∨ k = 9 := by omega
    rcases hk with rfl | rfl | rfl | hk
    · obtain rfl := len0 (by simpa using h6)
      simp at h5
      have hv : v = 0 ∨ v = 1 ∨ v = 2 ∨ v = 3 := by omega
      have e1 : (48 : UInt8) ≤ top := UInt8.le_trans (by decide) ht
      have e2 : (49 : UInt8) ≤ top := UInt8.le_trans (by decide) ht
      have e3 : (50 : UInt8) ≤ top := UInt8.le_trans (by decide) ht
      rcases hv with rfl | rfl | rfl | rfl <;> simp [TLang.txt, TLang.txts, nodeTxt, exprT, byte, rdE, ht, e1, e2, e3]
    · obtain rfl := len0 (by simpa using h6)
      simp at h5
      have hv : v = 0 ∨ v = 1 ∨ v = 2 := by omega
      have e0 : ¬ (120 : UInt8) ≤ top := by rw [UInt8.not_le]; exact ht2
      have e1 : ¬ (121 : UInt8) ≤ top := by rw [UInt8.not_le]; exact UInt8.lt_trans ht2 (by decide)
      have e2 : ¬ (122 : UInt8) ≤ top := by rw [UInt8.not_le]; exact UInt8.lt_trans ht2 (by decide)
      rcases hv with rfl | rfl | rfl <;> simp [TLang.txt, TLang.txts, nodeTxt, exprT, byte, rdE, e0, e1, e2]
    · obtain ⟨a, rfl⟩ := len1 (by simpa using h6)
      obtain rfl : v = 0 := by simp at h5; omega
      have := ih a r (h7 a (by simp))
      simp [TLang.txt, TLang.txts, nodeTxt, exprT, rdE]
      exact oneWith_txt this
    · obtain ⟨a, b, rfl⟩ := len2 (by rw [h6]; rcases hk with rfl | rfl | rfl | rfl | rfl | rfl <;> simp)
      obtain rfl : v = 0 := by rw [if_neg (by omega), if_neg (by omega)] at h5; omega
      rcases hk with rfl | rfl | rfl | rfl | rfl | rfl
      all_goals
        simp [TLang.txt, TLang.txts, nodeTxt, exprT, rdE]
        exact pairWith_txt (ih a _ (h7 a (by simp))) (by simp [exprOp]) (ih b _ (h7 b (by simp)))

theorem rdF_txt : ∀ (n : Nat) (t : Tr) (r : List UInt8), formL.shape t n = true → rdF n (formT.txt t ++ r) = some (t, r) := by
  intro n
  induction n with
  | zero => intro t r h; cases t with | mk k v kids => obtain ⟨m, h1, _⟩ := formL.shape_mk h; omega
  | succ n ih =>
    intro t r h
    cases t with
    | mk k v kids =>
    obtain ⟨m, h1, h2, h3, h4, h5, h6, h7⟩ := formL.shape_mk h
    obtain rfl : n = m := by omega
    rw [formL_K] at h3
    rw [formL_most] at h5
    rw [formL_ar] at h6
    have hk : k = 1 ∨ k = 2 ∨ (k = 3 ∨ k = 6 ∨ k = 9 ∨ k = 10) ∨ (k = 4 ∨ k = 5 ∨ k = 7 ∨ k = 8) := by omega
    rcases hk with rfl | rfl | hk | hk
    · obtain rfl := len0 (by simpa using h6)
      obtain rfl : v = 0 := by simp at h5; omega
      simp [TLang.txt, TLang.txts, nodeTxt, formT, rdF]
    · obtain rfl := len0 (by simpa using h6)
      simp at h5
      have hv : v = 0 ∨ v = 1 ∨ v = 2 := by omega
      rcases hv with rfl | rfl | rfl <;> simp [TLang.txt, TLang.txts, nodeTxt, formT, byte, rdF]
    · obtain ⟨a, rfl⟩ := len1 (by rw [h6]; rcases hk with rfl | rfl | rfl | rfl <;> simp)
      obtain rfl : v = 0 := by rw [if_neg (by omega)] at h5; omega
      have := ih a r (h7 a (by simp))
      rcases hk with rfl | rfl | rfl | rfl
      all_goals
        simp [TLang.txt, TLang.txts, nodeTxt, formT, rdF, formUn]
        exact oneWith_txt this
    · obtain ⟨a, b, rfl⟩ := len2 (by rw [h6]; rcases hk with rfl | rfl | rfl | rfl <;> simp)
      obtain rfl : v = 0 := by rw [if_neg (by omega)] at h5; omega
      rcases hk with rfl | rfl | rfl | rfl
      all_goals
        simp [TLang.txt, TLang.txts, nodeTxt, formT, rdF, formUn]
        exact pairWith_txt (ih a _ (h7 a (by simp))) (by simp [formOp]) (ih b _ (h7 b (by simp)))

theorem rdB_txt : ∀ (n : Nat) (t : Tr) (r : List UInt8), branL.shape t n = true → rdB n (branT.txt t ++ r) = some (t, r) := by
  intro n
  induction n with
  | zero => intro t r h; cases t with | mk k v kids => obtain ⟨m, h1, _⟩ := branL.shape_mk h; omega
  | succ n ih =>
    intro t r h
    cases t with
    | mk k v kids =>
    obtain ⟨m, h1, h2, h3, h4, h5, h6, h7⟩ := branL.shape_mk h
    obtain rfl : n = m := by omega
    rw [branL_K] at h3
    rw [branL_most] at h5
    rw [branL_ar] at h6
    have hk : k = 1 ∨ k = 2 ∨ (k = 3 ∨ k = 6 ∨ k = 8 ∨ k = 9 ∨ k = 11) ∨ (k = 4 ∨ k = 5 ∨ k = 7 ∨ k = 10) := by omega
    rcases hk with rfl | rfl | hk | hk
    · obtain rfl := len0 (by simpa using h6)
      obtain rfl : v = 0 := by simp at h5; omega
      simp [TLang.txt, TLang.txts, nodeTxt, branT, rdB]
    · obtain rfl := len0 (by simpa using h6)
      simp at h5
      have hv : v = 0 ∨ v = 1 ∨ v = 2 := by omega
      rcases hv with rfl | rfl | rfl <;> simp [TLang.txt, TLang.txts, nodeTxt, branT, byte, rdB]
    · obtain ⟨a, rfl⟩ := len1 (by rw [h6]; rcases hk with rfl | rfl | rfl | rfl | rfl <;> simp)
      obtain rfl : v = 0 := by rw [if_neg (by omega)] at h5; omega
      have := ih a r (h7 a (by simp))
      rcases hk with rfl | rfl | rfl | rfl | rfl
      all_goals
        simp [TLang.txt, TLang.txts, nodeTxt, branT, rdB, rdB2]
        exact oneWith_txt this
    · obtain ⟨a, b, rfl⟩ := len2 (by rw [h6]; rcases hk with rfl | rfl | rfl | rfl <;> simp)
      obtain rfl : v = 0 := by rw [if_neg (by omega)] at h5; omega
      rcases hk with rfl | rfl | rfl | rfl
      all_goals
        simp [TLang.txt, TLang.txts, nodeTxt, branT, rdB, rdB2]
        exact pairWith_txt (ih a _ (h7 a (by simp))) (by simp [branOp]) (ih b _ (h7 b (by simp)))

theorem exprT_inj {n : Nat} {t u : Tr} (ht : exprL.shape t n = true) (hu : exprL.shape u n = true) (h : exprT.txt t = exprT.txt u) : t = u := by
  have h1 := rdE_txt 51 (by decide) (by decide) n t [] ht
  have h2 := rdE_txt 51 (by decide) (by decide) n u [] hu
  rw [h, h2] at h1
  simpa using h1.symm
theorem formT_inj {n : Nat} {t u : Tr} (ht : formL.shape t n = true) (hu : formL.shape u n = true) (h : formT.txt t = formT.txt u) : t = u := by
  have h1 := rdF_txt n t [] ht
  have h2 := rdF_txt n u [] hu
  rw [h, h2] at h1
  simpa using h1.symm
theorem branT_inj {n : Nat} {t u : Tr} (ht : branL.shape t n = true) (hu : branL.shape u n = true) (h : branT.txt t = branT.txt u) : t = u := by
  have h1 := rdB_txt n t [] ht
  have h2 := rdB_txt n u [] hu
  rw [h, h2] at h1
  simpa using h1.symm

/-! ### what is read was written -/
theorem oneWith_back {L : TLang} {rd : List UInt8 → Option (Tr × List UInt8)} {k : Int} {s r p : List UInt8} {t : Tr} (h : oneWith rd k s = some (t, r)) (ih : ∀ s t r, rd s = some (t, r) → s = L.txt t ++ r) (hp : L.pre k 0 = p) : p ++ s = L.txt t ++ r ∧ ∃ a r', rd s = some (a, r') ∧ t = .mk k 0 [a] := by
  unfold oneWith at h
  split at h
  · rename_i a r' hr
    simp at h
    obtain ⟨rfl, rfl⟩ := h
    have := ih _ _ _ hr
    refine ⟨?_, a, r', hr, rfl⟩
    rw [this]
    simp [TLang.txt, TLang.txts, nodeTxt, hp]
  · cases h
theorem pairWith_back {L : TLang} {rd : List UInt8 → Option (Tr × List UInt8)} {op : UInt8 → Option Int} {s r p : List UInt8} {t : Tr} (h : pairWith rd op s = some (t, r)) (ih : ∀ s t r, rd s = some (t, r) → s = L.txt t ++ r)
    (hp : ∀ o k, op o = some k → L.pre k 0 = p ∧ L.mid k = [o]) : p ++ s = L.txt t ++ r ∧ ∃ k a b s1 r1 s2 r2 o, op o = some k ∧ rd s1 = some (a, r1) ∧ rd s2 = some (b, r2) ∧ t = .mk k 0 [a, b] := by
  unfold pairWith at h
  split at h
  · rename_i a o r1 ha
    split at h
    · rename_i k hk
      split at h
      · rename_i b c r2 hb
        split at h
        · rename_i hc
          simp at h
          obtain ⟨rfl, rfl⟩ := h
          obtain ⟨h1, h2⟩ := hp o k hk
          refine ⟨?_, k, a, b, s, _, r1, _, o, hk, ha, hb, rfl⟩
          rw [ih _ _ _ ha, ih _ _ _ hb, hc]
          simp [TLang.txt, TLang.txts, nodeTxt, h1, h2]
        · cases h
      · cases h
    · cases h
  · cases h
theorem byte_back (c : UInt8) (b : Nat) (h : b ≤ c.toNat) : byte ((b : Int) + ((c.toNat : Int) - b)) = c := by
  rw [show (b : Int) + ((c.toNat : Int) - b) = (c.toNat : Int) by omega]
  simp [byte]

theorem exprOp_pre {o : UInt8} {k : Int} (h : exprOp o = some k) : exprT.pre k 0 = [40] ∧ exprT.mid k = [o] ∧ 4 ≤ k ∧ k ≤ 9 := by
  unfold exprOp at h
  repeat' split at h
  all_goals (first | cases h; done | (rename_i hc; subst hc; simp at h; subst h; simp [exprT]))
theorem formUn_pre {o : UInt8} {k : Int} (h : formUn o = some k) : formT.pre k 0 = [o] ∧ (k = 3 ∨ k = 6 ∨ k = 9 ∨ k = 10) := by
  unfold formUn at h
  repeat' split at h
  all_goals (first | cases h; done | (rename_i hc; subst hc; simp at h; subst h; simp [formT]))
theorem formOp_pre {o : UInt8} {k : Int} (h : formOp o = some k) : formT.pre k 0 = [40] ∧ formT.mid k = [o] ∧ (k = 4 ∨ k = 5 ∨ k = 7 ∨ k = 8) := by
  unfold formOp at h
  repeat' split at h
  all_goals (first | cases h; done | (rename_i hc; subst hc; simp at h; subst h; simp [formT]))
theorem branOp_pre {o : UInt8} {k : Int} (h : branOp o = some k) : branT.pre k 0 = [40] ∧ branT.mid k = [o] ∧ (k = 4 ∨ k = 5) := by
  unfold branOp at h
  repeat' split at h
  all_goals (first | cases h; done | (rename_i hc; subst hc; simp at h; subst h; simp [branT]))

theorem rdE_back (top : UInt8) : ∀ (n : Nat) (s : List UInt8) (t : Tr) (r : List UInt8), rdE top n s = some (t, r) → s = exprT.txt t ++ r := by
  intro n
  induction n with
  | zero => intro s t r h; simp [rdE] at h
  | succ n ih =>
    intro s t r h
    match s, h with
    | [], h => simp [rdE] at h
    | c :: s, h =>
      simp only [rdE] at h
      split at h
      · rename_i hc
        simp at h
        obtain ⟨rfl, rfl⟩ := h
        have := byte_back c 48 (by have := UInt8.le_iff_toNat_le.1 hc.1; simpa using this)
        simp [TLang.txt, TLang.txts, nodeTxt, exprT]
        exact this.symm
      · split at h
        · rename_i hc
          simp at h
          obtain ⟨rfl, rfl⟩ := h
          have := byte_back c 120 (by have := UInt8.le_iff_toNat_le.1 hc.1; simpa using this)
          simp [TLang.txt, TLang.txts, nodeTxt, exprT]
          exact this.symm
        · split at h
          · rename_i hc
            rw [hc]
            exact (oneWith_back (L := exprT) (p := [33]) h (fun s t r h => ih s t r h) (by simp [exprT])).1
          · split at h
            · rename_i hc
              rw [hc]
              refine (pairWith_back (L := exprT) (p := [40]) h (fun s t r h => ih s t r h) ?_).1
              intro o k ho
              exact ⟨(exprOp_pre ho).1, (exprOp_pre ho).2.1⟩
            · cases h

theorem rdF_back : ∀ (n : Nat) (s : List UInt8) (t : Tr) (r : List UInt8), rdF n s = some (t, r) → s = formT.txt t ++ r := by
  intro n
  induction n with
  | zero => intro s t r h; simp [rdF] at h
  | succ n ih =>
    intro s t r h
    match s, h with
    | [], h => simp [rdF] at h
    | c :: s, h =>
      simp only [rdF] at h
      split at h
      · rename_i hc
        simp at h
        obtain ⟨rfl, rfl⟩ := h
        simp [TLang.txt, TLang.txts, nodeTxt, formT, hc]
      · split at h
        · rename_i hc
          simp at h
          obtain ⟨rfl, rfl⟩ := h
          have := byte_back c 112 (by have := UInt8.le_iff_toNat_le.1 hc.1; simpa using this)
          simp [TLang.txt, TLang.txts, nodeTxt, formT]
          exact this.symm
        · split at h
          · rename_i k hk
            refine (oneWith_back (L := formT) (p := [c]) h (fun s t r h => ih s t r h) ?_).1
            exact (formUn_pre hk).1
          · split at h
            · rename_i hc
              rw [hc]
              refine (pairWith_back (L := formT) (p := [40]) h (fun s t r h => ih s t r h) ?_).1
              intro o k ho
              exact ⟨(formOp_pre ho).1, (formOp_pre ho).2.1⟩
            · cases h

theorem rdB2_back {rd : List UInt8 → Option (Tr × List UInt8)} {k : Int} {c : UInt8} (hk : (k = 6 ∧ c = 69) ∨ (k = 9 ∧ c = 65)) {s r : List UInt8} {t : Tr} (h : rdB2 rd k s = some (t, r)) (ih : ∀ s t r, rd s = some (t, r) → s = branT.txt t ++ r) : c :: s = branT.txt t ++ r := by
  match s, h with
  | [], h => simp [rdB2] at h
  | d :: s, h =>
    simp only [rdB2] at h
    split at h
    · rename_i hd
      rw [hd]
      exact (oneWith_back (L := branT) (p := [c, 88]) h ih (by rcases hk with ⟨rfl, rfl⟩ | ⟨rfl, rfl⟩ <;> simp [branT])).1
    · split at h
      · rename_i hd
        rw [hd]
        refine (pairWith_back (L := branT) (p := [c, 40]) h ih ?_).1
        intro o k' ho
        simp at ho
        obtain ⟨rfl, rfl⟩ := ho
        rcases hk with ⟨rfl, rfl⟩ | ⟨rfl, rfl⟩ <;> simp [branT]
      · split at h
        · rename_i hd
          rw [hd]
          exact (oneWith_back (L := branT) (p := [c, 71]) h ih (by rcases hk with ⟨rfl, rfl⟩ | ⟨rfl, rfl⟩ <;> simp [branT])).1
        · cases h

theorem rdB_back : ∀ (n : Nat) (s : List UInt8) (t : Tr) (r : List UInt8), rdB n s = some (t, r) → s = branT.txt t ++ r := by
  intro n
  induction n with
  | zero => intro s t r h; simp [rdB] at h
  | succ n ih =>
    intro s t r h
    match s, h with
    | [], h => simp [rdB] at h
    | c :: s, h =>
      simp only [rdB] at h
      split at h
      · rename_i hc
        simp at h
        obtain ⟨rfl, rfl⟩ := h
        simp [TLang.txt, TLang.txts, nodeTxt, branT, hc]
      · split at h
        · rename_i hc
          simp at h
          obtain ⟨rfl, rfl⟩ := h
          have := byte_back c 112 (by have := UInt8.le_iff_toNat_le.1 hc.1; simpa using this)
          simp [TLang.txt, TLang.txts, nodeTxt, branT]
          exact this.symm
        · split at h
          · rename_i hc
            rw [hc]
            exact (oneWith_back (L := branT) (p := [33]) h (fun s t r h => ih s t r h) (by simp [branT])).1
          · split at h
            · rename_i hc
              rw [hc]
              refine (pairWith_back (L := branT) (p := [40]) h (fun s t r h => ih s t r h) ?_).1
              intro o k ho
              exact ⟨(branOp_pre ho).1, (branOp_pre ho).2.1⟩
            · split at h
              · rename_i hc
                rw [hc]
                exact rdB2_back (.inl ⟨rfl, rfl⟩) h (fun s t r h => ih s t r h)
              · split at h
                · rename_i hc
                  rw [hc]
                  exact rdB2_back (.inr ⟨rfl, rfl⟩) h (fun s t r h => ih s t r h)
                · cases h

end Go.Proofs.Ythjhokifonjeaaa
namespace Go.Proofs.Ythjhokifonjeaaa
open Go.RowKit
namespace Branching

def FmT (t : Tr) : Prop := ∀ (n : Nat) (w : World) (x : Value), branL.shape t n = true → nodes t ≤ 12 → TrIn Any w t x → Calls Try.prog 64 #[x] w (Ret (.string (bs (branT.txt t))) w)

set_option maxHeartbeats 1000000 in
theorem fm_un (k : Int) (p : List UInt8) (hk : (k = 3 ∧ p = [33]) ∨ (k = 6 ∧ p = [69, 88]) ∨ (k = 8 ∧ p = [69, 71]) ∨ (k = 9 ∧ p = [65, 88]) ∨ (k = 11 ∧ p = [65, 71])) (t : Tr) (h : FmT t) : FmT (.mk k 0 [t]) := by
  intro n w x hs hn hx
  have hpre : branT.pre k 0 = p := by rcases hk with ⟨rfl, rfl⟩ | ⟨rfl, rfl⟩ | ⟨rfl, rfl⟩ | ⟨rfl, rfl⟩ | ⟨rfl, rfl⟩ <;> simp [branT]
  have E := hid (show branT.txt (.mk k 0 [t]) = p ++ branT.txt t by simp [TLang.txt, TLang.txts, nodeTxt, hpre])
  obtain ⟨m, rfl, _, _, _, _, _, hkids⟩ := branL.shape_mk hs
  rw [TrIn_mk] at hx
  obtain ⟨a, n', c, rfl, _, _, rfl, hc, hc2, hks⟩ := hx
  rw [TrsIn_cons] at hks
  obtain ⟨b, o, c0, c1, c2, rfl, _, g0, g1, g2, hT, _⟩ := hks
  have hb := blt g0
  have hkid := hid (hkids t (by simp))
  have hl := branT.txt_len t
  simp only [nodes, nodesL] at hn
  have hcn : nodes t ≤ 12 := by omega
  have hl2 : (bs (branT.txt t)).size ≤ 100 := by rw [bs_size]; omega
  clear hkids hs hpre hl hn
  simp only [List.length_cons, List.length_nil] at hc ⊢
  generalize hS : bs (branT.txt t) = S at *
  replace hS := hid hS
  rcases hk with ⟨rfl, rfl⟩ | ⟨rfl, rfl⟩ | ⟨rfl, rfl⟩ | ⟨rfl, rfl⟩ | ⟨rfl, rfl⟩
  all_goals
    go_enter Try.func64, Try.ntmps64
    go_wp2_with fail
    refine (h m _ _ hkid.out hcn (TrIn_alloc hT _)).mono ?_
    rintro e w1 ⟨rfl, hb1⟩
    rw [hS.out]
    go_wp2_with fail
    go_ret
    refine Ret.mk (str_val ?_) (below_next (below_alloc _ _) hb1)
    rw [E.out, ← hS.out, ← bs_append]; rfl

set_option maxHeartbeats 2000000 in
theorem fm_two (k : Int) (p q : List UInt8) (hk : (k = 4 ∧ p = [40] ∧ q = [38]) ∨ (k = 5 ∧ p = [40] ∧ q = [124]) ∨ (k = 7 ∧ p = [69, 40] ∧ q = [85]) ∨ (k = 10 ∧ p = [65, 40] ∧ q = [85])) (t u : Tr) (h : FmT t) (h' : FmT u) : FmT (.mk k 0 [t, u]) := by
  intro n w x hs hn hx
  have hpre : branT.pre k 0 = p ∧ branT.mid k = q := by rcases hk with ⟨rfl, rfl, rfl⟩ | ⟨rfl, rfl, rfl⟩ | ⟨rfl, rfl, rfl⟩ | ⟨rfl, rfl, rfl⟩ <;> simp [branT]
  have E := hid (show branT.txt (.mk k 0 [t, u]) = p ++ (branT.txt t ++ (q ++ (branT.txt u ++ [41]))) by simp [TLang.txt, TLang.txts, nodeTxt, hpre])
  obtain ⟨m, rfl, _, _, _, _, _, hkids⟩ := branL.shape_mk hs
  rw [TrIn_mk] at hx
  obtain ⟨a, n', c, rfl, _, _, rfl, hc, hc2, hks⟩ := hx
  rw [TrsIn_cons] at hks
  obtain ⟨b, o, c0, c1, c2, rfl, _, g0, g1, g2, hT, hks⟩ := hks
  rw [TrsIn_cons] at hks
  obtain ⟨b', o', d0, d1, d2, hbo, _, f0, f1, f2, hU, _⟩ := hks
  simp only [Option.some.injEq, Addr.mk.injEq, and_true] at hbo
  obtain ⟨rfl, rfl⟩ := hbo
  have hb := blt g0
  have hkid := hid (hkids t (by simp))
  have hkid' := hid (hkids u (by simp))
  have hl := branT.txt_len t
  have hl' := branT.txt_len u
  simp only [nodes, nodesL] at hn
  have hp := nodes_pos t
  have hp' := nodes_pos u
  have hcn : nodes t ≤ 12 := by omega
  have hcn' : nodes u ≤ 12 := by omega
  have hl2 : (bs (branT.txt t)).size ≤ 100 := by rw [bs_size]; omega
  have hl2' : (bs (branT.txt u)).size ≤ 100 := by rw [bs_size]; omega
  clear hkids hs hpre hl hl' hn hp hp'
  simp only [List.length_cons, List.length_nil] at hc ⊢
  generalize hS : bs (branT.txt t) = S at *
  generalize hS' : bs (branT.txt u) = S' at *
  replace hS := hid hS
  replace hS' := hid hS'
  rcases hk with ⟨rfl, rfl, rfl⟩ | ⟨rfl, rfl, rfl⟩ | ⟨rfl, rfl, rfl⟩ | ⟨rfl, rfl, rfl⟩
  all_goals
    go_enter Try.func64, Try.ntmps64
    go_wp2_with fail
    refine (h m _ _ hkid.out hcn (TrIn_alloc hT _)).mono ?_
    rintro e w1 ⟨rfl, hb1⟩
    rw [hS.out]
    have b1 := box3_next hb1 (box3_new ..)
    have B := below_next (below_alloc _ _) hb1
    have k0 := (B.cell (p := ⟨b, o + 3, none⟩) hb).trans f0
    have k1 := (B.cell (p := ⟨b, o + 3 + 1, none⟩) hb).trans f1
    have k2 := (B.cell (p := ⟨b, o + 3 + 2, none⟩) hb).trans f2
    have hbb : b < w1.heap.size := Nat.lt_of_lt_of_le hb B.size
    clear hb1
    go_wp2_with fail
    refine (h' m _ _ hkid'.out hcn' (TrIn_below B hU)).mono ?_
    rintro e w2 ⟨rfl, hb2⟩
    rw [hS'.out]
    replace B := below_next B hb2
    replace b1 := box3_next hb2 b1
    clear hb2
    go_wp2_with fail
    go_ret
    refine Ret.mk (str_val ?_) B
    rw [E.out, ← hS.out, ← hS'.out, ← bs_append, ← bs_append, ← bs_append, ← bs_append]; simp only [ByteArray.append_assoc]; rfl

set_option maxHeartbeats 1000000 in
theorem fm_leaf (k v : Int) (hk : (k = 1 ∧ v = 0) ∨ (k = 2 ∧ (v = 0 ∨ v = 1 ∨ v = 2))) : FmT (.mk k v []) := by
  intro n w x hs hn hx
  have E := hid (show branT.txt (.mk k v []) = branT.pre k v from rfl)
  rw [TrIn_mk] at hx
  obtain ⟨a, n', c, rfl, _, _, rfl, hc, hc2, hks⟩ := hx
  clear hs hn hks
  simp only [List.length_nil] at hc ⊢
  rcases hk with ⟨rfl, rfl⟩ | ⟨rfl, rfl | rfl | rfl⟩
  all_goals
    go_enter Try.func64, Try.ntmps64
    go_wp2_with fail
    go_ret
    refine Ret.mk (str_val ?_) (below_alloc _ _)
    rw [E.out]; rfl

theorem fm_any : ∀ t, FmT t := Tr.ind fun k v kids ih => by
  intro n w x hs
  obtain ⟨m, h1, h2, h3, h4, h5, h6, h7⟩ := branL.shape_mk hs
  rw [branL_K] at h3
  rw [branL_most] at h5
  rw [branL_ar] at h6
  by_cases k0 : k = 1 ∨ k = 2
  · obtain rfl := len0 (by rw [h6, if_pos k0])
    refine fm_leaf k v ?_ n w x hs
    by_cases k2 : k = 2
    · rw [if_pos k2] at h5; right; exact ⟨k2, by omega⟩
    · rw [if_neg k2] at h5; left; omega
  rw [if_neg (by omega)] at h5
  obtain rfl : v = 0 := by omega
  by_cases k2 : k = 4 ∨ k = 5 ∨ k = 7 ∨ k = 10
  · obtain ⟨a, b, rfl⟩ := len2 (by rw [h6, if_neg k0, if_pos k2])
    rcases k2 with rfl | rfl | rfl | rfl
    · exact fm_two 4 _ _ (.inl ⟨rfl, rfl, rfl⟩) a b (ih a (by simp)) (ih b (by simp)) n w x hs
    · exact fm_two 5 _ _ (.inr (.inl ⟨rfl, rfl, rfl⟩)) a b (ih a (by simp)) (ih b (by simp)) n w x hs
    · exact fm_two 7 _ _ (.inr (.inr (.inl ⟨rfl, rfl, rfl⟩))) a b (ih a (by simp)) (ih b (by simp)) n w x hs
    · exact fm_two 10 _ _ (.inr (.inr (.inr ⟨rfl, rfl, rfl⟩))) a b (ih a (by simp)) (ih b (by simp)) n w x hs
  · obtain ⟨a, rfl⟩ := len1 (by rw [h6, if_neg k0, if_neg k2])
    have hk : k = 3 ∨ k = 6 ∨ k = 8 ∨ k = 9 ∨ k = 11 := by omega
    rcases hk with rfl | rfl | rfl | rfl | rfl
    · exact fm_un 3 _ (.inl ⟨rfl, rfl⟩) a (ih a (by simp)) n w x hs
    · exact fm_un 6 _ (.inr (.inl ⟨rfl, rfl⟩)) a (ih a (by simp)) n w x hs
    · exact fm_un 8 _ (.inr (.inr (.inl ⟨rfl, rfl⟩))) a (ih a (by simp)) n w x hs
    · exact fm_un 9 _ (.inr (.inr (.inr (.inl ⟨rfl, rfl⟩)))) a (ih a (by simp)) n w x hs
    · exact fm_un 11 _ (.inr (.inr (.inr (.inr ⟨rfl, rfl⟩)))) a (ih a (by simp)) n w x hs

end Branching
end Go.Proofs.Ythjhokifonjeaaa
namespace Go.Proofs.Ythjhokifonjeaaa
open Go.RowKit

/-- of the world where the walk stands only this is kept -/
theorem wp_gen {P : Program} {C : Code} {Q : Exit → Act → World → Prop} {a : Act} {w0 : World} (R : World → Prop) (h0 : R w0) (h : ∀ W, R W → C.wp P Q a W) : C.wp P Q a w0 := h _ h0
/-- three cells of an old node, in a later world -/
theorem cells_next {w W : World} (B : Below w.heap.size w W) {b o : Nat} {c0 c1 c2 : Value} (hb : b < w.heap.size) (g0 : w.cell? ⟨b, o, none⟩ = some c0) (g1 : w.cell? ⟨b, o + 1, none⟩ = some c1) (g2 : w.cell? ⟨b, o + 2, none⟩ = some c2) :
    W.cell? ⟨b, o, none⟩ = some c0 ∧ W.cell? ⟨b, o + 1, none⟩ = some c1 ∧ W.cell? ⟨b, o + 2, none⟩ = some c2 :=
  ⟨(B.cell (p := ⟨b, o, none⟩) hb).trans g0, (B.cell (p := ⟨b, o + 1, none⟩) hb).trans g1, (B.cell (p := ⟨b, o + 2, none⟩) hb).trans g2⟩

end Go.Proofs.Ythjhokifonjeaaa
namespace Go.Proofs.Ythjhokifonjeaaa
open Go.RowKit
namespace Branching

def TxT (t : Tr) : Prop := ∀ (n : Nat) (w : World) (x : Value), branL.shape t n = true → nodes t ≤ 12 → TrIn Any w t x → Calls Try.prog 61 #[x] w (Ret (.string (bs (branT.txt t))) w)

set_option maxHeartbeats 1000000 in
theorem tx_leaf (k v : Int) (hk : (k = 1 ∧ v = 0) ∨ (k = 2 ∧ (v = 0 ∨ v = 1 ∨ v = 2))) : TxT (.mk k v []) := by
  intro n w x hs hn hx
  have E := hid (show branT.txt (.mk k v []) = branT.pre k v from rfl)
  rw [TrIn_mk] at hx
  obtain ⟨a, n', c, rfl, _, _, rfl, hc, hc2, hks⟩ := hx
  clear hs hn hks
  simp only [List.length_nil] at hc ⊢
  rcases hk with ⟨rfl, rfl⟩ | ⟨rfl, rfl | rfl | rfl⟩
  all_goals
    go_enter Try.func61, Try.ntmps61
    go_wp2_with fail
    go_ret
    refine Ret.mk (str_val ?_) (below_alloc _ _)
    rw [E.out]; rfl

set_option maxHeartbeats 2000000 in
theorem tx_un (k : Int) (p : List UInt8) (hk : (k = 3 ∧ p = [33]) ∨ (k = 6 ∧ p = [69, 88]) ∨ (k = 8 ∧ p = [69, 71]) ∨ (k = 9 ∧ p = [65, 88]) ∨ (k = 11 ∧ p = [65, 71])) (t : Tr) (h : TxT t) : TxT (.mk k 0 [t]) := by
  intro n w x hs hn hx
  have hpre : branT.pre k 0 = p := by rcases hk with ⟨rfl, rfl⟩ | ⟨rfl, rfl⟩ | ⟨rfl, rfl⟩ | ⟨rfl, rfl⟩ | ⟨rfl, rfl⟩ <;> simp [branT]
  have E := hid (show branT.txt (.mk k 0 [t]) = p ++ branT.txt t by simp [TLang.txt, TLang.txts, nodeTxt, hpre])
  obtain ⟨m, rfl, _, _, _, _, _, hkids⟩ := branL.shape_mk hs
  rw [TrIn_mk] at hx
  obtain ⟨a, n', c, rfl, _, _, rfl, hc, hc2, hks⟩ := hx
  rw [TrsIn_cons] at hks
  obtain ⟨b, o, c0, c1, c2, rfl, _, g0, g1, g2, hT, _⟩ := hks
  have hb := blt g0
  have hkid := hid (hkids t (by simp))
  have hl := branT.txt_len t
  simp only [nodes, nodesL] at hn
  have hcn : nodes t ≤ 12 := by omega
  have hl2 : (bs (branT.txt t)).size ≤ 100 := by rw [bs_size]; omega
  clear hkids hs hpre hl hn
  simp only [List.length_cons, List.length_nil] at hc ⊢
  generalize hS : bs (branT.txt t) = S at *
  replace hS := hid hS
  rcases hk with ⟨rfl, rfl⟩ | ⟨rfl, rfl⟩ | ⟨rfl, rfl⟩ | ⟨rfl, rfl⟩ | ⟨rfl, rfl⟩
  all_goals
    go_enter Try.func61, Try.ntmps61
    go_wp2_with fail
    refine (h m _ _ hkid.out hcn (TrIn_below (by repeat (first | exact Below.refl _ _ | assumption | refine below_a ?_ _ | refine below_o ?_ _ | refine below_d ?_ | refine below_n ?_ _ | refine below_s ?_ (by first | (simp; done) | (simp; omega) | omega) _)) hT)).mono ?_
    rintro e w1 ⟨rfl, hb1⟩
    rw [hS.out]
    go_wp2_with fail
    go_ret
    refine Ret.mk (str_val ?_) (below_next (by repeat (first | exact Below.refl _ _ | assumption | refine below_a ?_ _ | refine below_o ?_ _ | refine below_d ?_ | refine below_n ?_ _ | refine below_s ?_ (by first | (simp; done) | (simp; omega) | omega) _)) hb1)
    rw [E.out, ← hS.out, ← bs_append]; rfl

set_option maxHeartbeats 4000000 in
theorem tx_two (k : Int) (p q : List UInt8) (hk : (k = 4 ∧ p = [40] ∧ q = [38]) ∨ (k = 5 ∧ p = [40] ∧ q = [124]) ∨ (k = 7 ∧ p = [69, 40] ∧ q = [85]) ∨ (k = 10 ∧ p = [65, 40] ∧ q = [85])) (t u : Tr) (h : TxT t) (h' : TxT u) : TxT (.mk k 0 [t, u]) := by
  intro n w x hs hn hx
  have hpre : branT.pre k 0 = p ∧ branT.mid k = q := by rcases hk with ⟨rfl, rfl, rfl⟩ | ⟨rfl, rfl, rfl⟩ | ⟨rfl, rfl, rfl⟩ | ⟨rfl, rfl, rfl⟩ <;> simp [branT]
  have E := hid (show bs (branT.txt (.mk k 0 [t, u])) = bs p ++ bs (branT.txt t) ++ bs q ++ bs (branT.txt u) ++ bs [41] by simp [TLang.txt, TLang.txts, nodeTxt, hpre, bs_append])
  obtain ⟨m, rfl, _, _, _, _, _, hkids⟩ := branL.shape_mk hs
  rw [TrIn_mk] at hx
  obtain ⟨a, n', c, rfl, _, _, rfl, hc, hc2, hks⟩ := hx
  rw [TrsIn_cons] at hks
  obtain ⟨b, o, c0, c1, c2, rfl, _, g0, g1, g2, hT, hks⟩ := hks
  rw [TrsIn_cons] at hks
  obtain ⟨b', o', d0, d1, d2, hbo, _, f0, f1, f2, hU, _⟩ := hks
  simp only [Option.some.injEq, Addr.mk.injEq, and_true] at hbo
  obtain ⟨rfl, rfl⟩ := hbo
  have hb := blt g0
  have hkid := hid (hkids t (by simp))
  have hkid' := hid (hkids u (by simp))
  have hl := branT.txt_len t
  have hl' := branT.txt_len u
  simp only [nodes, nodesL] at hn
  have hp := nodes_pos t
  have hp' := nodes_pos u
  have hcn : nodes t ≤ 12 := by omega
  have hcn' : nodes u ≤ 12 := by omega
  have hl2 : (bs (branT.txt t)).size ≤ 100 := by rw [bs_size]; omega
  have hl2' : (bs (branT.txt u)).size ≤ 100 := by rw [bs_size]; omega
  clear hkids hs hpre hl hl' hn hp hp'
  simp only [List.length_cons, List.length_nil] at hc ⊢
  have H := hid (fun w x (hx : TrIn Any w t x) => h m w x hkid.out hcn hx)
  have H' := hid (fun w x (hx : TrIn Any w u x) => h' m w x hkid'.out hcn' hx)
  generalize bs (branT.txt t) = S at *
  generalize bs (branT.txt u) = S' at *
  rcases hk with ⟨rfl, rfl, rfl⟩ | ⟨rfl, rfl, rfl⟩ | ⟨rfl, rfl, rfl⟩ | ⟨rfl, rfl, rfl⟩
  all_goals
    go_enter Try.func61, Try.ntmps61
    go_wp2_with fail
    refine wp_gen (fun W => Below w.heap.size w W ∧ Box3 W w.heap.size _ (.int .i64 0) (.slice (some ⟨b, o, none⟩) 2 c)) ⟨(by repeat (first | exact Below.refl _ _ | assumption | refine below_a ?_ _ | refine below_o ?_ _ | refine below_d ?_ | refine below_n ?_ _ | refine below_s ?_ (by first | (simp; done) | (simp; omega) | omega) _)), box3_next (below_alloc _ _) (box3_new ..)⟩ ?_
    rintro W ⟨B, b3⟩
    obtain ⟨k0, k1, k2⟩ := cells_next B hb g0 g1 g2
    obtain ⟨j0, j1, j2⟩ := cells_next B hb f0 f1 f2
    have hbW : b < W.heap.size := Nat.lt_of_lt_of_le hb B.size
    refine wp_region_over (by kernel_rfl) (by kernel_rfl) ?_; (repeat (go_big_quiet_step ((go_at_call 61; first | with_reducible exact Calls.over (H.out _ _ (TrIn_over (TrIn_below B hT) _)) | with_reducible exact Calls.over (H'.out _ _ (TrIn_over (TrIn_below B hU) _)))))); refine wpQuiet_nil ?_; rintro _ ⟨xq, rfl⟩
    go_wp2_with fail
    go_ret
    refine Ret.mk (str_val ?_) (below_next B (over_below W xq))
    rw [E.out]; rfl

theorem tx_any : ∀ t, TxT t := Tr.ind fun k v kids ih => by
  intro n w x hs
  obtain ⟨m, h1, h2, h3, h4, h5, h6, h7⟩ := branL.shape_mk hs
  rw [branL_K] at h3
  rw [branL_most] at h5
  rw [branL_ar] at h6
  by_cases k0 : k = 1 ∨ k = 2
  · obtain rfl := len0 (by rw [h6, if_pos k0])
    refine tx_leaf k v ?_ n w x hs
    by_cases k2 : k = 2
    · rw [if_pos k2] at h5; right; exact ⟨k2, by omega⟩
    · rw [if_neg k2] at h5; left; omega
  rw [if_neg (by omega)] at h5
  obtain rfl : v = 0 := by omega
  by_cases k2 : k = 4 ∨ k = 5 ∨ k = 7 ∨ k = 10
  · obtain ⟨a, b, rfl⟩ := len2 (by rw [h6, if_neg k0, if_pos k2])
    rcases k2 with rfl | rfl | rfl | rfl
    · exact tx_two 4 _ _ (.inl ⟨rfl, rfl, rfl⟩) a b (ih a (by simp)) (ih b (by simp)) n w x hs
    · exact tx_two 5 _ _ (.inr (.inl ⟨rfl, rfl, rfl⟩)) a b (ih a (by simp)) (ih b (by simp)) n w x hs
    · exact tx_two 7 _ _ (.inr (.inr (.inl ⟨rfl, rfl, rfl⟩))) a b (ih a (by simp)) (ih b (by simp)) n w x hs
    · exact tx_two 10 _ _ (.inr (.inr (.inr ⟨rfl, rfl, rfl⟩))) a b (ih a (by simp)) (ih b (by simp)) n w x hs
  · obtain ⟨a, rfl⟩ := len1 (by rw [h6, if_neg k0, if_neg k2])
    have hk : k = 3 ∨ k = 6 ∨ k = 8 ∨ k = 9 ∨ k = 11 := by omega
    rcases hk with rfl | rfl | rfl | rfl | rfl
    · exact tx_un 3 _ (.inl ⟨rfl, rfl⟩) a (ih a (by simp)) n w x hs
    · exact tx_un 6 _ (.inr (.inl ⟨rfl, rfl⟩)) a (ih a (by simp)) n w x hs
    · exact tx_un 8 _ (.inr (.inr (.inl ⟨rfl, rfl⟩))) a (ih a (by simp)) n w x hs
    · exact tx_un 9 _ (.inr (.inr (.inr (.inl ⟨rfl, rfl⟩)))) a (ih a (by simp)) n w x hs
    · exact tx_un 11 _ (.inr (.inr (.inr (.inr ⟨rfl, rfl⟩)))) a (ih a (by simp)) n w x hs

end Branching
end Go.Proofs.Ythjhokifonjeaaa
namespace Go.Proofs.Ythjhokifonjeaaa
open Go.RowKit

/-- is a number in a range -/
def inB (a b c : Int) : Bool := decide (b ≤ a ∧ a ≤ c)
set_option maxHeartbeats 400000 in
theorem in_any (a b c : Int) (w : World) : Calls Try.prog 72 #[.int .i64 a, .int .i64 b, .int .i64 c] w (RetW (.bool (inB a b c)) w) := by
  by_cases h1 : b ≤ a
  · have E := hid (show decide (a ≤ c) = inB a b c by simp [inB, h1])
    go_enter Try.func72, Try.ntmps72
    go_wp2_with fail
    go_ret
    exact ⟨congrArg (fun x => Ending.returned (.bool x)) E.out, rfl⟩
  · have E := hid (show false = inB a b c by simp [inB]; omega)
    go_enter Try.func72, Try.ntmps72
    go_wp2_with fail
    go_ret
    exact ⟨congrArg (fun x => Ending.returned (.bool x)) E.out, rfl⟩
theorem in_yes {a b c : Int} (h : b ≤ a ∧ a ≤ c) (w : World) : Calls Try.prog 72 #[.int .i64 a, .int .i64 b, .int .i64 c] w (RetW (.bool true) w) := by
  have := in_any a b c w
  rwa [inB, decide_eq_true h] at this
theorem in_no {a b c : Int} (h : ¬(b ≤ a ∧ a ≤ c)) (w : World) : Calls Try.prog 72 #[.int .i64 a, .int .i64 b, .int .i64 c] w (RetW (.bool false) w) := by
  have := in_any a b c w
  rwa [inB, decide_eq_false h] at this

theorem upd_past {w W W' : World} {R : Nat} {v : Value} (h : Upd W R v W') (hb : Below w.heap.size w W) (hR : R < w.heap.size) : Upd w R v W' :=
  (Upd.of_below hb hR).trans_below h
theorem Calls.over_same {P : Program} {f : FuncId} {args : Array Value} {w : World} {x : Over w} {v : Value} (h : Calls P f args (w.over x) (RetW v (w.over x))) :
    Calls P f args (w.over x) fun e w'' => e = .returned v ∧ ∃ m, w'' = w.over m :=
  h.mono fun _ _ ⟨he, hy⟩ => ⟨he, x, hy⟩

end Go.Proofs.Ythjhokifonjeaaa
namespace Go.Proofs.Ythjhokifonjeaaa
open Go.RowKit
namespace Branching
/-- what a call of walk comes to: the counter, in block R, is m behind it -/
def WkPost (v : Value) (R : Nat) (m : Int) (w : World) (e : Ending) (w' : World) : Prop := e = .returned v ∧ Upd w R (.int .i64 m) w'

def WkT (t : Tr) : Prop := ∀ (w : World) (x : Value) (R : Nat) (d n : Int), TrIn (· ≠ R) w t x → 1 ≤ d → d ≤ 7 → 0 ≤ n → n ≤ 12 →
    w.cell? ⟨R, 0, none⟩ = some (.int .i64 n) → w.frozen? ⟨R, 0, none⟩ = false →
    Calls Try.prog 65 #[x, .int .i64 d, .pointer (some ⟨R, 0, none⟩)] w (WkPost (.bool (branL.wk t d n).1) R (branL.wk t d n).2 w)

/-- the closure that ContainsFunc is handed: it walks a node one deeper, and tells whether that failed -/
def clo (D E : Nat) : Value := .func (.func 94) #[] #[.pointer (some ⟨D, 0, none⟩), .pointer (some ⟨E, 0, none⟩)]

set_option maxHeartbeats 400000 in
theorem clo_of (t : Tr) (h : WkT t) (w : World) (x : Value) (R D E : Nat) (d n : Int) (hx : TrIn (· ≠ R) w t x) (hd1 : 0 ≤ d) (hd2 : d ≤ 6) (hn1 : 0 ≤ n) (hn2 : n ≤ 12)
    (hD : w.cell? ⟨D, 0, none⟩ = some (.int .i64 d)) (hE : w.cell? ⟨E, 0, none⟩ = some (.pointer (some ⟨R, 0, none⟩))) (hR : w.cell? ⟨R, 0, none⟩ = some (.int .i64 n)) (hF : w.frozen? ⟨R, 0, none⟩ = false) :
    Calls Try.prog 94 #[x, .pointer (some ⟨D, 0, none⟩), .pointer (some ⟨E, 0, none⟩)] w (WkPost (.bool (!(branL.wk t (d + 1) n).1)) R (branL.wk t (d + 1) n).2 w) := by
  obtain ⟨a, c, rfl⟩ := TrIn_shape hx
  have lD := blt hD
  have lE := blt hE
  have lR : R < w.heap.size := blt hR
  go_enter Try.func94, Try.ntmps94
  go_wp2_with fail
  refine (h _ _ R (d + 1) n (TrIn_alloc hx _) (by omega) (by omega) hn1 hn2 (by simp [go_sem, lR, hR]) (by simp [go_sem, lR, hF])).mono ?_
  rintro e w2 ⟨rfl, hu⟩
  go_wp2_with fail
  go_ret
  exact ⟨rfl, upd_past hu (below_alloc _ _) lR⟩

/-- what a call of IndexFunc comes to: an index, not negative exactly where some node failed -/
def IxPost (bad : Bool) (R : Nat) (m : Int) (w : World) (e : Ending) (w' : World) : Prop := ∃ i : Int, e = .returned (.int .i64 i) ∧ decide (0 ≤ i) = bad ∧ Upd w R (.int .i64 m) w'

set_option maxHeartbeats 1000000 in
theorem ix_of (l : List Tr) (h : ∀ t, t ∈ l → WkT t) (w : World) (a : Option Addr) (c R D E : Nat) (d n : Int) (hl : TrsIn (· ≠ R) w l a) (hc : l.length ≤ c) (hc2 : c ≤ maxLen) (hd1 : 0 ≤ d) (hd2 : d ≤ 6) (hn1 : 0 ≤ n) (hn2 : n ≤ 12)
    (hD : w.cell? ⟨D, 0, none⟩ = some (.int .i64 d)) (hE : w.cell? ⟨E, 0, none⟩ = some (.pointer (some ⟨R, 0, none⟩))) (hR : w.cell? ⟨R, 0, none⟩ = some (.int .i64 n)) (hF : w.frozen? ⟨R, 0, none⟩ = false) (hDR : D ≠ R) (hER : E ≠ R) :
    Calls Try.prog 108 #[.slice a l.length c, clo D E] w (IxPost (!(branL.wkL l (d + 1) n).1) R (branL.wkL l (d + 1) n).2 w) := by
  unfold maxLen at hc2
  have lD := blt hD
  have lE := blt hE
  have lR : R < w.heap.size := blt hR
  unfold clo
  go_enter Try.func108, Try.ntmps108
  go_wp2_with fail
  go_loopw [5, 8] (fun _ i wr => ∃ (j : Nat) (m : Int), j ≤ l.length ∧ i = .int .i64 j ∧ 0 ≤ m ∧ m ≤ 12 ∧ Upd w R (.int .i64 m) wr ∧ Hid (branL.wkL (l.drop j) (d + 1) m = branL.wkL l (d + 1) n)) (fun _ i _ => l.length - (intOf i).toNat)
  case atStart => exact ⟨0, n, Nat.zero_le _, rfl, hn1, hn2, Upd.self hR, hid rfl⟩
  case round =>
    obtain ⟨j, m, hj, rfl, hm1, hm2, hu, hr⟩ := hrel
    have hl' := TrsIn_upd hu (fun b hb => hb) hl
    have qD := (hu.other (o := 0) lD hDR).trans hD
    have qE := (hu.other (o := 0) lE hER).trans hE
    have qR := hu.cell hR
    have qF := (hu.frozen (o := 0) lR).trans hF
    by_cases hlt : j < l.length
    · obtain ⟨b, o, c0, c1, c2, t, rfl, gb, g0, g1, g2, hT⟩ := TrsIn_round hl' (Below.refl _ _) hlt
      have HR2 := hr.out
      rw [hT.out.2.2.1] at HR2
      simp only [Lang.wkL] at HR2
      have HR := hid HR2; clear HR2
      have hbd := branL.wk_bd t (d + 1) m hm2
      rw [branL_N] at hbd
      go_wp2_with fail
      refine (clo_of t (h t hT.out.2.1) wr _ R D E d m hT.out.1 hd1 hd2 hm1 hm2 qD qE qR qF).mono ?_
      rintro e w2 ⟨rfl, hu2⟩
      have hu3 := hu.trans hu2
      cases hq : (branL.wk t (d + 1) m).1 with
      | true =>
        have HR3 := HR.out
        rw [hq, if_pos rfl] at HR3
        have HR4 := hid HR3; clear HR3
        have hb2 := hbd.2.2 hq
        clear hq
        go_wp2_with fail
        go_roundw
        case rel => exact ⟨j + 1, (branL.wk t (d + 1) m).2, by omega, by go_num, by omega, hb2, hu3, HR4⟩
        case measure => simp [intOf]; omega
      | false =>
        have HR3 := HR.out
        rw [hq, if_neg (by simp)] at HR3
        have HR4 := hid HR3; clear HR3 hq
        go_wp2_with fail
        go_ret
        exact ⟨j, rfl, by rw [← HR4.out]; simp, by rw [← HR4.out]; exact hu3⟩
    · have HR2 := hr.out
      rw [List.drop_of_length_le (by omega)] at HR2
      simp only [Lang.wkL] at HR2
      have HR := hid HR2; clear HR2
      go_wp2_with fail
      go_ret
      exact ⟨-1, rfl, by rw [← HR.out]; simp, by rw [← HR.out]; exact hu⟩

set_option maxHeartbeats 400000 in
theorem cf_of (l : List Tr) (h : ∀ t, t ∈ l → WkT t) (w : World) (a : Option Addr) (c R D E : Nat) (d n : Int) (hl : TrsIn (· ≠ R) w l a) (hc : l.length ≤ c) (hc2 : c ≤ maxLen) (hd1 : 0 ≤ d) (hd2 : d ≤ 6) (hn1 : 0 ≤ n) (hn2 : n ≤ 12)
    (hD : w.cell? ⟨D, 0, none⟩ = some (.int .i64 d)) (hE : w.cell? ⟨E, 0, none⟩ = some (.pointer (some ⟨R, 0, none⟩))) (hR : w.cell? ⟨R, 0, none⟩ = some (.int .i64 n)) (hF : w.frozen? ⟨R, 0, none⟩ = false) (hDR : D ≠ R) (hER : E ≠ R) :
    Calls Try.prog 93 #[.slice a l.length c, clo D E] w (WkPost (.bool (!(branL.wkL l (d + 1) n).1)) R (branL.wkL l (d + 1) n).2 w) := by
  have H := ix_of l h w a c R D E d n hl hc hc2 hd1 hd2 hn1 hn2 hD hE hR hF hDR hER
  have HH := hid H; clear H hD hE hR hF
  unfold clo at HH ⊢
  go_enter Try.func93, Try.ntmps93
  go_wp2_with fail
  refine HH.out.mono ?_
  rintro e w2 ⟨i, rfl, hi, hu⟩
  have HI := hid hi; clear hi
  go_wp2_with fail
  go_ret
  exact ⟨congrArg (fun x => Ending.returned (.bool x)) HI.out, hu⟩


end Branching
end Go.Proofs.Ythjhokifonjeaaa
namespace Go.Proofs.Ythjhokifonjeaaa
open Go.RowKit
namespace Branching
set_option maxHeartbeats 1000000 in
theorem operands_any (k : Int) (w : World) : Calls Try.prog 92 #[.int .i64 k] w (RetW (.int .i64 (branL.ar k)) w) := by
  by_cases h1 : k = 1
  · subst h1
    go_enter Try.func92, Try.ntmps92
    go_wp2_with fail
    go_ret
    exact ⟨rfl, rfl⟩
  by_cases h2 : k = 2
  · subst h2
    go_enter Try.func92, Try.ntmps92
    go_wp2_with fail
    go_ret
    exact ⟨rfl, rfl⟩
  by_cases h4 : k = 4
  · subst h4
    go_enter Try.func92, Try.ntmps92
    go_wp2_with fail
    go_ret
    exact ⟨rfl, rfl⟩
  by_cases h5 : k = 5
  · subst h5
    go_enter Try.func92, Try.ntmps92
    go_wp2_with fail
    go_ret
    exact ⟨rfl, rfl⟩
  by_cases h7 : k = 7
  · subst h7
    go_enter Try.func92, Try.ntmps92
    go_wp2_with fail
    go_ret
    exact ⟨rfl, rfl⟩
  by_cases h10 : k = 10
  · subst h10
    go_enter Try.func92, Try.ntmps92
    go_wp2_with fail
    go_ret
    exact ⟨rfl, rfl⟩
  have e1 : (k == 1) = false := by simpa using h1
  have e2 : (k == 2) = false := by simpa using h2
  have e4 : (k == 4) = false := by simpa using h4
  have e5 : (k == 5) = false := by simpa using h5
  have e7 : (k == 7) = false := by simpa using h7
  have e10 : (k == 10) = false := by simpa using h10
  have E := hid (show branL.ar k = 1 by rw [branL_ar, if_neg (by omega), if_neg (by omega)])
  clear h1 h2 h4 h5 h7 h10
  go_enter Try.func92, Try.ntmps92
  go_wp2_with fail
  go_ret
  exact ⟨congrArg (fun x => Ending.returned (.int .i64 x)) E.out.symm, rfl⟩

set_option maxHeartbeats 2000000 in
theorem wk_of (k v : Int) (kids : List Tr) (h : ∀ t, t ∈ kids → WkT t) : WkT (.mk k v kids) := by
  intro w x R d n hx hd1 hd2 hn1 hn2 hR hF
  rw [TrIn_mk] at hx
  obtain ⟨a, n', c, rfl, hk, hv, rfl, hc, hc2, hks⟩ := hx
  have lR : R < w.heap.size := blt hR
  have hE0 := hid (show branL.wk (.mk k v kids) d n = if 6 < d ∨ branL.N < n + 1 ∨ branL.okB k v kids.length = false then (false, n + 1) else branL.wkL kids (d + 1) (n + 1) by simp only [Lang.wk])
  have lR1 : R < w.heap.size + 1 := by omega
  have lR2 : R < w.heap.size + 1 + 1 := by omega
  have lR3 : R < w.heap.size + 1 + 1 + 1 := by omega
  go_enter Try.func65, Try.ntmps65
  go_upto_if 15 with fail
  go_cut [7] (fun s7 wx => s7 = .int .i64 (branL.most k) ∧ Upd w R (.int .i64 (n + 1)) wx ∧ Box3 wx w.heap.size (.int .i64 k) (.int .i64 v) (.slice a kids.length c) ∧ Box1 wx (w.heap.size + 1) (.int .i64 d) ∧ Box1 wx (w.heap.size + 1 + 1) (.pointer (some ⟨R, 0, none⟩)))
  case first =>
    go_wp2_with fail
    all_goals go_meet
    all_goals refine ⟨int_val ?_, Upd.of (by repeat (first | exact Below.refl _ _ | assumption | refine below_a ?_ _ | refine below_o ?_ _ | refine below_d ?_ | refine below_n ?_ _ | refine below_s ?_ (by first | (simp; done) | (simp; omega) | omega) _)), ⟨(by first | (simp; done) | (simp; omega) | omega), by simp [go_sem], by simp [go_sem], by simp [go_sem], by simp [go_sem], by simp [go_sem], by simp [go_sem]⟩, ⟨by simp, by simp [go_sem], by simp [go_sem]⟩, ⟨by simp, by simp [go_sem], by simp [go_sem]⟩⟩
    all_goals first
      | (have e := ‹(k == 2) = true›; simp at e; rw [ branL_most, if_pos e])
      | (have e := ‹(k == 2) = false›; simp at e; rw [ branL_most, if_neg e])
  case rest =>
    obtain ⟨rfl, hu, b3, b1, bp⟩ := hcut
    have bR : Box1 wc R (.int .i64 (n + 1)) := ⟨Nat.lt_of_lt_of_le lR hu.size, hu.cell hR, (hu.frozen (o := 0) lR).trans hF⟩
    have hno : ∀ (hh : ¬((1 ≤ k ∧ k ≤ 11) ∧ (0 ≤ v ∧ v ≤ branL.most k) ∧ (kids.length : Int) = branL.ar k)), branL.wk (.mk k v kids) d n = (false, n + 1) := fun hh => by
      rw [hE0.out, if_pos (.inr (.inr (branL.okB_no hh)))]
    have HNO := hid hno; clear hno
    by_cases c1 : 6 < d
    · have E := hid (show branL.wk (.mk k v kids) d n = (false, n + 1) by rw [hE0.out, if_pos (.inl c1)])
      have c1' : decide (6 < d) = true := by simpa using c1
      clear c1 HNO
      go_wp2_with fail
      refine wp_region_below (by kernel_rfl) (by kernel_rfl) ?_; (repeat (go_big_quiet_step ((fail)))); refine wpQuiet_nil ?_
      intro w1 hb
      go_wp2_with fail
      go_ret
      exact ⟨by rw [E.out]; rfl, by rw [E.out]; exact hu.more hb⟩
    have c1' : decide (6 < d) = false := by simpa using c1
    by_cases c2 : 12 < n + 1
    · have E := hid (show branL.wk (.mk k v kids) d n = (false, n + 1) by rw [hE0.out, if_pos (.inr (.inl c2))])
      have c2' : decide (12 < n + 1) = true := by simpa using c2
      clear c1 c2 HNO
      go_wp2_with fail
      refine wp_region_below (by kernel_rfl) (by kernel_rfl) ?_; (repeat (go_big_quiet_step ((fail)))); refine wpQuiet_nil ?_
      intro w1 hb
      go_wp2_with fail
      go_ret
      exact ⟨by rw [E.out]; rfl, by rw [E.out]; exact hu.more hb⟩
    have c2' : decide (12 < n + 1) = false := by simpa using c2
    by_cases c3 : 1 ≤ k ∧ k ≤ 11
    · by_cases c4 : 0 ≤ v ∧ v ≤ branL.most k
      · by_cases c5 : (kids.length : Int) = branL.ar k
        · have E := hid (show branL.wk (.mk k v kids) d n = branL.wkL kids (d + 1) (n + 1) by
            rw [hE0.out, if_neg]
            rintro (h1 | h1 | h1)
            · exact c1 h1
            · exact c2 h1
            · rw [ branL.okB_iff.2 ⟨c3, c4, c5⟩] at h1; cases h1)
          have e5 : ((kids.length : Int) != branL.ar k) = false := by simpa using c5
          clear c5 HNO
          go_wp2_with fail
          refine wp_region_below (by kernel_rfl) (by kernel_rfl) ?_; (repeat (go_big_quiet_step ((first | (go_at_call 92; exact Calls.over_same (operands_any _ _)) | (go_at_call 72; first | with_reducible exact Calls.over_same (in_yes c3 _) | with_reducible exact Calls.over_same (in_yes c4 _)))))); refine wpQuiet_nil ?_
          intro w1 hb
          replace b3 := box3_next hb b3
          replace b1 := box1_next hb b1
          replace bp := box1_next hb bp
          replace bR := box1_next hb bR
          replace hu := hu.more hb
          go_wp2_with fail
          refine (cf_of kids h _ a c R (w.heap.size + 1) (w.heap.size + 1 + 1) d (n + 1) (TrsIn_upd hu (fun b hb => hb) hks) hc hc2 (by omega) (by omega) (by omega) (by omega) b1.2.1 bp.2.1 bR.2.1 bR.2.2 (by omega) (by omega)).mono ?_
          rintro e w' ⟨rfl, hu2⟩
          go_wp2_with fail
          go_ret
          exact ⟨by rw [E.out]; simp, by rw [E.out]; exact hu.trans hu2⟩
        · have E := hid (HNO.out (fun hh => c5 hh.2.2))
          have e5 : ((kids.length : Int) != branL.ar k) = true := by simpa using c5
          clear c5 HNO
          go_wp2_with fail
          refine wp_region_below (by kernel_rfl) (by kernel_rfl) ?_; (repeat (go_big_quiet_step ((first | (go_at_call 92; exact Calls.over_same (operands_any _ _)) | (go_at_call 72; first | with_reducible exact Calls.over_same (in_yes c3 _) | with_reducible exact Calls.over_same (in_yes c4 _)))))); refine wpQuiet_nil ?_
          intro w1 hb
          go_wp2_with fail
          go_ret
          exact ⟨by rw [E.out]; rfl, by rw [E.out]; exact hu.more hb⟩
      · have E := hid (HNO.out (fun hh => c4 hh.2.1))
        clear HNO
        go_wp2_with fail
        refine wp_region_below (by kernel_rfl) (by kernel_rfl) ?_; (repeat (go_big_quiet_step ((go_at_call 72; first | with_reducible exact Calls.over_same (in_yes c3 _) | with_reducible exact Calls.over_same (in_no c4 _))))); refine wpQuiet_nil ?_
        intro w1 hb
        go_wp2_with fail
        go_ret
        exact ⟨by rw [E.out]; rfl, by rw [E.out]; exact hu.more hb⟩
    · have E := hid (HNO.out (fun hh => c3 hh.1))
      clear HNO
      go_wp2_with fail
      refine wp_region_below (by kernel_rfl) (by kernel_rfl) ?_; (repeat (go_big_quiet_step ((go_at_call 72; exact Calls.over_same (in_no c3 _))))); refine wpQuiet_nil ?_
      intro w1 hb
      go_wp2_with fail
      go_ret
      exact ⟨by rw [E.out]; rfl, by rw [E.out]; exact hu.more hb⟩

theorem wk_any : ∀ t, WkT t := fun t => Tr.ind (fun k v kids ih => wk_of k v kids ih) t

end Branching
end Go.Proofs.Ythjhokifonjeaaa
namespace Go.Proofs.Ythjhokifonjeaaa
open Go.RowKit
namespace Branching
set_option maxHeartbeats 400000 in
theorem valid_any (t : Tr) (w : World) (x : Value) (hx : TrIn Any w t x) : Calls Try.prog 37 #[x] w (Ret (.bool (branL.valid t)) w) := by
  have hx0 := hx
  obtain ⟨a, c, rfl⟩ := TrIn_shape hx
  have E := hid (branL.wk_valid t)
  go_enter Try.func37, Try.ntmps37
  go_wp2_with fail
  refine (wk_any t _ _ (w.heap.size + 1) 1 0 (TrIn_alloc (TrIn_alloc (TrIn_mono (fun b hb => by omega) (TrIn_old hx)) _) _) (by omega) (by omega) (by omega) (by omega) (by simp [go_sem]) (by simp [go_sem])).mono ?_
  rintro e w' ⟨rfl, hu⟩
  go_wp2_with fail
  go_ret
  exact Ret.mk (bool_val E.out) (hu.new (by repeat (first | exact Below.refl _ _ | assumption | refine below_a ?_ _ | refine below_o ?_ _ | refine below_d ?_ | refine below_n ?_ _ | refine below_s ?_ (by first | (simp; done) | (simp; omega) | omega) _)) (by omega))

end Branching
end Go.Proofs.Ythjhokifonjeaaa
