/- Joined texts (TxtPlain, NormPlain, SemPlain, Fix5, Fix4): contracts and plain laws. Conditions: those of each theorem. -/
import Derived.Test.YtbeljjalfhogdaaJL1
import Derived.Test.YtbeljjalfhogdaaJL7
import Derived.Test.YtbeljjalfhogdaaJL3
namespace Go.Proofs.Ytbeljjalfhogdaa

/-- a string of given bytes -/
def bs (l : List UInt8) : ByteArray := ⟨l.toArray⟩
theorem bs_append (a b : List UInt8) : bs a ++ bs b = bs (a ++ b) := by
  unfold bs; rw [ByteArray.mk_append_mk]
theorem bs_size (a : List UInt8) : (bs a).size = a.length := by simp [bs, ByteArray.size]
theorem bs_inj {a b : List UInt8} (h : bs a = bs b) : a = b := by
  have := congrArg (fun x => x.data.toList) h
  simpa [bs] using this

theorem str_val {a b : ByteArray} (h : a = b) : Value.string a = .string b := by rw [h]
/-- how a language writes a node: what stands ahead of it, and what stands between two operands -/
structure TLang where
  pre : Int → Int → List UInt8
  mid : Int → List UInt8
  pre2 : ∀ k v, (pre k v).length ≤ 2
  mid1 : ∀ k, (mid k).length ≤ 1

def nodeTxt (pre mid : List UInt8) : List (List UInt8) → List UInt8
  | [] => pre
  | [a] => pre ++ a
  | a :: b :: _ => pre ++ (a ++ (mid ++ (b ++ [41])))

namespace TLang
variable (L : TLang)
mutual
def txt : Tr → List UInt8 | .mk k v kids => nodeTxt (L.pre k v) (L.mid k) (txts kids)
def txts : List Tr → List (List UInt8) | [] => [] | t :: ts => txt t :: txts ts
end
theorem txts_map : ∀ l, L.txts l = l.map L.txt | [] => by simp [txts] | t :: ts => by simp [txts, txts_map ts]

mutual
theorem txt_len : ∀ t, ((L.txt t).length : Int) ≤ 4 * nodes t
  | .mk k v kids => by
    have h1 := L.pre2 k v
    have h2 := L.mid1 k
    have hp := nodesL_pos kids
    simp only [txt, nodes]
    match kids with
    | [] => simp [txts, nodeTxt, nodesL]; omega
    | [a] => have ha := txt_len a; simp [txts, nodeTxt, nodesL]; omega
    | a :: b :: r =>
      have ha := txt_len a
      have hb := txt_len b
      have hr := nodesL_pos r
      simp [txts, nodeTxt, nodesL]; omega
end
end TLang

/-- a byte above another -/
def byte (n : Int) : UInt8 := UInt8.ofNat n.toNat

def exprT : TLang where
  pre k v := if k = 1 then [byte (48 + v)] else if k = 2 then [byte (120 + v)] else if k = 3 then [33] else [40]
  mid k := if k = 4 then [38] else if k = 5 then [124] else if k = 6 then [61] else if k = 7 then [60] else if k = 8 then [43] else [45]
  pre2 k v := by repeat' split
                 all_goals simp
  mid1 k := by repeat' split
               all_goals simp
def formT : TLang where
  pre k v := if k = 1 then [84] else if k = 2 then [byte (112 + v)] else if k = 3 then [33] else if k = 6 then [88] else if k = 9 then [70] else if k = 10 then [71] else [40]
  mid k := if k = 4 then [38] else if k = 5 then [124] else if k = 7 then [85] else [82]
  pre2 k v := by repeat' split
                 all_goals simp
  mid1 k := by repeat' split
               all_goals simp
def branT : TLang where
  pre k v := if k = 1 then [84] else if k = 2 then [byte (112 + v)] else if k = 3 then [33] else if k = 6 then [69, 88] else if k = 8 then [69, 71] else if k = 9 then [65, 88] else if k = 11 then [65, 71] else if k = 7 then [69, 40] else if k = 10 then [65, 40] else [40]
  mid k := if k = 4 then [38] else if k = 5 then [124] else [85]
  pre2 k v := by repeat' split
                 all_goals simp
  mid1 k := by repeat' split
               all_goals simp

/-! ### expressions, read -/
def exprOp (c : UInt8) : Option Int := if c = 38 then some 4 else if c = 124 then some 5 else if c = 61 then some 6 else if c = 60 then some 7 else if c = 43 then some 8 else if c = 45 then some 9 else none
/-- two operands with a sign between, and a bracket behind -/
def pairWith (rd : List UInt8 → Option (Tr × List UInt8)) (op : UInt8 → Option Int) (s : List UInt8) : Option (Tr × List UInt8) :=
  match rd s with
  | some (a, o :: r1) => match op o with
    | some k => match rd r1 with
      | some (b, c :: r2) => if c = 41 then some (.mk k 0 [a, b], r2) else none
      | _ => none
    | none => none
  | _ => none
def oneWith (rd : List UInt8 → Option (Tr × List UInt8)) (k : Int) (s : List UInt8) : Option (Tr × List UInt8) :=
  match rd s with
  | some (a, r) => some (.mk k 0 [a], r)
  | none => none
def rdE (top : UInt8) : Nat → List UInt8 → Option (Tr × List UInt8)
  | 0, _ => none
  | _ + 1, [] => none
  | n + 1, c :: s =>
    if 48 ≤ c ∧ c ≤ top then some (.mk 1 ((c.toNat : Int) - 48) [], s)
    else if 120 ≤ c ∧ c ≤ 122 then some (.mk 2 ((c.toNat : Int) - 120) [], s)
    else if c = 33 then oneWith (rdE top n) 3 s
    else if c = 40 then pairWith (rdE top n) exprOp s
    else none

def formUn (c : UInt8) : Option Int := if c = 33 then some 3 else if c = 88 then some 6 else if c = 70 then some 9 else if c = 71 then some 10 else none
def formOp (c : UInt8) : Option Int := if c = 38 then some 4 else if c = 124 then some 5 else if c = 85 then some 7 else if c = 82 then some 8 else none
def rdF : Nat → List UInt8 → Option (Tr × List UInt8)
  | 0, _ => none
  | _ + 1, [] => none
  | n + 1, c :: s =>
    if c = 84 then some (.mk 1 0 [], s)
    else if 112 ≤ c ∧ c ≤ 114 then some (.mk 2 ((c.toNat : Int) - 112) [], s)
    else match formUn c with
      | some k => oneWith (rdF n) k s
      | none => if c = 40 then pairWith (rdF n) formOp s else none

/-- the operators behind E, A -/
def rdB2 (rd : List UInt8 → Option (Tr × List UInt8)) (k : Int) : List UInt8 → Option (Tr × List UInt8)
  | [] => none
  | c :: s => if c = 88 then oneWith rd k s else if c = 40 then pairWith rd (fun o => if o = 85 then some (k + 1) else none) s else if c = 71 then oneWith rd (k + 2) s else none
def branOp (c : UInt8) : Option Int := if c = 38 then some 4 else if c = 124 then some 5 else none
def rdB : Nat → List UInt8 → Option (Tr × List UInt8)
  | 0, _ => none
  | _ + 1, [] => none
  | n + 1, c :: s =>
    if c = 84 then some (.mk 1 0 [], s)
    else if 112 ≤ c ∧ c ≤ 114 then some (.mk 2 ((c.toNat : Int) - 112) [], s)
    else if c = 33 then oneWith (rdB n) 3 s
    else if c = 40 then pairWith (rdB n) branOp s
    else if c = 69 then rdB2 (rdB n) 6 s
    else if c = 65 then rdB2 (rdB n) 9 s
    else none

theorem oneWith_txt {rd : List UInt8 → Option (Tr × List UInt8)} {a : Tr} {s r : List UInt8} {k : Int} (h : rd s = some (a, r)) : oneWith rd k s = some (.mk k 0 [a], r) := by simp [oneWith, h]
theorem pairWith_txt {rd : List UInt8 → Option (Tr × List UInt8)} {op : UInt8 → Option Int} {a b : Tr} {s r r1 : List UInt8} {o : UInt8} {k : Int} (h : rd s = some (a, o :: r1)) (ho : op o = some k) (hb : rd r1 = some (b, 41 :: r)) :
    pairWith rd op s = some (.mk k 0 [a, b], r) := by simp [pairWith, h, ho, hb]

namespace Lang
variable (L : Lang)
/-- what a well-made node looks like -/
theorem shape_mk {k v : Int} {kids : List Tr} {n : Nat} (h : L.shape (.mk k v kids) n = true) : ∃ m, n = m + 1 ∧ 1 ≤ k ∧ k ≤ L.K ∧ 0 ≤ v ∧ v ≤ L.most k ∧ (kids.length : Int) = L.ar k ∧ ∀ t, t ∈ kids → L.shape t m = true := by
  simp only [shape, Bool.and_eq_true, decide_eq_true_eq, okB_iff] at h
  obtain ⟨h1, ⟨⟨h2, h3⟩, ⟨h4, h5⟩, h6⟩, h7⟩ := h
  obtain ⟨m, rfl⟩ : ∃ m, n = m + 1 := ⟨n - 1, by omega⟩
  refine ⟨m, rfl, h2, h3, h4, h5, h6, ?_⟩
  rw [show ((m + 1 : Nat) : Int) - 1 = (m : Int) by omega] at h7
  clear h6
  induction kids with
  | nil => intro t ht; cases ht
  | cons u us ih =>
    simp only [shapeL, Bool.and_eq_true] at h7
    intro t ht
    cases ht with
    | head => exact h7.1
    | tail _ ht => exact ih h7.2 t ht
end Lang

theorem len0 {l : List Tr} (h : (l.length : Int) = 0) : l = [] := List.eq_nil_of_length_eq_zero (by omega)
theorem len1 {l : List Tr} (h : (l.length : Int) = 1) : ∃ a, l = [a] := by
  match l, h with
  | [a], _ => exact ⟨a, rfl⟩
  | [], h => simp at h
  | _ :: _ :: _, h => simp at h; omega
theorem len2 {l : List Tr} (h : (l.length : Int) = 2) : ∃ a b, l = [a, b] := by
  match l, h with
  | [a, b], _ => exact ⟨a, b, rfl⟩
  | [], h => simp at h
  | [_], h => simp at h
  | _ :: _ :: _ :: _, h => simp at h; omega

/-- WHAT IS WRITTEN IS READ -/
theorem rdE_txt (top : UInt8) (ht : 51 ≤ top) (ht2 : top < 120) : ∀ (n : Nat) (t : Tr) (r : List UInt8), exprL.shape t n = true → rdE top n (exprT.txt t ++ r) = some (t, r) := by
  intro n
  induction n with
  | zero => intro t r h; cases t with | mk k v kids => obtain ⟨m, h1, _⟩ := exprL.shape_mk h; omega
  | succ n ih =>
    intro t r h
    cases t with
    | mk k v kids =>
    obtain ⟨m, h1, h2, h3, h4, h5, h6, h7⟩ := exprL.shape_mk h
    obtain rfl : n = m := by omega
    rw [exprL_K] at h3
    rw [exprL_most] at h5
    rw [exprL_ar] at h6
    have hk : k = 1 ∨ k = 2 ∨ k = 3 ∨ k = 4 ∨ k = 5 ∨ k = 6 ∨ k = 7 ∨ k = 8 ∨ k = 9 := by omega
    rcases hk with rfl | rfl | rfl | hk
    · obtain rfl := len0 (by simpa using h6)
      simp at h5
      have hv : v = 0 ∨ v = 1 ∨ v = 2 ∨ v = 3 := by omega
      have e1 : (48 : UInt8) ≤ top := UInt8.le_trans (by decide) ht
      have e2 : (49 : UInt8) ≤ top := UInt8.le_trans (by decide) ht
      have e3 : (50 : UInt8) ≤ top := UInt8.le_trans (by decide) ht
      rcases hv with rfl | rfl | rfl | rfl <;> simp [TLang.txt, TLang.txts, nodeTxt, exprT, byte, rdE, ht, e1, e2, e3]
    · obtain rfl := len0 (by simpa using h6)
      simp at h5
      have hv : v = 0 ∨ v = 1 ∨ v = 2 := by omega
      have e0 : ¬ (120 : UInt8) ≤ top := by rw [UInt8.not_le]; exact ht2
      have e1 : ¬ (121 : UInt8) ≤ top := by rw [UInt8.not_le]; exact UInt8.lt_trans ht2 (by decide)
      have e2 : ¬ (122 : UInt8) ≤ top := by rw [UInt8.not_le]; exact UInt8.lt_trans ht2 (by decide)
      rcases hv with rfl | rfl | rfl <;> simp [TLang.txt, TLang.txts, nodeTxt, exprT, byte, rdE, e0, e1, e2]
    · obtain ⟨a, rfl⟩ := len1 (by simpa using h6)
      obtain rfl : v = 0 := by simp at h5; omega
      have := ih a r (h7 a (by simp))
      simp [TLang.txt, TLang.txts, nodeTxt, exprT, rdE]
      exact oneWith_txt this
    · obtain ⟨a, b, rfl⟩ := len2 (by rw [h6]; rcases hk with rfl | rfl | rfl | rfl | rfl | rfl <;> simp)
      obtain rfl : v = 0 := by rw [if_neg (by omega), if_neg (by omega)] at h5; omega
      rcases hk with rfl | rfl | rfl | rfl | rfl | rfl
      all_goals
        simp [TLang.txt, TLang.txts, nodeTxt, exprT, rdE]
        exact pairWith_txt (ih a _ (h7 a (by simp))) (by simp [exprOp]) (ih b _ (h7 b (by simp)))

theorem rdF_txt : ∀ (n : Nat) (t : Tr) (r : List UInt8), formL.shape t n = true → rdF n (formT.txt t ++ r) = some (t, r) := by
  intro n
  induction n with
  | zero => intro t r h; cases t with | mk k v kids => obtain ⟨m, h1, _⟩ := formL.shape_mk h; omega
  | succ n ih =>
    intro t r h
    cases t with
    | mk k v kids =>
    obtain ⟨m, h1, h2, h3, h4, h5, h6, h7⟩ := formL.shape_mk h
    obtain rfl : n = m := by omega
    rw [formL_K] at h3
    rw [formL_most] at h5
    rw [formL_ar] at h6
    have hk : k = 1 ∨ k = 2 ∨ (k = 3 ∨ k = 6 ∨ k = 9 ∨ k = 10) ∨ (k = 4 ∨ k = 5 ∨ k = 7 ∨ k = 8) := by omega
    rcases hk with rfl | rfl | hk | hk
    · obtain rfl := len0 (by simpa using h6)
      obtain rfl : v = 0 := by simp at h5; omega
      simp [TLang.txt, TLang.txts, nodeTxt, formT, rdF]
    · obtain rfl := len0 (by simpa using h6)
      simp at h5
      have hv : v = 0 ∨ v = 1 ∨ v = 2 := by omega
      rcases hv with rfl | rfl | rfl <;> simp [TLang.txt, TLang.txts, nodeTxt, formT, byte, rdF]
    · obtain ⟨a, rfl⟩ := len1 (by rw [h6]; rcases hk with rfl | rfl | rfl | rfl <;> simp)
      obtain rfl : v = 0 := by rw [if_neg (by omega)] at h5; omega
      have := ih a r (h7 a (by simp))
      rcases hk with rfl | rfl | rfl | rfl
      all_goals
        simp [TLang.txt, TLang.txts, nodeTxt, formT, rdF, formUn]
        exact oneWith_txt this
    · obtain ⟨a, b, rfl⟩ := len2 (by rw [h6]; rcases hk with rfl | rfl | rfl | rfl <;> simp)
      obtain rfl : v = 0 := by rw [if_neg (by omega)] at h5; omega
      rcases hk with rfl | rfl | rfl | rfl
      all_goals
        simp [TLang.txt, TLang.txts, nodeTxt, formT, rdF, formUn]
        exact pairWith_txt (ih a _ (h7 a (by simp))) (by simp [formOp]) (ih b _ (h7 b (by simp)))

theorem rdB_txt : ∀ (n : Nat) (t : Tr) (r : List UInt8), branL.shape t n = true → rdB n (branT.txt t ++ r) = some (t, r) := by
  intro n
  induction n with
  | zero => intro t r h; cases t with | mk k v kids => obtain ⟨m, h1, _⟩ := branL.shape_mk h; omega
  | succ n ih =>
    intro t r h
    cases t with
    | mk k v kids =>
    obtain ⟨m, h1, h2, h3, h4, h5, h6, h7⟩ := branL.shape_mk h
    obtain rfl : n = m := by omega
    rw [branL_K] at h3
    rw [branL_most] at h5
    rw [branL_ar] at h6
    have hk : k = 1 ∨ k = 2 ∨ (k = 3 ∨ k = 6 ∨ k = 8 ∨ k = 9 ∨ k = 11) ∨ (k = 4 ∨ k = 5 ∨ k = 7 ∨ k = 10) := by omega
    rcases hk with rfl | rfl | hk | hk
    · obtain rfl := len0 (by simpa using h6)
      obtain rfl : v = 0 := by simp at h5; omega
      simp [TLang.txt, TLang.txts, nodeTxt, branT, rdB]
    · obtain rfl := len0 (by simpa using h6)
      simp at h5
      have hv : v = 0 ∨ v = 1 ∨ v = 2 := by omega
      rcases hv with rfl | rfl | rfl <;> simp [TLang.txt, TLang.txts, nodeTxt, branT, byte, rdB]
    · obtain ⟨a, rfl⟩ := len1 (by rw [h6]; rcases hk with rfl | rfl | rfl | rfl | rfl <;> simp)
      obtain rfl : v = 0 := by rw [if_neg (by omega)] at h5; omega
      have := ih a r (h7 a (by simp))
      rcases hk with rfl | rfl | rfl | rfl | rfl
      all_goals
        simp [TLang.txt, TLang.txts, nodeTxt, branT, rdB, rdB2]
        exact oneWith_txt this
    · obtain ⟨a, b, rfl⟩ := len2 (by rw [h6]; rcases hk with rfl | rfl | rfl | rfl <;> simp)
      obtain rfl : v = 0 := by rw [if_neg (by omega)] at h5; omega
      rcases hk with rfl | rfl | rfl | rfl
      all_goals
        simp [TLang.txt, TLang.txts, nodeTxt, branT, rdB, rdB2]
        exact pairWith_txt (ih a _ (h7 a (by simp))) (by simp [branOp]) (ih b _ (h7 b (by simp)))

theorem exprT_inj {n : Nat} {t u : Tr} (ht : exprL.shape t n = true) (hu : exprL.shape u n = true) (h : exprT.txt t = exprT.txt u) : t = u := by
  have h1 := rdE_txt 51 (by decide) (by decide) n t [] ht
  have h2 := rdE_txt 51 (by decide) (by decide) n u [] hu
  rw [h, h2] at h1
  simpa using h1.symm
theorem formT_inj {n : Nat} {t u : Tr} (ht : formL.shape t n = true) (hu : formL.shape u n = true) (h : formT.txt t = formT.txt u) : t = u := by
  have h1 := rdF_txt n t [] ht
  have h2 := rdF_txt n u [] hu
  rw [h, h2] at h1
  simpa using h1.symm
theorem branT_inj {n : Nat} {t u : Tr} (ht : branL.shape t n = true) (hu : branL.shape u n = true) (h : branT.txt t = branT.txt u) : t = u := by
  have h1 := rdB_txt n t [] ht
  have h2 := rdB_txt n u [] hu
  rw [h, h2] at h1
  simpa using h1.symm

/-! ### what is read was written -/
theorem oneWith_back {L : TLang} {rd : List UInt8 → Option (Tr × List UInt8)} {k : Int} {s r p : List UInt8} {t : Tr} (h : oneWith rd k s = some (t, r)) (ih : ∀ s t r, rd s = some (t, r) → s = L.txt t ++ r) (hp : L.pre k 0 = p) : p ++ s = L.txt t ++ r ∧ ∃ a r', rd s = some (a, r') ∧ t = .mk k 0 [a] := by
  unfold oneWith at h
  split at h
  · rename_i a r' hr
    simp at h
    obtain ⟨rfl, rfl⟩ := h
    have := ih _ _ _ hr
    refine ⟨?_, a, r', hr, rfl⟩
    rw [this]
    simp [TLang.txt, TLang.txts, nodeTxt, hp]
  · cases h
theorem pairWith_back {L : TLang} {rd : List UInt8 → Option (Tr × List UInt8)} {op : UInt8 → Option Int} {s r p : List UInt8} {t : Tr} (h : pairWith rd op s = some (t, r)) (ih : ∀ s t r, rd s = some (t, r) → s = L.txt t ++ r)
    (hp : ∀ o k, op o = some k → L.pre k 0 = p ∧ L.mid k = [o]) : p ++ s = L.txt t ++ r ∧ ∃ k a b s1 r1 s2 r2 o, op o = some k ∧ rd s1 = some (a, r1) ∧ rd s2 = some (b, r2) ∧ t = .mk k 0 [a, b] := by
  unfold pairWith at h
  split at h
  · rename_i a o r1 ha
    split at h
    · rename_i k hk
      split at h
      · rename_i b c r2 hb
        split at h
        · rename_i hc
          simp at h
          obtain ⟨rfl, rfl⟩ := h
          obtain ⟨h1, h2⟩ := hp o k hk
          refine ⟨?_, k, a, b, s, _, r1, _, o, hk, ha, hb, rfl⟩
          rw [ih _ _ _ ha, ih _ _ _ hb, hc]
          simp [TLang.txt, TLang.txts, nodeTxt, h1, h2]
        · cases h
      · cases h
    · cases h
  · cases h
theorem byte_back (c : UInt8) (b : Nat) (h : b ≤ c.toNat) : byte ((b : Int) + ((c.toNat : Int) - b)) = c := by
  rw [show (b : Int) + ((c.toNat : Int) - b) = (c.toNat : Int) by omega]
  simp [byte]

theorem exprOp_pre {o : UInt8} {k : Int} (h : exprOp o = some k) : exprT.pre k 0 = [40] ∧ exprT.mid k = [o] ∧ 4 ≤ k ∧ k ≤ 9 := by
  unfold exprOp at h
  repeat' split at h
  all_goals (first | cases h; done | (rename_i hc; subst hc; simp at h; subst h; simp [exprT]))
theorem formUn_pre {o : UInt8} {k : Int} (h : formUn o = some k) : formT.pre k 0 = [o] ∧ (k = 3 ∨ k = 6 ∨ k = 9 ∨ k = 10) := by
  unfold formUn at h
  repeat' split at h
  all_goals (first | cases h; done | (rename_i hc; subst hc; simp at h; subst h; simp [formT]))
theorem formOp_pre {o : UInt8} {k : Int} (h : formOp o = some k) : formT.pre k 0 = [40] ∧ formT.mid k = [o] ∧ (k = 4 ∨ k = 5 ∨ k = 7 ∨ k = 8) := by
  unfold formOp at h
  repeat' split at h
  all_goals (first | cases h; done | (rename_i hc; subst hc; simp at h; subst h; simp [formT]))
theorem branOp_pre {o : UInt8} {k : Int} (h : branOp o = some k) : branT.pre k 0 = [40] ∧ branT.mid k = [o] ∧ (k = 4 ∨ k = 5) := by
  unfold branOp at h
  repeat' split at h
  all_goals (first | cases h; done | (rename_i hc; subst hc; simp at h; subst h; simp [branT]))

theorem rdE_back (top : UInt8) : ∀ (n : Nat) (s : List UInt8) (t : Tr) (r : List UInt8), rdE top n s = some (t, r) → s = exprT.txt t ++ r := by
  intro n
  induction n with
  | zero => intro s t r h; simp [rdE] at h
  | succ n ih =>
    intro s t r h
    match s, h with
    | [], h => simp [rdE] at h
    | c :: s, h =>
      simp only [rdE] at h
      split at h
      · rename_i hc
        simp at h
        obtain ⟨rfl, rfl⟩ := h
        have := byte_back c 48 (by have := UInt8.le_iff_toNat_le.1 hc.1; simpa using this)
        simp [TLang.txt, TLang.txts, nodeTxt, exprT]
        exact this.symm
      · split at h
        · rename_i hc
          simp at h
          obtain ⟨rfl, rfl⟩ := h
          have := byte_back c 120 (by have := UInt8.le_iff_toNat_le.1 hc.1; simpa using this)
          simp [TLang.txt, TLang.txts, nodeTxt, exprT]
          exact this.symm
        · split at h
          · rename_i hc
            rw [hc]
            exact (oneWith_back (L := exprT) (p := [33]) h (fun s t r h => ih s t r h) (by simp [exprT])).1
          · split at h
            · rename_i hc
              rw [hc]
              refine (pairWith_back (L := exprT) (p := [40]) h (fun s t r h => ih s t r h) ?_).1
              intro o k ho
              exact ⟨(exprOp_pre ho).1, (exprOp_pre ho).2.1⟩
            · cases h

theorem rdF_back : ∀ (n : Nat) (s : List UInt8) (t : Tr) (r : List UInt8), rdF n s = some (t, r) → s = formT.txt t ++ r := by
  intro n
  induction n with
  | zero => intro s t r h; simp [rdF] at h
  | succ n ih =>
    intro s t r h
    match s, h with
    | [], h => simp [rdF] at h
    | c :: s, h =>
      simp only [rdF] at h
      split at h
      · rename_i hc
        simp at h
        obtain ⟨rfl, rfl⟩ := h
        simp [TLang.txt, TLang.txts, nodeTxt, formT, hc]
      · split at h
        · rename_i hc
          simp at h
          obtain ⟨rfl, rfl⟩ := h
          have := byte_back c 112 (by have := UInt8.le_iff_toNat_le.1 hc.1; simpa using this)
          simp [TLang.txt, TLang.txts, nodeTxt, formT]
          exact this.symm
        · split at h
          · rename_i k hk
            refine (oneWith_back (L := formT) (p := [c]) h (fun s t r h => ih s t r h) ?_).1
            exact (formUn_pre hk).1
          · split at h
            · rename_i hc
              rw [hc]
              refine (pairWith_back (L := formT) (p := [40]) h (fun s t r h => ih s t r h) ?_).1
              intro o k ho
              exact ⟨(formOp_pre ho).1, (formOp_pre ho).2.1⟩
            · cases h

theorem rdB2_back {rd : List UInt8 → Option (Tr × List UInt8)} {k : Int} {c : UInt8} (hk : (k = 6 ∧ c = 69) ∨ (k = 9 ∧ c = 65)) {s r : List UInt8} {t : Tr} (h : rdB2 rd k s = some (t, r)) (ih : ∀ s t r, rd s = some (t, r) → s = branT.txt t ++ r) : c :: s = branT.txt t ++ r := by
  match s, h with
  | [], h => simp [rdB2] at h
  | d :: s, h =>
    simp only [rdB2] at h
    split at h
    · rename_i hd
      rw [hd]
      exact (oneWith_back (L := branT) (p := [c, 88]) h ih (by rcases hk with ⟨rfl, rfl⟩ | ⟨rfl, rfl⟩ <;> simp [branT])).1
    · split at h
      · rename_i hd
        rw [hd]
        refine (pairWith_back (L := branT) (p := [c, 40]) h ih ?_).1
        intro o k' ho
        simp at ho
        obtain ⟨rfl, rfl⟩ := ho
        rcases hk with ⟨rfl, rfl⟩ | ⟨rfl, rfl⟩ <;> simp [branT]
      · split at h
        · rename_i hd
          rw [hd]
          exact (oneWith_back (L := branT) (p := [c, 71]) h ih (by rcases hk with ⟨rfl, rfl⟩ | ⟨rfl, rfl⟩ <;> simp [branT])).1
        · cases h

theorem rdB_back : ∀ (n : Nat) (s : List UInt8) (t : Tr) (r : List UInt8), rdB n s = some (t, r) → s = branT.txt t ++ r := by
  intro n
  induction n with
  | zero => intro s t r h; simp [rdB] at h
  | succ n ih =>
    intro s t r h
    match s, h with
    | [], h => simp [rdB] at h
    | c :: s, h =>
      simp only [rdB] at h
      split at h
      · rename_i hc
        simp at h
        obtain ⟨rfl, rfl⟩ := h
        simp [TLang.txt, TLang.txts, nodeTxt, branT, hc]
      · split at h
        · rename_i hc
          simp at h
          obtain ⟨rfl, rfl⟩ := h
          have := byte_back c 112 (by have := UInt8.le_iff_toNat_le.1 hc.1; simpa using this)
          simp [TLang.txt, TLang.txts, nodeTxt, branT]
          exact this.symm
        · split at h
          · rename_i hc
            rw [hc]
            exact (oneWith_back (L := branT) (p := [33]) h (fun s t r h => ih s t r h) (by simp [branT])).1
          · split at h
            · rename_i hc
              rw [hc]
              refine (pairWith_back (L := branT) (p := [40]) h (fun s t r h => ih s t r h) ?_).1
              intro o k ho
              exact ⟨(branOp_pre ho).1, (branOp_pre ho).2.1⟩
            · split at h
              · rename_i hc
                rw [hc]
                exact rdB2_back (.inl ⟨rfl, rfl⟩) h (fun s t r h => ih s t r h)
              · split at h
                · rename_i hc
                  rw [hc]
                  exact rdB2_back (.inr ⟨rfl, rfl⟩) h (fun s t r h => ih s t r h)
                · cases h

end Go.Proofs.Ytbeljjalfhogdaa
namespace Go.Proofs.Ytbeljjalfhogdaa
open Go.RowKit

def dualK (k : Int) : Int := if k = 4 then 5 else if k = 5 then 4 else if k = 7 then 8 else 7
def truT : Tr := .mk 1 0 []
def flsT : Tr := .mk 3 0 [truT]
def nfNode (neg : Bool) (k v : Int) (ks : List Tr) : Tr :=
  if k = 1 ∨ k = 2 then (if neg = true then .mk 3 0 [.mk k v []] else .mk k v [])
  else if k = 3 then ks.headD truT
  else if k = 6 then .mk 6 0 ks
  else if k = 9 ∨ k = 10 then (if ((k == 9) != neg) = true then .mk 7 0 (truT :: ks) else .mk 8 0 (flsT :: ks))
  else .mk (if neg = true then dualK k else k) 0 ks
mutual
/-- the normal form of a formula, or of its negation -/
def nfT : Tr → Bool → Tr | .mk k v kids, neg => nfNode neg k v (nfL kids (if k = 3 then !neg else neg))
def nfL : List Tr → Bool → List Tr | [], _ => [] | t :: ts, neg => nfT t neg :: nfL ts neg
end

theorem but_a {w W : World} {D : Nat} (h : But w D W) (o : Obj) : But w D (W.alloc o) := h.next (below_alloc _ _)
theorem but_d {w W : World} {D : Nat} (h : But w D W) : But w D W.drew := h.drew
theorem but_s {w W : World} {D i : Nat} (h : But w D W) (u : Value) : But w D (W.setCell ⟨D, i, none⟩ u) := h.trans (But.set W D i u)

/-- two trees of one's own, apart -/
def Two (B : Nat) (t u : Tr) (x y : Value) (w : World) : Prop := ∃ bs1 bs2, TrOwn w t x bs1 ∧ TrOwn w u y bs2 ∧ (∀ b, b ∈ bs1 → b ∉ bs2) ∧ (∀ b, b ∈ bs1 → B ≤ b) ∧ ∀ b, b ∈ bs2 → B ≤ b
theorem Two.mk {B N : Nat} {t u : Tr} {x y : Value} {w1 w2 : World} (h1 : NewTr B t x w1) (h2 : NewTr N u y w2) (hN : w1.heap.size ≤ N) (hb : Below w1.heap.size w1 w2) (hB : B ≤ N) : Two B t u x y w2 := by
  obtain ⟨bs1, g1, g2⟩ := h1
  obtain ⟨bs2, k1, k2⟩ := h2
  exact ⟨bs1, bs2, TrOwn_below hb g1, k1, fun b hb1 hb2 => by have := TrOwn_lt.1 _ _ _ g1 b hb1; have := k2 b hb2; omega, g2, fun b hb => by have := k2 b hb; omega⟩
theorem Two.mk2 {B N : Nat} {t u : Tr} {x y : Value} {w1 w2 : World} (h2 : NewTr B u y w1) (h1 : NewTr N t x w2) (hN : w1.heap.size ≤ N) (hb : Below w1.heap.size w1 w2) (hB : B ≤ N) : Two B t u x y w2 := by
  obtain ⟨bs2, g1, g2⟩ := h2
  obtain ⟨bs1, k1, k2⟩ := h1
  exact ⟨bs1, bs2, k1, TrOwn_below hb g1, fun b hb1 hb2 => by have := TrOwn_lt.1 _ _ _ g1 b hb2; have := k2 b hb1; omega, fun b hb => by have := k2 b hb; omega, g2⟩
theorem Two.set3 {B P : Nat} {t u : Tr} {x y : Value} {w : World} (h : Two B t u x y w) (hP : P < B) (u0 u1 u2 : Value) : Two B t u x y (((w.setCell ⟨P, 0, none⟩ u0).setCell ⟨P, 1, none⟩ u1).setCell ⟨P, 2, none⟩ u2) := by
  obtain ⟨bs1, bs2, h1, h2, h3, h4, h5⟩ := h
  have n1 : P ∉ bs1 := fun e => by have := h4 _ e; omega
  have n2 : P ∉ bs2 := fun e => by have := h5 _ e; omega
  exact ⟨bs1, bs2, TrOwn_set (TrOwn_set (TrOwn_set h1 n1 _) n1 _) n1 _, TrOwn_set (TrOwn_set (TrOwn_set h2 n2 _) n2 _) n2 _, h3, h4, h5⟩
theorem Two.rows {B b' : Nat} {w : World} {t u : Tr} {x y z x' y' z' : Value} {ty : TypeId} (h : Two B t u (.agg #[x, y, z]) (.agg #[x', y', z']) w) (hb : b' = w.heap.size) :
    ∃ f bs, Row (w.alloc (.cells #[x, y, z, x', y', z'] ty)) b' 6 f ∧ TrsOwn (w.alloc (.cells #[x, y, z, x', y', z'] ty)) f [t, u] 0 bs ∧ (∀ b, b ∈ bs → B ≤ b) ∧ b' ∉ bs := by
  subst hb
  obtain ⟨bs1, bs2, h1, h2, h3, h4, h5⟩ := h
  have l1 := TrOwn_lt.1 _ _ _ h1
  have l2 := TrOwn_lt.1 _ _ _ h2
  refine ⟨fun i => #[x, y, z, x', y', z'].getD i undef, bs1 ++ bs2, row_six w x y z x' y' z' ty, ?_, fun b hb => by rcases List.mem_append.1 hb with h | h; exact h4 b h; exact h5 b h, fun e => by
    rcases List.mem_append.1 e with h | h
    · have := l1 _ h; omega
    · have := l2 _ h; omega⟩
  rw [TrsOwn_cons]
  refine ⟨bs1, bs2, rfl, h3, by simpa using TrOwn_below (below_alloc _ _) h1, ?_⟩
  rw [TrsOwn_cons]
  exact ⟨bs2, [], by simp, by simp, by simpa using TrOwn_below (below_alloc _ _) h2, (TrsOwn_nil ..).2 rfl⟩
theorem Two.node {B b' : Nat} {k : Int} {w : World} {t u : Tr} {x y z x' y' z' : Value} {ty : TypeId} (hk : i64 k) (h : Two B t u (.agg #[x, y, z]) (.agg #[x', y', z']) w) (hB : B ≤ w.heap.size) (hb : b' = w.heap.size) :
    NewTr B (.mk k 0 [t, u]) (.agg #[.int .i64 k, .int .i64 0, .slice (some ⟨b', 0, none⟩) 2 2]) (w.alloc (.cells #[x, y, z, x', y', z'] ty)) := by
  obtain ⟨f, bs, h1, h2, h3, h4⟩ := h.rows (ty := ty) hb
  obtain ⟨bs', g1, g2⟩ := TrOwn_new (k := k) (v := 0) (c := 2) (kids := [t, u]) hk (show i64 0 by unfold i64; omega) (by simp) (by simp [maxLen]) h1 h2 h4
  exact ⟨bs', g1, fun b hb' => by rcases g2 b hb' with rfl | h; omega; exact h3 b h⟩

end Go.Proofs.Ytbeljjalfhogdaa
namespace Go.Proofs.Ytbeljjalfhogdaa

theorem sem1 (w : Nat → Int) (v : Int) (l : List Tr) : sem w (.mk 1 v l) = fun _ => true := by simp [sem, semN]
theorem sem2 (w : Nat → Int) (v : Int) (l : List Tr) : sem w (.mk 2 v l) = fun i => bit (w i) v := by simp [sem, semN]
theorem sem3 (w : Nat → Int) (v : Int) (a : Tr) : sem w (.mk 3 v [a]) = fun i => !sem w a i := by simp [sem, semL, semN]
theorem sem4 (w : Nat → Int) (v : Int) (a b : Tr) : sem w (.mk 4 v [a, b]) = fun i => sem w a i && sem w b i := by simp [sem, semL, semN]
theorem sem5 (w : Nat → Int) (v : Int) (a b : Tr) : sem w (.mk 5 v [a, b]) = fun i => sem w a i || sem w b i := by simp [sem, semL, semN]
theorem sem6 (w : Nat → Int) (v : Int) (a : Tr) : sem w (.mk 6 v [a]) = fun i => sem w a (i + 1) := by simp [sem, semL, semN]
theorem sem7 (w : Nat → Int) (v : Int) (a b : Tr) : sem w (.mk 7 v [a, b]) = unt (sem w a) (sem w b) := by simp [sem, semL, semN]
theorem sem8 (w : Nat → Int) (v : Int) (a b : Tr) : sem w (.mk 8 v [a, b]) = rls (sem w a) (sem w b) := by simp [sem, semL, semN]
theorem sem9 (w : Nat → Int) (v : Int) (a : Tr) : sem w (.mk 9 v [a]) = unt (fun _ => true) (sem w a) := by simp [sem, semL, semN]
theorem sem10 (w : Nat → Int) (v : Int) (a : Tr) : sem w (.mk 10 v [a]) = rls (fun _ => false) (sem w a) := by simp [sem, semL, semN]

theorem rls_not (a b : Nat → Bool) : rls (fun i => !a i) (fun i => !b i) = fun i => !unt a b i := by
  funext i; simp [rls]
theorem unt_not (a b : Nat → Bool) : unt (fun i => !a i) (fun i => !b i) = fun i => !rls a b i := by
  funext i; simp [rls]

theorem sem_nf (w : Nat → Int) : ∀ (t : Tr) (n : Nat) (neg : Bool), formL.shape t n = true → sem w (nfT t neg) = fun i => sem w t i != neg := Tr.ind fun k v kids ih => by
  intro n neg hs
  obtain ⟨m, h1, h2, h3, h4, h5, h6, h7⟩ := formL.shape_mk hs
  rw [formL_K] at h3
  rw [formL_ar] at h6
  by_cases k0 : k = 1 ∨ k = 2
  · obtain rfl := len0 (by rw [h6, if_pos k0])
    rcases k0 with rfl | rfl <;> cases neg <;> simp [nfT, nfNode, sem1, sem2, sem3]
  by_cases k2 : k = 4 ∨ k = 5 ∨ k = 7 ∨ k = 8
  · obtain ⟨a, b, rfl⟩ := len2 (by rw [h6, if_neg k0, if_pos k2])
    have ha := ih a (by simp) m neg (h7 a (by simp))
    have hb := ih b (by simp) m neg (h7 b (by simp))
    cases neg
    · have ha' : sem w (nfT a false) = sem w a := by rw [ha]; funext i; simp
      have hb' : sem w (nfT b false) = sem w b := by rw [hb]; funext i; simp
      rcases k2 with rfl | rfl | rfl | rfl <;> simp [nfT, nfL, nfNode, sem4, sem5, sem7, sem8, ha', hb']
    · have ha' : sem w (nfT a true) = fun i => !sem w a i := by rw [ha]; funext i; simp
      have hb' : sem w (nfT b true) = fun i => !sem w b i := by rw [hb]; funext i; simp
      rcases k2 with rfl | rfl | rfl | rfl <;> simp [nfT, nfL, nfNode, dualK, sem4, sem5, sem7, sem8, ha', hb', rls_not, unt_not]
  obtain ⟨a, rfl⟩ := len1 (by rw [h6, if_neg k0, if_neg k2])
  have ha := fun ng => ih a (by simp) m ng (h7 a (by simp))
  have ha1 : sem w (nfT a false) = sem w a := by rw [ha]; funext i; simp
  have ha2 : sem w (nfT a true) = fun i => !sem w a i := by rw [ha]; funext i; simp
  have e1 : sem w truT = fun _ => true := sem1 ..
  have e2 : sem w flsT = fun _ => false := by rw [flsT, sem3, e1]; rfl
  have r1 := rls_not (fun _ => true) (sem w a)
  have r2 := unt_not (fun _ => false) (sem w a)
  simp only [Bool.not_true, Bool.not_false] at r1 r2
  have hk : k = 3 ∨ k = 6 ∨ k = 9 ∨ k = 10 := by omega
  rcases hk with rfl | rfl | rfl | rfl <;> cases neg <;> simp [nfT, nfL, nfNode, sem3, sem6, sem7, sem8, sem9, sem10, ha1, ha2, e1, e2, r1, r2]

/-! ### suffixes -/
def shf (k : Nat) (f : Nat → Bool) : Nat → Bool := fun i => f (i + k)
theorem unt_shf (k : Nat) (a b : Nat → Bool) : unt (shf k a) (shf k b) = shf k (unt a b) := by
  funext i
  simp only [shf, unt, show ∀ j, i + j + k = i + k + j from fun j => by omega]
theorem rls_shf (k : Nat) (a b : Nat → Bool) : rls (shf k a) (shf k b) = shf k (rls a b) := by
  funext i
  have := congrFun (unt_shf k (fun j => !a j) (fun j => !b j)) i
  exact congrArg (fun x => !x) this
theorem semN_shf (w : Nat → Int) (k v : Int) (l : List (Nat → Bool)) (n : Nat) : semN (fun i => w (i + n)) k v (l.map (shf n)) = shf n (semN w k v l) := by
  have hz : (fun _ => false : Nat → Bool) = shf n (fun _ => false) := rfl
  have ho : (fun _ => true : Nat → Bool) = shf n (fun _ => true) := rfl
  have hg : ∀ j, (l.map (shf n)).getD j (fun _ => false) = shf n (l.getD j (fun _ => false)) := fun j => by
    rw [List.getD_eq_getElem?_getD, List.getD_eq_getElem?_getD, List.getElem?_map]
    cases l[j]? <;> rfl
  unfold semN
  rw [hg 0, hg 1]
  repeat' split
  all_goals first
    | rfl
    | exact unt_shf n _ _
    | exact rls_shf n _ _
    | exact unt_shf n (fun _ => true) _
    | exact rls_shf n (fun _ => false) _
    | (funext i; simp only [shf]; rw [show i + 1 + n = i + n + 1 by omega])
mutual
theorem sem_shf (w : Nat → Int) (n : Nat) : ∀ t, sem (fun i => w (i + n)) t = shf n (sem w t)
  | .mk k v kids => by rw [sem, sem, semL_shf w n kids, semN_shf]
theorem semL_shf (w : Nat → Int) (n : Nat) : ∀ l, semL (fun i => w (i + n)) l = (semL w l).map (shf n)
  | [] => rfl
  | t :: ts => by rw [semL, semL, sem_shf w n t, semL_shf w n ts]; rfl
end

/-- what always holds holds later; what comes later comes -/
theorem always_later {f : Nat → Bool} : ∀ (k i : Nat), rls (fun _ => false) f i = true → rls (fun _ => false) f (i + k) = true
  | 0, i, h => h
  | k + 1, i, h => by
    have := always_later k i h
    rw [rls_step] at this
    simp only [Bool.false_or, Bool.and_eq_true] at this
    rw [show i + (k + 1) = i + k + 1 by omega]
    exact this.2
theorem later_soon {f : Nat → Bool} : ∀ (k i : Nat), unt (fun _ => true) f (i + k) = true → unt (fun _ => true) f i = true
  | 0, i, h => h
  | k + 1, i, h => by
    refine later_soon k i ?_
    rw [unt_step, show i + k + 1 = i + (k + 1) by omega, h]
    simp
theorem ev_iff {f : Nat → Bool} {i : Nat} : unt (fun _ => true) f i = true ↔ ∃ j, f (i + j) = true := by
  rw [unt, dec_iff]
  exact ⟨fun ⟨j, h, _⟩ => ⟨j, h⟩, fun ⟨j, h⟩ => ⟨j, h, fun _ _ => rfl⟩⟩
theorem al_iff {f : Nat → Bool} {i : Nat} : rls (fun _ => false) f i = true ↔ ∀ j, f (i + j) = true := by
  have : rls (fun _ => false) f i = !unt (fun _ => true) (fun j => !f j) i := rfl
  rw [this, Bool.not_eq_true', ← Bool.not_eq_true, ev_iff]
  constructor
  · intro h j
    cases e : f (i + j) with
    | true => rfl
    | false => exact absurd ⟨j, by rw [e]; rfl⟩ h
  · rintro h ⟨j, hj⟩
    rw [h j] at hj
    cases hj

/-! ### a lasso's loop decides -/
def oddI (n : Int) : Bool := n % 2 == 1
theorem wordOf_loop (stem loop : List Int) (i : Nat) (_ : 0 < loop.length) : wordOf stem loop (stem.length + i) = loop.getD (i % loop.length) 0 := by
  unfold wordOf
  rw [if_neg (by omega), show stem.length + i - stem.length = i by omega]
theorem getD_mem {l : List Int} {i : Nat} (h : i < l.length) : l.getD i 0 ∈ l := by
  rw [List.getD_eq_getElem?_getD, List.getElem?_eq_getElem h]; exact List.getElem_mem h
theorem bit0 (n : Int) : bit n 0 = oddI n := by simp [bit, oddI]
theorem often_loop (stem loop : List Int) (h : 0 < loop.length) : rls (fun _ => false) (unt (fun _ => true) (fun i => bit (wordOf stem loop i) 0)) 0 = loop.any oddI := by
  rw [Bool.eq_iff_iff, al_iff, List.any_eq_true]
  constructor
  · intro hh
    obtain ⟨j, hj⟩ := ev_iff.1 (hh stem.length)
    rw [Nat.zero_add, wordOf_loop _ _ _ h, bit0] at hj
    exact ⟨_, getD_mem (Nat.mod_lt _ h), hj⟩
  · rintro ⟨x, hx, ho⟩ i
    obtain ⟨m, hm, rfl⟩ := List.getElem_of_mem hx
    refine ev_iff.2 ⟨stem.length + m + i * (loop.length - 1), ?_⟩
    have e : 0 + i + (stem.length + m + i * (loop.length - 1)) = stem.length + (m + i * loop.length) := by
      obtain ⟨q, hq⟩ : ∃ q, loop.length = q + 1 := ⟨loop.length - 1, by omega⟩
      rw [hq, Nat.add_sub_cancel, Nat.mul_add, Nat.mul_one]; omega
    rw [e, wordOf_loop _ _ _ h, bit0, Nat.add_mul_mod_self_right, Nat.mod_eq_of_lt hm, List.getD_eq_getElem?_getD, List.getElem?_eq_getElem hm]
    exact ho
theorem stays_loop (stem loop : List Int) (h : 0 < loop.length) : unt (fun _ => true) (rls (fun _ => false) (fun i => bit (wordOf stem loop i) 0)) 0 = loop.all oddI := by
  rw [Bool.eq_iff_iff, ev_iff, List.all_eq_true]
  constructor
  · rintro ⟨j, hj⟩ x hx
    rw [al_iff] at hj
    obtain ⟨m, hm, rfl⟩ := List.getElem_of_mem hx
    have := hj (stem.length + m + j * (loop.length - 1))
    have e : 0 + j + (stem.length + m + j * (loop.length - 1)) = stem.length + (m + j * loop.length) := by
      obtain ⟨q, hq⟩ : ∃ q, loop.length = q + 1 := ⟨loop.length - 1, by omega⟩
      rw [hq, Nat.add_sub_cancel, Nat.mul_add, Nat.mul_one]; omega
    rw [e, wordOf_loop _ _ _ h, bit0, Nat.add_mul_mod_self_right, Nat.mod_eq_of_lt hm, List.getD_eq_getElem?_getD, List.getElem?_eq_getElem hm] at this
    exact this
  · intro hh
    refine ⟨stem.length, al_iff.2 fun j => ?_⟩
    rw [Nat.zero_add, wordOf_loop _ _ _ h, bit0]
    exact hh _ (getD_mem (Nat.mod_lt _ h))
end Go.Proofs.Ytbeljjalfhogdaa
namespace Go.Proofs.Ytbeljjalfhogdaa
open Go.RowKit
namespace Lasso

set_option maxRecDepth 100000 in
set_option maxHeartbeats 4000000 in
theorem fix5_any (s p : Nat) (st : Bool) (h : Nat → Bool → Bool) (F f0 : Nat → Bool) (hs : FixSol (s + p) (nx s p) st h F) (w : World) (R O L K : Nat) (a b : Option Addr) (c d : Nat) (h1 : s ≤ 1000) (h2 : p ≤ 1000) (h3 : 0 < p)
    (hR : BRow w R (s + p) f0) (hO : Box1 w O (.slice (some ⟨R, 0, none⟩) ((s + p : Nat) : Int).toNat ((s + p : Nat) : Int).toNat)) (hL : PBox w L (.slice a s c) (.slice b p d)) (hRO : O ≠ R) (hRL : L ≠ R)
    (hH : ∀ (W : World) (i : Nat) (x : Bool), But w R W → i < s + p → Calls Try.prog 67 #[.int .i64 i, .bool x, .pointer (some ⟨K, 0, none⟩)] W (Ret (.bool (h i x)) W)) :
    Calls Try.prog 62 #[.bool st, .func (.func 67) #[] #[.pointer (some ⟨K, 0, none⟩)], .pointer (some ⟨O, 0, none⟩), .pointer (some ⟨L, 0, none⟩)] w (FixPost R (s + p) F w) := by
  have HS := hid hs
  have HH := hid hH
  have HO := hid hO
  have HL := hid hL
  have HR := hid hR
  clear hs hH hO hL hR
  generalize hn : s + p = n at *
  have hn0 : 0 < n := by omega
  obtain ⟨o0, o1, o2⟩ := HO.out
  rw [show (((n : Nat) : Int).toNat) = n by omega] at o1
  go_enter Try.func62, Try.ntmps62
  go_wp2_with fail
  go_loopw [6, 12] (fun _ i wr => ∃ (k : Nat) (f : Nat → Bool), k ≤ n ∧ i = .int .i64 k ∧ But w R wr ∧ BRow wr R n f ∧ Hid (∀ j, j < k → f j = st)) (fun _ i _ => n - (intOf i).toNat)
  case atStart => exact ⟨0, f0, Nat.zero_le _, rfl, But.refl _ _, HR.out, hid (by omega)⟩
  case round =>
    obtain ⟨k, f, hk, rfl, B, hrow, hf⟩ := hrel
    obtain ⟨o0, o1, o2⟩ := But.box1 B hRO HO.out
    rw [show (((n : Nat) : Int).toNat) = n by omega] at o1
    by_cases hlt : k < n
    · have r0 := hrow.2.1 k hlt
      have rz := hrow.2.2
      have rl := hrow.1
      have hstep := hid (brow_upd hrow hlt st)
      have hlt2 : (k : Int) < (n : Int) := by omega
      clear hrow
      go_wp2_with fail
      go_roundw
      case rel =>
        refine ⟨k + 1, _, by omega, by go_num, B.trans (But.set _ _ _ _), hstep.out, hid fun j hj => ?_⟩
        unfold upd
        split
        · rfl
        · exact hf.out j (by omega)
      case measure => simp [intOf]; omega
    · have hlt2 : ¬ ((k : Int) < (n : Int)) := by omega
      have hI := hid (fixInv_start (nxt := nx s p) (h := h) (F := F) (fun j hj => hf.out j (by omega)) : FixInv n (nx s p) st h F f)
      have HROW := hid hrow
      clear hf hrow
      go_wp2_with fail
      go_loopw [7, 8, 9] (fun q _ _ wr => ∃ (ch : Bool) (out : Nat → Bool), q = .bool ch ∧ But w R wr ∧ BRow wr R n out ∧ Hid (FixInv n (nx s p) st h F out ∧ (ch = false → ∀ k, k < n → out k = h k (out (nx s p k))))) (fun q _ _ W => if isT q = true then 1 + (n - cntB (!st) (outOf W R) n) else 0)
      case atStart => exact ⟨true, f, rfl, B, HROW.out, hid ⟨hI.out, by simp⟩⟩
      case round =>
        obtain ⟨ch, out0, rfl, B0, hrow0, hfx⟩ := hrel
        obtain ⟨o0, o1, o2⟩ := But.box1 B0 hRO HO.out
        rw [show (((n : Nat) : Int).toNat) = n by omega] at o1
        cases ch with
        | false =>
          have hfin := hid (show BRow wr R n F from hrow0.congr fun i hi => by rw [hfx.out.1.done HS.out (hfx.out.2 rfl) i hi])
          clear hrow0
          go_wp2_with fail
          refine bodyPost_ret (v := .tuple #[]) (by simp [results, Try.results62]) rfl ?_
          exact ⟨rfl, B0, hfin.out⟩
        | true =>
          have HR0 := hid hrow0
          have f1 : IntKind.i64.wrap ((n : Int) - 1) = (n : Int) - 1 := IntWalk.i64_in _ (by omega)
          clear hrow0
          go_wp2_with fail
          go_loopw [7, 8, 9] (fun q i _ wr => ∃ (k : Nat) (ch : Bool) (out : Nat → Bool), k ≤ n ∧ q = .bool ch ∧ (∃ z : Int, i = .int .i64 z ∧ z = (k : Int) - 1) ∧ But w R wr ∧ BRow wr R n out ∧ Hid (FixRel n (nx s p) st h F out0 k ch out)) (fun _ i _ _ => (intOf i + 1).toNat)
          case atStart => exact ⟨n, false, out0, Nat.le_refl _, rfl, ⟨_, rfl, rfl⟩, B0, HR0.out, hid (FixRel.start hfx.out.1)⟩
          case round =>
            obtain ⟨k, ch, out, hk, rfl, ⟨z, rfl, hz⟩, B, hrow, hr⟩ := hrel
            obtain ⟨o0, o1, o2⟩ := But.box1 B hRO HO.out
            rw [show (((n : Nat) : Int).toNat) = n by omega] at o1
            obtain ⟨l0, l1, l2, l3, l4⟩ := But.pbox B hRL HL.out
            by_cases hk0 : k = 0
            · subst hk0
              have hz3 : ¬ (z ≥ 0) := by omega
              have HROW2 := hid hrow
              have e1 := fun i hi => outOf_row HR0.out (i := i) hi
              have e2 := fun i hi => outOf_row hrow (i := i) hi
              clear hrow
              go_wp2_with fail
              go_roundw
              case rel => exact ⟨ch, out, rfl, B, HROW2.out, hid ⟨hr.out.inv, fun hc k hk => (hr.out.no hc).2 k (Nat.zero_le _) hk⟩⟩
              case measure =>
                rw [cntB_congr e1, cntB_congr e2]
                have hle := cntB_le_n (!st) out n
                cases ch with
                | false => simp [isT]; omega
                | true => have := hr.out.yes rfl; simp [isT]; omega
            · obtain ⟨m, rfl⟩ : ∃ m, k = m + 1 := ⟨k - 1, by omega⟩
              obtain rfl : z = (m : Int) := by omega
              clear hz hk0
              have hm : m < n := by omega
              have hx : nx s p m < n := HS.out.lt m hm
              have r0 : wr.cell? ⟨R, m, none⟩ = some (.bool (out m)) := hrow.2.1 m hm
              have r1 : wr.cell? ⟨R, nx s p m, none⟩ = some (.bool (out (nx s p m))) := hrow.2.1 _ hx
              have rz := hrow.2.2
              have rl := hrow.1
              have HSTEP := hid (FixRel.step HS.out (k := m) hm hr.out)
              have HROW2 := hid hrow
              have HBB := hid B
              have hm2 : (m : Int) < (n : Int) := by omega
              have hx2 : ((nx s p m : Nat) : Int) < (n : Int) := by omega
              have hm3 : (m : Int) ≥ 0 := by omega
              have hx3 : ((nx s p m : Nat) : Int) ≥ 0 := by omega
              have HN := hid (fun (W : World) => next_any s p m W a b c d h1 h2 (by omega))
              clear hrow hr hx
              generalize nx s p m = q at *
              generalize out q = ov at *
              have HH2 := hid (fun (W : World) (hb : But w R W) => HH.out W m ov hb hm)
              generalize h m ov = v at *
              go_wp2_with fail
              refine wp_region_over (by kernel_rfl) (by kernel_rfl) ?_; (repeat (go_big_quiet_step ((first | (go_at_call 63; with_reducible exact Calls.over (HN.out _)) | (go_at_call 67; with_reducible exact Calls.over (HH2.out _ (HBB.out.next (over_below _ _)))))))); refine wpQuiet_nil ?_; rintro _ ⟨xq, rfl⟩
              have BX := hid (HBB.out.next (over_below wr xq))
              have RX := hid (show BRow (wr.over xq) R n out from Row.below HROW2.out (over_below wr xq))
              have r0' : (wr.over xq).cell? ⟨R, m, none⟩ = some (.bool (out m)) := RX.out.2.1 m hm
              have o' := But.box1 BX.out hRO HO.out
              rw [show (((n : Nat) : Int).toNat) = n by omega] at o'
              have rz' := RX.out.2.2
              have rl' := RX.out.1
              obtain ⟨o0', o1', o2'⟩ := o'
              clear r0 r1 rz rl o0 o1 o2 l0 l1 l2 l3 l4
              by_cases hvo : v = out m
              · have e1 : (v != out m) = false := by simpa using hvo
                have HS2 := HSTEP.out
                rw [e1, Bool.or_false, hvo, upd_same] at HS2
                have HS3 := hid HS2
                rw [← hvo] at r0'
                clear HS2 HSTEP hvo e1
                go_wp2_with fail
                go_roundw
                case rel => exact ⟨m, ch, out, by omega, rfl, ⟨_, rfl, rfl⟩, BX.out, RX.out, HS3⟩
                case measure => simp [intOf]
              · have e1 : (v != out m) = true := by simpa using hvo
                have HS2 := HSTEP.out
                rw [e1, Bool.or_true] at HS2
                have HS3 := hid HS2
                have RY := hid (brow_upd RX.out hm v)
                have e2 : out m = !v := by cases v <;> cases h0 : out m <;> simp_all
                rw [e2] at r0'
                clear HS2 HSTEP hvo e1 e2
                cases v
                all_goals
                  first
                    | rw [Bool.not_true] at r0'
                    | rw [Bool.not_false] at r0'
                  go_wp2_with fail
                  go_roundw
                  case rel => exact ⟨m, true, _, by omega, rfl, ⟨_, rfl, rfl⟩, BX.out.trans (But.set _ _ _ _), RY.out, HS3⟩
                  case measure => simp [intOf]
end Lasso
end Go.Proofs.Ytbeljjalfhogdaa
namespace Go.Proofs.Ytbeljjalfhogdaa
open Go.RowKit
namespace Lasso

set_option maxRecDepth 100000 in
set_option maxHeartbeats 4000000 in
theorem fix4_any (s p : Nat) (st : Bool) (h : Nat → Bool → Bool) (F f0 : Nat → Bool) (hs : FixSol (s + p) (nx s p) st h F) (w : World) (R O L K : Nat) (a b : Option Addr) (c d : Nat) (h1 : s ≤ 1000) (h2 : p ≤ 1000) (h3 : 0 < p)
    (hR : BRow w R (s + p) f0) (hO : Box1 w O (.slice (some ⟨R, 0, none⟩) ((s + p : Nat) : Int).toNat ((s + p : Nat) : Int).toNat)) (hL : PBox w L (.slice a s c) (.slice b p d)) (hRO : O ≠ R) (hRL : L ≠ R)
    (hH : ∀ (W : World) (i : Nat) (x : Bool), But w R W → i < s + p → Calls Try.prog 66 #[.int .i64 i, .bool x, .pointer (some ⟨K, 0, none⟩)] W (Ret (.bool (h i x)) W)) :
    Calls Try.prog 62 #[.bool st, .func (.func 66) #[] #[.pointer (some ⟨K, 0, none⟩)], .pointer (some ⟨O, 0, none⟩), .pointer (some ⟨L, 0, none⟩)] w (FixPost R (s + p) F w) := by
  have HS := hid hs
  have HH := hid hH
  have HO := hid hO
  have HL := hid hL
  have HR := hid hR
  clear hs hH hO hL hR
  generalize hn : s + p = n at *
  have hn0 : 0 < n := by omega
  obtain ⟨o0, o1, o2⟩ := HO.out
  rw [show (((n : Nat) : Int).toNat) = n by omega] at o1
  go_enter Try.func62, Try.ntmps62
  go_wp2_with fail
  go_loopw [6, 12] (fun _ i wr => ∃ (k : Nat) (f : Nat → Bool), k ≤ n ∧ i = .int .i64 k ∧ But w R wr ∧ BRow wr R n f ∧ Hid (∀ j, j < k → f j = st)) (fun _ i _ => n - (intOf i).toNat)
  case atStart => exact ⟨0, f0, Nat.zero_le _, rfl, But.refl _ _, HR.out, hid (by omega)⟩
  case round =>
    obtain ⟨k, f, hk, rfl, B, hrow, hf⟩ := hrel
    obtain ⟨o0, o1, o2⟩ := But.box1 B hRO HO.out
    rw [show (((n : Nat) : Int).toNat) = n by omega] at o1
    by_cases hlt : k < n
    · have r0 := hrow.2.1 k hlt
      have rz := hrow.2.2
      have rl := hrow.1
      have hstep := hid (brow_upd hrow hlt st)
      have hlt2 : (k : Int) < (n : Int) := by omega
      clear hrow
      go_wp2_with fail
      go_roundw
      case rel =>
        refine ⟨k + 1, _, by omega, by go_num, B.trans (But.set _ _ _ _), hstep.out, hid fun j hj => ?_⟩
        unfold upd
        split
        · rfl
        · exact hf.out j (by omega)
      case measure => simp [intOf]; omega
    · have hlt2 : ¬ ((k : Int) < (n : Int)) := by omega
      have hI := hid (fixInv_start (nxt := nx s p) (h := h) (F := F) (fun j hj => hf.out j (by omega)) : FixInv n (nx s p) st h F f)
      have HROW := hid hrow
      clear hf hrow
      go_wp2_with fail
      go_loopw [7, 8, 9] (fun q _ _ wr => ∃ (ch : Bool) (out : Nat → Bool), q = .bool ch ∧ But w R wr ∧ BRow wr R n out ∧ Hid (FixInv n (nx s p) st h F out ∧ (ch = false → ∀ k, k < n → out k = h k (out (nx s p k))))) (fun q _ _ W => if isT q = true then 1 + (n - cntB (!st) (outOf W R) n) else 0)
      case atStart => exact ⟨true, f, rfl, B, HROW.out, hid ⟨hI.out, by simp⟩⟩
      case round =>
        obtain ⟨ch, out0, rfl, B0, hrow0, hfx⟩ := hrel
        obtain ⟨o0, o1, o2⟩ := But.box1 B0 hRO HO.out
        rw [show (((n : Nat) : Int).toNat) = n by omega] at o1
        cases ch with
        | false =>
          have hfin := hid (show BRow wr R n F from hrow0.congr fun i hi => by rw [hfx.out.1.done HS.out (hfx.out.2 rfl) i hi])
          clear hrow0
          go_wp2_with fail
          refine bodyPost_ret (v := .tuple #[]) (by simp [results, Try.results62]) rfl ?_
          exact ⟨rfl, B0, hfin.out⟩
        | true =>
          have HR0 := hid hrow0
          have f1 : IntKind.i64.wrap ((n : Int) - 1) = (n : Int) - 1 := IntWalk.i64_in _ (by omega)
          clear hrow0
          go_wp2_with fail
          go_loopw [7, 8, 9] (fun q i _ wr => ∃ (k : Nat) (ch : Bool) (out : Nat → Bool), k ≤ n ∧ q = .bool ch ∧ (∃ z : Int, i = .int .i64 z ∧ z = (k : Int) - 1) ∧ But w R wr ∧ BRow wr R n out ∧ Hid (FixRel n (nx s p) st h F out0 k ch out)) (fun _ i _ _ => (intOf i + 1).toNat)
          case atStart => exact ⟨n, false, out0, Nat.le_refl _, rfl, ⟨_, rfl, rfl⟩, B0, HR0.out, hid (FixRel.start hfx.out.1)⟩
          case round =>
            obtain ⟨k, ch, out, hk, rfl, ⟨z, rfl, hz⟩, B, hrow, hr⟩ := hrel
            obtain ⟨o0, o1, o2⟩ := But.box1 B hRO HO.out
            rw [show (((n : Nat) : Int).toNat) = n by omega] at o1
            obtain ⟨l0, l1, l2, l3, l4⟩ := But.pbox B hRL HL.out
            by_cases hk0 : k = 0
            · subst hk0
              have hz3 : ¬ (z ≥ 0) := by omega
              have HROW2 := hid hrow
              have e1 := fun i hi => outOf_row HR0.out (i := i) hi
              have e2 := fun i hi => outOf_row hrow (i := i) hi
              clear hrow
              go_wp2_with fail
              go_roundw
              case rel => exact ⟨ch, out, rfl, B, HROW2.out, hid ⟨hr.out.inv, fun hc k hk => (hr.out.no hc).2 k (Nat.zero_le _) hk⟩⟩
              case measure =>
                rw [cntB_congr e1, cntB_congr e2]
                have hle := cntB_le_n (!st) out n
                cases ch with
                | false => simp [isT]; omega
                | true => have := hr.out.yes rfl; simp [isT]; omega
            · obtain ⟨m, rfl⟩ : ∃ m, k = m + 1 := ⟨k - 1, by omega⟩
              obtain rfl : z = (m : Int) := by omega
              clear hz hk0
              have hm : m < n := by omega
              have hx : nx s p m < n := HS.out.lt m hm
              have r0 : wr.cell? ⟨R, m, none⟩ = some (.bool (out m)) := hrow.2.1 m hm
              have r1 : wr.cell? ⟨R, nx s p m, none⟩ = some (.bool (out (nx s p m))) := hrow.2.1 _ hx
              have rz := hrow.2.2
              have rl := hrow.1
              have HSTEP := hid (FixRel.step HS.out (k := m) hm hr.out)
              have HROW2 := hid hrow
              have HBB := hid B
              have hm2 : (m : Int) < (n : Int) := by omega
              have hx2 : ((nx s p m : Nat) : Int) < (n : Int) := by omega
              have hm3 : (m : Int) ≥ 0 := by omega
              have hx3 : ((nx s p m : Nat) : Int) ≥ 0 := by omega
              have HN := hid (fun (W : World) => next_any s p m W a b c d h1 h2 (by omega))
              clear hrow hr hx
              generalize nx s p m = q at *
              generalize out q = ov at *
              have HH2 := hid (fun (W : World) (hb : But w R W) => HH.out W m ov hb hm)
              generalize h m ov = v at *
              go_wp2_with fail
              refine wp_region_over (by kernel_rfl) (by kernel_rfl) ?_; (repeat (go_big_quiet_step ((first | (go_at_call 63; with_reducible exact Calls.over (HN.out _)) | (go_at_call 66; with_reducible exact Calls.over (HH2.out _ (HBB.out.next (over_below _ _)))))))); refine wpQuiet_nil ?_; rintro _ ⟨xq, rfl⟩
              have BX := hid (HBB.out.next (over_below wr xq))
              have RX := hid (show BRow (wr.over xq) R n out from Row.below HROW2.out (over_below wr xq))
              have r0' : (wr.over xq).cell? ⟨R, m, none⟩ = some (.bool (out m)) := RX.out.2.1 m hm
              have o' := But.box1 BX.out hRO HO.out
              rw [show (((n : Nat) : Int).toNat) = n by omega] at o'
              have rz' := RX.out.2.2
              have rl' := RX.out.1
              obtain ⟨o0', o1', o2'⟩ := o'
              clear r0 r1 rz rl o0 o1 o2 l0 l1 l2 l3 l4
              by_cases hvo : v = out m
              · have e1 : (v != out m) = false := by simpa using hvo
                have HS2 := HSTEP.out
                rw [e1, Bool.or_false, hvo, upd_same] at HS2
                have HS3 := hid HS2
                rw [← hvo] at r0'
                clear HS2 HSTEP hvo e1
                go_wp2_with fail
                go_roundw
                case rel => exact ⟨m, ch, out, by omega, rfl, ⟨_, rfl, rfl⟩, BX.out, RX.out, HS3⟩
                case measure => simp [intOf]
              · have e1 : (v != out m) = true := by simpa using hvo
                have HS2 := HSTEP.out
                rw [e1, Bool.or_true] at HS2
                have HS3 := hid HS2
                have RY := hid (brow_upd RX.out hm v)
                have e2 : out m = !v := by cases v <;> cases h0 : out m <;> simp_all
                rw [e2] at r0'
                clear HS2 HSTEP hvo e1 e2
                cases v
                all_goals
                  first
                    | rw [Bool.not_true] at r0'
                    | rw [Bool.not_false] at r0'
                  go_wp2_with fail
                  go_roundw
                  case rel => exact ⟨m, true, _, by omega, rfl, ⟨_, rfl, rfl⟩, BX.out.trans (But.set _ _ _ _), RY.out, HS3⟩
                  case measure => simp [intOf]
end Lasso
end Go.Proofs.Ytbeljjalfhogdaa
