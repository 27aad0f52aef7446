/- Plain mathematics of texts: what is written for a tree, and what is read from a text, in three languages. No program here. -/
import Derived.Test.YtfemikebklmlpaaValidPlain
namespace Go.Proofs.Ytfemikebklmlpaa

/-- a string of given bytes -/
def bs (l : List UInt8) : ByteArray := ⟨l.toArray⟩
theorem bs_append (a b : List UInt8) : bs a ++ bs b = bs (a ++ b) := by
  unfold bs; rw [ByteArray.mk_append_mk]
theorem bs_size (a : List UInt8) : (bs a).size = a.length := by simp [bs, ByteArray.size]
theorem bs_inj {a b : List UInt8} (h : bs a = bs b) : a = b := by
  have := congrArg (fun x => x.data.toList) h
  simpa [bs] using this

theorem str_val {a b : ByteArray} (h : a = b) : Value.string a = .string b := by rw [h]
/-- how a language writes a node: what stands ahead of it, and what stands between two operands -/
structure TLang where
  pre : Int → Int → List UInt8
  mid : Int → List UInt8
  pre2 : ∀ k v, (pre k v).length ≤ 2
  mid1 : ∀ k, (mid k).length ≤ 1

def nodeTxt (pre mid : List UInt8) : List (List UInt8) → List UInt8
  | [] => pre
  | [a] => pre ++ a
  | a :: b :: _ => pre ++ (a ++ (mid ++ (b ++ [41])))

namespace TLang
variable (L : TLang)
mutual
def txt : Tr → List UInt8 | .mk k v kids => nodeTxt (L.pre k v) (L.mid k) (txts kids)
def txts : List Tr → List (List UInt8) | [] => [] | t :: ts => txt t :: txts ts
end
theorem txts_map : ∀ l, L.txts l = l.map L.txt | [] => by simp [txts] | t :: ts => by simp [txts, txts_map ts]

mutual
theorem txt_len : ∀ t, ((L.txt t).length : Int) ≤ 4 * nodes t
  | .mk k v kids => by
    have h1 := L.pre2 k v
    have h2 := L.mid1 k
    have hp := nodesL_pos kids
    simp only [txt, nodes]
    match kids with
    | [] => simp [txts, nodeTxt, nodesL]; omega
    | [a] => have ha := txt_len a; simp [txts, nodeTxt, nodesL]; omega
    | a :: b :: r =>
      have ha := txt_len a
      have hb := txt_len b
      have hr := nodesL_pos r
      simp [txts, nodeTxt, nodesL]; omega
end
end TLang

/-- a byte above another -/
def byte (n : Int) : UInt8 := UInt8.ofNat n.toNat

def exprT : TLang where
  pre k v := if k = 1 then [byte (48 + v)] else if k = 2 then [byte (120 + v)] else if k = 3 then [33] else [40]
  mid k := if k = 4 then [38] else if k = 5 then [124] else if k = 6 then [61] else if k = 7 then [60] else if k = 8 then [43] else [45]
  pre2 k v := by repeat' split
                 all_goals simp
  mid1 k := by repeat' split
               all_goals simp
def formT : TLang where
  pre k v := if k = 1 then [84] else if k = 2 then [byte (112 + v)] else if k = 3 then [33] else if k = 6 then [88] else if k = 9 then [70] else if k = 10 then [71] else [40]
  mid k := if k = 4 then [38] else if k = 5 then [124] else if k = 7 then [85] else [82]
  pre2 k v := by repeat' split
                 all_goals simp
  mid1 k := by repeat' split
               all_goals simp
def branT : TLang where
  pre k v := if k = 1 then [84] else if k = 2 then [byte (112 + v)] else if k = 3 then [33] else if k = 6 then [69, 88] else if k = 8 then [69, 71] else if k = 9 then [65, 88] else if k = 11 then [65, 71] else if k = 7 then [69, 40] else if k = 10 then [65, 40] else [40]
  mid k := if k = 4 then [38] else if k = 5 then [124] else [85]
  pre2 k v := by repeat' split
                 all_goals simp
  mid1 k := by repeat' split
               all_goals simp

/-! ### expressions, read -/
def exprOp (c : UInt8) : Option Int := if c = 38 then some 4 else if c = 124 then some 5 else if c = 61 then some 6 else if c = 60 then some 7 else if c = 43 then some 8 else if c = 45 then some 9 else none
/-- two operands with a sign between, and a bracket behind -/
def pairWith (rd : List UInt8 → Option (Tr × List UInt8)) (op : UInt8 → Option Int) (s : List UInt8) : Option (Tr × List UInt8) :=
  match rd s with
  | some (a, o :: r1) => match op o with
    | some k => match rd r1 with
      | some (b, c :: r2) => if c = 41 then some (.mk k 0 [a, b], r2) else none
      | _ => none
    | none => none
  | _ => none
def oneWith (rd : List UInt8 → Option (Tr × List UInt8)) (k : Int) (s : List UInt8) : Option (Tr × List UInt8) :=
  match rd s with
  | some (a, r) => some (.mk k 0 [a], r)
  | none => none
def rdE (top : UInt8) : Nat → List UInt8 → Option (Tr × List UInt8)
  | 0, _ => none
  | _ + 1, [] => none
  | n + 1, c :: s =>
    if 48 ≤ c ∧ c ≤ top then some (.mk 1 ((c.toNat : Int) - 48) [], s)
    else if 120 ≤ c ∧ c ≤ 122 then some (.mk 2 ((c.toNat : Int) - 120) [], s)
    else if c = 33 then oneWith (rdE top n) 3 s
    else if c = 40 then pairWith (rdE top n) exprOp s
    else none

def formUn (c : UInt8) : Option Int := if c = 33 then some 3 else if c = 88 then some 6 else if c = 70 then some 9 else if c = 71 then some 10 else none
def formOp (c : UInt8) : Option Int := if c = 38 then some 4 else if c = 124 then some 5 else if c = 85 then some 7 else if c = 82 then some 8 else none
def rdF : Nat → List UInt8 → Option (Tr × List UInt8)
  | 0, _ => none
  | _ + 1, [] => none
  | n + 1, c :: s =>
    if c = 84 then some (.mk 1 0 [], s)
    else if 112 ≤ c ∧ c ≤ 114 then some (.mk 2 ((c.toNat : Int) - 112) [], s)
    else match formUn c with
      | some k => oneWith (rdF n) k s
      | none => if c = 40 then pairWith (rdF n) formOp s else none

/-- the operators behind E, A -/
def rdB2 (rd : List UInt8 → Option (Tr × List UInt8)) (k : Int) : List UInt8 → Option (Tr × List UInt8)
  | [] => none
  | c :: s => if c = 88 then oneWith rd k s else if c = 40 then pairWith rd (fun o => if o = 85 then some (k + 1) else none) s else if c = 71 then oneWith rd (k + 2) s else none
def branOp (c : UInt8) : Option Int := if c = 38 then some 4 else if c = 124 then some 5 else none
def rdB : Nat → List UInt8 → Option (Tr × List UInt8)
  | 0, _ => none
  | _ + 1, [] => none
  | n + 1, c :: s =>
    if c = 84 then some (.mk 1 0 [], s)
    else if 112 ≤ c ∧ c ≤ 114 then some (.mk 2 ((c.toNat : Int) - 112) [], s)
    else if c = 33 then oneWith (rdB n) 3 s
    else if c = 40 then pairWith (rdB n) branOp s
    else if c = 69 then rdB2 (rdB n) 6 s
    else if c = 65 then rdB2 (rdB n) 9 s
    else none

theorem oneWith_txt {rd : List UInt8 → Option (Tr × List UInt8)} {a : Tr} {s r : List UInt8} {k : Int} (h : rd s = some (a, r)) : oneWith rd k s = some (.mk k 0 [a], r) := by simp [oneWith, h]
theorem pairWith_txt {rd : List UInt8 → Option (Tr × List UInt8)} {op : UInt8 → Option Int} {a b : Tr} {s r r1 : List UInt8} {o : UInt8} {k : Int} (h : rd s = some (a, o :: r1)) (ho : op o = some k) (hb : rd r1 = some (b, 41 :: r)) :
    pairWith rd op s = some (.mk k 0 [a, b], r) := by simp [pairWith, h, ho, hb]

namespace Lang
variable (L : Lang)
/-- what a well-made node looks like -/
theorem shape_mk {k v : Int} {kids : List Tr} {n : Nat} (h : L.shape (.mk k v kids) n = true) : ∃ m, n = m + 1 ∧ 1 ≤ k ∧ k ≤ L.K ∧ 0 ≤ v ∧ v ≤ L.most k ∧ (kids.length : Int) = L.ar k ∧ ∀ t, t ∈ kids → L.shape t m = true := by
  simp only [shape, Bool.and_eq_true, decide_eq_true_eq, okB_iff] at h
  obtain ⟨h1, ⟨⟨h2, h3⟩, ⟨h4, h5⟩, h6⟩, h7⟩ := h
  obtain ⟨m, rfl⟩ : ∃ m, n = m + 1 := ⟨n - 1, by omega⟩
  refine ⟨m, rfl, h2, h3, h4, h5, h6, ?_⟩
  rw [show ((m + 1 : Nat) : Int) - 1 = (m : Int) by omega] at h7
  clear h6
  induction kids with
  | nil => intro t ht; cases ht
  | cons u us ih =>
    simp only [shapeL, Bool.and_eq_true] at h7
    intro t ht
    cases ht with
    | head => exact h7.1
    | tail _ ht => exact ih h7.2 t ht
end Lang

theorem len0 {l : List Tr} (h : (l.length : Int) = 0) : l = [] := List.eq_nil_of_length_eq_zero (by omega)
theorem len1 {l : List Tr} (h : (l.length : Int) = 1) : ∃ a, l = [a] := by
  match l, h with
  | [a], _ => exact ⟨a, rfl⟩
  | [], h => simp at h
  | _ :: _ :: _, h => simp at h; omega
theorem len2 {l : List Tr} (h : (l.length : Int) = 2) : ∃ a b, l = [a, b] := by
  match l, h with
  | [a, b], _ => exact ⟨a, b, rfl⟩
  | [], h => simp at h
  | [_], h => simp at h
  | _ :: _ :: _ :: _, h => simp at h; omega

/-- WHAT IS WRITTEN IS READ -/
theorem rdE_txt (top : UInt8) (ht : 51 ≤ top) (ht2 : top < 120) : ∀ (n : Nat) (t : Tr) (r : List UInt8), exprL.shape t n = true → rdE top n (exprT.txt t ++ r) = some (t, r) := by
  intro n
  induction n with
  | zero => intro t r h; cases t with | mk k v kids => obtain ⟨m, h1, _⟩ := exprL.shape_mk h; omega
  | succ n ih =>
    intro t r h
    cases t with
    | mk k v kids =>
    obtain ⟨m, h1, h2, h3, h4, h5, h6, h7⟩ := exprL.shape_mk h
    obtain rfl : n = m := by omega
    rw [exprL_K] at h3
    rw [exprL_most] at h5
    rw [exprL_ar] at h6
    have hk : k = 1 ∨ k = 2 ∨ k = 3 ∨ k = 4 ∨ k = 5 ∨ k = 6 ∨ k = 7 ∨ k = 8 ∨ k = 9 := by omega
    rcases hk with rfl | rfl | rfl | hk
    · obtain rfl := len0 (by simpa using h6)
      simp at h5
      have hv : v = 0 ∨ v = 1 ∨ v = 2 ∨ v = 3 := by omega
      have e1 : (48 : UInt8) ≤ top := UInt8.le_trans (by decide) ht
      have e2 : (49 : UInt8) ≤ top := UInt8.le_trans (by decide) ht
      have e3 : (50 : UInt8) ≤ top := UInt8.le_trans (by decide) ht
      rcases hv with rfl | rfl | rfl | rfl <;> simp [TLang.txt, TLang.txts, nodeTxt, exprT, byte, rdE, ht, e1, e2, e3]
    · obtain rfl := len0 (by simpa using h6)
      simp at h5
      have hv : v = 0 ∨ v = 1 ∨ v = 2 := by omega
      have e0 : ¬ (120 : UInt8) ≤ top := by rw [UInt8.not_le]; exact ht2
      have e1 : ¬ (121 : UInt8) ≤ top := by rw [UInt8.not_le]; exact UInt8.lt_trans ht2 (by decide)
      have e2 : ¬ (122 : UInt8) ≤ top := by rw [UInt8.not_le]; exact UInt8.lt_trans ht2 (by decide)
      rcases hv with rfl | rfl | rfl <;> simp [TLang.txt, TLang.txts, nodeTxt, exprT, byte, rdE, e0, e1, e2]
    · obtain ⟨a, rfl⟩ := len1 (by simpa using h6)
      obtain rfl : v = 0 := by simp at h5; omega
      have := ih a r (h7 a (by simp))
      simp [TLang.txt, TLang.txts, nodeTxt, exprT, rdE]
      exact oneWith_txt this
    · obtain ⟨a, b, rfl⟩ := len2 (by rw [h6]; rcases hk with rfl | rfl | rfl | rfl | rfl | rfl <;> simp)
      obtain rfl : v = 0 := by rw [if_neg (by omega), if_neg (by omega)] at h5; omega
      rcases hk with rfl | rfl | rfl | rfl | rfl | rfl
      all_goals
        simp [TLang.txt, TLang.txts, nodeTxt, exprT, rdE]
        exact pairWith_txt (ih a _ (h7 a (by simp))) (by simp [exprOp]) (ih b _ (h7 b (by simp)))

theorem rdF_txt : ∀ (n : Nat) (t : Tr) (r : List UInt8), formL.shape t n = true → rdF n (formT.txt t ++ r) = some (t, r) := by
  intro n
  induction n with
  | zero => intro t r h; cases t with | mk k v kids => obtain ⟨m, h1, _⟩ := formL.shape_mk h; omega
  | succ n ih =>
    intro t r h
    cases t with
    | mk k v kids =>
    obtain ⟨m, h1, h2, h3, h4, h5, h6, h7⟩ := formL.shape_mk h
    obtain rfl : n = m := by omega
    rw [formL_K] at h3
    rw [formL_most] at h5
    rw [formL_ar] at h6
    have hk : k = 1 ∨ k = 2 ∨ (k = 3 ∨ k = 6 ∨ k = 9 ∨ k = 10) ∨ (k = 4 ∨ k = 5 ∨ k = 7 ∨ k = 8) := by omega
    rcases hk with rfl | rfl | hk | hk
    · obtain rfl := len0 (by simpa using h6)
      obtain rfl : v = 0 := by simp at h5; omega
      simp [TLang.txt, TLang.txts, nodeTxt, formT, rdF]
    · obtain rfl := len0 (by simpa using h6)
      simp at h5
      have hv : v = 0 ∨ v = 1 ∨ v = 2 := by omega
      rcases hv with rfl | rfl | rfl <;> simp [TLang.txt, TLang.txts, nodeTxt, formT, byte, rdF]
    · obtain ⟨a, rfl⟩ := len1 (by rw [h6]; rcases hk with rfl | rfl | rfl | rfl <;> simp)
      obtain rfl : v = 0 := by rw [if_neg (by omega)] at h5; omega
      have := ih a r (h7 a (by simp))
      rcases hk with rfl | rfl | rfl | rfl
      all_goals
        simp [TLang.txt, TLang.txts, nodeTxt, formT, rdF, formUn]
        exact oneWith_txt this
    · obtain ⟨a, b, rfl⟩ := len2 (by rw [h6]; rcases hk with rfl | rfl | rfl | rfl <;> simp)
      obtain rfl : v = 0 := by rw [if_neg (by omega)] at h5; omega
      rcases hk with rfl | rfl | rfl | rfl
      all_goals
        simp [TLang.txt, TLang.txts, nodeTxt, formT, rdF, formUn]
        exact pairWith_txt (ih a _ (h7 a (by simp))) (by simp [formOp]) (ih b _ (h7 b (by simp)))

theorem rdB_txt : ∀ (n : Nat) (t : Tr) (r : List UInt8), branL.shape t n = true → rdB n (branT.txt t ++ r) = some (t, r) := by
  intro n
  induction n with
  | zero => intro t r h; cases t with | mk k v kids => obtain ⟨m, h1, _⟩ := branL.shape_mk h; omega
  | succ n ih =>
    intro t r h
    cases t with
    | mk k v kids =>
    obtain ⟨m, h1, h2, h3, h4, h5, h6, h7⟩ := branL.shape_mk h
    obtain rfl : n = m := by omega
    rw [branL_K] at h3
    rw [branL_most] at h5
    rw [branL_ar] at h6
    have hk : k = 1 ∨ k = 2 ∨ (k = 3 ∨ k = 6 ∨ k = 8 ∨ k = 9 ∨ k = 11) ∨ (k = 4 ∨ k = 5 ∨ k = 7 ∨ k = 10) := by omega
    rcases hk with rfl | rfl | hk | hk
    · obtain rfl := len0 (by simpa using h6)
      obtain rfl : v = 0 := by simp at h5; omega
      simp [TLang.txt, TLang.txts, nodeTxt, branT, rdB]
    · obtain rfl := len0 (by simpa using h6)
      simp at h5
      have hv : v = 0 ∨ v = 1 ∨ v = 2 := by omega
      rcases hv with rfl | rfl | rfl <;> simp [TLang.txt, TLang.txts, nodeTxt, branT, byte, rdB]
    · obtain ⟨a, rfl⟩ := len1 (by rw [h6]; rcases hk with rfl | rfl | rfl | rfl | rfl <;> simp)
      obtain rfl : v = 0 := by rw [if_neg (by omega)] at h5; omega
      have := ih a r (h7 a (by simp))
      rcases hk with rfl | rfl | rfl | rfl | rfl
      all_goals
        simp [TLang.txt, TLang.txts, nodeTxt, branT, rdB, rdB2]
        exact oneWith_txt this
    · obtain ⟨a, b, rfl⟩ := len2 (by rw [h6]; rcases hk with rfl | rfl | rfl | rfl <;> simp)
      obtain rfl : v = 0 := by rw [if_neg (by omega)] at h5; omega
      rcases hk with rfl | rfl | rfl | rfl
      all_goals
        simp [TLang.txt, TLang.txts, nodeTxt, branT, rdB, rdB2]
        exact pairWith_txt (ih a _ (h7 a (by simp))) (by simp [branOp]) (ih b _ (h7 b (by simp)))

theorem exprT_inj {n : Nat} {t u : Tr} (ht : exprL.shape t n = true) (hu : exprL.shape u n = true) (h : exprT.txt t = exprT.txt u) : t = u := by
  have h1 := rdE_txt 51 (by decide) (by decide) n t [] ht
  have h2 := rdE_txt 51 (by decide) (by decide) n u [] hu
  rw [h, h2] at h1
  simpa using h1.symm
theorem formT_inj {n : Nat} {t u : Tr} (ht : formL.shape t n = true) (hu : formL.shape u n = true) (h : formT.txt t = formT.txt u) : t = u := by
  have h1 := rdF_txt n t [] ht
  have h2 := rdF_txt n u [] hu
  rw [h, h2] at h1
  simpa using h1.symm
theorem branT_inj {n : Nat} {t u : Tr} (ht : branL.shape t n = true) (hu : branL.shape u n = true) (h : branT.txt t = branT.txt u) : t = u := by
  have h1 := rdB_txt n t [] ht
  have h2 := rdB_txt n u [] hu
  rw [h, h2] at h1
  simpa using h1.symm

/-! ### what is read was written -/
theorem oneWith_back {L : TLang} {rd : List UInt8 → Option (Tr × List UInt8)} {k : Int} {s r p : List UInt8} {t : Tr} (h : oneWith rd k s = some (t, r)) (ih : ∀ s t r, rd s = some (t, r) → s = L.txt t ++ r) (hp : L.pre k 0 = p) : p ++ s = L.txt t ++ r ∧ ∃ a r', rd s = some (a, r') ∧ t = .mk k 0 [a] := by
  unfold oneWith at h
  split at h
  · rename_i a r' hr
    simp at h
    obtain ⟨rfl, rfl⟩ := h
    have := ih _ _ _ hr
    refine ⟨?_, a, r', hr, rfl⟩
    rw [this]
    simp [TLang.txt, TLang.txts, nodeTxt, hp]
  · cases h
theorem pairWith_back {L : TLang} {rd : List UInt8 → Option (Tr × List UInt8)} {op : UInt8 → Option Int} {s r p : List UInt8} {t : Tr} (h : pairWith rd op s = some (t, r)) (ih : ∀ s t r, rd s = some (t, r) → s = L.txt t ++ r)
    (hp : ∀ o k, op o = some k → L.pre k 0 = p ∧ L.mid k = [o]) : p ++ s = L.txt t ++ r ∧ ∃ k a b s1 r1 s2 r2 o, op o = some k ∧ rd s1 = some (a, r1) ∧ rd s2 = some (b, r2) ∧ t = .mk k 0 [a, b] := by
  unfold pairWith at h
  split at h
  · rename_i a o r1 ha
    split at h
    · rename_i k hk
      split at h
      · rename_i b c r2 hb
        split at h
        · rename_i hc
          simp at h
          obtain ⟨rfl, rfl⟩ := h
          obtain ⟨h1, h2⟩ := hp o k hk
          refine ⟨?_, k, a, b, s, _, r1, _, o, hk, ha, hb, rfl⟩
          rw [ih _ _ _ ha, ih _ _ _ hb, hc]
          simp [TLang.txt, TLang.txts, nodeTxt, h1, h2]
        · cases h
      · cases h
    · cases h
  · cases h
theorem byte_back (c : UInt8) (b : Nat) (h : b ≤ c.toNat) : byte ((b : Int) + ((c.toNat : Int) - b)) = c := by
  rw [show (b : Int) + ((c.toNat : Int) - b) = (c.toNat : Int) by omega]
  simp [byte]

theorem exprOp_pre {o : UInt8} {k : Int} (h : exprOp o = some k) : exprT.pre k 0 = [40] ∧ exprT.mid k = [o] ∧ 4 ≤ k ∧ k ≤ 9 := by
  unfold exprOp at h
  repeat' split at h
  all_goals (first | cases h; done | (rename_i hc; subst hc; simp at h; subst h; simp [exprT]))
theorem formUn_pre {o : UInt8} {k : Int} (h : formUn o = some k) : formT.pre k 0 = [o] ∧ (k = 3 ∨ k = 6 ∨ k = 9 ∨ k = 10) := by
  unfold formUn at h
  repeat' split at h
  all_goals (first | cases h; done | (rename_i hc; subst hc; simp at h; subst h; simp [formT]))
theorem formOp_pre {o : UInt8} {k : Int} (h : formOp o = some k) : formT.pre k 0 = [40] ∧ formT.mid k = [o] ∧ (k = 4 ∨ k = 5 ∨ k = 7 ∨ k = 8) := by
  unfold formOp at h
  repeat' split at h
  all_goals (first | cases h; done | (rename_i hc; subst hc; simp at h; subst h; simp [formT]))
theorem branOp_pre {o : UInt8} {k : Int} (h : branOp o = some k) : branT.pre k 0 = [40] ∧ branT.mid k = [o] ∧ (k = 4 ∨ k = 5) := by
  unfold branOp at h
  repeat' split at h
  all_goals (first | cases h; done | (rename_i hc; subst hc; simp at h; subst h; simp [branT]))

theorem rdE_back (top : UInt8) : ∀ (n : Nat) (s : List UInt8) (t : Tr) (r : List UInt8), rdE top n s = some (t, r) → s = exprT.txt t ++ r := by
  intro n
  induction n with
  | zero => intro s t r h; simp [rdE] at h
  | succ n ih =>
    intro s t r h
    match s, h with
    | [], h => simp [rdE] at h
    | c :: s, h =>
      simp only [rdE] at h
      split at h
      · rename_i hc
        simp at h
        obtain ⟨rfl, rfl⟩ := h
        have := byte_back c 48 (by have := UInt8.le_iff_toNat_le.1 hc.1; simpa using this)
        simp [TLang.txt, TLang.txts, nodeTxt, exprT]
        exact this.symm
      · split at h
        · rename_i hc
          simp at h
          obtain ⟨rfl, rfl⟩ := h
          have := byte_back c 120 (by have := UInt8.le_iff_toNat_le.1 hc.1; simpa using this)
          simp [TLang.txt, TLang.txts, nodeTxt, exprT]
          exact this.symm
        · split at h
          · rename_i hc
            rw [hc]
            exact (oneWith_back (L := exprT) (p := [33]) h (fun s t r h => ih s t r h) (by simp [exprT])).1
          · split at h
            · rename_i hc
              rw [hc]
              refine (pairWith_back (L := exprT) (p := [40]) h (fun s t r h => ih s t r h) ?_).1
              intro o k ho
              exact ⟨(exprOp_pre ho).1, (exprOp_pre ho).2.1⟩
            · cases h

theorem rdF_back : ∀ (n : Nat) (s : List UInt8) (t : Tr) (r : List UInt8), rdF n s = some (t, r) → s = formT.txt t ++ r := by
  intro n
  induction n with
  | zero => intro s t r h; simp [rdF] at h
  | succ n ih =>
    intro s t r h
    match s, h with
    | [], h => simp [rdF] at h
    | c :: s, h =>
      simp only [rdF] at h
      split at h
      · rename_i hc
        simp at h
        obtain ⟨rfl, rfl⟩ := h
        simp [TLang.txt, TLang.txts, nodeTxt, formT, hc]
      · split at h
        · rename_i hc
          simp at h
          obtain ⟨rfl, rfl⟩ := h
          have := byte_back c 112 (by have := UInt8.le_iff_toNat_le.1 hc.1; simpa using this)
          simp [TLang.txt, TLang.txts, nodeTxt, formT]
          exact this.symm
        · split at h
          · rename_i k hk
            refine (oneWith_back (L := formT) (p := [c]) h (fun s t r h => ih s t r h) ?_).1
            exact (formUn_pre hk).1
          · split at h
            · rename_i hc
              rw [hc]
              refine (pairWith_back (L := formT) (p := [40]) h (fun s t r h => ih s t r h) ?_).1
              intro o k ho
              exact ⟨(formOp_pre ho).1, (formOp_pre ho).2.1⟩
            · cases h

theorem rdB2_back {rd : List UInt8 → Option (Tr × List UInt8)} {k : Int} {c : UInt8} (hk : (k = 6 ∧ c = 69) ∨ (k = 9 ∧ c = 65)) {s r : List UInt8} {t : Tr} (h : rdB2 rd k s = some (t, r)) (ih : ∀ s t r, rd s = some (t, r) → s = branT.txt t ++ r) : c :: s = branT.txt t ++ r := by
  match s, h with
  | [], h => simp [rdB2] at h
  | d :: s, h =>
    simp only [rdB2] at h
    split at h
    · rename_i hd
      rw [hd]
      exact (oneWith_back (L := branT) (p := [c, 88]) h ih (by rcases hk with ⟨rfl, rfl⟩ | ⟨rfl, rfl⟩ <;> simp [branT])).1
    · split at h
      · rename_i hd
        rw [hd]
        refine (pairWith_back (L := branT) (p := [c, 40]) h ih ?_).1
        intro o k' ho
        simp at ho
        obtain ⟨rfl, rfl⟩ := ho
        rcases hk with ⟨rfl, rfl⟩ | ⟨rfl, rfl⟩ <;> simp [branT]
      · split at h
        · rename_i hd
          rw [hd]
          exact (oneWith_back (L := branT) (p := [c, 71]) h ih (by rcases hk with ⟨rfl, rfl⟩ | ⟨rfl, rfl⟩ <;> simp [branT])).1
        · cases h

theorem rdB_back : ∀ (n : Nat) (s : List UInt8) (t : Tr) (r : List UInt8), rdB n s = some (t, r) → s = branT.txt t ++ r := by
  intro n
  induction n with
  | zero => intro s t r h; simp [rdB] at h
  | succ n ih =>
    intro s t r h
    match s, h with
    | [], h => simp [rdB] at h
    | c :: s, h =>
      simp only [rdB] at h
      split at h
      · rename_i hc
        simp at h
        obtain ⟨rfl, rfl⟩ := h
        simp [TLang.txt, TLang.txts, nodeTxt, branT, hc]
      · split at h
        · rename_i hc
          simp at h
          obtain ⟨rfl, rfl⟩ := h
          have := byte_back c 112 (by have := UInt8.le_iff_toNat_le.1 hc.1; simpa using this)
          simp [TLang.txt, TLang.txts, nodeTxt, branT]
          exact this.symm
        · split at h
          · rename_i hc
            rw [hc]
            exact (oneWith_back (L := branT) (p := [33]) h (fun s t r h => ih s t r h) (by simp [branT])).1
          · split at h
            · rename_i hc
              rw [hc]
              refine (pairWith_back (L := branT) (p := [40]) h (fun s t r h => ih s t r h) ?_).1
              intro o k ho
              exact ⟨(branOp_pre ho).1, (branOp_pre ho).2.1⟩
            · split at h
              · rename_i hc
                rw [hc]
                exact rdB2_back (.inl ⟨rfl, rfl⟩) h (fun s t r h => ih s t r h)
              · split at h
                · rename_i hc
                  rw [hc]
                  exact rdB2_back (.inr ⟨rfl, rfl⟩) h (fun s t r h => ih s t r h)
                · cases h

end Go.Proofs.Ytfemikebklmlpaa
