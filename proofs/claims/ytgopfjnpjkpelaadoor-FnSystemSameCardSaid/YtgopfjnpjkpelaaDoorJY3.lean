/- Joined texts (ValidPlain, OwnPlain, CellsOwn, ConcatI, CloneI, PairReg, EdgeRow): contracts and plain laws. Conditions: those of each theorem. -/
import Derived.Test.YtgopfjnpjkpelaaDoorJY0
import Derived.Test.YtgopfjnpjkpelaaDoorJY2
import Derived.Test.YtgopfjnpjkpelaaDoorJY1
import Derived.Lib.SliceRun
import Derived.Maps.AppendAt
set_option linter.unusedVariables false
set_option linter.unusedSimpArgs false
namespace Go.Proofs.YtgopfjnpjkpelaaDoor

/-- a language of trees: the kinds 1 to K, how many operands a kind has, how great its number may be, how many nodes a tree may have -/
structure Lang where
  K : Int
  ar : Int → Int
  most : Int → Int
  N : Int

namespace Lang
variable (L : Lang)

/-- a node that is well made by itself -/
def okB (k v : Int) (n : Nat) : Bool := decide (1 ≤ k ∧ k ≤ L.K) && (decide (0 ≤ v ∧ v ≤ L.most k) && decide ((n : Int) = L.ar k))

theorem okB_iff {k v : Int} {n : Nat} : L.okB k v n = true ↔ (1 ≤ k ∧ k ≤ L.K) ∧ (0 ≤ v ∧ v ≤ L.most k) ∧ (n : Int) = L.ar k := by
  simp only [okB, Bool.and_eq_true, decide_eq_true_eq]

theorem okB_no {k v : Int} {n : Nat} (h : ¬((1 ≤ k ∧ k ≤ L.K) ∧ (0 ≤ v ∧ v ≤ L.most k) ∧ (n : Int) = L.ar k)) : L.okB k v n = false := by
  rw [Bool.eq_false_iff, ne_eq, okB_iff]; exact h

mutual
/-- is every node well made, down to a depth -/
def shape : Tr → Int → Bool
  | .mk k v kids, d => decide (1 ≤ d) && (L.okB k v kids.length && shapeL kids (d - 1))
def shapeL : List Tr → Int → Bool
  | [], _ => true
  | t :: ts, d => shape t d && shapeL ts d
end
end Lang

mutual
/-- how many nodes a tree has -/
def nodes : Tr → Int
  | .mk _ _ kids => 1 + nodesL kids
def nodesL : List Tr → Int
  | [] => 0
  | t :: ts => nodes t + nodesL ts
end

mutual
theorem nodes_pos : ∀ t, 1 ≤ nodes t
  | .mk _ _ kids => by simp only [nodes]; have := nodesL_pos kids; omega
theorem nodesL_pos : ∀ l, 0 ≤ nodesL l
  | [] => by simp [nodesL]
  | t :: ts => by simp only [nodesL]; have := nodes_pos t; have := nodesL_pos ts; omega
end

namespace Lang
variable (L : Lang)

/-- a valid tree -/
def valid (t : Tr) : Bool := L.shape t 6 && decide (nodes t ≤ L.N)

mutual
/-- the walk that counts as it goes: whether all is well so far, and the count -/
def wk : Tr → Int → Int → Bool × Int
  | .mk k v kids, d, n => if 6 < d ∨ L.N < n + 1 ∨ L.okB k v kids.length = false then (false, n + 1) else wkL kids (d + 1) (n + 1)
def wkL : List Tr → Int → Int → Bool × Int
  | [], _, n => (true, n)
  | t :: ts, d, n => if (wk t d n).1 = true then wkL ts d (wk t d n).2 else (false, (wk t d n).2)
end

mutual
theorem wk_true : ∀ (t : Tr) (d n : Int), (L.wk t d n).1 = true ↔ (L.shape t (7 - d) = true ∧ n + nodes t ≤ L.N)
  | .mk k v kids, d, n => by
    simp only [wk, shape, nodes]
    have hp := nodesL_pos kids
    by_cases h1 : 6 < d
    · rw [if_pos (.inl h1)]; simp; omega
    by_cases h2 : L.N < n + 1
    · rw [if_pos (.inr (.inl h2))]; simp; omega
    cases h3 : L.okB k v kids.length with
    | false => rw [if_pos (.inr (.inr rfl))]; simp
    | true =>
      rw [if_neg (by simp [h1, h2]), wkL_true kids (d + 1) (n + 1) (by omega), show 7 - (d + 1) = 7 - d - 1 by omega]
      have : (1 : Int) ≤ 7 - d := by omega
      simp [this]
      omega
theorem wkL_true : ∀ (l : List Tr) (d n : Int), n ≤ L.N → ((L.wkL l d n).1 = true ↔ (L.shapeL l (7 - d) = true ∧ n + nodesL l ≤ L.N))
  | [], d, n, hn => by simp [wkL, shapeL, nodesL, hn]
  | t :: ts, d, n, hn => by
    simp only [wkL, shapeL, nodesL]
    have ht := wk_true t d n
    have hp := nodesL_pos ts
    by_cases h : (L.wk t d n).1 = true
    · rw [if_pos h]
      have h' := ht.1 h
      rw [wk_count t d n h, wkL_true ts d _ h'.2, Bool.and_eq_true]
      constructor
      · rintro ⟨a, b⟩; exact ⟨⟨h'.1, a⟩, by omega⟩
      · rintro ⟨⟨_, b⟩, c⟩; exact ⟨b, by omega⟩
    · rw [if_neg h]
      simp only [Bool.and_eq_true, Bool.false_eq_true, false_iff]
      rintro ⟨⟨a, _⟩, c⟩
      exact h (ht.2 ⟨a, by omega⟩)
theorem wk_count : ∀ (t : Tr) (d n : Int), (L.wk t d n).1 = true → (L.wk t d n).2 = n + nodes t
  | .mk k v kids, d, n, h => by
    simp only [wk, nodes] at h ⊢
    split at h
    · simp at h
    · rename_i hc
      rw [if_neg hc, wkL_count kids _ _ h]; omega
theorem wkL_count : ∀ (l : List Tr) (d n : Int), (L.wkL l d n).1 = true → (L.wkL l d n).2 = n + nodesL l
  | [], d, n, _ => by simp [wkL, nodesL]
  | t :: ts, d, n, h => by
    simp only [wkL, nodesL] at h ⊢
    split at h
    · rename_i hc
      rw [if_pos hc, wkL_count ts _ _ h, wk_count t d n hc]; omega
    · simp at h
end

mutual
theorem wk_bd : ∀ (t : Tr) (d n : Int), n ≤ L.N → n < (L.wk t d n).2 ∧ (L.wk t d n).2 ≤ L.N + 1 ∧ ((L.wk t d n).1 = true → (L.wk t d n).2 ≤ L.N)
  | .mk k v kids, d, n, hn => by
    simp only [wk]
    split
    · simp; omega
    · rename_i hc
      have := wkL_bd kids (d + 1) (n + 1) (by omega)
      refine ⟨by omega, by omega, this.2.2⟩
theorem wkL_bd : ∀ (l : List Tr) (d n : Int), n ≤ L.N → n ≤ (L.wkL l d n).2 ∧ (L.wkL l d n).2 ≤ L.N + 1 ∧ ((L.wkL l d n).1 = true → (L.wkL l d n).2 ≤ L.N)
  | [], d, n, hn => by simp only [wkL]; omega
  | t :: ts, d, n, hn => by
    simp only [wkL]
    have h1 := wk_bd t d n hn
    split
    · rename_i hc
      have h2 := wkL_bd ts d _ (h1.2.2 hc)
      refine ⟨by omega, h2.2.1, h2.2.2⟩
    · simp; omega
end

theorem wk_valid (t : Tr) : (L.wk t 1 0).1 = L.valid t := by
  rw [Bool.eq_iff_iff, wk_true, valid, Bool.and_eq_true, decide_eq_true_eq]
  simp

/-- how many nodes a valid tree has; 0 for others -/
def size (t : Tr) : Int := if L.valid t = true then nodes t else 0

theorem size_wk (t : Tr) : L.size t = if (L.wk t 1 0).1 = true then (L.wk t 1 0).2 else 0 := by
  rw [size, ← wk_valid]
  split
  · rename_i h; rw [wk_count L t 1 0 h]; omega
  · rfl

theorem valid_size (t : Tr) : L.valid t = decide (0 < L.size t) := by
  rw [size]
  cases h : L.valid t
  · simp
  · have := nodes_pos t
    simp; omega

theorem size_bd (t : Tr) (h : 0 ≤ L.N) : 0 ≤ L.size t ∧ L.size t ≤ L.N := by
  rw [size]
  split
  · rename_i hv
    have := nodes_pos t
    rw [valid, Bool.and_eq_true, decide_eq_true_eq] at hv
    omega
  · omega

end Lang

/-! ### the count down to a depth -/
mutual
def cnt : Tr → Int → Int
  | .mk _ _ kids, d => 1 + if 0 < d then cntL kids (d - 1) else 0
def cntL : List Tr → Int → Int
  | [], _ => 0
  | t :: ts, d => cnt t d + cntL ts d
end
mutual
theorem cnt_pos : ∀ (t : Tr) (d : Int), 1 ≤ cnt t d
  | .mk k v kids, d => by simp only [cnt]; split <;> (have := cntL_pos kids (d - 1); omega)
theorem cntL_pos : ∀ (l : List Tr) (d : Int), 0 ≤ cntL l d
  | [], d => by simp [cntL]
  | t :: ts, d => by simp only [cntL]; have := cnt_pos t d; have := cntL_pos ts d; omega
end
mutual
theorem cnt_le_nodes : ∀ (t : Tr) (d : Int), cnt t d ≤ nodes t
  | .mk k v kids, d => by simp only [cnt, nodes]; have := nodesL_pos kids; split <;> (have := cnt_le_nodesL kids (d - 1); omega)
theorem cnt_le_nodesL : ∀ (l : List Tr) (d : Int), cntL l d ≤ nodesL l
  | [], d => by simp [cntL, nodesL]
  | t :: ts, d => by simp only [cntL, nodesL]; have := cnt_le_nodes t d; have := cnt_le_nodesL ts d; omega
end
theorem nodes_mem {t : Tr} : ∀ {l : List Tr}, t ∈ l → nodes t ≤ nodesL l := by
  intro l
  induction l with
  | nil => intro h; cases h
  | cons u us ih =>
    intro h
    simp only [nodesL]
    have h1 := nodes_pos u
    have h2 := nodesL_pos us
    cases h with
    | head => omega
    | tail _ h => have := ih h; omega
namespace Lang
variable (L : Lang)
mutual
theorem cnt_shape : ∀ (t : Tr) (d : Int), L.shape t d = true → cnt t d = nodes t
  | .mk k v kids, d, h => by
    simp only [shape, Bool.and_eq_true, decide_eq_true_eq] at h
    simp only [cnt, nodes]
    rw [if_pos (by omega), cntL_shape kids (d - 1) h.2.2]
theorem cntL_shape : ∀ (l : List Tr) (d : Int), L.shapeL l d = true → cntL l d = nodesL l
  | [], d, _ => by simp [cntL, nodesL]
  | t :: ts, d, h => by
    simp only [shapeL, Bool.and_eq_true] at h
    simp only [cntL, nodesL]
    rw [cnt_shape t d h.1, cntL_shape ts d h.2]
end

/-- of a language whose nodes have at most two operands: how many nodes there can be -/
def cap : Nat → Int | 0 => 0 | n + 1 => 1 + 2 * cap n
theorem cap6 : cap 6 = 63 := by decide
theorem cap_pos : ∀ n, 0 ≤ cap n | 0 => by simp [cap] | n + 1 => by have := cap_pos n; simp only [cap]; omega
mutual
theorem nodes_cap (h2 : ∀ k, L.ar k ≤ 2) : ∀ (t : Tr) (d : Nat), L.shape t d = true → nodes t ≤ cap d
  | .mk k v kids, d, h => by
    simp only [shape, Bool.and_eq_true, decide_eq_true_eq, okB] at h
    obtain ⟨h1, ⟨_, _, hk⟩, hs⟩ := h
    have hk2 := h2 k
    cases d with
    | zero => omega
    | succ d =>
      simp only [nodes, cap]
      have := nodesL_cap h2 kids d (by rw [show ((d + 1 : Nat) : Int) - 1 = d by omega] at hs; exact hs)
      have hc := cap_pos d
      have : (kids.length : Int) * cap d ≤ 2 * cap d := Int.mul_le_mul_of_nonneg_right (by omega) hc
      omega
theorem nodesL_cap (h2 : ∀ k, L.ar k ≤ 2) : ∀ (l : List Tr) (d : Nat), L.shapeL l d = true → nodesL l ≤ l.length * cap d
  | [], d, _ => by simp [nodesL]
  | t :: ts, d, h => by
    simp only [shapeL, Bool.and_eq_true] at h
    have h3 := nodes_cap h2 t d h.1
    have h4 := nodesL_cap h2 ts d h.2
    simp only [nodesL, List.length_cons]
    have : ((ts.length + 1 : Nat) : Int) * cap d = ts.length * cap d + cap d := by rw [Int.natCast_add, Int.add_mul]; simp
    omega
end

/-- the reference's way to ask -/
theorem valid_cnt (t : Tr) : L.valid t = (L.shape t 6 && decide (cnt t 6 ≤ L.N)) := by
  rw [valid]
  cases h : L.shape t 6
  · simp
  · rw [cnt_shape L t 6 h]
end Lang

/-- expressions -/
def exprL : Lang where
  K := 9
  ar k := if k = 1 ∨ k = 2 then 0 else if k = 3 then 1 else 2
  most k := if k = 1 then 3 else if k = 2 then 2 else 0
  N := 15
theorem exprL_K : exprL.K = 9 := rfl
theorem exprL_N : exprL.N = 15 := rfl
theorem exprL_ar (k : Int) : exprL.ar k = if k = 1 ∨ k = 2 then 0 else if k = 3 then 1 else 2 := rfl
theorem exprL_most (k : Int) : exprL.most k = if k = 1 then 3 else if k = 2 then 2 else 0 := rfl
/-- formulas of linear temporal logic -/
def formL : Lang where
  K := 10
  ar k := if k = 1 ∨ k = 2 then 0 else if k = 4 ∨ k = 5 ∨ k = 7 ∨ k = 8 then 2 else 1
  most k := if k = 2 then 2 else 0
  N := 12
theorem formL_K : formL.K = 10 := rfl
theorem formL_N : formL.N = 12 := rfl
theorem formL_ar (k : Int) : formL.ar k = if k = 1 ∨ k = 2 then 0 else if k = 4 ∨ k = 5 ∨ k = 7 ∨ k = 8 then 2 else 1 := rfl
theorem formL_most (k : Int) : formL.most k = if k = 2 then 2 else 0 := rfl
/-- branching-time formulas -/
def branL : Lang where
  K := 11
  ar k := if k = 1 ∨ k = 2 then 0 else if k = 4 ∨ k = 5 ∨ k = 7 ∨ k = 10 then 2 else 1
  most k := if k = 2 then 2 else 0
  N := 12
theorem exprL_two (k : Int) : exprL.ar k ≤ 2 := by rw [exprL_ar]; split <;> (try split) <;> omega
theorem formL_two (k : Int) : formL.ar k ≤ 2 := by rw [formL_ar]; split <;> (try split) <;> omega
theorem branL_two (k : Int) : branL.ar k ≤ 2 := by unfold branL; simp only []; split <;> (try split) <;> omega
theorem branL_K : branL.K = 11 := rfl
theorem branL_N : branL.N = 12 := rfl
theorem branL_ar (k : Int) : branL.ar k = if k = 1 ∨ k = 2 then 0 else if k = 4 ∨ k = 5 ∨ k = 7 ∨ k = 10 then 2 else 1 := rfl
theorem branL_most (k : Int) : branL.most k = if k = 2 then 2 else 0 := rfl

end Go.Proofs.YtgopfjnpjkpelaaDoor
namespace Go.Proofs.YtgopfjnpjkpelaaDoor
open Go.RowKit

/-- all blocks but those of a list are kept -/
structure Only (S : List Nat) (w w' : World) : Prop where
  os : w'.os = w.os
  tape : w'.tape = w.tape
  output : w'.output = w.output
  size : w.heap.size ≤ w'.heap.size
  block : ∀ b, b < w.heap.size → b ∉ S → w'.heap[b]? = w.heap[b]?
theorem Only.refl (S : List Nat) (w : World) : Only S w w := ⟨rfl, rfl, rfl, Nat.le_refl _, fun _ _ _ => rfl⟩
theorem Only.trans {S : List Nat} {a b c : World} (h : Only S a b) (k : Only S b c) : Only S a c :=
  ⟨k.os.trans h.os, k.tape.trans h.tape, k.output.trans h.output, Nat.le_trans h.size k.size, fun i hi hd => (k.block i (Nat.lt_of_lt_of_le hi h.size) hd).trans (h.block i hi hd)⟩
theorem Only.mono {S S' : List Nat} {w w' : World} (h : Only S w w') (hs : ∀ b, b ∈ S → b ∈ S') : Only S' w w' := ⟨h.os, h.tape, h.output, h.size, fun b hb hn => h.block b hb (fun e => hn (hs b e))⟩
theorem Only.below {S : List Nat} {w w' : World} (h : Below w.heap.size w w') : Only S w w' := ⟨h.os, h.tape, h.output, h.size, fun b hb _ => h.block b hb⟩
theorem Only.set {S : List Nat} {w w' : World} (h : Only S w w') {a : Addr} (ha : a.block ∈ S) (v : Value) : Only S w (w'.setCell a v) :=
  ⟨h.os, h.tape, h.output, by simpa using h.size, fun b hb hn => by rw [Below.heap_setCell _ _ _ _ (show b ≠ a.block from fun e => hn (by rw [e]; exact ha))]; exact h.block b hb hn⟩
/-- the blocks are new since an older world -/
theorem Only.new {S : List Nat} {w W W' : World} (h : Only S W W') (hb : Below w.heap.size w W) (hs : ∀ b, b ∈ S → w.heap.size ≤ b) : Below w.heap.size w W' :=
  hb.trans ⟨h.os, h.tape, h.output, h.size, fun k hk => h.block k (Nat.lt_of_lt_of_le hk hb.size) (fun e => by have := hs k e; omega)⟩
theorem TrOwn_only {S : List Nat} {w w' : World} (h : Only S w w') {t : Tr} {x : Value} {bs : List Nat} (hx : TrOwn w t x bs) (hd : ∀ b, b ∈ bs → b ∉ S) : TrOwn w' t x bs :=
  (TrOwn_frame h.size).1 t x bs hx fun b hb => h.block b (TrOwn_lt.1 t x bs hx b hb) (hd b hb)

/-- a row of nodes, each in blocks of its own -/
def RowOf (w : World) (l : List Tr) (a : Option Addr) (bs : List Nat) : Prop :=
  (l = [] ∧ bs = []) ∨ ∃ R f r, a = some ⟨R, 0, none⟩ ∧ bs = R :: r ∧ R ∉ r ∧ Row w R (l.length * 3) f ∧ TrsOwn w f l 0 r

theorem TrOwn_row {w : World} {k v : Int} {kids : List Tr} {x : Value} {bs : List Nat} (h : TrOwn w (.mk k v kids) x bs) :
    ∃ a c, x = .agg #[.int .i64 k, .int .i64 v, .slice a kids.length c] ∧ i64 k ∧ i64 v ∧ kids.length ≤ c ∧ c ≤ maxLen ∧ RowOf w kids a bs := (TrOwn_mk ..).1 h
theorem row_TrOwn {w : World} {k v : Int} {kids : List Tr} {a : Option Addr} {c : Nat} {bs : List Nat} (h1 : i64 k) (h2 : i64 v) (h3 : kids.length ≤ c) (h4 : c ≤ maxLen) (h : RowOf w kids a bs) :
    TrOwn w (.mk k v kids) (.agg #[.int .i64 k, .int .i64 v, .slice a kids.length c]) bs := (TrOwn_mk ..).2 ⟨a, c, rfl, h1, h2, h3, h4, h⟩

/-- A NODE OF A ROW, AND WHAT MAY STAND IN ITS PLACE -/
theorem TrsOwn_replace {w : World} {f : Nat → Value} {t : Tr} : ∀ (l1 : List Tr) (l2 : List Tr) (o : Nat) (bs : List Nat), TrsOwn w f (l1 ++ t :: l2) o bs →
    ∃ r, (∀ b, b ∈ r → b ∈ bs) ∧ TrOwn w t (.agg #[f (o + l1.length * 3), f (o + l1.length * 3 + 1), f (o + l1.length * 3 + 2)]) r ∧
      ∀ (w' : World) (f' : Nat → Value) (t' : Tr), w.heap.size ≤ w'.heap.size → (∀ b, b ∈ bs → b ∉ r → w'.heap[b]? = w.heap[b]?) → (∀ i, i < o + l1.length * 3 ∨ o + l1.length * 3 + 3 ≤ i → f' i = f i) →
        TrOwn w' t' (.agg #[f' (o + l1.length * 3), f' (o + l1.length * 3 + 1), f' (o + l1.length * 3 + 2)]) r → TrsOwn w' f' (l1 ++ t' :: l2) o bs := by
  intro l1
  induction l1 with
  | nil =>
    intro l2 o bs h
    rw [List.nil_append, TrsOwn_cons] at h
    obtain ⟨r1, r2, rfl, hd, h1, h2⟩ := h
    refine ⟨r1, fun b hb => by simp [hb], by simpa using h1, fun w' f' t' hs hk hf ht => ?_⟩
    rw [List.nil_append, TrsOwn_cons]
    refine ⟨r1, r2, rfl, hd, by simpa using ht, ?_⟩
    refine (TrOwn_frame hs).2 _ _ _ _ (TrsOwn_congr h2 fun i hi _ => ?_) fun b hb => hk b (by simp [hb]) (fun e => hd b e hb)
    exact (hf i (.inr (by simpa using hi))).symm
  | cons u us ih =>
    intro l2 o bs h
    rw [List.cons_append, TrsOwn_cons] at h
    obtain ⟨r1, r2, rfl, hd, h1, h2⟩ := h
    obtain ⟨r, hr, hT, hrep⟩ := ih l2 (o + 3) r2 h2
    have e : o + 3 + us.length * 3 = o + (u :: us).length * 3 := by simp; omega
    rw [e] at hT hrep
    refine ⟨r, fun b hb => by simp [hr b hb], hT, fun w' f' t' hs hk hf ht => ?_⟩
    rw [List.cons_append, TrsOwn_cons]
    refine ⟨r1, r2, rfl, hd, ?_, hrep w' f' t' hs (fun b hb hn => hk b (by simp [hb]) hn) (fun i hi => hf i (by omega)) ht⟩
    have hl : ∀ i, i < 3 → f' (o + i) = f (o + i) := fun i hi => hf _ (.inl (by simp; omega))
    have h0 := hl 0 (by omega)
    rw [Nat.add_zero] at h0
    rw [h0, hl 1 (by omega), hl 2 (by omega)]
    exact (TrOwn_frame hs).1 _ _ _ h1 fun b hb => hk b (by simp [hb]) (fun e => hd b hb (hr b e))

mutual
/-- the nodes below, numbered from k on -/
def markT : Tr → Int → Tr | .mk a b kids, k => .mk a b (markL kids k)
def markL : List Tr → Int → List Tr
  | [], _ => []
  | t :: ts, k => markN t k :: markL ts (k + 2 * nodes t)
/-- a node and those below -/
def markN : Tr → Int → Tr | .mk _ _ kids, k => .mk k (k + 1) (markL kids (k + 2))
end
theorem markL_len : ∀ (l : List Tr) (k : Int), (markL l k).length = l.length
  | [], _ => by simp [markL]
  | t :: ts, k => by simp [markL, markL_len ts]

end Go.Proofs.YtgopfjnpjkpelaaDoor
namespace Go.Proofs.YtgopfjnpjkpelaaDoor
open Go.RowKit

/-- a row of values in a block of its own -/
def OwnV (l : List Value) (a : Option Addr) (bs : List Nat) (w : World) : Prop := (l = [] ∧ bs = []) ∨ ∃ R, a = some ⟨R, 0, none⟩ ∧ bs = [R] ∧ Row w R l.length (fun i => l.getD i undef)
theorem OwnV.frame {l : List Value} {a : Option Addr} {bs : List Nat} {w w' : World} (h : OwnV l a bs w) (hs : w.heap.size ≤ w'.heap.size) (hb : ∀ b, b ∈ bs → b < w.heap.size → w'.heap[b]? = w.heap[b]?) : OwnV l a bs w' := by
  rcases h with h | ⟨R, rfl, rfl, hr⟩
  · exact .inl h
  · exact .inr ⟨R, rfl, rfl, hr.kept hs (hb R (by simp) hr.1)⟩
theorem OwnV.below {l : List Value} {a : Option Addr} {bs : List Nat} {w w' : World} (h : OwnV l a bs w) (hb : Below w.heap.size w w') : OwnV l a bs w' := h.frame hb.size fun b _ hl => hb.block b hl
theorem OwnV.only {S : List Nat} {l : List Value} {a : Option Addr} {bs : List Nat} {w w' : World} (h : OwnV l a bs w) (ho : Only S w w') (hd : ∀ b, b ∈ bs → b ∉ S) : OwnV l a bs w' := h.frame ho.size fun b hb hl => ho.block b hl (hd b hb)
theorem OwnV.lt {l : List Value} {a : Option Addr} {bs : List Nat} {w : World} (h : OwnV l a bs w) : ∀ b, b ∈ bs → b < w.heap.size := by
  rcases h with ⟨_, rfl⟩ | ⟨R, rfl, rfl, hr⟩
  · simp
  · intro b hb; simp at hb; subst hb; exact hr.1
theorem OwnV.rowIn {l : List Value} {a : Option Addr} {bs : List Nat} {w : World} (h : OwnV l a bs w) {p : Nat → Prop} (hp : ∀ b, b ∈ bs → p b) : RowIn p w a l := by
  rcases h with ⟨rfl, _⟩ | ⟨R, rfl, rfl, hr⟩
  · exact .inl rfl
  · exact hr.rowIn (Nat.le_refl _) (fun i v hv => by simp [List.getD_eq_getElem?_getD, hv]) (hp R (by simp))
theorem OwnV.any {l : List Value} {a : Option Addr} {bs : List Nat} {w : World} (h : OwnV l a bs w) : RowIn Any w a l := h.rowIn fun _ _ => trivial

/-- a slice of values of one's own, in blocks from B on -/
def NewV (B : Nat) (l : List Value) (v : Value) (w' : World) : Prop := ∃ a c bs, v = .slice a l.length c ∧ l.length ≤ c ∧ c ≤ maxLen ∧ OwnV l a bs w' ∧ ∀ b, b ∈ bs → B ≤ b
theorem NewV.nil (B : Nat) (a : Option Addr) (c : Nat) (hc : c ≤ maxLen) (w : World) : NewV B [] (.slice a 0 c) w := ⟨a, c, [], rfl, Nat.zero_le _, hc, .inl ⟨rfl, rfl⟩, by simp⟩

/-- what mark writes into a row of n -/
def markV (M : Int → Value) (n : Nat) (k : Int) : List Value := (List.range n).map fun (i : Nat) => M (k + (i : Int))
theorem markV_len (M : Int → Value) (n : Nat) (k : Int) : (markV M n k).length = n := by simp [markV]
theorem markV_at (M : Int → Value) {n i : Nat} (k : Int) (h : i < n) : (markV M n k)[i]? = some (M (k + i)) := by simp [markV, h]
def mkB (k : Int) : Value := .bool (k % 3 == 0)
def mkI (k : Int) : Value := .int .i64 k

end Go.Proofs.YtgopfjnpjkpelaaDoor
namespace Go.Proofs.YtgopfjnpjkpelaaDoor
open Go.RowKit

/-- a row of numbers of one's own that may grow -/
def OwnI (B : Nat) (v : Value) (l : List Int) (w : World) : Prop := w.ownsRow B 3 1 v l.length (l.map (Value.int .i64))
/-- append to nil of n zeros, at the operation -/
theorem wp_app_make {ops : Array Oper} {rest : List Oper} {o : Oper} {a : Act} {Q : Exit → Act → World → Prop} {w : World} (hgd : o.guard = none) (s x : Operand)
    (ho : o.op = .call { callee := .builtin .append, args := #[s, x], argTypes := #[23, 3] }) (n : Nat) (hs : a.eval s = .slice none 0 0) (hx : a.eval x = .int .i64 n) (h0 : 0 < n) (hn : n ≤ 1000000)
    (h : ∀ c Z, n ≤ c → c ≤ maxLen → Array.size Z = c → wpList Tryd.prog ops Q rest (a.put o.dst (.slice (some ⟨w.heap.size, 0, none⟩) n c)) (w.drew.alloc (.cells Z 3))) : wpList Tryd.prog ops Q (o :: rest) a w := by
  obtain ⟨i, hi, hz, hz1, hz2⟩ := info_parts ints_info
  have e : (Builtin.append_ #[23, 3] o.type #[.slice none 0 0, .int .i64 n]).run Tryd.prog w =
      .ok (.slice (some ⟨w.heap.size, 0, none⟩) n (grownCap w n 0 3)) (w.drew.alloc (.cells (Builtin.zeroCells (Value.int .i64 0).cells n ++ Builtin.zeroCells (Value.int .i64 0).cells (grownCap w n 0 3 - n)) 3)) := by
    have k1 : n ≠ 0 := by omega
    have k2 : IntKind.i64.wrap (n : Int) = n := IntWalk.i64_in _ (by omega)
    have k3 : ¬ (9223372036854775807 < (n : Int)) := by omega
    have k4 : ¬ (281474976710656 < Builtin.nextslicecap n 0 * 8) := by rw [nextslicecap_zero h0]; omega
    have k5 : ¬ (281474976710656 < (n : Int) * 8) := by omega
    have k6 : ¬ ((n : Int) < 0) := by omega
    simp [Builtin.append_, run_underlying Tryd.underlying23, run_underlying Tryd.underlying3, sizeOf, typeInfo, zeroValue, hi, hz, hz1, hz2, asInt, asIntOf, k1, k2, k3, k4, k5, k6, Question.forced, run_firstCells_none, newRow, grownCap]
  refine wpList_plain hgd fun K hK => ?_
  unfold Oper.wp execOp
  simp only [ho, resolve, invoke, builtin, Sem.run_bind, Sem.run_pure, Result.andThen_ok, List.map_toArray, List.map_cons, List.map_nil, hs, hx, e]
  exact hK _ _ (h _ _ (grownCap_ge w _ 0 _) (grownCap_le_maxLen w _ 0 _ (by unfold maxLen; omega)) (by have := grownCap_ge w n 0 3; simp [size_zeroCells, Value.cells]; omega))
/-- append of a nil slice, at the operation -/
theorem wp_app_nil {ops : Array Oper} {rest : List Oper} {o : Oper} {a : Act} {Q : Exit → Act → World → Prop} {w : World} (hgd : o.guard = none) (s x : Operand)
    (ho : o.op = .call { callee := .builtin .append, args := #[s, x], argTypes := #[23, 23] }) (b : Option Addr) (n c : Nat) (hs : a.eval s = .slice b n c) (hx : a.eval x = .slice none 0 0) (hc : n ≤ c)
    (h : wpList Tryd.prog ops Q rest (a.put o.dst (.slice b n c)) w) : wpList Tryd.prog ops Q (o :: rest) a w := by
  obtain ⟨i, hi, hz, hz1, hz2⟩ := info_parts ints_info
  have e : (Builtin.append_ #[23, 23] o.type #[.slice b n c, .slice none 0 0]).run Tryd.prog w = .ok (.slice b n c) w := by
    cases b with
    | none => simp [Builtin.append_, run_underlying Tryd.underlying23, sizeOf, typeInfo, hi, hc, Builtin.lenOf, run_firstCells_none]
    | some ad => simp [Builtin.append_, run_underlying Tryd.underlying23, sizeOf, typeInfo, hi, hc, Builtin.lenOf, run_firstCells_none, storeCells]
  refine wpList_plain hgd fun K hK => ?_
  unfold Oper.wp execOp
  simp only [ho, resolve, invoke, builtin, Sem.run_bind, Sem.run_pure, Result.andThen_ok, List.map_toArray, List.map_cons, List.map_nil, hs, hx, e]
  exact hK _ _ h
/-- append of numbers to a row of one's own, at the operation -/
theorem wp_app_own {ops : Array Oper} {rest : List Oper} {o : Oper} {a : Act} {Q : Exit → Act → World → Prop} {w : World} (hgd : o.guard = none) (s x : Operand)
    (ho : o.op = .call { callee := .builtin .append, args := #[s, x], argTypes := #[23, 23] }) (B : Nat) (v : Value) (acc l : List Int) (ad : Option Addr) (c : Nat) (hs : a.eval s = v) (hx : a.eval x = .slice ad l.length c) (hn : ad = none → c = 0)
    (hv : OwnI B v acc w) (hB : B ≤ w.heap.size) (hl : IntsIn Any w ad l) (h1 : acc.length ≤ 1000000) (h2 : l.length ≤ 1000000)
    (h : ∀ v' w', OwnI B v' (acc ++ l) w' → w.grownBy w' v.ownBlock → wpList Tryd.prog ops Q rest (a.put o.dst v') w') :
    wpList Tryd.prog ops Q (o :: rest) a w := by
  cases ad with
  | none =>
    obtain rfl : c = 0 := hn rfl
    have hl0 : l = [] := by
      rcases hl.1 with h0 | ⟨b, o', h0, _⟩
      · simpa using h0
      · cases h0
    subst hl0
    have hsh : ∃ b n c, v = .slice b n c ∧ n ≤ c := by
      rcases hv.2 with ⟨rfl, _⟩ | ⟨g, cap, cur, rfl, _, _, hc, _⟩
      · exact ⟨_, _, _, rfl, Nat.le_refl _⟩
      · exact ⟨_, _, _, rfl, hc⟩
    obtain ⟨b, n, c, rfl, hc⟩ := hsh
    exact wp_app_nil hgd s x ho b n c hs hx hc (h _ _ (by simpa using hv) (World.grownBy.refl _ _))
  | some ad =>
    obtain ⟨ri, hi, hz, hs1, hs2⟩ := info_parts ints_info
    refine wpList_append_own_at _ hgd s x 23 ho B 3 ri (.int .i64 0) 1 8 Tryd.underlying23 hi hz hs1 hs2 rfl (by omega) v acc.length _ hs hv ad l.length c (l.map (Value.int .i64)) hx (by simp) (fun j u hj => ?_) (fun u hu => ?_) (by simp only [maxLen]; omega) (by omega) hB ?_
    · rcases hl.1 with h0 | ⟨b, o', h1, h2, h3, h4⟩
      · rw [h0] at hj; simp at hj
      · obtain rfl : ad = ⟨b, o', none⟩ := by simpa using h1
        have := h4 j u hj
        have e : Addr.add ⟨b, o', none⟩ j = ⟨b, o' + j, none⟩ := by unfold Addr.add; split <;> simp_all
        rw [e]
        exact this
    · simp at hu
      obtain ⟨n, _, rfl⟩ := hu
      rfl
    · intro v2 w3 hown hgrow _ _
      exact h v2 w3 (by unfold OwnI; rw [List.length_append, List.map_append]; exact hown) hgrow

theorem below_grown {w wr w' : World} {v : Value} {l : List Int} (hb : Below w.heap.size w wr) (hv : OwnI w.heap.size v l wr) (hg : wr.grownBy w' v.ownBlock) : Below w.heap.size w w' :=
  ⟨hg.os.trans hb.os, hg.tape.trans hb.tape, hg.output.trans hb.output, Nat.le_trans hb.size hg.size, fun k hk => by
    rw [hg.block k (Nat.lt_of_lt_of_le hk hb.size) (fun e => by have := (hv.lt k e.symm).1; omega), hb.block k hk]⟩
/-- two rows in a row of slices -/
def Two2 (w : World) (q : Nat) (a b : Option Addr) (l m : List Int) (c d : Nat) : Prop := q < w.heap.size ∧ w.cell? ⟨q, 0, none⟩ = some (.slice a l.length c) ∧ w.cell? ⟨q, 1, none⟩ = some (.slice b m.length d)
def ConPost (l : List Int) (w : World) (e : Ending) (w' : World) : Prop := ∃ v, e = .returned v ∧ OwnI w.heap.size v l w' ∧ Below w.heap.size w w'
def accL (l m : List Int) (j : Nat) : List Int := if j = 0 then [] else if j = 1 then l else l ++ m

end Go.Proofs.YtgopfjnpjkpelaaDoor
namespace Go.Proofs.YtgopfjnpjkpelaaDoor
open Go.RowKit
set_option linter.unusedVariables false

theorem OwnI.row {B : Nat} {v : Value} {l : List Int} {w : World} (h : OwnI B v l w) : (l = [] ∧ v = .slice none 0 0) ∨ ∃ g c, v = .slice (some ⟨g, 0, none⟩) l.length c ∧ B ≤ g ∧ l.length ≤ c ∧ c ≤ maxLen ∧ Row w g l.length (fun i => (l.map (Value.int .i64)).getD i undef) := by
  have h0 := h
  obtain ⟨k1, k2⟩ := h
  rcases k2 with ⟨rfl, hz⟩ | ⟨g, cap, cur, rfl, e2, e3, e4, e5, e6, e7⟩
  · exact .inl ⟨by simpa using hz, rfl⟩
  · have hg := (Array.getElem?_eq_some_iff.1 e3).1
    refine .inr ⟨g, cap, rfl, e2, e4, e5, hg, fun i hi => ?_, fun i => ?_⟩
    · have hi2 : (l.map (Value.int .i64))[i]? = some ((l.map (Value.int .i64)).getD i undef) := by rw [List.getD_eq_getElem?_getD, List.getElem?_eq_getElem (by simpa using hi)]; rfl
      have := World.ownsRow.cells h0 (g := g) rfl i _ hi2
      have e : Addr.add ⟨g, 0, none⟩ i = ⟨g, i, none⟩ := by unfold Addr.add; split <;> simp_all
      rw [e] at this
      exact this
    · simp [World.frozen?, e3]
/-- a row of numbers of one's own, as it is handed back: nil, or as long as it is wide -/
theorem OwnI.clip {B : Nat} {v : Value} {l : List Int} {w : World} (h : OwnI B v l w) (hl : l.length ≤ 1000000) : (l = [] ∧ v = .slice none 0 0) ∨ ∃ g c, v = .slice (some ⟨g, 0, none⟩) l.length c ∧ l.length ≤ c ∧ c ≤ maxLen ∧ NewV B (l.map (Value.int .i64)) (.slice (some ⟨g, 0, none⟩) l.length l.length) w := by
  rcases h.row with h | ⟨g, c, h1, h2, h3, h4, h5⟩
  · exact .inl h
  · have hlm : (l.map (Value.int .i64)).length = l.length := by simp
    exact .inr ⟨g, c, h1, h3, h4, _, l.length, [g], by rw [hlm], by rw [hlm]; exact Nat.le_refl _, by unfold maxLen; omega, .inr ⟨g, rfl, rfl, by rw [hlm]; exact h5⟩, by simpa using h2⟩

theorem OwnI.made (w : World) : OwnI w.heap.size (.slice (some ⟨w.heap.size, 0, none⟩) 0 0) [] (w.alloc (.cells #[] 3)) :=
  World.ownsRow_made (e := 3) (size := 1) (base := w.heap.size) w #[] 0 (Nat.le_refl _) (by simp) (by simp)

end Go.Proofs.YtgopfjnpjkpelaaDoor
namespace Go.Proofs.YtgopfjnpjkpelaaDoor
open Go.RowKit
set_option linter.unusedVariables false
set_option linter.unusedSimpArgs false

/-! ### one step of a tree of orders at a time -/
section
variable {P : Program} {ops : Array Oper} {Q : Exit → Act → World → Prop} {C : World → Prop} {l : List Oper}
theorem ordW_done (a : Act) (w : World) : ordW P ops Q C l .done a w = Q .normal a w := rfl
theorem ordW_one (i : Nat) (r : Ord) (a : Act) (w : World) : ordW P ops Q C l (.one i r) a w = wpList P ops (Exit.then (fun a' w' => C w' ∧ ordW P ops Q C l r a' w') Q) (pick l [i]) a w := rfl
theorem ordW_fre (i : Nat) (r : Ord) (a : Act) (w : World) : ordW P ops Q C l (.fre i r) a w = wpList P ops (Exit.then (fun a' w' => ordW P ops Q C l r a' w') Q) (pick l [i]) a w := rfl
theorem ordW_two (i j : Nat) (r s : Ord) (a : Act) (w : World) : ordW P ops Q C l (.two i j r s) a w = (wpList P ops (Exit.then (fun a' w' => C w' ∧ ordW P ops Q C l r a' w') Q) (pick l [i]) a w ∧ wpList P ops (Exit.then (fun a' w' => C w' ∧ ordW P ops Q C l s a' w') Q) (pick l [j]) a w) := rfl
theorem ordW_thr (i j k : Nat) (r s t : Ord) (a : Act) (w : World) : ordW P ops Q C l (.thr i j k r s t) a w = (wpList P ops (Exit.then (fun a' w' => C w' ∧ ordW P ops Q C l r a' w') Q) (pick l [i]) a w ∧ wpList P ops (Exit.then (fun a' w' => C w' ∧ ordW P ops Q C l s a' w') Q) (pick l [j]) a w ∧ wpList P ops (Exit.then (fun a' w' => C w' ∧ ordW P ops Q C l t a' w') Q) (pick l [k]) a w) := rfl
end

/-! ### worlds in which some blocks are as they were: 'w.overP S x' -/
structure KeepP (S : List Nat) (w w' : World) : Prop where
  size : w.heap.size ≤ w'.heap.size
  block : ∀ b, b ∈ S → b < w.heap.size → w'.heap[b]? = w.heap[b]?
def OverP (w : World) (S : List Nat) : Type := { w' : World // KeepP S w w' }
def _root_.Go.World.overP (w : World) (S : List Nat) (x : OverP w S) : World := x.1
instance overP_some (w : World) (S : List Nat) : Nonempty (OverP w S) := ⟨⟨w, Nat.le_refl _, fun _ _ _ => rfl⟩⟩
theorem KeepP.ex {S : List Nat} {w w' : World} (h : KeepP S w w') : ∃ x, w' = w.overP S x := ⟨⟨w', h⟩, rfl⟩
@[go_sem] theorem overP_cell (w : World) (S : List Nat) (x : OverP w S) (b o : Nat) (h : b ∈ S) (hb : b < w.heap.size) : (w.overP S x).cell? ⟨b, o, none⟩ = w.cell? ⟨b, o, none⟩ := World.cell?_of_block (w := w) (x.2.block b h hb)
theorem KeepP.refl (S : List Nat) (w : World) : KeepP S w w := ⟨Nat.le_refl _, fun _ _ _ => rfl⟩
theorem KeepP.drew {S : List Nat} {w w' : World} (h : KeepP S w w') : KeepP S w w'.drew := ⟨h.size, h.block⟩
theorem KeepP.trans {S : List Nat} {a b c : World} (h : KeepP S a b) (k : KeepP S b c) : KeepP S a c := ⟨Nat.le_trans h.size k.size, fun q h1 h2 => (k.block q h1 (Nat.lt_of_lt_of_le h2 h.size)).trans (h.block q h1 h2)⟩
theorem KeepP.below {S : List Nat} {w w' : World} (h : Below w.heap.size w w') : KeepP S w w' := ⟨h.size, fun b _ hb => h.block b hb⟩
theorem KeepP.but {S : List Nat} {w w' : World} {R : Nat} (h : But w R w') (hR : R ∉ S) : KeepP S w w' := ⟨h.size, fun b hS hb => h.block b hb (fun e => hR (e ▸ hS))⟩
theorem KeepP.grown {S : List Nat} {w w' : World} {g : Option Nat} (h : w.grownBy w' g) (hg : ∀ b, b ∈ S → g ≠ some b) : KeepP S w w' := ⟨h.size, fun b hS hb => h.block b hb (fun e => hg b hS e.symm)⟩
theorem KeepP.set {S : List Nat} {w w' : World} (h : KeepP S w w') {a : Addr} (ha : a.block ∉ S) (v : Value) : KeepP S w (w'.setCell a v) := ⟨by simpa using h.size, fun b hS hb => by rw [Below.heap_setCell _ _ _ _ (fun e => ha (e ▸ hS))]; exact h.block b hS hb⟩
attribute [irreducible] World.overP OverP

/-! ### a growing row of numbers, in other worlds -/
theorem OwnI.keep {B : Nat} {v : Value} {l : List Int} {w w' : World} (h : OwnI B v l w) (hb : ∀ g, v.ownBlock = some g → B ≤ g → g < w.heap.size → w'.heap[g]? = w.heap[g]?) : OwnI B v l w' := by
  refine ⟨h.1, ?_⟩
  rcases h.2 with h2 | ⟨g, cap, cur, rfl, e2, e3, e4⟩
  · exact .inl h2
  · exact .inr ⟨g, cap, cur, rfl, e2, (hb g rfl e2 (Array.getElem?_eq_some_iff.1 e3).1).trans e3, e4⟩
theorem OwnI.next {B : Nat} {v : Value} {l : List Int} {w w' : World} (h : OwnI B v l w) (hb : Below w.heap.size w w') : OwnI B v l w' := h.keep fun g _ _ hl => hb.block g hl
theorem OwnI.but {B R : Nat} {v : Value} {l : List Int} {w w' : World} (h : OwnI B v l w) (hb : But w R w') (hR : R < B) : OwnI B v l w' := h.keep fun g _ h1 hl => hb.block g hl (by omega)
theorem OwnI.mono {B B' : Nat} {v : Value} {l : List Int} {w : World} (h : OwnI B v l w) (hB : B' ≤ B) : OwnI B' v l w := by
  refine ⟨h.1, ?_⟩
  rcases h.2 with h2 | ⟨g, cap, cur, e1, e2, e3⟩
  · exact .inl h2
  · exact .inr ⟨g, cap, cur, e1, Nat.le_trans hB e2, e3⟩
theorem OwnI.blk {B : Nat} {v : Value} {l : List Int} {w : World} (h : OwnI B v l w) : ∀ g, v.ownBlock = some g → B ≤ g ∧ g < w.heap.size := by
  intro g hg
  rcases h.2 with ⟨rfl, _⟩ | ⟨g', cap, cur, rfl, e2, e3, e4⟩
  · simp [Value.ownBlock] at hg
  · simp [Value.ownBlock] at hg
    subst hg
    exact ⟨e2, (Array.getElem?_eq_some_iff.1 e3).1⟩
/-- but for a source's block R and blocks from B on, all is as it was; a row of one's own has grown -/
theorem But.own {B R : Nat} {w wr w' : World} {v : Value} {l : List Int} (hb : But w R wr) (hv : OwnI B v l wr) (hB : w.heap.size ≤ B) (hg : wr.grownBy w' v.ownBlock) : But w R w' :=
  ⟨hg.os.trans hb.os, hg.tape.trans hb.tape, hg.output.trans hb.output, Nat.le_trans hb.size hg.size, fun k hk hd => by
    rw [hg.block k (Nat.lt_of_lt_of_le hk hb.size) (fun e => by have := (hv.blk k e.symm).1; omega), hb.block k hk hd]⟩
theorem below_own {B : Nat} {w wr w' : World} {v : Value} {l : List Int} (hb : Below w.heap.size w wr) (hv : OwnI B v l wr) (hB : w.heap.size ≤ B) (hg : wr.grownBy w' v.ownBlock) : Below w.heap.size w w' :=
  ⟨hg.os.trans hb.os, hg.tape.trans hb.tape, hg.output.trans hb.output, Nat.le_trans hb.size hg.size, fun k hk => by
    rw [hg.block k (Nat.lt_of_lt_of_le hk hb.size) (fun e => by have := (hv.blk k e.symm).1; omega), hb.block k hk]⟩
theorem OwnI.shape {B : Nat} {v : Value} {l : List Int} {w : World} (h : OwnI B v l w) : ∃ a c, v = .slice a l.length c ∧ l.length ≤ c ∧ c ≤ maxLen ∧ (a = none → c = 0) := by
  rcases h.row with ⟨rfl, rfl⟩ | ⟨g, c, rfl, h1, h2, h3, h4⟩
  · exact ⟨none, 0, rfl, Nat.le_refl _, by unfold maxLen; omega, fun _ => rfl⟩
  · exact ⟨_, c, rfl, h2, h3, fun e => by cases e⟩
theorem OwnI.ints2 {B : Nat} {a : Option Addr} {n c : Nat} {l : List Int} {w : World} (h : OwnI B (.slice a n c) l w) (hi : ∀ n, n ∈ l → i64 n) : IntsIn Any w a l := by
  rcases h.row with ⟨rfl, _⟩ | ⟨g, c', e, h1, h2, h3, h4⟩
  · exact ⟨.inl rfl, hi⟩
  · simp at e
    obtain ⟨rfl, _, _⟩ := e
    refine ⟨.inr ⟨g, 0, rfl, trivial, h4.1, fun i v hv => ?_⟩, hi⟩
    have hlt : i < l.length := by have := (List.getElem?_eq_some_iff.1 hv).1; simpa using this
    rw [Nat.zero_add, h4.2.1 i hlt]
    show some ((l.map (Value.int .i64)).getD i undef) = _
    rw [List.getD_eq_getElem?_getD, hv]; rfl
theorem OwnI.set {B : Nat} {v : Value} {l : List Int} {w : World} (h : OwnI B v l w) {a : Addr} (ha : ∀ g, v.ownBlock = some g → B ≤ g → g ≠ a.block) (u : Value) : OwnI B v l (w.setCell a u) :=
  h.keep fun g h1 h2 _ => Below.heap_setCell _ _ _ _ (ha g h1 h2)

theorem OwnI.grow {B g g' n c : Nat} {l : List Int} {w w' : World} (h : OwnI B (.slice (some ⟨g, 0, none⟩) n c) l w) (hg : w.grownBy w' (some g')) (hne : g ≠ g') : OwnI B (.slice (some ⟨g, 0, none⟩) n c) l w' :=
  h.keep fun b h1 _ h3 => hg.block b h3 (fun e => by simp [Value.ownBlock] at h1; simp at e; omega)
/-- append to an empty row just made, at the operation: the clone of a row; where it lies -/
theorem wp_app_clone {ops : Array Oper} {rest : List Oper} {o : Oper} {a : Act} {Q : Exit → Act → World → Prop} {w : World} (hgd : o.guard = none) (s x : Operand)
    (ho : o.op = .call { callee := .builtin .append, args := #[s, x], argTypes := #[23, 23] }) (g : Nat) (l : List Int) (ad : Option Addr) (c : Nat) (hs : a.eval s = .slice (some ⟨g, 0, none⟩) 0 0) (hx : a.eval x = .slice ad l.length c)
    (hv : OwnI g (.slice (some ⟨g, 0, none⟩) 0 0) [] w) (hB : g < w.heap.size) (hn : ad = none → c = 0) (hl : IntsIn Any w ad l) (h2 : l.length ≤ 1000000)
    (h : ∀ g' c' w', (g' = g ∨ g' = w.heap.size) → OwnI g (.slice (some ⟨g', 0, none⟩) l.length c') l w' → w.grownBy w' (some g) → g' < w'.heap.size → wpList Tryd.prog ops Q rest (a.put o.dst (.slice (some ⟨g', 0, none⟩) l.length c')) w') :
    wpList Tryd.prog ops Q (o :: rest) a w := by
  cases ad with
  | none =>
    obtain rfl : c = 0 := hn rfl
    have hl0 : l = [] := by
      rcases hl.1 with h0 | ⟨b, o', h0, _⟩
      · simpa using h0
      · cases h0
    subst hl0
    exact wp_app_nil hgd s x ho (some ⟨g, 0, none⟩) 0 0 hs hx (Nat.le_refl _) (h g 0 w (.inl rfl) hv (World.grownBy.refl _ _) hB)
  | some ad =>
    obtain ⟨ri, hi, hz, hs1, hs2⟩ := info_parts ints_info
    refine wpList_append_own_at _ hgd s x 23 ho g 3 ri (.int .i64 0) 1 8 Tryd.underlying23 hi hz hs1 hs2 rfl (by omega) _ 0 _ hs hv ad l.length c (l.map (Value.int .i64)) hx (by simp) (fun j u hj => ?_) (fun u hu => ?_) (by simp only [maxLen]; omega) (by omega) (Nat.le_of_lt hB) ?_
    · rcases hl.1 with h0 | ⟨b, o', h1, h2, h3, h4⟩
      · rw [h0] at hj; simp at hj
      · obtain rfl : ad = ⟨b, o', none⟩ := by simpa using h1
        have := h4 j u hj
        have e : Addr.add ⟨b, o', none⟩ j = ⟨b, o' + j, none⟩ := by unfold Addr.add; split <;> simp_all
        rw [e]
        exact this
    · simp at hu
      obtain ⟨n, _, rfl⟩ := hu
      rfl
    · intro v2 w3 hown hgrow hnil hblk
      have ho2 : OwnI g v2 l w3 := by unfold OwnI; simpa using hown
      rcases ho2.row with ⟨rfl, rfl⟩ | ⟨g', c', rfl, h1, h3, h4, h5⟩
      · simp at hnil
      · exact h g' c' w3 (by simpa [Value.ownBlock] using hblk) ho2 (by simpa [Value.ownBlock] using hgrow) h5.1

/-- append of numbers to a row of one's own, at the operation; where the result lies -/
theorem wp_app_own2 {ops : Array Oper} {rest : List Oper} {o : Oper} {a : Act} {Q : Exit → Act → World → Prop} {w : World} (hgd : o.guard = none) (s x : Operand)
    (ho : o.op = .call { callee := .builtin .append, args := #[s, x], argTypes := #[23, 23] }) (B : Nat) (v : Value) (acc l : List Int) (ad : Option Addr) (c : Nat) (hs : a.eval s = v) (hx : a.eval x = .slice ad l.length c) (hn : ad = none → c = 0)
    (hv : OwnI B v acc w) (hB : B ≤ w.heap.size) (hl : IntsIn Any w ad l) (h1 : acc.length ≤ 1000000) (h2 : l.length ≤ 1000000)
    (h : ∀ v' w', OwnI B v' (acc ++ l) w' → w.grownBy w' v.ownBlock → (v'.ownBlock = v.ownBlock ∨ v'.ownBlock = some w.heap.size) → wpList Tryd.prog ops Q rest (a.put o.dst v') w') :
    wpList Tryd.prog ops Q (o :: rest) a w := by
  cases ad with
  | none =>
    obtain rfl : c = 0 := hn rfl
    have hl0 : l = [] := by
      rcases hl.1 with h0 | ⟨b, o', h0, _⟩
      · simpa using h0
      · cases h0
    subst hl0
    have hsh : ∃ b n c, v = .slice b n c ∧ n ≤ c := by
      rcases hv.2 with ⟨rfl, _⟩ | ⟨g, cap, cur, rfl, _, _, hc, _⟩
      · exact ⟨_, _, _, rfl, Nat.le_refl _⟩
      · exact ⟨_, _, _, rfl, hc⟩
    obtain ⟨b, n, c, rfl, hc⟩ := hsh
    exact wp_app_nil hgd s x ho b n c hs hx hc (h _ _ (by simpa using hv) (World.grownBy.refl _ _) (.inl rfl))
  | some ad =>
    obtain ⟨ri, hi, hz, hs1, hs2⟩ := info_parts ints_info
    refine wpList_append_own_at _ hgd s x 23 ho B 3 ri (.int .i64 0) 1 8 Tryd.underlying23 hi hz hs1 hs2 rfl (by omega) v acc.length _ hs hv ad l.length c (l.map (Value.int .i64)) hx (by simp) (fun j u hj => ?_) (fun u hu => ?_) (by simp only [maxLen]; omega) (by omega) hB ?_
    · rcases hl.1 with h0 | ⟨b, o', h1, h2, h3, h4⟩
      · rw [h0] at hj; simp at hj
      · obtain rfl : ad = ⟨b, o', none⟩ := by simpa using h1
        have := h4 j u hj
        have e : Addr.add ⟨b, o', none⟩ j = ⟨b, o' + j, none⟩ := by unfold Addr.add; split <;> simp_all
        rw [e]
        exact this
    · simp at hu
      obtain ⟨n, _, rfl⟩ := hu
      rfl
    · intro v2 w3 hown hgrow _ hblk
      exact h v2 w3 (by unfold OwnI; rw [List.length_append, List.map_append]; exact hown) hgrow hblk

/-- a variable of two slices -/
abbrev BoxP (w : World) (B : Nat) (a b : Value) : Prop := B < w.heap.size ∧ w.cell? ⟨B, 0, none⟩ = some a ∧ w.cell? ⟨B, 1, none⟩ = some b ∧ w.frozen? ⟨B, 0, none⟩ = false ∧ w.frozen? ⟨B, 1, none⟩ = false
/-- two clones of rows, in a variable: all in new memory, each in a block of its own -/
structure Cl2 (W : World) (s l : List Int) (O : Nat) (vs vl : Value) (w : World) : Prop where
  own : OwnI W.heap.size vs s w
  own2 : OwnI W.heap.size vl l w
  box : BoxP w O vs vl
  new : W.heap.size ≤ O
  ne1 : ∀ g, vs.ownBlock = some g → g ≠ O
  ne2 : ∀ g, vl.ownBlock = some g → g ≠ O
  ne : ∀ g, vs.ownBlock = some g → vl.ownBlock ≠ some g
  below : Below W.heap.size W w
theorem boxp_next {w w' : World} (h : Below w.heap.size w w') {B : Nat} {a b : Value} (hb : BoxP w B a b) : BoxP w' B a b :=
  ⟨Nat.lt_of_lt_of_le hb.1 h.size, by rw [h.cell (p := ⟨B, 0, none⟩) hb.1]; exact hb.2.1, by rw [h.cell (p := ⟨B, 1, none⟩) hb.1]; exact hb.2.2.1,
    by rw [h.frozen (p := ⟨B, 0, none⟩) hb.1]; exact hb.2.2.2.1, by rw [h.frozen (p := ⟨B, 1, none⟩) hb.1]; exact hb.2.2.2.2⟩
theorem boxp_at {w : World} {B : Nat} {a b : Value} {t : TypeId} (h : B = w.heap.size) : BoxP (w.alloc (.cells #[a, b] t)) B a b := by subst h; exact ⟨by simp, by simp, by simp, by simp, by simp⟩
theorem boxp_keep {w w' : World} {B : Nat} {a b : Value} (hs : w.heap.size ≤ w'.heap.size) (h : w'.heap[B]? = w.heap[B]?) (hb : BoxP w B a b) : BoxP w' B a b :=
  ⟨Nat.lt_of_lt_of_le hb.1 hs, by rw [World.cell?_of_block (w := w) (a := ⟨B, 0, none⟩) h]; exact hb.2.1, by rw [World.cell?_of_block (w := w) (a := ⟨B, 1, none⟩) h]; exact hb.2.2.1,
    by rw [World.frozen?_of_block (w := w) (a := ⟨B, 0, none⟩) h]; exact hb.2.2.2.1, by rw [World.frozen?_of_block (w := w) (a := ⟨B, 1, none⟩) h]; exact hb.2.2.2.2⟩
theorem boxp_grown {w w' : World} {g B : Nat} {a b : Value} (h : w.grownBy w' (some g)) (hd : B ≠ g) (hb : BoxP w B a b) : BoxP w' B a b := boxp_keep h.size (h.block B hb.1 (fun e => hd (Option.some.inj e))) hb
theorem boxp_but {w w' : World} {D : Nat} (h : But w D w') {B : Nat} {a b : Value} (hd : B ≠ D) (hb : BoxP w B a b) : BoxP w' B a b := boxp_keep h.size (h.block B hb.1 hd) hb
theorem boxp_set0 {w : World} {B : Nat} {a b : Value} (h : BoxP w B a b) (v : Value) : BoxP (w.setCell ⟨B, 0, none⟩ v) B v b :=
  ⟨by simpa using h.1, World.cell?_setCell_same _ _ _ h.2.1, by rw [World.cell?_setCell_other _ _ _ _ (by simp)]; exact h.2.2.1, by simpa using h.2.2.2.1, by simpa using h.2.2.2.2⟩
theorem boxp_set1 {w : World} {B : Nat} {a b : Value} (h : BoxP w B a b) (v : Value) : BoxP (w.setCell ⟨B, 1, none⟩ v) B a v :=
  ⟨by simpa using h.1, by rw [World.cell?_setCell_other _ _ _ _ (by simp)]; exact h.2.1, World.cell?_setCell_same _ _ _ h.2.2.1, by simpa using h.2.2.2.1, by simpa using h.2.2.2.2⟩
theorem boxp_set {w : World} {B : Nat} {a b : Value} (h : BoxP w B a b) {p : Addr} (hd : B ≠ p.block) (v : Value) : BoxP (w.setCell p v) B a b := boxp_keep (by simp) (Below.heap_setCell _ _ _ _ hd) h
theorem Cl2.mk2 {W w : World} {s l : List Int} {O g1 g2 c1 c2 n1 n2 b1 b2 : Nat} {a b : Value} (h1 : OwnI b1 (.slice (some ⟨g1, 0, none⟩) n1 c1) s w) (h2 : OwnI b2 (.slice (some ⟨g2, 0, none⟩) n2 c2) l w) (hb : BoxP w O a b) (k1 : W.heap.size ≤ b1) (k2 : W.heap.size ≤ b2) (kO : W.heap.size ≤ O) (e1 : g1 ≠ O) (e2 : g2 ≠ O) (e : g1 ≠ g2) (hB : Below W.heap.size W w) :
    Cl2 W s l O (.slice (some ⟨g1, 0, none⟩) n1 c1) (.slice (some ⟨g2, 0, none⟩) n2 c2) ((w.setCell ⟨O, 0, none⟩ (.slice (some ⟨g1, 0, none⟩) n1 c1)).setCell ⟨O, 1, none⟩ (.slice (some ⟨g2, 0, none⟩) n2 c2)) where
  own := ((h1.set (fun g h _ => by simp [Value.ownBlock] at h; subst h; exact e1) _).set (fun g h _ => by simp [Value.ownBlock] at h; subst h; exact e1) _).mono k1
  own2 := ((h2.set (fun g h _ => by simp [Value.ownBlock] at h; subst h; exact e2) _).set (fun g h _ => by simp [Value.ownBlock] at h; subst h; exact e2) _).mono k2
  box := boxp_set1 (boxp_set0 hb _) _
  new := kO
  ne1 := fun g h => by simp [Value.ownBlock] at h; subst h; exact e1
  ne2 := fun g h => by simp [Value.ownBlock] at h; subst h; exact e2
  ne := fun g h h' => by simp [Value.ownBlock] at h h'; omega
  below := (hB.setCell kO _).setCell kO _
end Go.Proofs.YtgopfjnpjkpelaaDoor
namespace Go.Proofs.YtgopfjnpjkpelaaDoor
open Go.RowKit
set_option linter.unusedVariables false
set_option linter.unusedSimpArgs false

theorem edge_info : (Tryd.prog.info? 47).map (fun i => (i.zero, i.size, i.bytes)) = some (some (.agg #[.int .i64 0, .int .i64 0, .int .i64 0, .int .i64 0, .slice none 0 0, .int .i64 0, .int .i64 0, .int .i64 0, .slice none 0 0, .int .i64 0]), 10, 112) := by kernel_rfl
theorem proc_info : (Tryd.prog.info? 41).map (fun i => (i.zero, i.size, i.bytes)) = some (some (.agg #[.int .i64 0, .slice none 0 0]), 2, 32) := by kernel_rfl

/-- the cell at a place of records laid end to end -/
theorem flat_at {n : Nat} : ∀ (cs : List (List Value)) (i j : Nat) (c : List Value), (∀ c, c ∈ cs → c.length = n) → j < n → cs[i]? = some c → cs.flatten[i * n + j]? = c[j]?
  | [], i, j, c, _, _, h => by simp at h
  | d :: ds, 0, j, c, hl, hj, h => by
    simp at h
    subst h
    rw [List.flatten_cons, Nat.zero_mul, Nat.zero_add, List.getElem?_append_left (by rw [hl d (by simp)]; exact hj)]
  | d :: ds, i + 1, j, c, hl, hj, h => by
    have := flat_at ds i j c (fun c hc => hl c (by simp [hc])) hj (by simpa using h)
    rw [List.flatten_cons, List.getElem?_append_right (by rw [hl d (by simp), Nat.succ_mul]; omega), hl d (by simp), ← this]
    congr 1
    rw [Nat.succ_mul]; omega
theorem flat_len {n : Nat} : ∀ (cs : List (List Value)), (∀ c, c ∈ cs → c.length = n) → cs.flatten.length = cs.length * n
  | [], _ => by simp
  | d :: ds, h => by
    rw [List.flatten_cons, List.length_append, flat_len ds (fun c hc => h c (by simp [hc])), h d (by simp), List.length_cons, Nat.succ_mul]; omega

/-- a growing row of records of one's own, by their cells -/
def OwnR (e : TypeId) (n B : Nat) (v : Value) (cs : List (List Value)) (w : World) : Prop := w.ownsRow B e n v cs.length cs.flatten ∧ ∀ c, c ∈ cs → c.length = n
theorem OwnR.nil (e : TypeId) (n B : Nat) (w : World) : OwnR e n B (.slice none 0 0) [] w := ⟨World.ownsRow_nil .., by simp⟩
theorem OwnR.keep {e : TypeId} {n B : Nat} {v : Value} {cs : List (List Value)} {w w' : World} (h : OwnR e n B v cs w) (hb : ∀ g, v.ownBlock = some g → B ≤ g → g < w.heap.size → w'.heap[g]? = w.heap[g]?) : OwnR e n B v cs w' := by
  refine ⟨⟨h.1.1, ?_⟩, h.2⟩
  rcases h.1.2 with h2 | ⟨g, cap, cur, rfl, e2, e3, e4⟩
  · exact .inl h2
  · exact .inr ⟨g, cap, cur, rfl, e2, (hb g rfl e2 (Array.getElem?_eq_some_iff.1 e3).1).trans e3, e4⟩
theorem OwnR.next {e : TypeId} {n B : Nat} {v : Value} {cs : List (List Value)} {w w' : World} (h : OwnR e n B v cs w) (hb : Below w.heap.size w w') : OwnR e n B v cs w' := h.keep fun g _ _ hl => hb.block g hl
theorem OwnR.but {e : TypeId} {n B R : Nat} {v : Value} {cs : List (List Value)} {w w' : World} (h : OwnR e n B v cs w) (hb : But w R w') (hR : R < B) : OwnR e n B v cs w' := h.keep fun g _ h1 hl => hb.block g hl (by omega)
theorem OwnR.set {e : TypeId} {n B : Nat} {v : Value} {cs : List (List Value)} {w : World} (h : OwnR e n B v cs w) {a : Addr} (ha : ∀ g, v.ownBlock = some g → B ≤ g → g ≠ a.block) (u : Value) : OwnR e n B v cs (w.setCell a u) :=
  h.keep fun g h1 h2 _ => Below.heap_setCell _ _ _ _ (ha g h1 h2)
theorem OwnR.blk {e : TypeId} {n B : Nat} {v : Value} {cs : List (List Value)} {w : World} (h : OwnR e n B v cs w) : ∀ g, v.ownBlock = some g → B ≤ g ∧ g < w.heap.size := by
  intro g hg
  rcases h.1.2 with ⟨rfl, _⟩ | ⟨g', cap, cur, rfl, e2, e3, e4⟩
  · simp [Value.ownBlock] at hg
  · simp [Value.ownBlock] at hg
    subst hg
    exact ⟨e2, (Array.getElem?_eq_some_iff.1 e3).1⟩
theorem OwnR.shape {e : TypeId} {n B : Nat} {v : Value} {cs : List (List Value)} {w : World} (h : OwnR e n B v cs w) : ∃ a c, v = .slice a cs.length c ∧ cs.length ≤ c ∧ c ≤ maxLen ∧ (cs = [] ∨ ∃ g, a = some ⟨g, 0, none⟩ ∧ B ≤ g ∧ g < w.heap.size ∧ (∀ i j c, cs[i]? = some c → j < n → w.cell? ⟨g, i * n + j, none⟩ = c[j]?) ∧ ∀ j, w.frozen? ⟨g, j, none⟩ = false) := by
  rcases h.1.2 with ⟨rfl, h2⟩ | ⟨g, cap, cur, rfl, e2, e3, e4, e5, e6, e7⟩
  · have : cs = [] := List.eq_nil_of_length_eq_zero h2
    subst this
    exact ⟨none, 0, rfl, Nat.le_refl _, by simp [maxLen], .inl rfl⟩
  · refine ⟨_, cap, rfl, e4, e5, .inr ⟨g, rfl, e2, (Array.getElem?_eq_some_iff.1 e3).1, fun i j c hc hj => ?_, fun j => by simp [World.frozen?, e3]⟩⟩
    have h1 := flat_at cs i j c h.2 hj hc
    have hcl : j < c.length := by rw [h.2 c (List.mem_of_getElem? hc)]; exact hj
    have h2 := World.ownsRow.cells h.1 (g := g) rfl (i * n + j) c[j] (by rw [h1, List.getElem?_eq_getElem hcl])
    have e : Addr.add ⟨g, 0, none⟩ (i * n + j) = ⟨g, i * n + j, none⟩ := by unfold Addr.add; split <;> simp_all
    rw [e] at h2
    rw [h2, List.getElem?_eq_getElem hcl]

/-- append of one edge, just laid, to a row of edges, at the operation -/
theorem wp_app_edge {ops : Array Oper} {rest : List Oper} {o : Oper} {a : Act} {Q : Exit → Act → World → Prop} {w : World} (hgd : o.guard = none) (s x : Operand)
    (ho : o.op = .call { callee := .builtin .append, args := #[s, x], argTypes := #[39, 39] }) (B : Nat) (v : Value) (acc : List (List Value)) (cs : List Value) (g c : Nat) (hs : a.eval s = v) (hx : a.eval x = .slice (some ⟨g, 0, none⟩) 1 c)
    (hv : OwnR 47 10 B v acc w) (hB : B ≤ w.heap.size) (hl : ∀ j u, cs[j]? = some u → w.cell? ⟨g, j, none⟩ = some u) (hn : cs.length = 10) (hone : ∀ u, u ∈ cs → u.oneCell' = true) (h1 : acc.length ≤ 100000)
    (h : ∀ v' w', OwnR 47 10 B v' (acc ++ [cs]) w' → w.grownBy w' v.ownBlock → (v'.ownBlock = v.ownBlock ∨ v'.ownBlock = some w.heap.size) → wpList Tryd.prog ops Q rest (a.put o.dst v') w') :
    wpList Tryd.prog ops Q (o :: rest) a w := by
  obtain ⟨ri, hi, hz, hs1, hs2⟩ := info_parts edge_info
  refine wpList_append_own_at _ hgd s x 39 ho B 47 ri _ 10 112 Tryd.underlying39 hi hz hs1 hs2 rfl (by omega) v acc.length _ hs hv.1 ⟨g, 0, none⟩ 1 c cs hx (by rw [hn]) (fun j u hj => ?_) hone (by simp only [maxLen]; omega) (by omega) hB ?_
  · have e : Addr.add ⟨g, 0, none⟩ j = ⟨g, j, none⟩ := by unfold Addr.add; split <;> simp_all
    rw [e]
    exact hl j u hj
  · intro v2 w3 hown hgrow _ hblk
    refine h v2 w3 ⟨?_, fun c hc => ?_⟩ hgrow hblk
    · rw [List.length_append, List.flatten_append]; simpa using hown
    · rcases List.mem_append.1 hc with h | h
      · exact hv.2 c h
      · simp at h; rw [h]; exact hn
/-- append of one process -/
theorem wp_app_proc {ops : Array Oper} {rest : List Oper} {o : Oper} {a : Act} {Q : Exit → Act → World → Prop} {w : World} (hgd : o.guard = none) (s x : Operand)
    (ho : o.op = .call { callee := .builtin .append, args := #[s, x], argTypes := #[24, 24] }) (B : Nat) (v : Value) (acc : List (List Value)) (cs : List Value) (g c : Nat) (hs : a.eval s = v) (hx : a.eval x = .slice (some ⟨g, 0, none⟩) 1 c)
    (hv : OwnR 41 2 B v acc w) (hB : B ≤ w.heap.size) (hl : ∀ j u, cs[j]? = some u → w.cell? ⟨g, j, none⟩ = some u) (hn : cs.length = 2) (hone : ∀ u, u ∈ cs → u.oneCell' = true) (h1 : acc.length ≤ 100000)
    (h : ∀ v' w', OwnR 41 2 B v' (acc ++ [cs]) w' → w.grownBy w' v.ownBlock → (v'.ownBlock = v.ownBlock ∨ v'.ownBlock = some w.heap.size) → wpList Tryd.prog ops Q rest (a.put o.dst v') w') :
    wpList Tryd.prog ops Q (o :: rest) a w := by
  obtain ⟨ri, hi, hz, hs1, hs2⟩ := info_parts proc_info
  refine wpList_append_own_at _ hgd s x 24 ho B 41 ri _ 2 32 Tryd.underlying24 hi hz hs1 hs2 rfl (by omega) v acc.length _ hs hv.1 ⟨g, 0, none⟩ 1 c cs hx (by rw [hn]) (fun j u hj => ?_) hone (by simp only [maxLen]; omega) (by omega) hB ?_
  · have e : Addr.add ⟨g, 0, none⟩ j = ⟨g, j, none⟩ := by unfold Addr.add; split <;> simp_all
    rw [e]
    exact hl j u hj
  · intro v2 w3 hown hgrow _ hblk
    refine h v2 w3 ⟨?_, fun c hc => ?_⟩ hgrow hblk
    · rw [List.length_append, List.flatten_append]; simpa using hown
    · rcases List.mem_append.1 hc with h | h
      · exact hv.2 c h
      · simp at h; rw [h]; exact hn

/-! ### what the records are -/
/-- ten cells that are an edge -/
def EdC (p : Nat → Prop) (w : World) (M : Int) (e : Ed) (c : List Value) : Prop := ∃ a n a' n', c = e.cells a n a' n' ∧ EdIn p w e (.agg c.toArray) ∧ nodes e.guard ≤ M ∧ nodes e.val ≤ M
def AllR {T : Type} (At : T → List Value → Prop) : List T → List (List Value) → Prop
  | [], [] => True
  | t :: ts, c :: cs => At t c ∧ AllR At ts cs
  | _, _ => False
theorem AllR.len {T : Type} {At : T → List Value → Prop} : ∀ {l : List T} {cs : List (List Value)}, AllR At l cs → cs.length = l.length
  | [], [], _ => rfl
  | t :: ts, c :: cs, h => by simp [AllR.len h.2]
  | [], _ :: _, h => h.elim
  | _ :: _, [], h => h.elim
theorem AllR.mono {T : Type} {At At' : T → List Value → Prop} (hm : ∀ t c, At t c → At' t c) : ∀ {l : List T} {cs : List (List Value)}, AllR At l cs → AllR At' l cs
  | [], [], _ => trivial
  | t :: ts, c :: cs, h => ⟨hm t c h.1, AllR.mono hm h.2⟩
  | [], _ :: _, h => h.elim
  | _ :: _, [], h => h.elim
theorem AllR.snoc {T : Type} {At : T → List Value → Prop} {t : T} {c : List Value} (ht : At t c) : ∀ {l : List T} {cs : List (List Value)}, AllR At l cs → AllR At (l ++ [t]) (cs ++ [c])
  | [], [], _ => ⟨ht, trivial⟩
  | u :: us, d :: ds, h => ⟨h.1, AllR.snoc ht h.2⟩
  | [], _ :: _, h => h.elim
  | _ :: _, [], h => h.elim
theorem AllR.at {T : Type} {At : T → List Value → Prop} : ∀ {l : List T} {cs : List (List Value)} {i : Nat} {t : T}, AllR At l cs → l[i]? = some t → ∃ c, cs[i]? = some c ∧ At t c
  | [], [], _, _, _, h => by simp at h
  | t :: ts, c :: cs, 0, u, h, hi => by simp at hi; subst hi; exact ⟨c, by simp, h.1⟩
  | t :: ts, c :: cs, i + 1, u, h, hi => by simpa using AllR.at h.2 (by simpa using hi)
  | [], _ :: _, _, _, h, _ => h.elim
  | _ :: _, [], _, _, h, _ => h.elim
/-- a row of edges -/
theorem eds_of {p : Nat → Prop} {w : World} {M : Int} {B : Nat} {a : Option Addr} {n c : Nat} {l : List Ed} {cs : List (List Value)} (h : OwnR 47 10 B (.slice a n c) cs w) (ha : AllR (EdC p w M) l cs) (hp : ∀ g, a = some ⟨g, 0, none⟩ → p g) : EdsIn p w l a := by
  obtain ⟨a', c', e, _, _, h3⟩ := h.shape
  simp at e
  obtain ⟨rfl, rfl, rfl⟩ := e
  rcases h3 with h3 | ⟨g, rfl, h4, h5, h6, h7⟩
  · subst h3
    have := ha.len
    exact .inl (List.eq_nil_of_length_eq_zero (by simpa using this.symm))
  · refine .inr ⟨g, 0, rfl, hp g rfl, h5, fun i t ht => ?_⟩
    obtain ⟨cc, hcc, a1, n1, a2, n2, e1, e2, _⟩ := ha.at ht
    rw [Nat.zero_add]
    have hcell : ∀ j, j < 10 → w.cell? ⟨g, i * 10 + j, none⟩ = (t.cells a1 n1 a2 n2)[j]? := fun j hj => by rw [h6 i j cc hcc hj, e1]
    subst e1
    exact ⟨a1, n1, a2, n2, ⟨hcell 0 (by omega), hcell 1 (by omega), hcell 2 (by omega), hcell 3 (by omega), hcell 4 (by omega), hcell 5 (by omega), hcell 6 (by omega), hcell 7 (by omega), hcell 8 (by omega), hcell 9 (by omega)⟩, e2⟩
/-- two cells that are a process -/
def PrC (p : Nat → Prop) (w : World) (q : Pr) (c : List Value) : Prop := ∃ a n, c = [.int .i64 q.locs, .slice a q.edges.length n] ∧ PrIn p w q (.agg c.toArray) ∧ (q.edges ≠ [] → ∀ g, a = some g → ∀ j, w.frozen? ⟨g.block, j, none⟩ = false)
theorem prs_of {p : Nat → Prop} {w : World} {B : Nat} {a : Option Addr} {n c : Nat} {l : List Pr} {cs : List (List Value)} (h : OwnR 41 2 B (.slice a n c) cs w) (ha : AllR (PrC p w) l cs) (hp : ∀ g, a = some ⟨g, 0, none⟩ → p g) : PrsIn p w l a := by
  obtain ⟨a', c', e, _, _, h3⟩ := h.shape
  simp at e
  obtain ⟨rfl, rfl, rfl⟩ := e
  rcases h3 with h3 | ⟨g, rfl, h4, h5, h6, h7⟩
  · subst h3
    have := ha.len
    exact .inl (List.eq_nil_of_length_eq_zero (by simpa using this.symm))
  · refine .inr ⟨g, 0, rfl, hp g rfl, h5, fun i t ht => ?_⟩
    obtain ⟨cc, hcc, a1, n1, e1, e2, _⟩ := ha.at ht
    rw [Nat.zero_add]
    have hcell : ∀ j, j < 2 → w.cell? ⟨g, i * 2 + j, none⟩ = ([.int .i64 t.locs, .slice a1 t.edges.length n1] : List Value)[j]? := fun j hj => by rw [h6 i j cc hcc hj, e1]
    subst e1
    exact ⟨a1, n1, ⟨hcell 0 (by omega), hcell 1 (by omega)⟩, e2⟩
end Go.Proofs.YtgopfjnpjkpelaaDoor
