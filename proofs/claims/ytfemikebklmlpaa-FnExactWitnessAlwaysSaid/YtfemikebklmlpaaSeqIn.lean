/- Rows of records in memory: where they lie, what of them is kept; what marking may turn; a stretch of cells written. Conditions: none. -/
import Derived.Test.YtfemikebklmlpaaCells
import Derived.Test.YtfemikebklmlpaaReg
import Derived.Test.YtfemikebklmlpaaGrow
namespace Go.Proofs.Ytfemikebklmlpaa
open Go.RowKit

/-- records of n cells, one behind the other from an address on, in a block that p allows; At says that a record stands at a place -/
def SeqIn {T : Type} (At : T → Nat → Nat → Prop) (n : Nat) (p : Nat → Prop) (w : World) (l : List T) (a : Option Addr) : Prop :=
  l = [] ∨ ∃ b o, a = some ⟨b, o, none⟩ ∧ p b ∧ b < w.heap.size ∧ ∀ i t, l[i]? = some t → At t b (o + i * n)
theorem SeqIn.frame {T : Type} {At At' : T → Nat → Nat → Prop} {n : Nat} {p q : Nat → Prop} {w w' : World} {l : List T} {a : Option Addr} (h : SeqIn At n p w l a) (hs : w.heap.size ≤ w'.heap.size)
    (hp : ∀ b, p b → b < w.heap.size → q b) (hA : ∀ t b o, t ∈ l → p b → b < w.heap.size → At t b o → At' t b o) : SeqIn At' n q w' l a := by
  rcases h with h | ⟨b, o, h1, h2, h3, h4⟩
  · exact .inl h
  · exact .inr ⟨b, o, h1, hp b h2 h3, by omega, fun i t ht => hA t b _ (List.mem_of_getElem? ht) h2 h3 (h4 i t ht)⟩
theorem SeqIn.at {T : Type} {At : T → Nat → Nat → Prop} {n : Nat} {p : Nat → Prop} {w : World} {l : List T} {a : Option Addr} {k : Nat} (h : SeqIn At n p w l a) (hk : k < l.length) :
    ∃ b o, a = some ⟨b, o, none⟩ ∧ p b ∧ b < w.heap.size ∧ At l[k] b (o + k * n) := by
  rcases h with rfl | ⟨b, o, h1, h2, h3, h4⟩
  · simp at hk
  · exact ⟨b, o, h1, h2, h3, h4 k _ (List.getElem?_eq_getElem hk)⟩

/-! ### what is left when the sizes of all records are taken from a number -/
def szG {T : Type} (f : T → Int → Int) : List T → Int → Int
  | [], left => if left < 0 then -1 else left
  | t :: ts, left => if left < 0 then -1 else szG f ts (f t left)
def SzOk {T : Type} (f : T → Int → Int) : Prop := ∀ t left, -1 ≤ left → left ≤ 1048576 → -1 ≤ f t left ∧ f t left ≤ 1048576
theorem szG_neg {T : Type} (f : T → Int → Int) (l : List T) (left : Int) (h : left < 0) : szG f l left = -1 := by
  cases l <;> (simp only [szG]; rw [if_pos h])
theorem szG_bd {T : Type} {f : T → Int → Int} (hf : SzOk f) : ∀ (l : List T) (left : Int), left ≤ 1048576 → -1 ≤ szG f l left ∧ szG f l left ≤ 1048576
  | [], left, h => by simp only [szG]; split <;> omega
  | t :: ts, left, h => by
    simp only [szG]
    split
    · omega
    · exact szG_bd hf ts _ (hf t left (by omega) h).2
/-- what all records take -/
def sumC {T : Type} (c : T → Int) : List T → Int
  | [] => 0
  | t :: ts => c t + sumC c ts
theorem sumC_nonneg {T : Type} {c : T → Int} (hc : ∀ t, 0 ≤ c t) : ∀ l, 0 ≤ sumC c l
  | [] => by simp [sumC]
  | t :: ts => by have := sumC_nonneg hc ts; have := hc t; simp only [sumC]; omega
theorem szG_eq {T : Type} {f : T → Int → Int} {c : T → Int} (hf : SzOk f) (hc : ∀ t left, -1 ≤ left → left ≤ 1048576 → 0 ≤ f t left → f t left = left - c t) :
    ∀ (l : List T) (left : Int), left ≤ 1048576 → 0 ≤ szG f l left → szG f l left = left - sumC c l
  | [], left, h1, h => by
    simp only [szG, sumC] at h ⊢
    split at h
    · omega
    · rename_i hn; rw [if_neg hn]; omega
  | t :: ts, left, h1, h => by
    simp only [szG, sumC] at h ⊢
    split at h
    · omega
    · rename_i hn
      rw [if_neg hn]
      by_cases h0 : f t left < 0
      · rw [szG_neg _ _ _ h0] at h; omega
      · have h2 := szG_eq hf hc ts _ (hf t left (by omega) h1).2 h
        have h3 := hc t left (by omega) h1 (by omega)
        omega
theorem szG_mem {T : Type} {f : T → Int → Int} (hf : SzOk f) {t : T} : ∀ (l : List T) (left : Int), left ≤ 1048576 → 0 ≤ szG f l left → t ∈ l → ∃ lf, -1 ≤ lf ∧ lf ≤ 1048576 ∧ 0 ≤ f t lf
  | [], _, _, _, hm => by cases hm
  | u :: us, left, h1, h, hm => by
    simp only [szG] at h
    split at h
    · omega
    · by_cases h0 : f u left < 0
      · rw [szG_neg _ _ _ h0] at h; omega
      · cases hm with
        | head => exact ⟨left, by omega, h1, by omega⟩
        | tail _ hm => exact szG_mem hf us _ (hf u left (by omega) h1).2 h hm

/-- are all records the same -/
def eqG {T : Type} (f : T → T → Bool) : List T → List T → Bool
  | [], [] => true
  | t :: ts, u :: us => f t u && eqG f ts us
  | _, _ => false
theorem eqG_refl {T : Type} {f : T → T → Bool} (h : ∀ t, f t t = true) : ∀ l, eqG f l l = true
  | [] => by simp [eqG]
  | t :: ts => by simp [eqG, h, eqG_refl h ts]
theorem eqG_len {T : Type} (f : T → T → Bool) : ∀ (l m : List T), l.length ≠ m.length → eqG f l m = false
  | [], [], h => by simp at h
  | [], _ :: _, _ => by simp [eqG]
  | _ :: _, [], _ => by simp [eqG]
  | t :: ts, u :: us, h => by simp only [eqG]; rw [eqG_len f ts us (by simpa using h)]; simp
theorem eqG_true {T : Type} {f : T → T → Bool} (h : ∀ t u, f t u = true ↔ t = u) : ∀ l m, eqG f l m = true ↔ l = m
  | [], [] => by simp [eqG]
  | [], _ :: _ => by simp [eqG]
  | _ :: _, [] => by simp [eqG]
  | t :: ts, u :: us => by simp [eqG, h, eqG_true h ts us]
theorem eqG_drop {T : Type} {f : T → T → Bool} {l m : List T} {k : Nat} (hk : k < l.length) (hk' : k < m.length) (h : eqG f (l.drop k) (m.drop k) = eqG f l m) :
    eqG f l m = (f l[k] m[k] && eqG f (l.drop (k + 1)) (m.drop (k + 1))) := by
  rw [← h, List.drop_eq_getElem_cons hk, List.drop_eq_getElem_cons hk']
  simp only [eqG]

/-! ### a stretch of cells of one block is written -/
structure SetIn (R lo hi : Nat) (w w' : World) : Prop where
  os : w'.os = w.os
  tape : w'.tape = w.tape
  output : w'.output = w.output
  size : w'.heap.size = w.heap.size
  block : ∀ b, b ≠ R → w'.heap[b]? = w.heap[b]?
  cell : ∀ i, i < lo ∨ hi ≤ i → w'.cell? ⟨R, i, none⟩ = w.cell? ⟨R, i, none⟩
  frozen : ∀ b i, w'.frozen? ⟨b, i, none⟩ = w.frozen? ⟨b, i, none⟩
theorem SetIn.refl (R lo hi : Nat) (w : World) : SetIn R lo hi w w := ⟨rfl, rfl, rfl, rfl, fun _ _ => rfl, fun _ _ => rfl, fun _ _ => rfl⟩
theorem SetIn.set {R lo hi i : Nat} {w w' : World} (h : SetIn R lo hi w w') (h1 : lo ≤ i) (h2 : i < hi) (v : Value) : SetIn R lo hi w (w'.setCell ⟨R, i, none⟩ v) :=
  ⟨h.os, h.tape, h.output, by simpa using h.size, fun b hb => by rw [Below.heap_setCell _ _ _ _ hb]; exact h.block b hb,
    fun j hj => by rw [World.cell?_setCell_other _ _ _ _ (by intro e; have := congrArg Addr.off e; simp at this; omega)]; exact h.cell j hj,
    fun b j => by rw [World.frozen?_setCell]; exact h.frozen b j⟩
theorem SetIn.below {R lo hi B : Nat} {w w' : World} (h : SetIn R lo hi w w') (hB : B ≤ R) : Below B w w' :=
  ⟨h.os, h.tape, h.output, Nat.le_of_eq h.size.symm, fun k hk => h.block k (by omega)⟩
theorem SetIn.keep {R lo hi B : Nat} {w w' : World} (h : SetIn R lo hi w w') (hB : R < B) : Keep B w w' :=
  ⟨Nat.le_of_eq h.size.symm, fun b h1 _ => h.block b (by omega)⟩
theorem SetIn.but {R lo hi : Nat} {w w' : World} (h : SetIn R lo hi w w') : But w R w' :=
  ⟨h.os, h.tape, h.output, Nat.le_of_eq h.size.symm, fun k _ hd => h.block k hd⟩
/-- the cells, one by one -/
def setAll (w : World) (R o : Nat) : List Value → World
  | [] => w
  | v :: vs => setAll (w.setCell ⟨R, o, none⟩ v) R (o + 1) vs
theorem setAll_in : ∀ (vs : List Value) (w w0 : World) (R o lo hi : Nat), SetIn R lo hi w0 w → lo ≤ o → o + vs.length ≤ hi → SetIn R lo hi w0 (setAll w R o vs)
  | [], _, _, _, _, _, _, h, _, _ => h
  | v :: vs, w, w0, R, o, lo, hi, h, h1, h2 => by
    simp only [List.length_cons] at h2
    exact setAll_in vs _ w0 R (o + 1) lo hi (h.set h1 (by omega) v) (by omega) (by omega)
theorem setAll_low : ∀ (vs : List Value) (w : World) (R o i : Nat), i < o → (setAll w R o vs).cell? ⟨R, i, none⟩ = w.cell? ⟨R, i, none⟩ := fun vs w R o i hi =>
  (setAll_in vs w w R o o (o + vs.length) (SetIn.refl ..) (Nat.le_refl _) (Nat.le_refl _)).cell i (.inl hi)
theorem setAll_cell : ∀ (vs : List Value) (w : World) (R o : Nat), (∀ i, i < vs.length → ∃ u, w.cell? ⟨R, o + i, none⟩ = some u) → ∀ i v, vs[i]? = some v → (setAll w R o vs).cell? ⟨R, o + i, none⟩ = some v
  | [], _, _, _, _, _, _, hv => by simp at hv
  | u :: vs, w, R, o, h, i, v, hv => by
    cases i with
    | zero =>
      obtain rfl : u = v := by simpa using hv
      obtain ⟨x, hx⟩ := h 0 (by simp)
      rw [setAll, Nat.add_zero, setAll_low _ _ _ _ _ (by omega)]
      exact World.cell?_setCell_same _ _ _ hx
    | succ i =>
      have := setAll_cell vs (w.setCell ⟨R, o, none⟩ u) R (o + 1) (fun j hj => by
        obtain ⟨x, hx⟩ := h (j + 1) (by simpa using hj)
        exact ⟨x, by rw [World.cell?_setCell_other _ _ _ _ (by intro e; have := congrArg Addr.off e; simp at this; omega), show o + 1 + j = o + (j + 1) by omega]; exact hx⟩) i v (by simpa using hv)
      rw [setAll, show o + (i + 1) = o + 1 + i by omega]
      exact this
theorem Row.setIn {w w' : World} {R n lo up : Nat} {f : Nat → Value} (h : Row w R n f) (hs : SetIn R lo up w w') (hc : ∀ i, lo ≤ i → i < up → ∃ u, w'.cell? ⟨R, i, none⟩ = some u) : ∃ g, Row w' R n g := by
  refine ⟨fun i => (w'.cell? ⟨R, i, none⟩).getD undef, by rw [hs.size]; exact h.1, fun i hi => ?_, fun i => by rw [hs.frozen]; exact h.2.2 i⟩
  show _ = some ((w'.cell? ⟨R, i, none⟩).getD undef)
  by_cases hl : lo ≤ i ∧ i < up
  · obtain ⟨u, hu⟩ := hc i hl.1 hl.2
    rw [hu]; rfl
  · rw [hs.cell i (by omega), h.2.1 i hi]; rfl

/-! ### marking: numbers become numbers, all else stays -/
structure Marked (p : Nat → Prop) (w w' : World) : Prop where
  os : w'.os = w.os
  tape : w'.tape = w.tape
  output : w'.output = w.output
  size : w.heap.size ≤ w'.heap.size
  block : ∀ b, b < w.heap.size → ¬ p b → w'.heap[b]? = w.heap[b]?
  frozen : ∀ b i, b < w.heap.size → w'.frozen? ⟨b, i, none⟩ = w.frozen? ⟨b, i, none⟩
  cell : ∀ b i v, w.cell? ⟨b, i, none⟩ = some v → w'.cell? ⟨b, i, none⟩ = some v ∨ ∃ n m, v = .int .i64 n ∧ w'.cell? ⟨b, i, none⟩ = some (.int .i64 m)
theorem Marked.refl (p : Nat → Prop) (w : World) : Marked p w w := ⟨rfl, rfl, rfl, Nat.le_refl _, fun _ _ _ => rfl, fun _ _ _ => rfl, fun _ _ _ h => .inl h⟩
theorem Marked.below {p : Nat → Prop} {w W W' : World} (h : Marked p w W) (hb : Below W.heap.size W W') : Marked p w W' :=
  ⟨hb.os.trans h.os, hb.tape.trans h.tape, hb.output.trans h.output, Nat.le_trans h.size hb.size, fun b hl hn => by rw [hb.block b (Nat.lt_of_lt_of_le hl h.size)]; exact h.block b hl hn,
    fun b i hl => by rw [hb.frozen (p := ⟨b, i, none⟩) (Nat.lt_of_lt_of_le hl h.size)]; exact h.frozen b i hl,
    fun b i v hv => by rw [hb.cell (p := ⟨b, i, none⟩) (Nat.lt_of_lt_of_le (blt hv) h.size)]; exact h.cell b i v hv⟩
theorem Marked.slice {p : Nat → Prop} {w w' : World} (h : Marked p w w') {b i : Nat} {a : Option Addr} {n c : Nat} (hc : w.cell? ⟨b, i, none⟩ = some (.slice a n c)) : w'.cell? ⟨b, i, none⟩ = some (.slice a n c) := by
  rcases h.cell b i _ hc with h | ⟨n, m, h, _⟩
  · exact h
  · cases h
theorem Marked.int {p : Nat → Prop} {w w' : World} (h : Marked p w w') {b i : Nat} {n : Int} (hc : w.cell? ⟨b, i, none⟩ = some (.int .i64 n)) : ∃ m, w'.cell? ⟨b, i, none⟩ = some (.int .i64 m) := by
  rcases h.cell b i _ hc with h | ⟨n, m, _, h⟩
  · exact ⟨_, h⟩
  · exact ⟨_, h⟩
theorem Marked.set {p : Nat → Prop} {w w' : World} (h : Marked p w w') {b i : Nat} {n : Int} (hp : p b) (hc : w.cell? ⟨b, i, none⟩ = some (.int .i64 n)) (m : Int) : Marked p w (w'.setCell ⟨b, i, none⟩ (.int .i64 m)) := by
  obtain ⟨k, hk⟩ := h.int hc
  refine ⟨h.os, h.tape, h.output, by simpa using h.size, fun x hl hn => ?_, fun x j hl => by rw [World.frozen?_setCell]; exact h.frozen x j hl, fun x j v hv => ?_⟩
  · rw [Below.heap_setCell _ _ _ _ (by rintro rfl; exact hn hp)]; exact h.block x hl hn
  · by_cases e : (⟨b, i, none⟩ : Addr) = ⟨x, j, none⟩
    · have e1 : b = x := congrArg Addr.block e
      have e2 : i = j := congrArg Addr.off e
      subst e1 e2
      rw [hc] at hv
      obtain rfl : Value.int .i64 n = v := by simpa using hv
      exact .inr ⟨n, m, rfl, World.cell?_setCell_same _ _ _ hk⟩
    · rw [World.cell?_setCell_other _ _ _ _ e]; exact h.cell x j v hv
theorem Marked.mono {p q : Nat → Prop} {w w' : World} (h : Marked p w w') (hp : ∀ b, p b → q b) : Marked q w w' :=
  ⟨h.os, h.tape, h.output, h.size, fun b hl hn => h.block b hl fun e => hn (hp b e), h.frozen, h.cell⟩
/-- what lies where nothing was marked -/
theorem Marked.new {p : Nat → Prop} {w W W' : World} (h : Marked p W W') (hb : Below w.heap.size w W) (hp : ∀ b, p b → w.heap.size ≤ b) : Below w.heap.size w W' :=
  ⟨h.os.trans hb.os, h.tape.trans hb.tape, h.output.trans hb.output, Nat.le_trans hb.size h.size, fun k hk => by
    rw [h.block k (Nat.lt_of_lt_of_le hk hb.size) fun e => by have := hp k e; omega]; exact hb.block k hk⟩
/-- blocks of a stretch that nothing freezes -/
def Fresh (w : World) (B C : Nat) (b : Nat) : Prop := B ≤ b ∧ b < C ∧ ∀ i, w.frozen? ⟨b, i, none⟩ = false
theorem Fresh.below {w w' : World} {B C b : Nat} (h : Fresh w B C b) (hb : Below w.heap.size w w') (hl : b < w.heap.size) : Fresh w' B C b :=
  ⟨h.1, h.2.1, fun i => by rw [hb.frozen (p := ⟨b, i, none⟩) hl]; exact h.2.2 i⟩
end Go.Proofs.Ytfemikebklmlpaa
