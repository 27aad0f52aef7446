/- Joined texts (Cells, SeqIn, SysIn, ExprA, EdgeA, RowsMade, IntsA): contracts and plain laws. Conditions: those of each theorem. -/
import Derived.Test.YtdmieedfddgmjaaJE0
import Derived.Test.YtdmieedfddgmjaaJE1
import Derived.Test.YtdmieedfddgmjaaRows
import Derived.ProofKit
import Derived.ChangeOld
import Derived.Lib.SmallJoins
import Derived.WalkSpells
import Derived.WalkLawsBesides
set_option linter.unusedVariables false
set_option linter.unusedSimpArgs false
namespace Go.Proofs.Ytdmieedfddgmjaa
open Go.RowKit

/-- values that lie one behind the other from an address on, in blocks that p allows -/
def RowIn (p : Nat → Prop) (w : World) (a : Option Addr) (l : List Value) : Prop :=
  l = [] ∨ ∃ b o, a = some ⟨b, o, none⟩ ∧ p b ∧ b < w.heap.size ∧ ∀ i v, l[i]? = some v → w.cell? ⟨b, o + i, none⟩ = some v
theorem RowIn.frame {p q : Nat → Prop} {w w' : World} {a : Option Addr} {l : List Value} (h : RowIn p w a l) (hs : w.heap.size ≤ w'.heap.size) (hp : ∀ b, p b → b < w.heap.size → q b ∧ w'.heap[b]? = w.heap[b]?) : RowIn q w' a l := by
  rcases h with h | ⟨b, o, h1, h2, h3, h4⟩
  · exact .inl h
  · obtain ⟨hq, he⟩ := hp b h2 h3
    exact .inr ⟨b, o, h1, hq, by omega, fun i v hv => by rw [World.cell?_of_block (w := w) (a := ⟨b, o + i, none⟩) he]; exact h4 i v hv⟩
theorem RowIn.below {p : Nat → Prop} {w w' : World} {a : Option Addr} {l : List Value} (h : RowIn p w a l) (hb : Below w.heap.size w w') : RowIn p w' a l :=
  h.frame hb.size fun b hp hl => ⟨hp, hb.block b hl⟩
theorem RowIn.any {p : Nat → Prop} {w : World} {a : Option Addr} {l : List Value} (h : RowIn p w a l) : RowIn Any w a l := h.frame (Nat.le_refl _) fun _ _ _ => ⟨trivial, rfl⟩
theorem RowIn.old {w : World} {a : Option Addr} {l : List Value} (h : RowIn Any w a l) : RowIn (· < w.heap.size) w a l := h.frame (Nat.le_refl _) fun _ _ hl => ⟨hl, rfl⟩
theorem RowIn.mono {p q : Nat → Prop} {w : World} {a : Option Addr} {l : List Value} (h : RowIn p w a l) (hp : ∀ b, p b → q b) : RowIn q w a l := h.frame (Nat.le_refl _) fun b hb _ => ⟨hp b hb, rfl⟩
/-- the k-th -/
theorem RowIn.at {p : Nat → Prop} {w wr : World} {a : Option Addr} {l : List Value} {k : Nat} {v : Value} (h : RowIn p w a l) (hb : Below w.heap.size w wr) (hk : l[k]? = some v) : ∃ b o, a = some ⟨b, o, none⟩ ∧ b < wr.heap.size ∧ p b ∧ wr.cell? ⟨b, o + k, none⟩ = some v := by
  rcases h with rfl | ⟨b, o, h1, h2, h3, h4⟩
  · simp at hk
  · exact ⟨b, o, h1, by have := hb.size; omega, h2, by rw [hb.cell (p := ⟨b, o + k, none⟩) h3]; exact h4 k v hk⟩
/-- a row of one's own -/
theorem Row.rowIn {w : World} {R n : Nat} {f : Nat → Value} {l : List Value} (h : Row w R n f) (hl : l.length ≤ n) (hf : ∀ i v, l[i]? = some v → f i = v) {p : Nat → Prop} (hp : p R) : RowIn p w (some ⟨R, 0, none⟩) l :=
  .inr ⟨R, 0, rfl, hp, h.1, fun i v hv => by
    have hi : i < l.length := (List.getElem?_eq_some_iff.1 hv).1
    rw [Nat.zero_add, h.2.1 i (by omega), hf i v hv]⟩

/-- numbers in a slice -/
def IntsIn (p : Nat → Prop) (w : World) (a : Option Addr) (l : List Int) : Prop := RowIn p w a (l.map (Value.int .i64)) ∧ ∀ n, n ∈ l → i64 n
theorem IntsIn.below {p : Nat → Prop} {w w' : World} {a : Option Addr} {l : List Int} (h : IntsIn p w a l) (hb : Below w.heap.size w w') : IntsIn p w' a l := ⟨h.1.below hb, h.2⟩
/-- truth values in a slice -/
def BoolsIn (p : Nat → Prop) (w : World) (a : Option Addr) (l : List Bool) : Prop := RowIn p w a (l.map Value.bool)
theorem BoolsIn.below {p : Nat → Prop} {w w' : World} {a : Option Addr} {l : List Bool} (h : BoolsIn p w a l) (hb : Below w.heap.size w w') : BoolsIn p w' a l := RowIn.below h hb
theorem ints_at {p : Nat → Prop} {w wr : World} {a : Option Addr} {l : List Int} {k : Nat} (h : IntsIn p w a l) (hb : Below w.heap.size w wr) (hk : k < l.length) :
    ∃ b o, a = some ⟨b, o, none⟩ ∧ b < wr.heap.size ∧ p b ∧ wr.cell? ⟨b, o + k, none⟩ = some (.int .i64 l[k]) ∧ i64 l[k] := by
  obtain ⟨b, o, h1, h2, h3, h4⟩ := h.1.at (k := k) (v := .int .i64 l[k]) hb (by rw [List.getElem?_map, List.getElem?_eq_getElem hk]; rfl)
  exact ⟨b, o, h1, h2, h3, h4, h.2 _ (List.getElem_mem hk)⟩
theorem bools_at {p : Nat → Prop} {w wr : World} {a : Option Addr} {l : List Bool} {k : Nat} (h : BoolsIn p w a l) (hb : Below w.heap.size w wr) (hk : k < l.length) :
    ∃ b o, a = some ⟨b, o, none⟩ ∧ b < wr.heap.size ∧ p b ∧ wr.cell? ⟨b, o + k, none⟩ = some (.bool l[k]) :=
  RowIn.at h (k := k) (v := .bool l[k]) hb (by rw [List.getElem?_map, List.getElem?_eq_getElem hk]; rfl)

section
variable {H : Type} {enc : TypeId × Value → H} {P : Program} {w : World} {base : Nat} {spare : Nat → Bool} {held : Bool}
theorem cells_one {a : Addr} {cs : List Value} (h : w.cells? base a 1 = some cs) : ∃ c0, cs = [c0] ∧ w.cell? (a.add 0) = some c0 := by
  obtain ⟨_, hl, hc⟩ := World.cells?_some h
  match cs, hl with
  | [c0], _ => exact ⟨c0, rfl, by simpa using hc 0 (by omega)⟩
theorem rowIn_build {a : Addr} : ∀ {len : Nat}, (∃ l : List Value, l.length = len ∧ ∀ i v, l[i]? = some v → w.cell? (a.add i) = some v) → ∃ l : List Value, l.length = len ∧ (∀ i v, l[i]? = some v → w.cell? (a.add i) = some v) ∧ RowIn Any w (some a) l := by
  rintro len ⟨l, h1, h2⟩
  refine ⟨l, h1, h2, ?_⟩
  cases l with
  | nil => exact .inl rfl
  | cons v l =>
    obtain ⟨b, o, s⟩ := a
    have e0 := h2 0 v rfl
    have hs : s = none := by simpa [Addr.add] using World.cell?_spot e0
    subst hs
    have ea : ∀ i, Addr.add ⟨b, o, none⟩ i = ⟨b, o + i, none⟩ := fun i => by unfold Addr.add; split <;> simp_all
    refine .inr ⟨b, o, rfl, trivial, blt (by rw [ea] at e0; exact e0), fun i u hu => ?_⟩
    have := h2 i u hu
    rwa [ea] at this
theorem elems_read {S I : TypeId} {X : Type} {V : X → Value} {ok : X → Prop} (hS : P.underlying S = some (.slice I)) (cI : P.cellsOf I = 1)
    (hel : ∀ (m : Nat) (c : Value) (x : DataW H × List MemPlace), DataW.trod enc P w base spare held m I [c] = some x → ∃ n, c = V n ∧ ok n)
    {fuel : Nat} {a : Option Addr} {len cap : Nat} {x : DataW H × List MemPlace} (h : DataW.trod enc P w base spare held fuel S [.slice a len cap] = some x) :
    ∃ l : List X, l.length = len ∧ len ≤ cap ∧ cap ≤ maxLen ∧ RowIn Any w a (l.map V) ∧ ∀ n, n ∈ l → ok n := by
  rcases DataW.trod_slice hS h with ⟨hc, _⟩ | ⟨a', len', cap', elems, rest, m, hm, hc, _, _, hlc, hcm, hel', hcell, _⟩
  · simp at hc
    obtain ⟨rfl, rfl, rfl⟩ := hc
    exact ⟨[], rfl, Nat.le_refl _, Nat.zero_le _, .inl rfl, by simp⟩
  · simp at hc
    obtain ⟨rfl, rfl, rfl⟩ := hc
    have key : ∀ i, i < len → ∃ n : X, w.cell? (a'.add i) = some (V n) ∧ ok n := fun i hi => by
      have hh := hcell i hi
      rw [cI, List.getElem?_eq_getElem (by omega)] at hh
      obtain ⟨cs', h3, h4⟩ := Option.bind_eq_some_iff.1 hh
      obtain ⟨c0, rfl, q0⟩ := cells_one h3
      obtain ⟨n, rfl, wn⟩ := hel m _ _ h4
      exact ⟨n, by simpa [Addr.add] using q0, wn⟩
    have build : ∀ k, k ≤ len → ∃ l : List X, l.length = k ∧ (∀ i n, l[i]? = some n → w.cell? (a'.add i) = some (V n) ∧ ok n) := by
      intro k
      induction k with
      | zero => intro _; exact ⟨[], rfl, by simp⟩
      | succ k ih =>
        intro hk
        obtain ⟨l, h1, h2⟩ := ih (by omega)
        obtain ⟨n, h3, h4⟩ := key k (by omega)
        refine ⟨l ++ [n], by simp [h1], fun i m hm => ?_⟩
        by_cases hi : i < l.length
        · rw [List.getElem?_append_left hi] at hm; exact h2 i m hm
        · rw [List.getElem?_append_right (by omega)] at hm
          have hi2 : i = k := by
            have := (List.getElem?_eq_some_iff.1 hm).1
            simp at this; omega
          subst hi2
          simp [h1] at hm
          subst hm
          exact ⟨h3, h4⟩
    obtain ⟨l, h1, h2⟩ := build len (Nat.le_refl _)
    obtain ⟨l', h3, h4, h5⟩ := rowIn_build (w := w) (a := a') (len := len) ⟨l.map V, by simpa using h1, fun i v hv => by
      rw [List.getElem?_map] at hv
      cases hn : l[i]? with
      | none => rw [hn] at hv; simp at hv
      | some n => rw [hn] at hv; simp at hv; subst hv; exact (h2 i n hn).1⟩
    refine ⟨l, h1, hlc, hcm, ?_, fun n hn => ?_⟩
    · rcases h5 with h5 | ⟨b, o, h5, h6, h7, h8⟩
      · left; rw [h5] at h3; simp at h3; subst h3; simp at h1; simp [h1]
      · right
        obtain rfl : a' = ⟨b, o, none⟩ := by simpa using h5
        have ea : ∀ i, Addr.add ⟨b, o, none⟩ i = ⟨b, o + i, none⟩ := fun i => by unfold Addr.add; split <;> simp_all
        refine ⟨b, o, rfl, trivial, h7, fun i v hv => ?_⟩
        rw [List.getElem?_map] at hv
        cases hn : l[i]? with
        | none => rw [hn] at hv; simp at hv
        | some n => rw [hn] at hv; simp at hv; subst hv; have := (h2 i n hn).1; rwa [ea] at this
    · obtain ⟨i, hi⟩ := List.getElem?_of_mem hn
      exact (h2 i n hi).2
/-- WHAT READS AS A SLICE OF NUMBERS -/
theorem ints_read {S I : TypeId} (hS : P.underlying S = some (.slice I)) (hI : P.underlying I = some (.int .i64)) (cI : P.cellsOf I = 1)
    {fuel : Nat} {a : Option Addr} {len cap : Nat} {x : DataW H × List MemPlace} (h : DataW.trod enc P w base spare held fuel S [.slice a len cap] = some x) : ∃ l : List Int, l.length = len ∧ len ≤ cap ∧ cap ≤ maxLen ∧ IntsIn Any w a l := by
  obtain ⟨l, h1, h2, h3, h4, h5⟩ := elems_read (V := Value.int .i64) (ok := i64) hS cI (fun m c x hx => by
    obtain ⟨n, hn, _, wn⟩ := DataW.trod_int hI hx
    simp only [List.cons.injEq, and_true] at hn
    refine ⟨n, hn, ?_⟩
    simp [Lit.wf, IntKind.min, IntKind.max, IntKind.signed, IntKind.bits] at wn
    exact wn) h
  exact ⟨l, h1, h2, h3, h4, h5⟩
end

end Go.Proofs.Ytdmieedfddgmjaa
namespace Go.Proofs.Ytdmieedfddgmjaa
open Go.RowKit

/-- records of n cells, one behind the other from an address on, in a block that p allows; At says that a record stands at a place -/
def SeqIn {T : Type} (At : T → Nat → Nat → Prop) (n : Nat) (p : Nat → Prop) (w : World) (l : List T) (a : Option Addr) : Prop :=
  l = [] ∨ ∃ b o, a = some ⟨b, o, none⟩ ∧ p b ∧ b < w.heap.size ∧ ∀ i t, l[i]? = some t → At t b (o + i * n)
theorem SeqIn.frame {T : Type} {At At' : T → Nat → Nat → Prop} {n : Nat} {p q : Nat → Prop} {w w' : World} {l : List T} {a : Option Addr} (h : SeqIn At n p w l a) (hs : w.heap.size ≤ w'.heap.size)
    (hp : ∀ b, p b → b < w.heap.size → q b) (hA : ∀ t b o, t ∈ l → p b → b < w.heap.size → At t b o → At' t b o) : SeqIn At' n q w' l a := by
  rcases h with h | ⟨b, o, h1, h2, h3, h4⟩
  · exact .inl h
  · exact .inr ⟨b, o, h1, hp b h2 h3, by omega, fun i t ht => hA t b _ (List.mem_of_getElem? ht) h2 h3 (h4 i t ht)⟩
theorem SeqIn.at {T : Type} {At : T → Nat → Nat → Prop} {n : Nat} {p : Nat → Prop} {w : World} {l : List T} {a : Option Addr} {k : Nat} (h : SeqIn At n p w l a) (hk : k < l.length) :
    ∃ b o, a = some ⟨b, o, none⟩ ∧ p b ∧ b < w.heap.size ∧ At l[k] b (o + k * n) := by
  rcases h with rfl | ⟨b, o, h1, h2, h3, h4⟩
  · simp at hk
  · exact ⟨b, o, h1, h2, h3, h4 k _ (List.getElem?_eq_getElem hk)⟩

/-! ### what is left when the sizes of all records are taken from a number -/
def szG {T : Type} (f : T → Int → Int) : List T → Int → Int
  | [], left => if left < 0 then -1 else left
  | t :: ts, left => if left < 0 then -1 else szG f ts (f t left)
def SzOk {T : Type} (f : T → Int → Int) : Prop := ∀ t left, -1 ≤ left → left ≤ 1048576 → -1 ≤ f t left ∧ f t left ≤ 1048576
theorem szG_neg {T : Type} (f : T → Int → Int) (l : List T) (left : Int) (h : left < 0) : szG f l left = -1 := by
  cases l <;> (simp only [szG]; rw [if_pos h])
theorem szG_bd {T : Type} {f : T → Int → Int} (hf : SzOk f) : ∀ (l : List T) (left : Int), left ≤ 1048576 → -1 ≤ szG f l left ∧ szG f l left ≤ 1048576
  | [], left, h => by simp only [szG]; split <;> omega
  | t :: ts, left, h => by
    simp only [szG]
    split
    · omega
    · exact szG_bd hf ts _ (hf t left (by omega) h).2
/-- what all records take -/
def sumC {T : Type} (c : T → Int) : List T → Int
  | [] => 0
  | t :: ts => c t + sumC c ts
theorem sumC_nonneg {T : Type} {c : T → Int} (hc : ∀ t, 0 ≤ c t) : ∀ l, 0 ≤ sumC c l
  | [] => by simp [sumC]
  | t :: ts => by have := sumC_nonneg hc ts; have := hc t; simp only [sumC]; omega
theorem szG_eq {T : Type} {f : T → Int → Int} {c : T → Int} (hf : SzOk f) (hc : ∀ t left, -1 ≤ left → left ≤ 1048576 → 0 ≤ f t left → f t left = left - c t) :
    ∀ (l : List T) (left : Int), left ≤ 1048576 → 0 ≤ szG f l left → szG f l left = left - sumC c l
  | [], left, h1, h => by
    simp only [szG, sumC] at h ⊢
    split at h
    · omega
    · rename_i hn; rw [if_neg hn]; omega
  | t :: ts, left, h1, h => by
    simp only [szG, sumC] at h ⊢
    split at h
    · omega
    · rename_i hn
      rw [if_neg hn]
      by_cases h0 : f t left < 0
      · rw [szG_neg _ _ _ h0] at h; omega
      · have h2 := szG_eq hf hc ts _ (hf t left (by omega) h1).2 h
        have h3 := hc t left (by omega) h1 (by omega)
        omega
theorem szG_mem {T : Type} {f : T → Int → Int} (hf : SzOk f) {t : T} : ∀ (l : List T) (left : Int), left ≤ 1048576 → 0 ≤ szG f l left → t ∈ l → ∃ lf, -1 ≤ lf ∧ lf ≤ 1048576 ∧ 0 ≤ f t lf
  | [], _, _, _, hm => by cases hm
  | u :: us, left, h1, h, hm => by
    simp only [szG] at h
    split at h
    · omega
    · by_cases h0 : f u left < 0
      · rw [szG_neg _ _ _ h0] at h; omega
      · cases hm with
        | head => exact ⟨left, by omega, h1, by omega⟩
        | tail _ hm => exact szG_mem hf us _ (hf u left (by omega) h1).2 h hm

/-- are all records the same -/
def eqG {T : Type} (f : T → T → Bool) : List T → List T → Bool
  | [], [] => true
  | t :: ts, u :: us => f t u && eqG f ts us
  | _, _ => false
theorem eqG_refl {T : Type} {f : T → T → Bool} (h : ∀ t, f t t = true) : ∀ l, eqG f l l = true
  | [] => by simp [eqG]
  | t :: ts => by simp [eqG, h, eqG_refl h ts]
theorem eqG_len {T : Type} (f : T → T → Bool) : ∀ (l m : List T), l.length ≠ m.length → eqG f l m = false
  | [], [], h => by simp at h
  | [], _ :: _, _ => by simp [eqG]
  | _ :: _, [], _ => by simp [eqG]
  | t :: ts, u :: us, h => by simp only [eqG]; rw [eqG_len f ts us (by simpa using h)]; simp
theorem eqG_true {T : Type} {f : T → T → Bool} (h : ∀ t u, f t u = true ↔ t = u) : ∀ l m, eqG f l m = true ↔ l = m
  | [], [] => by simp [eqG]
  | [], _ :: _ => by simp [eqG]
  | _ :: _, [] => by simp [eqG]
  | t :: ts, u :: us => by simp [eqG, h, eqG_true h ts us]
theorem eqG_drop {T : Type} {f : T → T → Bool} {l m : List T} {k : Nat} (hk : k < l.length) (hk' : k < m.length) (h : eqG f (l.drop k) (m.drop k) = eqG f l m) :
    eqG f l m = (f l[k] m[k] && eqG f (l.drop (k + 1)) (m.drop (k + 1))) := by
  rw [← h, List.drop_eq_getElem_cons hk, List.drop_eq_getElem_cons hk']
  simp only [eqG]

/-! ### a stretch of cells of one block is written -/
structure SetIn (R lo hi : Nat) (w w' : World) : Prop where
  os : w'.os = w.os
  tape : w'.tape = w.tape
  output : w'.output = w.output
  size : w'.heap.size = w.heap.size
  block : ∀ b, b ≠ R → w'.heap[b]? = w.heap[b]?
  cell : ∀ i, i < lo ∨ hi ≤ i → w'.cell? ⟨R, i, none⟩ = w.cell? ⟨R, i, none⟩
  frozen : ∀ b i, w'.frozen? ⟨b, i, none⟩ = w.frozen? ⟨b, i, none⟩
theorem SetIn.refl (R lo hi : Nat) (w : World) : SetIn R lo hi w w := ⟨rfl, rfl, rfl, rfl, fun _ _ => rfl, fun _ _ => rfl, fun _ _ => rfl⟩
theorem SetIn.set {R lo hi i : Nat} {w w' : World} (h : SetIn R lo hi w w') (h1 : lo ≤ i) (h2 : i < hi) (v : Value) : SetIn R lo hi w (w'.setCell ⟨R, i, none⟩ v) :=
  ⟨h.os, h.tape, h.output, by simpa using h.size, fun b hb => by rw [Below.heap_setCell _ _ _ _ hb]; exact h.block b hb,
    fun j hj => by rw [World.cell?_setCell_other _ _ _ _ (by intro e; have := congrArg Addr.off e; simp at this; omega)]; exact h.cell j hj,
    fun b j => by rw [World.frozen?_setCell]; exact h.frozen b j⟩
theorem SetIn.below {R lo hi B : Nat} {w w' : World} (h : SetIn R lo hi w w') (hB : B ≤ R) : Below B w w' :=
  ⟨h.os, h.tape, h.output, Nat.le_of_eq h.size.symm, fun k hk => h.block k (by omega)⟩
theorem SetIn.keep {R lo hi B : Nat} {w w' : World} (h : SetIn R lo hi w w') (hB : R < B) : Keep B w w' :=
  ⟨Nat.le_of_eq h.size.symm, fun b h1 _ => h.block b (by omega)⟩
theorem SetIn.but {R lo hi : Nat} {w w' : World} (h : SetIn R lo hi w w') : But w R w' :=
  ⟨h.os, h.tape, h.output, Nat.le_of_eq h.size.symm, fun k _ hd => h.block k hd⟩
/-- the cells, one by one -/
def setAll (w : World) (R o : Nat) : List Value → World
  | [] => w
  | v :: vs => setAll (w.setCell ⟨R, o, none⟩ v) R (o + 1) vs
theorem setAll_in : ∀ (vs : List Value) (w w0 : World) (R o lo hi : Nat), SetIn R lo hi w0 w → lo ≤ o → o + vs.length ≤ hi → SetIn R lo hi w0 (setAll w R o vs)
  | [], _, _, _, _, _, _, h, _, _ => h
  | v :: vs, w, w0, R, o, lo, hi, h, h1, h2 => by
    simp only [List.length_cons] at h2
    exact setAll_in vs _ w0 R (o + 1) lo hi (h.set h1 (by omega) v) (by omega) (by omega)
theorem setAll_low : ∀ (vs : List Value) (w : World) (R o i : Nat), i < o → (setAll w R o vs).cell? ⟨R, i, none⟩ = w.cell? ⟨R, i, none⟩ := fun vs w R o i hi =>
  (setAll_in vs w w R o o (o + vs.length) (SetIn.refl ..) (Nat.le_refl _) (Nat.le_refl _)).cell i (.inl hi)
theorem setAll_cell : ∀ (vs : List Value) (w : World) (R o : Nat), (∀ i, i < vs.length → ∃ u, w.cell? ⟨R, o + i, none⟩ = some u) → ∀ i v, vs[i]? = some v → (setAll w R o vs).cell? ⟨R, o + i, none⟩ = some v
  | [], _, _, _, _, _, _, hv => by simp at hv
  | u :: vs, w, R, o, h, i, v, hv => by
    cases i with
    | zero =>
      obtain rfl : u = v := by simpa using hv
      obtain ⟨x, hx⟩ := h 0 (by simp)
      rw [setAll, Nat.add_zero, setAll_low _ _ _ _ _ (by omega)]
      exact World.cell?_setCell_same _ _ _ hx
    | succ i =>
      have := setAll_cell vs (w.setCell ⟨R, o, none⟩ u) R (o + 1) (fun j hj => by
        obtain ⟨x, hx⟩ := h (j + 1) (by simpa using hj)
        exact ⟨x, by rw [World.cell?_setCell_other _ _ _ _ (by intro e; have := congrArg Addr.off e; simp at this; omega), show o + 1 + j = o + (j + 1) by omega]; exact hx⟩) i v (by simpa using hv)
      rw [setAll, show o + (i + 1) = o + 1 + i by omega]
      exact this
theorem Row.setIn {w w' : World} {R n lo up : Nat} {f : Nat → Value} (h : Row w R n f) (hs : SetIn R lo up w w') (hc : ∀ i, lo ≤ i → i < up → ∃ u, w'.cell? ⟨R, i, none⟩ = some u) : ∃ g, Row w' R n g := by
  refine ⟨fun i => (w'.cell? ⟨R, i, none⟩).getD undef, by rw [hs.size]; exact h.1, fun i hi => ?_, fun i => by rw [hs.frozen]; exact h.2.2 i⟩
  show _ = some ((w'.cell? ⟨R, i, none⟩).getD undef)
  by_cases hl : lo ≤ i ∧ i < up
  · obtain ⟨u, hu⟩ := hc i hl.1 hl.2
    rw [hu]; rfl
  · rw [hs.cell i (by omega), h.2.1 i hi]; rfl

/-! ### marking: numbers become numbers, all else stays -/
structure Marked (p : Nat → Prop) (w w' : World) : Prop where
  os : w'.os = w.os
  tape : w'.tape = w.tape
  output : w'.output = w.output
  size : w.heap.size ≤ w'.heap.size
  block : ∀ b, b < w.heap.size → ¬ p b → w'.heap[b]? = w.heap[b]?
  frozen : ∀ b i, b < w.heap.size → w'.frozen? ⟨b, i, none⟩ = w.frozen? ⟨b, i, none⟩
  cell : ∀ b i v, w.cell? ⟨b, i, none⟩ = some v → w'.cell? ⟨b, i, none⟩ = some v ∨ ∃ n m, v = .int .i64 n ∧ w'.cell? ⟨b, i, none⟩ = some (.int .i64 m)
theorem Marked.refl (p : Nat → Prop) (w : World) : Marked p w w := ⟨rfl, rfl, rfl, Nat.le_refl _, fun _ _ _ => rfl, fun _ _ _ => rfl, fun _ _ _ h => .inl h⟩
theorem Marked.below {p : Nat → Prop} {w W W' : World} (h : Marked p w W) (hb : Below W.heap.size W W') : Marked p w W' :=
  ⟨hb.os.trans h.os, hb.tape.trans h.tape, hb.output.trans h.output, Nat.le_trans h.size hb.size, fun b hl hn => by rw [hb.block b (Nat.lt_of_lt_of_le hl h.size)]; exact h.block b hl hn,
    fun b i hl => by rw [hb.frozen (p := ⟨b, i, none⟩) (Nat.lt_of_lt_of_le hl h.size)]; exact h.frozen b i hl,
    fun b i v hv => by rw [hb.cell (p := ⟨b, i, none⟩) (Nat.lt_of_lt_of_le (blt hv) h.size)]; exact h.cell b i v hv⟩
theorem Marked.slice {p : Nat → Prop} {w w' : World} (h : Marked p w w') {b i : Nat} {a : Option Addr} {n c : Nat} (hc : w.cell? ⟨b, i, none⟩ = some (.slice a n c)) : w'.cell? ⟨b, i, none⟩ = some (.slice a n c) := by
  rcases h.cell b i _ hc with h | ⟨n, m, h, _⟩
  · exact h
  · cases h
theorem Marked.int {p : Nat → Prop} {w w' : World} (h : Marked p w w') {b i : Nat} {n : Int} (hc : w.cell? ⟨b, i, none⟩ = some (.int .i64 n)) : ∃ m, w'.cell? ⟨b, i, none⟩ = some (.int .i64 m) := by
  rcases h.cell b i _ hc with h | ⟨n, m, _, h⟩
  · exact ⟨_, h⟩
  · exact ⟨_, h⟩
theorem Marked.set {p : Nat → Prop} {w w' : World} (h : Marked p w w') {b i : Nat} {n : Int} (hp : p b) (hc : w.cell? ⟨b, i, none⟩ = some (.int .i64 n)) (m : Int) : Marked p w (w'.setCell ⟨b, i, none⟩ (.int .i64 m)) := by
  obtain ⟨k, hk⟩ := h.int hc
  refine ⟨h.os, h.tape, h.output, by simpa using h.size, fun x hl hn => ?_, fun x j hl => by rw [World.frozen?_setCell]; exact h.frozen x j hl, fun x j v hv => ?_⟩
  · rw [Below.heap_setCell _ _ _ _ (by rintro rfl; exact hn hp)]; exact h.block x hl hn
  · by_cases e : (⟨b, i, none⟩ : Addr) = ⟨x, j, none⟩
    · have e1 : b = x := congrArg Addr.block e
      have e2 : i = j := congrArg Addr.off e
      subst e1 e2
      rw [hc] at hv
      obtain rfl : Value.int .i64 n = v := by simpa using hv
      exact .inr ⟨n, m, rfl, World.cell?_setCell_same _ _ _ hk⟩
    · rw [World.cell?_setCell_other _ _ _ _ e]; exact h.cell x j v hv
theorem Marked.mono {p q : Nat → Prop} {w w' : World} (h : Marked p w w') (hp : ∀ b, p b → q b) : Marked q w w' :=
  ⟨h.os, h.tape, h.output, h.size, fun b hl hn => h.block b hl fun e => hn (hp b e), h.frozen, h.cell⟩
/-- what lies where nothing was marked -/
theorem Marked.new {p : Nat → Prop} {w W W' : World} (h : Marked p W W') (hb : Below w.heap.size w W) (hp : ∀ b, p b → w.heap.size ≤ b) : Below w.heap.size w W' :=
  ⟨h.os.trans hb.os, h.tape.trans hb.tape, h.output.trans hb.output, Nat.le_trans hb.size h.size, fun k hk => by
    rw [h.block k (Nat.lt_of_lt_of_le hk hb.size) fun e => by have := hp k e; omega]; exact hb.block k hk⟩
/-- blocks of a stretch that nothing freezes -/
def Fresh (w : World) (B C : Nat) (b : Nat) : Prop := B ≤ b ∧ b < C ∧ ∀ i, w.frozen? ⟨b, i, none⟩ = false
theorem Fresh.below {w w' : World} {B C b : Nat} (h : Fresh w B C b) (hb : Below w.heap.size w w') (hl : b < w.heap.size) : Fresh w' B C b :=
  ⟨h.1, h.2.1, fun i => by rw [hb.frozen (p := ⟨b, i, none⟩) hl]; exact h.2.2 i⟩
end Go.Proofs.Ytdmieedfddgmjaa
namespace Go.Proofs.Ytdmieedfddgmjaa
open Go.RowKit

/-- a process -/
structure Pr where
  locs : Int
  edges : List Ed
/-- a system -/
structure Sy where
  init : List Int
  procs : List Pr

theorem EdIn.frame {p q : Nat → Prop} {w w' : World} {e : Ed} {x : Value} (h : EdIn p w e x) (hp : ∀ b, p b → b < w.heap.size → q b ∧ w'.heap[b]? = w.heap[b]?) : EdIn q w' e x := by
  obtain ⟨a, c, a', c', h0, h1, h2, h3, h4, h5, h6⟩ := h
  exact ⟨a, c, a', c', h0, h1, h2, h3, h4, (TrIn_frame hp).1 _ _ h5, (TrIn_frame hp).1 _ _ h6⟩
/-- an edge's ten cells at a place -/
def EdAt (p : Nat → Prop) (w : World) (e : Ed) (b o : Nat) : Prop := ∃ a c a' c',
  (w.cell? ⟨b, o, none⟩ = some (.int .i64 e.src) ∧ w.cell? ⟨b, o + 1, none⟩ = some (.int .i64 e.dst) ∧ w.cell? ⟨b, o + 2, none⟩ = some (.int .i64 e.guard.kind) ∧ w.cell? ⟨b, o + 3, none⟩ = some (.int .i64 e.guard.val) ∧
    w.cell? ⟨b, o + 4, none⟩ = some (.slice a e.guard.kids.length c) ∧ w.cell? ⟨b, o + 5, none⟩ = some (.int .i64 e.var) ∧ w.cell? ⟨b, o + 6, none⟩ = some (.int .i64 e.val.kind) ∧ w.cell? ⟨b, o + 7, none⟩ = some (.int .i64 e.val.val) ∧
    w.cell? ⟨b, o + 8, none⟩ = some (.slice a' e.val.kids.length c') ∧ w.cell? ⟨b, o + 9, none⟩ = some (.int .i64 e.sync)) ∧
  EdIn p w e (.agg #[.int .i64 e.src, .int .i64 e.dst, .int .i64 e.guard.kind, .int .i64 e.guard.val, .slice a e.guard.kids.length c, .int .i64 e.var, .int .i64 e.val.kind, .int .i64 e.val.val, .slice a' e.val.kids.length c', .int .i64 e.sync])
theorem EdAt.cells {p q : Nat → Prop} {w w' : World} {e : Ed} {b o : Nat} (h : EdAt p w e b o) (hc : ∀ i, i < 10 → w'.cell? ⟨b, o + i, none⟩ = w.cell? ⟨b, o + i, none⟩) (hp : ∀ b, p b → b < w.heap.size → q b ∧ w'.heap[b]? = w.heap[b]?) : EdAt q w' e b o := by
  obtain ⟨a, c, a', c', ⟨h0, h1, h2, h3, h4, h5, h6, h7, h8, h9⟩, hx⟩ := h
  exact ⟨a, c, a', c', ⟨(hc 0 (by omega)).trans h0, (hc 1 (by omega)).trans h1, (hc 2 (by omega)).trans h2, (hc 3 (by omega)).trans h3, (hc 4 (by omega)).trans h4, (hc 5 (by omega)).trans h5, (hc 6 (by omega)).trans h6, (hc 7 (by omega)).trans h7, (hc 8 (by omega)).trans h8, (hc 9 (by omega)).trans h9⟩, hx.frame hp⟩
theorem EdAt.frame {p q : Nat → Prop} {w w' : World} {e : Ed} {b o : Nat} (h : EdAt p w e b o) (he : w'.heap[b]? = w.heap[b]?) (hp : ∀ b, p b → b < w.heap.size → q b ∧ w'.heap[b]? = w.heap[b]?) : EdAt q w' e b o :=
  h.cells (fun i _ => World.cell?_of_block (w := w) (a := ⟨b, o + i, none⟩) he) hp
/-- rows of edges -/
def EdsIn (p : Nat → Prop) (w : World) (l : List Ed) (a : Option Addr) : Prop := SeqIn (EdAt p w) 10 p w l a
theorem EdsIn.frame {p q : Nat → Prop} {w w' : World} {l : List Ed} {a : Option Addr} (h : EdsIn p w l a) (hs : w.heap.size ≤ w'.heap.size) (hp : ∀ b, p b → b < w.heap.size → q b ∧ w'.heap[b]? = w.heap[b]?) : EdsIn q w' l a :=
  SeqIn.frame h hs (fun b h1 h2 => (hp b h1 h2).1) fun t b o _ h1 h2 h3 => h3.frame (hp b h1 h2).2 hp
theorem EdsIn.below {p : Nat → Prop} {w w' : World} {l : List Ed} {a : Option Addr} (h : EdsIn p w l a) (hb : Below w.heap.size w w') : EdsIn p w' l a := h.frame hb.size fun b hp hl => ⟨hp, hb.block b hl⟩

/-- a process in memory -/
def PrIn (p : Nat → Prop) (w : World) (q : Pr) (x : Value) : Prop := ∃ a c, x = .agg #[.int .i64 q.locs, .slice a q.edges.length c] ∧ i64 q.locs ∧ q.edges.length ≤ c ∧ c ≤ maxLen ∧ EdsIn p w q.edges a
theorem PrIn.frame {p q : Nat → Prop} {w w' : World} {t : Pr} {x : Value} (h : PrIn p w t x) (hs : w.heap.size ≤ w'.heap.size) (hp : ∀ b, p b → b < w.heap.size → q b ∧ w'.heap[b]? = w.heap[b]?) : PrIn q w' t x := by
  obtain ⟨a, c, h0, h1, h2, h3, h4⟩ := h
  exact ⟨a, c, h0, h1, h2, h3, h4.frame hs hp⟩
theorem PrIn.below {p : Nat → Prop} {w w' : World} {t : Pr} {x : Value} (h : PrIn p w t x) (hb : Below w.heap.size w w') : PrIn p w' t x := h.frame hb.size fun b hp hl => ⟨hp, hb.block b hl⟩
def PrAt (p : Nat → Prop) (w : World) (q : Pr) (b o : Nat) : Prop := ∃ a c, (w.cell? ⟨b, o, none⟩ = some (.int .i64 q.locs) ∧ w.cell? ⟨b, o + 1, none⟩ = some (.slice a q.edges.length c)) ∧ PrIn p w q (.agg #[.int .i64 q.locs, .slice a q.edges.length c])
theorem PrAt.cells {p q : Nat → Prop} {w w' : World} {t : Pr} {b o : Nat} (h : PrAt p w t b o) (hs : w.heap.size ≤ w'.heap.size) (hc : ∀ i, i < 2 → w'.cell? ⟨b, o + i, none⟩ = w.cell? ⟨b, o + i, none⟩) (hp : ∀ b, p b → b < w.heap.size → q b ∧ w'.heap[b]? = w.heap[b]?) : PrAt q w' t b o := by
  obtain ⟨a, c, ⟨h0, h1⟩, hx⟩ := h
  exact ⟨a, c, ⟨(hc 0 (by omega)).trans h0, (hc 1 (by omega)).trans h1⟩, hx.frame hs hp⟩
theorem PrAt.frame {p q : Nat → Prop} {w w' : World} {t : Pr} {b o : Nat} (h : PrAt p w t b o) (hs : w.heap.size ≤ w'.heap.size) (he : w'.heap[b]? = w.heap[b]?) (hp : ∀ b, p b → b < w.heap.size → q b ∧ w'.heap[b]? = w.heap[b]?) : PrAt q w' t b o :=
  h.cells hs (fun i _ => World.cell?_of_block (w := w) (a := ⟨b, o + i, none⟩) he) hp
def PrsIn (p : Nat → Prop) (w : World) (l : List Pr) (a : Option Addr) : Prop := SeqIn (PrAt p w) 2 p w l a
theorem PrsIn.frame {p q : Nat → Prop} {w w' : World} {l : List Pr} {a : Option Addr} (h : PrsIn p w l a) (hs : w.heap.size ≤ w'.heap.size) (hp : ∀ b, p b → b < w.heap.size → q b ∧ w'.heap[b]? = w.heap[b]?) : PrsIn q w' l a :=
  SeqIn.frame h hs (fun b h1 h2 => (hp b h1 h2).1) fun t b o _ h1 h2 h3 => h3.frame hs (hp b h1 h2).2 hp
theorem PrsIn.below {p : Nat → Prop} {w w' : World} {l : List Pr} {a : Option Addr} (h : PrsIn p w l a) (hb : Below w.heap.size w w') : PrsIn p w' l a := h.frame hb.size fun b hp hl => ⟨hp, hb.block b hl⟩

theorem IntsIn.frame {p q : Nat → Prop} {w w' : World} {a : Option Addr} {l : List Int} (h : IntsIn p w a l) (hs : w.heap.size ≤ w'.heap.size) (hp : ∀ b, p b → b < w.heap.size → q b ∧ w'.heap[b]? = w.heap[b]?) : IntsIn q w' a l := ⟨h.1.frame hs hp, h.2⟩
/-- A SYSTEM IN MEMORY -/
def SyIn (p : Nat → Prop) (w : World) (s : Sy) (x : Value) : Prop := ∃ a c b d, x = .agg #[.slice a s.init.length c, .slice b s.procs.length d] ∧ s.init.length ≤ c ∧ c ≤ maxLen ∧ IntsIn p w a s.init ∧ s.procs.length ≤ d ∧ d ≤ maxLen ∧ PrsIn p w s.procs b
theorem SyIn.frame {p q : Nat → Prop} {w w' : World} {s : Sy} {x : Value} (h : SyIn p w s x) (hs : w.heap.size ≤ w'.heap.size) (hp : ∀ b, p b → b < w.heap.size → q b ∧ w'.heap[b]? = w.heap[b]?) : SyIn q w' s x := by
  obtain ⟨a, c, b, d, h0, h1, h2, h3, h4, h5, h6⟩ := h
  exact ⟨a, c, b, d, h0, h1, h2, h3.frame hs hp, h4, h5, h6.frame hs hp⟩
theorem SyIn.below {p : Nat → Prop} {w w' : World} {s : Sy} {x : Value} (h : SyIn p w s x) (hb : Below w.heap.size w w') : SyIn p w' s x := h.frame hb.size fun b hp hl => ⟨hp, hb.block b hl⟩
theorem SyIn.any {p : Nat → Prop} {w : World} {s : Sy} {x : Value} (h : SyIn p w s x) : SyIn Any w s x := h.frame (Nat.le_refl _) fun _ _ _ => ⟨trivial, rfl⟩
theorem SyIn.shape {p : Nat → Prop} {w : World} {s : Sy} {x : Value} (h : SyIn p w s x) : ∃ a c b d, x = .agg #[.slice a s.init.length c, .slice b s.procs.length d] := by
  obtain ⟨a, c, b, d, h, _⟩ := h; exact ⟨a, c, b, d, h⟩
end Go.Proofs.Ytdmieedfddgmjaa
namespace Go.Proofs.Ytdmieedfddgmjaa
open Go.RowKit

namespace Expr

def SzT (t : Tr) : Prop := ∀ (w : World) (x : Value) (left : Int), TrIn Any w t x → left ≤ 1048576 → -1 ≤ left →
    Calls Try.prog 18 #[x, .int .i64 left] w (Ret (.int .i64 (szT t left)) w)
def SzL (l : List Tr) : Prop := ∀ (w : World) (a : Option Addr) (c : Nat) (left : Int), TrsIn Any w l a → left ≤ 1048576 → -1 ≤ left → l.length ≤ c → c ≤ maxLen →
    Calls Try.prog 6 #[.slice a l.length c, .int .i64 left] w (Ret (.int .i64 (szL l (left - l.length))) w)

set_option maxHeartbeats 400000 in
theorem szT_of (k v : Int) (kids : List Tr) (h : SzL kids) : SzT (.mk k v kids) := by
  intro w x left hx h1 h2
  rw [TrIn_mk] at hx
  obtain ⟨a, n, c, rfl, hk, hv, rfl, hc, hc2, hks⟩ := hx
  have hbd := szL_bd kids (left - kids.length) (by omega)
  by_cases hneg : szL kids (left - kids.length) < 0
  all_goals
    go_enter Try.func18, Try.ntmps18
    go_wp2_with fail
    refine (h _ a c left (TrsIn_alloc hks _) h1 h2 hc hc2).mono ?_
    rintro e w' ⟨rfl, hby⟩
    obtain ⟨y, rfl⟩ := bex hby
    clear hby
    go_wp2_with fail
    go_ret
    refine Ret.mk (int_val ?_) (by repeat (first | exact Below.refl _ _ | assumption | refine below_a ?_ _ | refine below_o ?_ _ | refine below_d ?_ | refine below_n ?_ _ | refine below_s ?_ (by first | (simp; done) | (simp; omega) | omega) _))
    simp only [szT]
    first | rw [if_pos (by omega)] | rw [if_neg (by omega)]

set_option maxHeartbeats 400000 in
theorem szL_of (l : List Tr) (h : ∀ t, t ∈ l → SzT t) : SzL l := by
  intro w a c left hl h1 h2 hc hc2
  unfold maxLen at hc2
  by_cases hneg : left - l.length < 0
  · go_enter Try.func6, Try.ntmps6
    go_wp2_with fail
    go_ret
    refine Ret.mk (int_val ?_) (Below.refl _ _)
    cases l <;> (simp only [szL]; rw [if_pos (by simpa using hneg)])
  · go_enter Try.func6, Try.ntmps6
    go_wp2_with fail
    go_loopw [1, 5] (fun u i wr => ∃ (k : Nat) (lf : Int), k ≤ l.length ∧ u = .int .i64 lf ∧ i = .int .i64 k ∧ 0 ≤ lf ∧ lf ≤ 1048576 ∧ Below w.heap.size w wr ∧ Hid (szL (l.drop k) lf = szL l (left - l.length)))
      (fun _ i _ => l.length - (intOf i).toNat)
    case atStart => exact ⟨0, _, Nat.zero_le _, rfl, rfl, by omega, by omega, Below.refl _ _, hid rfl⟩
    case round =>
      obtain ⟨k, lf, hk, rfl, rfl, h0, h5, hb, hr⟩ := hrel
      by_cases hlt : k < l.length
      · obtain ⟨b, o, c0, c1, c2, t, rfl, gb, g0, g1, g2, hT⟩ := TrsIn_round hl hb hlt
        go_wp2_with fail
        refine (h t hT.out.2.1 _ _ lf hT.out.1 h5 (by omega)).mono ?_
        rintro e w2 ⟨rfl, hby⟩
        obtain ⟨y, rfl⟩ := bex hby
        clear hby
        have hbd := szT_bd t lf (by omega) h5
        have hr2 : Hid (szL (l.drop (k + 1)) (szT t lf) = szL l (left - l.length)) := by
          have := hr.out
          rw [hT.out.2.2.1] at this
          simp only [szL] at this
          rw [if_neg (by omega)] at this
          exact this
        by_cases hn : szT t lf < 0
        · go_wp2_with fail
          go_ret
          refine Ret.mk (int_val ?_) (by repeat (first | exact Below.refl _ _ | assumption | refine below_a ?_ _ | refine below_o ?_ _ | refine below_d ?_ | refine below_n ?_ _ | refine below_s ?_ (by first | (simp; done) | (simp; omega) | omega) _))
          rw [← hr2.out, szL_neg _ _ hn]
        · go_wp2_with fail
          go_roundw
          case rel => exact ⟨k + 1, _, by omega, rfl, by go_num, by omega, by omega, (by repeat (first | exact Below.refl _ _ | assumption | refine below_a ?_ _ | refine below_o ?_ _ | refine below_d ?_ | refine below_n ?_ _ | refine below_s ?_ (by first | (simp; done) | (simp; omega) | omega) _)), hr2⟩
          case measure => simp [intOf]; omega
      · have hr2 : lf = szL l (left - l.length) := by
          rw [← hr.out, List.drop_of_length_le (by omega)]
          simp only [szL]
          rw [if_neg (by omega)]
        have HR := hid hr2; clear hr2
        go_wp2_with fail
        go_ret
        exact Ret.mk (int_val HR.out) hb

theorem sz_any : ∀ t, SzT t := fun t => Tr.ind (fun k v kids ih => szT_of k v kids (szL_of kids ih)) t

/-! ### toExpr: a copy, in new memory -/

def ToT (t : Tr) : Prop := ∀ (w : World) (x : Value), TrIn Any w t x → Small t → Calls Try.prog 22 #[x] w (RetP (NewTr w.heap.size t) w)
def ToL (l : List Tr) : Prop := ∀ (w : World) (a : Option Addr) (c : Nat), TrsIn Any w l a → SmallL l → l.length ≤ c → c ≤ maxLen →
    Calls Try.prog 9 #[.slice a l.length c] w (RetP (fun v w' => ∃ c' f bs, v = .slice (some ⟨w.heap.size, 0, none⟩) l.length c' ∧ l.length ≤ c' ∧ c' ≤ maxLen ∧ Row w' w.heap.size (l.length * 3) f ∧
      TrsOwn w' f l 0 bs ∧ ∀ b, b ∈ bs → w.heap.size < b) w)

set_option maxHeartbeats 400000 in
theorem to_of (k v : Int) (kids : List Tr) (h : ToL kids) : ToT (.mk k v kids) := by
  intro w x hx hs
  rw [TrIn_mk] at hx
  obtain ⟨a, n, c, rfl, hk, hv, rfl, hc, hc2, hks⟩ := hx
  go_enter Try.func22, Try.ntmps22
  go_wp2_with fail
  refine (h _ a c (TrsIn_alloc (TrsIn_alloc (TrsIn_alloc hks _) _) _) hs.2 hc hc2).mono ?_
  rintro e w' ⟨u, rfl, ⟨c', f, bs, rfl, hc3, hc4, hrow, hown, hlt⟩, hby⟩
  obtain ⟨y, rfl⟩ := bex hby
  clear hby
  go_wp2_with fail
  refine bodyPost_ret (v := .agg #[.int .i64 k, .int .i64 v, .slice (some ⟨w.heap.size + 1 + 1 + 1, 0, none⟩) kids.length c']) (by simp [results, Try.results22, go_sem]) rfl (RetP.mk ?_ (by repeat (first | exact Below.refl _ _ | assumption | refine below_a ?_ _ | refine below_o ?_ _ | refine below_d ?_ | refine below_n ?_ _ | refine below_s ?_ (by first | (simp; done) | (simp; omega) | omega) _)))
  simp only [World.size_alloc] at hrow hlt
  generalize World.over _ y = w' at hrow hown ⊢
  have hni : ∀ n, n ≤ w.heap.size + 1 + 1 + 1 → n ∉ bs := fun n hn e => by have := hlt n e; omega
  obtain ⟨bs', h1, h2⟩ := TrOwn_new (w := (((w'.setCell ⟨w.heap.size + 1 + 1, 2, none⟩ (.slice (some ⟨w.heap.size + 1 + 1 + 1, 0, none⟩) kids.length c')).setCell ⟨w.heap.size + 1, 0, none⟩ (.int .i64 k)).setCell ⟨w.heap.size + 1, 1, none⟩ (.int .i64 v)).setCell ⟨w.heap.size + 1, 2, none⟩ (.slice (some ⟨w.heap.size + 1 + 1 + 1, 0, none⟩) kids.length c')) hk hv hc3 hc4
    ((((hrow.setOther (by first | (simp; done) | (simp; omega) | omega) _).setOther (by first | (simp; done) | (simp; omega) | omega) _).setOther (by first | (simp; done) | (simp; omega) | omega) _).setOther (by first | (simp; done) | (simp; omega) | omega) _)
    (TrsOwn_set (TrsOwn_set (TrsOwn_set (TrsOwn_set hown (hni _ (by first | (simp; done) | (simp; omega) | omega)) _) (hni _ (by first | (simp; done) | (simp; omega) | omega)) _) (hni _ (by first | (simp; done) | (simp; omega) | omega)) _) (hni _ (by first | (simp; done) | (simp; omega) | omega)) _)
    (hni _ (by omega))
  refine ⟨bs', h1, fun b hb => ?_⟩
  rcases h2 b hb with rfl | h3
  · omega
  · have := hlt b h3; omega

theorem Small_mk {k v : Int} {kids : List Tr} (h : Small (.mk k v kids)) : kids.length ≤ 1048576 ∧ SmallL kids := h

/-- the zero node's cells, n times -/
theorem info : (Try.prog.info? 43).map (fun i => (i.zero, i.size, i.bytes)) = some (some (.agg #[.int .i64 0, .int .i64 0, .slice none 0 0]), 3, 40) := by kernel_rfl
def zeros (n : Nat) : Array Value := madeCells #[.int .i64 0, .int .i64 0, .slice none 0 0] (n * 3)
theorem make_row (n : Nat) (h : n ≤ 1048576) (w : World) : (Instr.makeSlice 32 (.int .i64 (n : Int)) (.int .i64 (n : Int))).run Try.prog w =
    .ok (.slice (some ⟨w.heap.size, 0, none⟩) n n) (w.alloc (.cells (zeros n) 43)) := by
  obtain ⟨i, hi, hz, h1, h2⟩ := info_parts info
  have := run_make (P := Try.prog) w 32 43 i _ Try.underlying32 hi hz .i64 .i64 n n (by omega) (by omega) (by rw [h2]; omega) (by omega)
  rw [this, h1]
  simp [zeros, Value.cells]

set_option maxHeartbeats 400000 in
theorem toL_of (l : List Tr) (h : ∀ t, t ∈ l → ToT t) (hlen : l.length ≤ 1048576) : ToL l := by
  intro w a c hl hs hc hc2
  have hmk := make_row l.length hlen
  unfold maxLen at hc2
  go_enter Try.func9, Try.ntmps9
  go_wp2_with fail
  go_loopw [4] (fun i wr => ∃ (k : Nat), k ≤ l.length ∧ i = .int .i64 k ∧ Fill w w.heap.size l k wr) (fun i _ => l.length - (intOf i).toNat)
  case atStart => exact ⟨0, Nat.zero_le _, rfl, Fill.start (by rw [zeros, size_madeCells]) _⟩
  case round =>
    obtain ⟨k, hk, rfl, hfill⟩ := hrel
    by_cases hlt : k < l.length
    · obtain ⟨b, o, c0, c1, c2, t, rfl, gb, g0, g1, g2, hT⟩ := TrsIn_round hl hfill.bel hlt
      go_wp2_with fail
      refine (h t hT.out.2.1 _ _ hT.out.1 (smallL_mem hs hT.out.2.1)).mono ?_
      rintro e w2 ⟨u, rfl, hnew, hby⟩
      obtain ⟨y, rfl⟩ := bex hby
      clear hby
      obtain ⟨a', c', rfl⟩ := TrIn_shape hnew.any
      obtain ⟨u0, u1, u2, q0, q1, q2, qf⟩ := hfill.cells hlt (over_below _ y)
      have hstep := hid (hfill.step hT.out.2.2.2 hnew (over_below _ y))
      clear hnew g0 g1 g2
      generalize World.over _ y = w2 at *
      go_wp2_with fail
      go_roundw
      case rel => exact ⟨k + 1, by omega, by go_num, hstep.out⟩
      case measure => simp [intOf]; omega
    · obtain ⟨f, bs, h1, h2, h3⟩ := hfill.done (by omega)
      go_wp2_with fail
      go_ret
      exact RetP.mk ⟨l.length, f, bs, rfl, Nat.le_refl _, by unfold maxLen; omega, h1, h2, h3⟩ hfill.bel

theorem to_any : ∀ t, ToT t := fun t => Tr.ind (fun k v kids ih w x hx hs => to_of k v kids (toL_of kids ih hs.1) w x hx hs) t

/-! ### eqExpr -/

def EqT (t : Tr) : Prop := ∀ (w : World) (u : Tr) (x y : Value), TrIn Any w t x → TrIn Any w u y → Calls Try.prog 26 #[x, y] w (Ret (.bool (eqT t u)) w)
def EqL (l : List Tr) : Prop := ∀ (w : World) (m : List Tr) (a a' : Option Addr) (c c' : Nat), TrsIn Any w l a → TrsIn Any w m a' → l.length ≤ c → c ≤ maxLen → m.length ≤ c' → c' ≤ maxLen →
    Calls Try.prog 12 #[.slice a l.length c, .slice a' m.length c'] w (Ret (.bool (eqL l m)) w)

set_option maxHeartbeats 400000 in
theorem eqT_of (k v : Int) (kids : List Tr) (h : EqL kids) : EqT (.mk k v kids) := by
  intro w u x y hx hy
  cases u with
  | mk k' v' kids' =>
  rw [TrIn_mk] at hx hy
  obtain ⟨a, n, c, rfl, hk, hv, rfl, hc, hc2, hks⟩ := hx
  obtain ⟨a', n', c', rfl, hk', hv', rfl, hc', hc2', hks'⟩ := hy
  by_cases h1 : k = k'
  · by_cases h2 : v = v'
    · subst h1 h2
      have e1 : eqT (.mk k v kids) (.mk k v kids') = eqL kids kids' := by simp [eqT]
      have E1 := hid e1; clear e1
      go_enter Try.func26, Try.ntmps26
      go_wp2_with fail
      refine (h _ kids' a a' c c' (TrsIn_alloc (TrsIn_alloc hks _) _) (TrsIn_alloc (TrsIn_alloc hks' _) _) hc hc2 hc' hc2').mono ?_
      rintro e w' ⟨rfl, hby⟩
      obtain ⟨y, rfl⟩ := bex hby
      clear hby
      cases hq : eqL kids kids' with
      | true =>
        rw [hq] at E1
        clear hq
        go_wp2_with fail
        go_ret
        exact Ret.mk (bool_val E1.out.symm) (by repeat (first | exact Below.refl _ _ | assumption | refine below_a ?_ _ | refine below_o ?_ _ | refine below_d ?_ | refine below_n ?_ _ | refine below_s ?_ (by first | (simp; done) | (simp; omega) | omega) _))
      | false =>
        rw [hq] at E1
        clear hq
        go_wp2_with fail
        go_ret
        exact Ret.mk (bool_val E1.out.symm) (by repeat (first | exact Below.refl _ _ | assumption | refine below_a ?_ _ | refine below_o ?_ _ | refine below_d ?_ | refine below_n ?_ _ | refine below_s ?_ (by first | (simp; done) | (simp; omega) | omega) _))
    · have e1 : eqT (.mk k v kids) (.mk k' v' kids') = false := by simp [eqT, h2]
      have E1 := hid e1; clear e1
      have h3 : (v != v') = true := by simpa using h2
      subst h1
      go_enter Try.func26, Try.ntmps26
      go_wp2_with fail
      go_ret
      exact Ret.mk (bool_val E1.out.symm) (by repeat (first | exact Below.refl _ _ | assumption | refine below_a ?_ _ | refine below_o ?_ _ | refine below_d ?_ | refine below_n ?_ _ | refine below_s ?_ (by first | (simp; done) | (simp; omega) | omega) _))
  · have e1 : eqT (.mk k v kids) (.mk k' v' kids') = false := by simp [eqT, h1]
    have E1 := hid e1; clear e1
    have h3 : (k != k') = true := by simpa using h1
    go_enter Try.func26, Try.ntmps26
    go_wp2_with fail
    go_ret
    exact Ret.mk (bool_val E1.out.symm) (by repeat (first | exact Below.refl _ _ | assumption | refine below_a ?_ _ | refine below_o ?_ _ | refine below_d ?_ | refine below_n ?_ _ | refine below_s ?_ (by first | (simp; done) | (simp; omega) | omega) _))

set_option maxHeartbeats 400000 in
theorem eqL_of (l : List Tr) (h : ∀ t, t ∈ l → EqT t) : EqL l := by
  intro w m a a' c c' hl hm hc hc2 hc' hc2'
  unfold maxLen at hc2 hc2'
  by_cases hn : l.length = m.length
  · have hn1 : l.length ≤ m.length := by omega
    have hn2 : m.length ≤ l.length := by omega
    have h3 : ((l.length : Int) != (m.length : Int)) = false := by rw [bne_eq_false_iff_eq]; omega
    clear hn
    go_enter Try.func12, Try.ntmps12
    go_wp2_with fail
    go_loopw [5] (fun i wr => ∃ k : Nat, k ≤ l.length ∧ i = .int .i64 k ∧ Below w.heap.size w wr ∧ Hid (eqL (l.drop k) (m.drop k) = eqL l m)) (fun i _ => l.length - (intOf i).toNat)
    case atStart => exact ⟨0, Nat.zero_le _, rfl, Below.refl _ _, hid rfl⟩
    case round =>
      obtain ⟨k, hk, rfl, hb, hr⟩ := hrel
      by_cases hlt : k < l.length
      · obtain ⟨b, o, c0, c1, c2, t, rfl, gb, g0, g1, g2, hT⟩ := TrsIn_round hl hb hlt
        obtain ⟨b', o', d0, d1, d2, u, rfl, fb, f0, f1, f2, hU⟩ := TrsIn_round hm hb (show k < m.length by omega)
        have hr2 := eqL_drop hT.out.2.2.1 hU.out.2.2.1 hr.out
        have HR2 := hid hr2; clear hr2
        go_wp2_with fail
        refine wp_region_over (by kernel_rfl) (by kernel_rfl) ?_; (repeat (go_big_quiet_step ((go_at_call 26; exact Calls.over (h t hT.out.2.1 _ u _ _ (TrIn_over hT.out.1 _) (TrIn_over hU.out.1 _)))))); refine wpQuiet_nil ?_; rintro _ ⟨xq, rfl⟩
        have hbd : Below w.heap.size w (wr.over xq) := hb.trans ((over_below wr xq).mono hb.size)
        cases hq : eqT t u with
        | true =>
          have HR3 := HR2.out
          rw [hq, Bool.true_and] at HR3
          have HR4 := hid HR3; clear HR3 hq
          go_wp2_with fail
          go_roundw
          case rel => exact ⟨k + 1, by omega, by go_num, hbd, HR4.out.symm⟩
          case measure => simp [intOf]; omega
        | false =>
          have HR3 := HR2.out
          rw [hq, Bool.false_and] at HR3
          have HR4 := hid HR3; clear HR3 hq
          go_wp2_with fail
          go_ret
          exact Ret.mk (bool_val HR4.out.symm) hbd
      · have hr2 := hr.out
        rw [List.drop_of_length_le (by omega), List.drop_of_length_le (by omega)] at hr2
        have HR2 := hid hr2; clear hr2
        go_wp2_with fail
        go_ret
        exact Ret.mk (bool_val HR2.out) hb
  · have e1 := eqL_len l m hn
    have E1 := hid e1; clear e1
    have h3 : ((l.length : Int) != (m.length : Int)) = true := by rw [bne_iff_ne]; omega
    go_enter Try.func12, Try.ntmps12
    go_wp2_with fail
    go_ret
    exact Ret.mk (bool_val E1.out.symm) (Below.refl _ _)

theorem szL_any (l : List Tr) : SzL l := szL_of l fun t _ => sz_any t
theorem toL_any (l : List Tr) (h : l.length ≤ 1048576) : ToL l := toL_of l (fun t _ => to_any t) h
theorem eq_any : ∀ t, EqT t := fun t => Tr.ind (fun k v kids ih => eqT_of k v kids (eqL_of kids ih)) t
theorem eqL_any (l : List Tr) : EqL l := eqL_of l fun t _ => eq_any t

end Expr
end Go.Proofs.Ytdmieedfddgmjaa
namespace Go.Proofs.Ytdmieedfddgmjaa
open Go.RowKit
namespace Edge

def szE (e : Ed) (left : Int) : Int := if szT e.guard left < 0 then -1 else if szT e.val (szT e.guard left) < 0 then -1 else szT e.val (szT e.guard left)
theorem szE_bd (e : Ed) (left : Int) (h1 : -1 ≤ left) (h2 : left ≤ 1048576) : -1 ≤ szE e left ∧ szE e left ≤ 1048576 := by
  have h3 := szT_bd e.guard left h1 h2
  have h4 := szT_bd e.val (szT e.guard left) h3.1 h3.2
  unfold szE
  split
  · omega
  · split <;> omega
def SmallE (e : Ed) : Prop := Small e.guard ∧ Small e.val
theorem smallE_of_sz (e : Ed) (left : Int) (h1 : -1 ≤ left) (h2 : left ≤ 1048576) (h : 0 ≤ szE e left) : SmallE e := by
  have h3 := szT_bd e.guard left h1 h2
  unfold szE at h
  split at h
  · omega
  · split at h
    · omega
    · exact ⟨small_of_sz _ left h2 (by omega), small_of_sz _ _ h3.2 (by omega)⟩

theorem calls_q {P : Program} {f : FuncId} {args : Array Value} {w : World} {q q' : Bool} (hq : q' = q) (h : Calls P f args w (Ret (.bool q) w)) : Calls P f args w (Ret (.bool q') w) := by rw [hq]; exact h
/-- are two edges equal -/
def eqE (e f : Ed) : Bool := decide (e.src = f.src) && (decide (e.dst = f.dst) && (eqT e.guard f.guard && (decide (e.var = f.var) && (eqT e.val f.val && decide (e.sync = f.sync)))))
theorem eqE_refl (e : Ed) : eqE e e = true := by simp [eqE, eqT_refl]
theorem eqE_true (e f : Ed) : eqE e f = true ↔ e = f := by
  cases e; cases f
  simp [eqE, eqT_true, Bool.and_eq_true]

end Edge
end Go.Proofs.Ytdmieedfddgmjaa
namespace Go.Proofs.Ytdmieedfddgmjaa
open Go.RowKit

/-- a row of one's own, of numbers -/
theorem Row.ints {w : World} {R : Nat} {l : List Int} {p : Nat → Prop} (h : Row w R l.length (fun i => .int .i64 (l.getD i 0))) (hl : ∀ n, n ∈ l → i64 n) (hp : p R) : IntsIn p w (some ⟨R, 0, none⟩) l :=
  ⟨h.rowIn (l := l.map (Value.int .i64)) (by simp) (fun i v hv => by
    rw [List.getElem?_map] at hv
    cases hn : l[i]? with
    | none => rw [hn] at hv; simp at hv
    | some n => rw [hn] at hv; simp at hv; subst hv; simp [List.getD_eq_getElem?_getD, hn]) hp, hl⟩
theorem ints_info : (Try.prog.info? 3).map (fun i => (i.zero, i.size, i.bytes)) = some (some (.int .i64 0), 1, 8) := by kernel_rfl
def zerosI (n : Nat) : Array Value := madeCells #[.int .i64 0] n
theorem make_ints (n : Nat) (h : n ≤ 1048576) (w : World) : (Instr.makeSlice 22 (.int .i64 (n : Int)) (.int .i64 (n : Int))).run Try.prog w =
    .ok (.slice (some ⟨w.heap.size, 0, none⟩) n n) (w.alloc (.cells (zerosI n) 3)) := by
  obtain ⟨i, hi, hz, h1, h2⟩ := info_parts ints_info
  have := run_make (P := Try.prog) w 22 3 i _ Try.underlying22 hi hz .i64 .i64 n n (by omega) (by omega) (by rw [h2]; omega) (by omega)
  rw [this, h1]
  simp [zerosI, Value.cells]
theorem row_new {w : World} {cs : Array Value} {n : Nat} (hcs : cs.size = n) (e : TypeId) : Row (w.alloc (.cells cs e)) w.heap.size n (fun i => cs.getD i undef) :=
  ⟨by simp, fun i hi => by rw [World.cell?_alloc_new]; simp [Array.getD, hcs, hi], fun i => by simp⟩

theorem bools_info : (Try.prog.info? 4).map (fun i => (i.zero, i.size, i.bytes)) = some (some (.bool false), 1, 1) := by kernel_rfl
def zerosB (n : Nat) : Array Value := madeCells #[.bool false] n
theorem make_bools (n : Nat) (h : n ≤ 1048576) (w : World) : (Instr.makeSlice 130 (.int .i64 (n : Int)) (.int .i64 (n : Int))).run Try.prog w =
    .ok (.slice (some ⟨w.heap.size, 0, none⟩) n n) (w.alloc (.cells (zerosB n) 4)) := by
  obtain ⟨i, hi, hz, h1, h2⟩ := info_parts bools_info
  have := run_make (P := Try.prog) w 130 4 i _ Try.underlying130 hi hz .i64 .i64 n n (by omega) (by omega) (by rw [h2]; omega) (by omega)
  rw [this, h1]
  simp [zerosB, Value.cells]

end Go.Proofs.Ytdmieedfddgmjaa
namespace Go.Proofs.Ytdmieedfddgmjaa
open Go.RowKit

/-- what a copy comes to -/
def NewInts (l : List Int) (B : Nat) (v : Value) (w' : World) : Prop := v = .slice (some ⟨B, 0, none⟩) l.length l.length ∧ Row w' B l.length (fun i => .int .i64 (l.getD i 0))

set_option maxHeartbeats 400000 in
theorem toIntS_any (l : List Int) (w : World) (a : Option Addr) (c : Nat) (h : IntsIn Any w a l) (hlen : l.length ≤ 1048576) (hc : l.length ≤ c) (hc2 : c ≤ maxLen) :
    Calls Try.prog 21 #[.slice a l.length c] w (RetP (NewInts l w.heap.size) w) := by
  have hmk := make_ints l.length hlen
  unfold maxLen at hc2
  go_enter Try.func21, Try.ntmps21
  go_wp2_with fail
  go_loopw [4] (fun i wr => ∃ (k : Nat) (g : Nat → Value), k ≤ l.length ∧ i = .int .i64 k ∧ Below w.heap.size w wr ∧ Row wr w.heap.size l.length g ∧ Hid (∀ j, j < k → g j = .int .i64 (l.getD j 0))) (fun i _ => l.length - (intOf i).toNat)
  case atStart => exact ⟨0, _, Nat.zero_le _, rfl, below_alloc _ _, row_new (by rw [zerosI, size_madeCells]) _, hid (by omega)⟩
  case round =>
    obtain ⟨k, g, hk, rfl, B, hrow, hg⟩ := hrel
    by_cases hlt : k < l.length
    · obtain ⟨b, o, rfl, hb, _, g0, hi⟩ := ints_at h B hlt
      have r0 := hrow.2.1 k hlt
      have rz := hrow.2.2
      have rl := hrow.1
      have hstep := hid (hrow.set hlt (.int .i64 l[k]))
      clear hrow
      unfold i64 at hi
      have hlt2 : (k : Int) < (l.length : Int) := by omega
      go_wp2_with fail
      go_roundw
      case rel =>
        refine ⟨k + 1, _, by omega, by go_num, B.setCell (by simp) _, hstep.out, hid fun j hj => ?_⟩
        by_cases e : j = k
        · subst e; simp [List.getD_eq_getElem?_getD, List.getElem?_eq_getElem hlt]
        · rw [if_neg e]; exact hg.out j (by omega)
      case measure => simp [intOf]; omega
    · have hfin := hid (show Row wr w.heap.size l.length (fun i => .int .i64 (l.getD i 0)) from hrow.congr fun i hi => hg.out i (by omega))
      have hlt2 : ¬ ((k : Int) < (l.length : Int)) := by omega
      clear hrow
      go_wp2_with fail
      go_ret
      exact RetP.mk ⟨rfl, hfin.out⟩ B

/-- a row of numbers, asked number by number -/
theorem ints_drop {l m : List Int} {k : Nat} (hk : k < l.length) (hk' : k < m.length) (h : (l.drop k == m.drop k) = (l == m)) : (l == m) = ((l[k] == m[k]) && (l.drop (k + 1) == m.drop (k + 1))) := by
  rw [← h, List.drop_eq_getElem_cons hk, List.drop_eq_getElem_cons hk']
  rfl

set_option maxHeartbeats 1000000 in
theorem eqIntS_any (l m : List Int) (w : World) (a a' : Option Addr) (c c' : Nat) (hl : IntsIn Any w a l) (hm : IntsIn Any w a' m) (hc : l.length ≤ c) (hc2 : c ≤ maxLen) (hc' : m.length ≤ c') (hc2' : c' ≤ maxLen) :
    Calls Try.prog 25 #[.slice a l.length c, .slice a' m.length c'] w (Ret (.bool (l == m)) w) := by
  unfold maxLen at hc2 hc2'
  by_cases hn : l.length = m.length
  · have hn1 : l.length ≤ m.length := by omega
    have hn2 : m.length ≤ l.length := by omega
    have h3 : ((l.length : Int) != (m.length : Int)) = false := by rw [bne_eq_false_iff_eq]; omega
    clear hn
    go_enter Try.func25, Try.ntmps25
    go_wp2_with fail
    go_loopw [5] (fun i wr => ∃ k : Nat, k ≤ l.length ∧ i = .int .i64 k ∧ Below w.heap.size w wr ∧ Hid ((l.drop k == m.drop k) = (l == m))) (fun i _ => l.length - (intOf i).toNat)
    case atStart => exact ⟨0, Nat.zero_le _, rfl, Below.refl _ _, hid rfl⟩
    case round =>
      obtain ⟨k, hk, rfl, B, hr⟩ := hrel
      by_cases hlt : k < l.length
      · have hltm : k < m.length := by omega
        obtain ⟨b, o, rfl, hb, _, g0, hi⟩ := ints_at hl B hlt
        obtain ⟨b', o', rfl, hb', _, f0, hi'⟩ := ints_at hm B hltm
        have HR := hid (ints_drop hlt hltm hr.out)
        have hlt2 : (k : Int) < (l.length : Int) := by omega
        have hlt3 : (k : Int) < (m.length : Int) := by omega
        generalize l[k] = x at *
        generalize m[k] = y at *
        by_cases hxy : x = y
        · have hne : (x != y) = false := by simpa using hxy
          have HR2 := HR.out
          rw [show (x == y) = true by simpa using hxy, Bool.true_and] at HR2
          have HR3 := hid HR2; clear HR2 hxy
          go_wp2_with fail
          refine wp_region_over (by kernel_rfl) (by kernel_rfl) ?_; (repeat (go_big_quiet_step ((fail)))); refine wpQuiet_nil ?_; rintro _ ⟨xq, rfl⟩
          have B2 := below_next B (over_below wr xq)
          go_wp2_with fail
          go_roundw
          case rel => exact ⟨k + 1, by omega, by go_num, B2, hid HR3.out.symm⟩
          case measure => simp [intOf]; omega
        · have hne : (x != y) = true := by simpa using hxy
          have HR2 := HR.out
          rw [show (x == y) = false by simpa using hxy, Bool.false_and] at HR2
          have HR3 := hid HR2; clear HR2 hxy
          go_wp2_with fail
          refine wp_region_over (by kernel_rfl) (by kernel_rfl) ?_; (repeat (go_big_quiet_step ((fail)))); refine wpQuiet_nil ?_; rintro _ ⟨xq, rfl⟩
          have B2 := below_next B (over_below wr xq)
          go_wp2_with fail
          go_ret
          exact Ret.mk (bool_val HR3.out.symm) B2
      · have HR2 := hr.out
        rw [List.drop_of_length_le (by omega), List.drop_of_length_le (by omega)] at HR2
        have HR := hid HR2; clear HR2
        have hlt2 : ¬ ((k : Int) < (l.length : Int)) := by omega
        go_wp2_with fail
        go_ret
        exact Ret.mk (bool_val HR.out) B
  · have h3 : ((l.length : Int) != (m.length : Int)) = true := by rw [bne_iff_ne]; omega
    have E := hid (show (l == m) = false by rw [beq_eq_false_iff_ne]; intro h; exact hn (by rw [h]))
    clear hn
    go_enter Try.func25, Try.ntmps25
    go_wp2_with fail
    go_ret
    exact Ret.mk (bool_val E.out.symm) (Below.refl _ _)

end Go.Proofs.Ytdmieedfddgmjaa
