/- Joined texts (Cells, SeqIn, SysIn, RegOrd, RowsMade): contracts and plain laws. Conditions: those of each theorem. -/
import Derived.Test.YtgopfjnpjkpelaaDoorJY0
import Derived.Test.YtgopfjnpjkpelaaDoorJY1
import Derived.Test.YtgopfjnpjkpelaaDoorRows
import Derived.ProofKit
import Derived.ChangeOld
import Derived.Lib.SmallJoins
import Derived.Maps.AppendAt
import Derived.WalkSpells
import Derived.WalkLawsBesides
set_option linter.unusedVariables false
set_option linter.unusedSimpArgs false
namespace Go.Proofs.YtgopfjnpjkpelaaDoor
open Go.RowKit

/-- values that lie one behind the other from an address on, in blocks that p allows -/
def RowIn (p : Nat → Prop) (w : World) (a : Option Addr) (l : List Value) : Prop :=
  l = [] ∨ ∃ b o, a = some ⟨b, o, none⟩ ∧ p b ∧ b < w.heap.size ∧ ∀ i v, l[i]? = some v → w.cell? ⟨b, o + i, none⟩ = some v
theorem RowIn.frame {p q : Nat → Prop} {w w' : World} {a : Option Addr} {l : List Value} (h : RowIn p w a l) (hs : w.heap.size ≤ w'.heap.size) (hp : ∀ b, p b → b < w.heap.size → q b ∧ w'.heap[b]? = w.heap[b]?) : RowIn q w' a l := by
  rcases h with h | ⟨b, o, h1, h2, h3, h4⟩
  · exact .inl h
  · obtain ⟨hq, he⟩ := hp b h2 h3
    exact .inr ⟨b, o, h1, hq, by omega, fun i v hv => by rw [World.cell?_of_block (w := w) (a := ⟨b, o + i, none⟩) he]; exact h4 i v hv⟩
theorem RowIn.below {p : Nat → Prop} {w w' : World} {a : Option Addr} {l : List Value} (h : RowIn p w a l) (hb : Below w.heap.size w w') : RowIn p w' a l :=
  h.frame hb.size fun b hp hl => ⟨hp, hb.block b hl⟩
theorem RowIn.any {p : Nat → Prop} {w : World} {a : Option Addr} {l : List Value} (h : RowIn p w a l) : RowIn Any w a l := h.frame (Nat.le_refl _) fun _ _ _ => ⟨trivial, rfl⟩
theorem RowIn.old {w : World} {a : Option Addr} {l : List Value} (h : RowIn Any w a l) : RowIn (· < w.heap.size) w a l := h.frame (Nat.le_refl _) fun _ _ hl => ⟨hl, rfl⟩
theorem RowIn.mono {p q : Nat → Prop} {w : World} {a : Option Addr} {l : List Value} (h : RowIn p w a l) (hp : ∀ b, p b → q b) : RowIn q w a l := h.frame (Nat.le_refl _) fun b hb _ => ⟨hp b hb, rfl⟩
/-- the k-th -/
theorem RowIn.at {p : Nat → Prop} {w wr : World} {a : Option Addr} {l : List Value} {k : Nat} {v : Value} (h : RowIn p w a l) (hb : Below w.heap.size w wr) (hk : l[k]? = some v) : ∃ b o, a = some ⟨b, o, none⟩ ∧ b < wr.heap.size ∧ p b ∧ wr.cell? ⟨b, o + k, none⟩ = some v := by
  rcases h with rfl | ⟨b, o, h1, h2, h3, h4⟩
  · simp at hk
  · exact ⟨b, o, h1, by have := hb.size; omega, h2, by rw [hb.cell (p := ⟨b, o + k, none⟩) h3]; exact h4 k v hk⟩
/-- a row of one's own -/
theorem Row.rowIn {w : World} {R n : Nat} {f : Nat → Value} {l : List Value} (h : Row w R n f) (hl : l.length ≤ n) (hf : ∀ i v, l[i]? = some v → f i = v) {p : Nat → Prop} (hp : p R) : RowIn p w (some ⟨R, 0, none⟩) l :=
  .inr ⟨R, 0, rfl, hp, h.1, fun i v hv => by
    have hi : i < l.length := (List.getElem?_eq_some_iff.1 hv).1
    rw [Nat.zero_add, h.2.1 i (by omega), hf i v hv]⟩

/-- numbers in a slice -/
def IntsIn (p : Nat → Prop) (w : World) (a : Option Addr) (l : List Int) : Prop := RowIn p w a (l.map (Value.int .i64)) ∧ ∀ n, n ∈ l → i64 n
theorem IntsIn.below {p : Nat → Prop} {w w' : World} {a : Option Addr} {l : List Int} (h : IntsIn p w a l) (hb : Below w.heap.size w w') : IntsIn p w' a l := ⟨h.1.below hb, h.2⟩
/-- truth values in a slice -/
def BoolsIn (p : Nat → Prop) (w : World) (a : Option Addr) (l : List Bool) : Prop := RowIn p w a (l.map Value.bool)
theorem BoolsIn.below {p : Nat → Prop} {w w' : World} {a : Option Addr} {l : List Bool} (h : BoolsIn p w a l) (hb : Below w.heap.size w w') : BoolsIn p w' a l := RowIn.below h hb
theorem ints_at {p : Nat → Prop} {w wr : World} {a : Option Addr} {l : List Int} {k : Nat} (h : IntsIn p w a l) (hb : Below w.heap.size w wr) (hk : k < l.length) :
    ∃ b o, a = some ⟨b, o, none⟩ ∧ b < wr.heap.size ∧ p b ∧ wr.cell? ⟨b, o + k, none⟩ = some (.int .i64 l[k]) ∧ i64 l[k] := by
  obtain ⟨b, o, h1, h2, h3, h4⟩ := h.1.at (k := k) (v := .int .i64 l[k]) hb (by rw [List.getElem?_map, List.getElem?_eq_getElem hk]; rfl)
  exact ⟨b, o, h1, h2, h3, h4, h.2 _ (List.getElem_mem hk)⟩
theorem bools_at {p : Nat → Prop} {w wr : World} {a : Option Addr} {l : List Bool} {k : Nat} (h : BoolsIn p w a l) (hb : Below w.heap.size w wr) (hk : k < l.length) :
    ∃ b o, a = some ⟨b, o, none⟩ ∧ b < wr.heap.size ∧ p b ∧ wr.cell? ⟨b, o + k, none⟩ = some (.bool l[k]) :=
  RowIn.at h (k := k) (v := .bool l[k]) hb (by rw [List.getElem?_map, List.getElem?_eq_getElem hk]; rfl)

section
variable {H : Type} {enc : TypeId × Value → H} {P : Program} {w : World} {base : Nat} {spare : Nat → Bool} {held : Bool}
theorem cells_one {a : Addr} {cs : List Value} (h : w.cells? base a 1 = some cs) : ∃ c0, cs = [c0] ∧ w.cell? (a.add 0) = some c0 := by
  obtain ⟨_, hl, hc⟩ := World.cells?_some h
  match cs, hl with
  | [c0], _ => exact ⟨c0, rfl, by simpa using hc 0 (by omega)⟩
theorem rowIn_build {a : Addr} : ∀ {len : Nat}, (∃ l : List Value, l.length = len ∧ ∀ i v, l[i]? = some v → w.cell? (a.add i) = some v) → ∃ l : List Value, l.length = len ∧ (∀ i v, l[i]? = some v → w.cell? (a.add i) = some v) ∧ RowIn Any w (some a) l := by
  rintro len ⟨l, h1, h2⟩
  refine ⟨l, h1, h2, ?_⟩
  cases l with
  | nil => exact .inl rfl
  | cons v l =>
    obtain ⟨b, o, s⟩ := a
    have e0 := h2 0 v rfl
    have hs : s = none := by simpa [Addr.add] using World.cell?_spot e0
    subst hs
    have ea : ∀ i, Addr.add ⟨b, o, none⟩ i = ⟨b, o + i, none⟩ := fun i => by unfold Addr.add; split <;> simp_all
    refine .inr ⟨b, o, rfl, trivial, blt (by rw [ea] at e0; exact e0), fun i u hu => ?_⟩
    have := h2 i u hu
    rwa [ea] at this
theorem elems_read {S I : TypeId} {X : Type} {V : X → Value} {ok : X → Prop} (hS : P.underlying S = some (.slice I)) (cI : P.cellsOf I = 1)
    (hel : ∀ (m : Nat) (c : Value) (x : DataW H × List MemPlace), DataW.trod enc P w base spare held m I [c] = some x → ∃ n, c = V n ∧ ok n)
    {fuel : Nat} {a : Option Addr} {len cap : Nat} {x : DataW H × List MemPlace} (h : DataW.trod enc P w base spare held fuel S [.slice a len cap] = some x) :
    ∃ l : List X, l.length = len ∧ len ≤ cap ∧ cap ≤ maxLen ∧ RowIn Any w a (l.map V) ∧ ∀ n, n ∈ l → ok n := by
  rcases DataW.trod_slice hS h with ⟨hc, _⟩ | ⟨a', len', cap', elems, rest, m, hm, hc, _, _, hlc, hcm, hel', hcell, _⟩
  · simp at hc
    obtain ⟨rfl, rfl, rfl⟩ := hc
    exact ⟨[], rfl, Nat.le_refl _, Nat.zero_le _, .inl rfl, by simp⟩
  · simp at hc
    obtain ⟨rfl, rfl, rfl⟩ := hc
    have key : ∀ i, i < len → ∃ n : X, w.cell? (a'.add i) = some (V n) ∧ ok n := fun i hi => by
      have hh := hcell i hi
      rw [cI, List.getElem?_eq_getElem (by omega)] at hh
      obtain ⟨cs', h3, h4⟩ := Option.bind_eq_some_iff.1 hh
      obtain ⟨c0, rfl, q0⟩ := cells_one h3
      obtain ⟨n, rfl, wn⟩ := hel m _ _ h4
      exact ⟨n, by simpa [Addr.add] using q0, wn⟩
    have build : ∀ k, k ≤ len → ∃ l : List X, l.length = k ∧ (∀ i n, l[i]? = some n → w.cell? (a'.add i) = some (V n) ∧ ok n) := by
      intro k
      induction k with
      | zero => intro _; exact ⟨[], rfl, by simp⟩
      | succ k ih =>
        intro hk
        obtain ⟨l, h1, h2⟩ := ih (by omega)
        obtain ⟨n, h3, h4⟩ := key k (by omega)
        refine ⟨l ++ [n], by simp [h1], fun i m hm => ?_⟩
        by_cases hi : i < l.length
        · rw [List.getElem?_append_left hi] at hm; exact h2 i m hm
        · rw [List.getElem?_append_right (by omega)] at hm
          have hi2 : i = k := by
            have := (List.getElem?_eq_some_iff.1 hm).1
            simp at this; omega
          subst hi2
          simp [h1] at hm
          subst hm
          exact ⟨h3, h4⟩
    obtain ⟨l, h1, h2⟩ := build len (Nat.le_refl _)
    obtain ⟨l', h3, h4, h5⟩ := rowIn_build (w := w) (a := a') (len := len) ⟨l.map V, by simpa using h1, fun i v hv => by
      rw [List.getElem?_map] at hv
      cases hn : l[i]? with
      | none => rw [hn] at hv; simp at hv
      | some n => rw [hn] at hv; simp at hv; subst hv; exact (h2 i n hn).1⟩
    refine ⟨l, h1, hlc, hcm, ?_, fun n hn => ?_⟩
    · rcases h5 with h5 | ⟨b, o, h5, h6, h7, h8⟩
      · left; rw [h5] at h3; simp at h3; subst h3; simp at h1; simp [h1]
      · right
        obtain rfl : a' = ⟨b, o, none⟩ := by simpa using h5
        have ea : ∀ i, Addr.add ⟨b, o, none⟩ i = ⟨b, o + i, none⟩ := fun i => by unfold Addr.add; split <;> simp_all
        refine ⟨b, o, rfl, trivial, h7, fun i v hv => ?_⟩
        rw [List.getElem?_map] at hv
        cases hn : l[i]? with
        | none => rw [hn] at hv; simp at hv
        | some n => rw [hn] at hv; simp at hv; subst hv; have := (h2 i n hn).1; rwa [ea] at this
    · obtain ⟨i, hi⟩ := List.getElem?_of_mem hn
      exact (h2 i n hi).2
/-- WHAT READS AS A SLICE OF NUMBERS -/
theorem ints_read {S I : TypeId} (hS : P.underlying S = some (.slice I)) (hI : P.underlying I = some (.int .i64)) (cI : P.cellsOf I = 1)
    {fuel : Nat} {a : Option Addr} {len cap : Nat} {x : DataW H × List MemPlace} (h : DataW.trod enc P w base spare held fuel S [.slice a len cap] = some x) : ∃ l : List Int, l.length = len ∧ len ≤ cap ∧ cap ≤ maxLen ∧ IntsIn Any w a l := by
  obtain ⟨l, h1, h2, h3, h4, h5⟩ := elems_read (V := Value.int .i64) (ok := i64) hS cI (fun m c x hx => by
    obtain ⟨n, hn, _, wn⟩ := DataW.trod_int hI hx
    simp only [List.cons.injEq, and_true] at hn
    refine ⟨n, hn, ?_⟩
    simp [Lit.wf, IntKind.min, IntKind.max, IntKind.signed, IntKind.bits] at wn
    exact wn) h
  exact ⟨l, h1, h2, h3, h4, h5⟩
end

end Go.Proofs.YtgopfjnpjkpelaaDoor
namespace Go.Proofs.YtgopfjnpjkpelaaDoor
open Go.RowKit

/-- records of n cells, one behind the other from an address on, in a block that p allows; At says that a record stands at a place -/
def SeqIn {T : Type} (At : T → Nat → Nat → Prop) (n : Nat) (p : Nat → Prop) (w : World) (l : List T) (a : Option Addr) : Prop :=
  l = [] ∨ ∃ b o, a = some ⟨b, o, none⟩ ∧ p b ∧ b < w.heap.size ∧ ∀ i t, l[i]? = some t → At t b (o + i * n)
theorem SeqIn.frame {T : Type} {At At' : T → Nat → Nat → Prop} {n : Nat} {p q : Nat → Prop} {w w' : World} {l : List T} {a : Option Addr} (h : SeqIn At n p w l a) (hs : w.heap.size ≤ w'.heap.size)
    (hp : ∀ b, p b → b < w.heap.size → q b) (hA : ∀ t b o, t ∈ l → p b → b < w.heap.size → At t b o → At' t b o) : SeqIn At' n q w' l a := by
  rcases h with h | ⟨b, o, h1, h2, h3, h4⟩
  · exact .inl h
  · exact .inr ⟨b, o, h1, hp b h2 h3, by omega, fun i t ht => hA t b _ (List.mem_of_getElem? ht) h2 h3 (h4 i t ht)⟩
theorem SeqIn.at {T : Type} {At : T → Nat → Nat → Prop} {n : Nat} {p : Nat → Prop} {w : World} {l : List T} {a : Option Addr} {k : Nat} (h : SeqIn At n p w l a) (hk : k < l.length) :
    ∃ b o, a = some ⟨b, o, none⟩ ∧ p b ∧ b < w.heap.size ∧ At l[k] b (o + k * n) := by
  rcases h with rfl | ⟨b, o, h1, h2, h3, h4⟩
  · simp at hk
  · exact ⟨b, o, h1, h2, h3, h4 k _ (List.getElem?_eq_getElem hk)⟩

/-! ### what is left when the sizes of all records are taken from a number -/
def szG {T : Type} (f : T → Int → Int) : List T → Int → Int
  | [], left => if left < 0 then -1 else left
  | t :: ts, left => if left < 0 then -1 else szG f ts (f t left)
def SzOk {T : Type} (f : T → Int → Int) : Prop := ∀ t left, -1 ≤ left → left ≤ 1048576 → -1 ≤ f t left ∧ f t left ≤ 1048576
theorem szG_neg {T : Type} (f : T → Int → Int) (l : List T) (left : Int) (h : left < 0) : szG f l left = -1 := by
  cases l <;> (simp only [szG]; rw [if_pos h])
theorem szG_bd {T : Type} {f : T → Int → Int} (hf : SzOk f) : ∀ (l : List T) (left : Int), left ≤ 1048576 → -1 ≤ szG f l left ∧ szG f l left ≤ 1048576
  | [], left, h => by simp only [szG]; split <;> omega
  | t :: ts, left, h => by
    simp only [szG]
    split
    · omega
    · exact szG_bd hf ts _ (hf t left (by omega) h).2
/-- what all records take -/
def sumC {T : Type} (c : T → Int) : List T → Int
  | [] => 0
  | t :: ts => c t + sumC c ts
theorem sumC_nonneg {T : Type} {c : T → Int} (hc : ∀ t, 0 ≤ c t) : ∀ l, 0 ≤ sumC c l
  | [] => by simp [sumC]
  | t :: ts => by have := sumC_nonneg hc ts; have := hc t; simp only [sumC]; omega
theorem szG_eq {T : Type} {f : T → Int → Int} {c : T → Int} (hf : SzOk f) (hc : ∀ t left, -1 ≤ left → left ≤ 1048576 → 0 ≤ f t left → f t left = left - c t) :
    ∀ (l : List T) (left : Int), left ≤ 1048576 → 0 ≤ szG f l left → szG f l left = left - sumC c l
  | [], left, h1, h => by
    simp only [szG, sumC] at h ⊢
    split at h
    · omega
    · rename_i hn; rw [if_neg hn]; omega
  | t :: ts, left, h1, h => by
    simp only [szG, sumC] at h ⊢
    split at h
    · omega
    · rename_i hn
      rw [if_neg hn]
      by_cases h0 : f t left < 0
      · rw [szG_neg _ _ _ h0] at h; omega
      · have h2 := szG_eq hf hc ts _ (hf t left (by omega) h1).2 h
        have h3 := hc t left (by omega) h1 (by omega)
        omega
theorem szG_mem {T : Type} {f : T → Int → Int} (hf : SzOk f) {t : T} : ∀ (l : List T) (left : Int), left ≤ 1048576 → 0 ≤ szG f l left → t ∈ l → ∃ lf, -1 ≤ lf ∧ lf ≤ 1048576 ∧ 0 ≤ f t lf
  | [], _, _, _, hm => by cases hm
  | u :: us, left, h1, h, hm => by
    simp only [szG] at h
    split at h
    · omega
    · by_cases h0 : f u left < 0
      · rw [szG_neg _ _ _ h0] at h; omega
      · cases hm with
        | head => exact ⟨left, by omega, h1, by omega⟩
        | tail _ hm => exact szG_mem hf us _ (hf u left (by omega) h1).2 h hm

/-- are all records the same -/
def eqG {T : Type} (f : T → T → Bool) : List T → List T → Bool
  | [], [] => true
  | t :: ts, u :: us => f t u && eqG f ts us
  | _, _ => false
theorem eqG_refl {T : Type} {f : T → T → Bool} (h : ∀ t, f t t = true) : ∀ l, eqG f l l = true
  | [] => by simp [eqG]
  | t :: ts => by simp [eqG, h, eqG_refl h ts]
theorem eqG_len {T : Type} (f : T → T → Bool) : ∀ (l m : List T), l.length ≠ m.length → eqG f l m = false
  | [], [], h => by simp at h
  | [], _ :: _, _ => by simp [eqG]
  | _ :: _, [], _ => by simp [eqG]
  | t :: ts, u :: us, h => by simp only [eqG]; rw [eqG_len f ts us (by simpa using h)]; simp
theorem eqG_true {T : Type} {f : T → T → Bool} (h : ∀ t u, f t u = true ↔ t = u) : ∀ l m, eqG f l m = true ↔ l = m
  | [], [] => by simp [eqG]
  | [], _ :: _ => by simp [eqG]
  | _ :: _, [] => by simp [eqG]
  | t :: ts, u :: us => by simp [eqG, h, eqG_true h ts us]
theorem eqG_drop {T : Type} {f : T → T → Bool} {l m : List T} {k : Nat} (hk : k < l.length) (hk' : k < m.length) (h : eqG f (l.drop k) (m.drop k) = eqG f l m) :
    eqG f l m = (f l[k] m[k] && eqG f (l.drop (k + 1)) (m.drop (k + 1))) := by
  rw [← h, List.drop_eq_getElem_cons hk, List.drop_eq_getElem_cons hk']
  simp only [eqG]

/-! ### a stretch of cells of one block is written -/
structure SetIn (R lo hi : Nat) (w w' : World) : Prop where
  os : w'.os = w.os
  tape : w'.tape = w.tape
  output : w'.output = w.output
  size : w'.heap.size = w.heap.size
  block : ∀ b, b ≠ R → w'.heap[b]? = w.heap[b]?
  cell : ∀ i, i < lo ∨ hi ≤ i → w'.cell? ⟨R, i, none⟩ = w.cell? ⟨R, i, none⟩
  frozen : ∀ b i, w'.frozen? ⟨b, i, none⟩ = w.frozen? ⟨b, i, none⟩
theorem SetIn.refl (R lo hi : Nat) (w : World) : SetIn R lo hi w w := ⟨rfl, rfl, rfl, rfl, fun _ _ => rfl, fun _ _ => rfl, fun _ _ => rfl⟩
theorem SetIn.set {R lo hi i : Nat} {w w' : World} (h : SetIn R lo hi w w') (h1 : lo ≤ i) (h2 : i < hi) (v : Value) : SetIn R lo hi w (w'.setCell ⟨R, i, none⟩ v) :=
  ⟨h.os, h.tape, h.output, by simpa using h.size, fun b hb => by rw [Below.heap_setCell _ _ _ _ hb]; exact h.block b hb,
    fun j hj => by rw [World.cell?_setCell_other _ _ _ _ (by intro e; have := congrArg Addr.off e; simp at this; omega)]; exact h.cell j hj,
    fun b j => by rw [World.frozen?_setCell]; exact h.frozen b j⟩
theorem SetIn.below {R lo hi B : Nat} {w w' : World} (h : SetIn R lo hi w w') (hB : B ≤ R) : Below B w w' :=
  ⟨h.os, h.tape, h.output, Nat.le_of_eq h.size.symm, fun k hk => h.block k (by omega)⟩
theorem SetIn.keep {R lo hi B : Nat} {w w' : World} (h : SetIn R lo hi w w') (hB : R < B) : Keep B w w' :=
  ⟨Nat.le_of_eq h.size.symm, fun b h1 _ => h.block b (by omega)⟩
theorem SetIn.but {R lo hi : Nat} {w w' : World} (h : SetIn R lo hi w w') : But w R w' :=
  ⟨h.os, h.tape, h.output, Nat.le_of_eq h.size.symm, fun k _ hd => h.block k hd⟩
/-- the cells, one by one -/
def setAll (w : World) (R o : Nat) : List Value → World
  | [] => w
  | v :: vs => setAll (w.setCell ⟨R, o, none⟩ v) R (o + 1) vs
theorem setAll_in : ∀ (vs : List Value) (w w0 : World) (R o lo hi : Nat), SetIn R lo hi w0 w → lo ≤ o → o + vs.length ≤ hi → SetIn R lo hi w0 (setAll w R o vs)
  | [], _, _, _, _, _, _, h, _, _ => h
  | v :: vs, w, w0, R, o, lo, hi, h, h1, h2 => by
    simp only [List.length_cons] at h2
    exact setAll_in vs _ w0 R (o + 1) lo hi (h.set h1 (by omega) v) (by omega) (by omega)
theorem setAll_low : ∀ (vs : List Value) (w : World) (R o i : Nat), i < o → (setAll w R o vs).cell? ⟨R, i, none⟩ = w.cell? ⟨R, i, none⟩ := fun vs w R o i hi =>
  (setAll_in vs w w R o o (o + vs.length) (SetIn.refl ..) (Nat.le_refl _) (Nat.le_refl _)).cell i (.inl hi)
theorem setAll_cell : ∀ (vs : List Value) (w : World) (R o : Nat), (∀ i, i < vs.length → ∃ u, w.cell? ⟨R, o + i, none⟩ = some u) → ∀ i v, vs[i]? = some v → (setAll w R o vs).cell? ⟨R, o + i, none⟩ = some v
  | [], _, _, _, _, _, _, hv => by simp at hv
  | u :: vs, w, R, o, h, i, v, hv => by
    cases i with
    | zero =>
      obtain rfl : u = v := by simpa using hv
      obtain ⟨x, hx⟩ := h 0 (by simp)
      rw [setAll, Nat.add_zero, setAll_low _ _ _ _ _ (by omega)]
      exact World.cell?_setCell_same _ _ _ hx
    | succ i =>
      have := setAll_cell vs (w.setCell ⟨R, o, none⟩ u) R (o + 1) (fun j hj => by
        obtain ⟨x, hx⟩ := h (j + 1) (by simpa using hj)
        exact ⟨x, by rw [World.cell?_setCell_other _ _ _ _ (by intro e; have := congrArg Addr.off e; simp at this; omega), show o + 1 + j = o + (j + 1) by omega]; exact hx⟩) i v (by simpa using hv)
      rw [setAll, show o + (i + 1) = o + 1 + i by omega]
      exact this
theorem Row.setIn {w w' : World} {R n lo up : Nat} {f : Nat → Value} (h : Row w R n f) (hs : SetIn R lo up w w') (hc : ∀ i, lo ≤ i → i < up → ∃ u, w'.cell? ⟨R, i, none⟩ = some u) : ∃ g, Row w' R n g := by
  refine ⟨fun i => (w'.cell? ⟨R, i, none⟩).getD undef, by rw [hs.size]; exact h.1, fun i hi => ?_, fun i => by rw [hs.frozen]; exact h.2.2 i⟩
  show _ = some ((w'.cell? ⟨R, i, none⟩).getD undef)
  by_cases hl : lo ≤ i ∧ i < up
  · obtain ⟨u, hu⟩ := hc i hl.1 hl.2
    rw [hu]; rfl
  · rw [hs.cell i (by omega), h.2.1 i hi]; rfl

/-! ### marking: numbers become numbers, all else stays -/
structure Marked (p : Nat → Prop) (w w' : World) : Prop where
  os : w'.os = w.os
  tape : w'.tape = w.tape
  output : w'.output = w.output
  size : w.heap.size ≤ w'.heap.size
  block : ∀ b, b < w.heap.size → ¬ p b → w'.heap[b]? = w.heap[b]?
  frozen : ∀ b i, b < w.heap.size → w'.frozen? ⟨b, i, none⟩ = w.frozen? ⟨b, i, none⟩
  cell : ∀ b i v, w.cell? ⟨b, i, none⟩ = some v → w'.cell? ⟨b, i, none⟩ = some v ∨ ∃ n m, v = .int .i64 n ∧ w'.cell? ⟨b, i, none⟩ = some (.int .i64 m)
theorem Marked.refl (p : Nat → Prop) (w : World) : Marked p w w := ⟨rfl, rfl, rfl, Nat.le_refl _, fun _ _ _ => rfl, fun _ _ _ => rfl, fun _ _ _ h => .inl h⟩
theorem Marked.below {p : Nat → Prop} {w W W' : World} (h : Marked p w W) (hb : Below W.heap.size W W') : Marked p w W' :=
  ⟨hb.os.trans h.os, hb.tape.trans h.tape, hb.output.trans h.output, Nat.le_trans h.size hb.size, fun b hl hn => by rw [hb.block b (Nat.lt_of_lt_of_le hl h.size)]; exact h.block b hl hn,
    fun b i hl => by rw [hb.frozen (p := ⟨b, i, none⟩) (Nat.lt_of_lt_of_le hl h.size)]; exact h.frozen b i hl,
    fun b i v hv => by rw [hb.cell (p := ⟨b, i, none⟩) (Nat.lt_of_lt_of_le (blt hv) h.size)]; exact h.cell b i v hv⟩
theorem Marked.slice {p : Nat → Prop} {w w' : World} (h : Marked p w w') {b i : Nat} {a : Option Addr} {n c : Nat} (hc : w.cell? ⟨b, i, none⟩ = some (.slice a n c)) : w'.cell? ⟨b, i, none⟩ = some (.slice a n c) := by
  rcases h.cell b i _ hc with h | ⟨n, m, h, _⟩
  · exact h
  · cases h
theorem Marked.int {p : Nat → Prop} {w w' : World} (h : Marked p w w') {b i : Nat} {n : Int} (hc : w.cell? ⟨b, i, none⟩ = some (.int .i64 n)) : ∃ m, w'.cell? ⟨b, i, none⟩ = some (.int .i64 m) := by
  rcases h.cell b i _ hc with h | ⟨n, m, _, h⟩
  · exact ⟨_, h⟩
  · exact ⟨_, h⟩
theorem Marked.set {p : Nat → Prop} {w w' : World} (h : Marked p w w') {b i : Nat} {n : Int} (hp : p b) (hc : w.cell? ⟨b, i, none⟩ = some (.int .i64 n)) (m : Int) : Marked p w (w'.setCell ⟨b, i, none⟩ (.int .i64 m)) := by
  obtain ⟨k, hk⟩ := h.int hc
  refine ⟨h.os, h.tape, h.output, by simpa using h.size, fun x hl hn => ?_, fun x j hl => by rw [World.frozen?_setCell]; exact h.frozen x j hl, fun x j v hv => ?_⟩
  · rw [Below.heap_setCell _ _ _ _ (by rintro rfl; exact hn hp)]; exact h.block x hl hn
  · by_cases e : (⟨b, i, none⟩ : Addr) = ⟨x, j, none⟩
    · have e1 : b = x := congrArg Addr.block e
      have e2 : i = j := congrArg Addr.off e
      subst e1 e2
      rw [hc] at hv
      obtain rfl : Value.int .i64 n = v := by simpa using hv
      exact .inr ⟨n, m, rfl, World.cell?_setCell_same _ _ _ hk⟩
    · rw [World.cell?_setCell_other _ _ _ _ e]; exact h.cell x j v hv
theorem Marked.mono {p q : Nat → Prop} {w w' : World} (h : Marked p w w') (hp : ∀ b, p b → q b) : Marked q w w' :=
  ⟨h.os, h.tape, h.output, h.size, fun b hl hn => h.block b hl fun e => hn (hp b e), h.frozen, h.cell⟩
/-- what lies where nothing was marked -/
theorem Marked.new {p : Nat → Prop} {w W W' : World} (h : Marked p W W') (hb : Below w.heap.size w W) (hp : ∀ b, p b → w.heap.size ≤ b) : Below w.heap.size w W' :=
  ⟨h.os.trans hb.os, h.tape.trans hb.tape, h.output.trans hb.output, Nat.le_trans hb.size h.size, fun k hk => by
    rw [h.block k (Nat.lt_of_lt_of_le hk hb.size) fun e => by have := hp k e; omega]; exact hb.block k hk⟩
/-- blocks of a stretch that nothing freezes -/
def Fresh (w : World) (B C : Nat) (b : Nat) : Prop := B ≤ b ∧ b < C ∧ ∀ i, w.frozen? ⟨b, i, none⟩ = false
theorem Fresh.below {w w' : World} {B C b : Nat} (h : Fresh w B C b) (hb : Below w.heap.size w w') (hl : b < w.heap.size) : Fresh w' B C b :=
  ⟨h.1, h.2.1, fun i => by rw [hb.frozen (p := ⟨b, i, none⟩) hl]; exact h.2.2 i⟩
end Go.Proofs.YtgopfjnpjkpelaaDoor
namespace Go.Proofs.YtgopfjnpjkpelaaDoor
open Go.RowKit

/-- a process -/
structure Pr where
  locs : Int
  edges : List Ed
/-- a system -/
structure Sy where
  init : List Int
  procs : List Pr

theorem EdIn.frame {p q : Nat → Prop} {w w' : World} {e : Ed} {x : Value} (h : EdIn p w e x) (hp : ∀ b, p b → b < w.heap.size → q b ∧ w'.heap[b]? = w.heap[b]?) : EdIn q w' e x := by
  obtain ⟨a, c, a', c', h0, h1, h2, h3, h4, h5, h6⟩ := h
  exact ⟨a, c, a', c', h0, h1, h2, h3, h4, (TrIn_frame hp).1 _ _ h5, (TrIn_frame hp).1 _ _ h6⟩
/-- an edge's ten cells at a place -/
def EdAt (p : Nat → Prop) (w : World) (e : Ed) (b o : Nat) : Prop := ∃ a c a' c',
  (w.cell? ⟨b, o, none⟩ = some (.int .i64 e.src) ∧ w.cell? ⟨b, o + 1, none⟩ = some (.int .i64 e.dst) ∧ w.cell? ⟨b, o + 2, none⟩ = some (.int .i64 e.guard.kind) ∧ w.cell? ⟨b, o + 3, none⟩ = some (.int .i64 e.guard.val) ∧
    w.cell? ⟨b, o + 4, none⟩ = some (.slice a e.guard.kids.length c) ∧ w.cell? ⟨b, o + 5, none⟩ = some (.int .i64 e.var) ∧ w.cell? ⟨b, o + 6, none⟩ = some (.int .i64 e.val.kind) ∧ w.cell? ⟨b, o + 7, none⟩ = some (.int .i64 e.val.val) ∧
    w.cell? ⟨b, o + 8, none⟩ = some (.slice a' e.val.kids.length c') ∧ w.cell? ⟨b, o + 9, none⟩ = some (.int .i64 e.sync)) ∧
  EdIn p w e (.agg #[.int .i64 e.src, .int .i64 e.dst, .int .i64 e.guard.kind, .int .i64 e.guard.val, .slice a e.guard.kids.length c, .int .i64 e.var, .int .i64 e.val.kind, .int .i64 e.val.val, .slice a' e.val.kids.length c', .int .i64 e.sync])
theorem EdAt.cells {p q : Nat → Prop} {w w' : World} {e : Ed} {b o : Nat} (h : EdAt p w e b o) (hc : ∀ i, i < 10 → w'.cell? ⟨b, o + i, none⟩ = w.cell? ⟨b, o + i, none⟩) (hp : ∀ b, p b → b < w.heap.size → q b ∧ w'.heap[b]? = w.heap[b]?) : EdAt q w' e b o := by
  obtain ⟨a, c, a', c', ⟨h0, h1, h2, h3, h4, h5, h6, h7, h8, h9⟩, hx⟩ := h
  exact ⟨a, c, a', c', ⟨(hc 0 (by omega)).trans h0, (hc 1 (by omega)).trans h1, (hc 2 (by omega)).trans h2, (hc 3 (by omega)).trans h3, (hc 4 (by omega)).trans h4, (hc 5 (by omega)).trans h5, (hc 6 (by omega)).trans h6, (hc 7 (by omega)).trans h7, (hc 8 (by omega)).trans h8, (hc 9 (by omega)).trans h9⟩, hx.frame hp⟩
theorem EdAt.frame {p q : Nat → Prop} {w w' : World} {e : Ed} {b o : Nat} (h : EdAt p w e b o) (he : w'.heap[b]? = w.heap[b]?) (hp : ∀ b, p b → b < w.heap.size → q b ∧ w'.heap[b]? = w.heap[b]?) : EdAt q w' e b o :=
  h.cells (fun i _ => World.cell?_of_block (w := w) (a := ⟨b, o + i, none⟩) he) hp
/-- rows of edges -/
def EdsIn (p : Nat → Prop) (w : World) (l : List Ed) (a : Option Addr) : Prop := SeqIn (EdAt p w) 10 p w l a
theorem EdsIn.frame {p q : Nat → Prop} {w w' : World} {l : List Ed} {a : Option Addr} (h : EdsIn p w l a) (hs : w.heap.size ≤ w'.heap.size) (hp : ∀ b, p b → b < w.heap.size → q b ∧ w'.heap[b]? = w.heap[b]?) : EdsIn q w' l a :=
  SeqIn.frame h hs (fun b h1 h2 => (hp b h1 h2).1) fun t b o _ h1 h2 h3 => h3.frame (hp b h1 h2).2 hp
theorem EdsIn.below {p : Nat → Prop} {w w' : World} {l : List Ed} {a : Option Addr} (h : EdsIn p w l a) (hb : Below w.heap.size w w') : EdsIn p w' l a := h.frame hb.size fun b hp hl => ⟨hp, hb.block b hl⟩

/-- a process in memory -/
def PrIn (p : Nat → Prop) (w : World) (q : Pr) (x : Value) : Prop := ∃ a c, x = .agg #[.int .i64 q.locs, .slice a q.edges.length c] ∧ i64 q.locs ∧ q.edges.length ≤ c ∧ c ≤ maxLen ∧ EdsIn p w q.edges a
theorem PrIn.frame {p q : Nat → Prop} {w w' : World} {t : Pr} {x : Value} (h : PrIn p w t x) (hs : w.heap.size ≤ w'.heap.size) (hp : ∀ b, p b → b < w.heap.size → q b ∧ w'.heap[b]? = w.heap[b]?) : PrIn q w' t x := by
  obtain ⟨a, c, h0, h1, h2, h3, h4⟩ := h
  exact ⟨a, c, h0, h1, h2, h3, h4.frame hs hp⟩
theorem PrIn.below {p : Nat → Prop} {w w' : World} {t : Pr} {x : Value} (h : PrIn p w t x) (hb : Below w.heap.size w w') : PrIn p w' t x := h.frame hb.size fun b hp hl => ⟨hp, hb.block b hl⟩
def PrAt (p : Nat → Prop) (w : World) (q : Pr) (b o : Nat) : Prop := ∃ a c, (w.cell? ⟨b, o, none⟩ = some (.int .i64 q.locs) ∧ w.cell? ⟨b, o + 1, none⟩ = some (.slice a q.edges.length c)) ∧ PrIn p w q (.agg #[.int .i64 q.locs, .slice a q.edges.length c])
theorem PrAt.cells {p q : Nat → Prop} {w w' : World} {t : Pr} {b o : Nat} (h : PrAt p w t b o) (hs : w.heap.size ≤ w'.heap.size) (hc : ∀ i, i < 2 → w'.cell? ⟨b, o + i, none⟩ = w.cell? ⟨b, o + i, none⟩) (hp : ∀ b, p b → b < w.heap.size → q b ∧ w'.heap[b]? = w.heap[b]?) : PrAt q w' t b o := by
  obtain ⟨a, c, ⟨h0, h1⟩, hx⟩ := h
  exact ⟨a, c, ⟨(hc 0 (by omega)).trans h0, (hc 1 (by omega)).trans h1⟩, hx.frame hs hp⟩
theorem PrAt.frame {p q : Nat → Prop} {w w' : World} {t : Pr} {b o : Nat} (h : PrAt p w t b o) (hs : w.heap.size ≤ w'.heap.size) (he : w'.heap[b]? = w.heap[b]?) (hp : ∀ b, p b → b < w.heap.size → q b ∧ w'.heap[b]? = w.heap[b]?) : PrAt q w' t b o :=
  h.cells hs (fun i _ => World.cell?_of_block (w := w) (a := ⟨b, o + i, none⟩) he) hp
def PrsIn (p : Nat → Prop) (w : World) (l : List Pr) (a : Option Addr) : Prop := SeqIn (PrAt p w) 2 p w l a
theorem PrsIn.frame {p q : Nat → Prop} {w w' : World} {l : List Pr} {a : Option Addr} (h : PrsIn p w l a) (hs : w.heap.size ≤ w'.heap.size) (hp : ∀ b, p b → b < w.heap.size → q b ∧ w'.heap[b]? = w.heap[b]?) : PrsIn q w' l a :=
  SeqIn.frame h hs (fun b h1 h2 => (hp b h1 h2).1) fun t b o _ h1 h2 h3 => h3.frame hs (hp b h1 h2).2 hp
theorem PrsIn.below {p : Nat → Prop} {w w' : World} {l : List Pr} {a : Option Addr} (h : PrsIn p w l a) (hb : Below w.heap.size w w') : PrsIn p w' l a := h.frame hb.size fun b hp hl => ⟨hp, hb.block b hl⟩

theorem IntsIn.frame {p q : Nat → Prop} {w w' : World} {a : Option Addr} {l : List Int} (h : IntsIn p w a l) (hs : w.heap.size ≤ w'.heap.size) (hp : ∀ b, p b → b < w.heap.size → q b ∧ w'.heap[b]? = w.heap[b]?) : IntsIn q w' a l := ⟨h.1.frame hs hp, h.2⟩
/-- A SYSTEM IN MEMORY -/
def SyIn (p : Nat → Prop) (w : World) (s : Sy) (x : Value) : Prop := ∃ a c b d, x = .agg #[.slice a s.init.length c, .slice b s.procs.length d] ∧ s.init.length ≤ c ∧ c ≤ maxLen ∧ IntsIn p w a s.init ∧ s.procs.length ≤ d ∧ d ≤ maxLen ∧ PrsIn p w s.procs b
theorem SyIn.frame {p q : Nat → Prop} {w w' : World} {s : Sy} {x : Value} (h : SyIn p w s x) (hs : w.heap.size ≤ w'.heap.size) (hp : ∀ b, p b → b < w.heap.size → q b ∧ w'.heap[b]? = w.heap[b]?) : SyIn q w' s x := by
  obtain ⟨a, c, b, d, h0, h1, h2, h3, h4, h5, h6⟩ := h
  exact ⟨a, c, b, d, h0, h1, h2, h3.frame hs hp, h4, h5, h6.frame hs hp⟩
theorem SyIn.below {p : Nat → Prop} {w w' : World} {s : Sy} {x : Value} (h : SyIn p w s x) (hb : Below w.heap.size w w') : SyIn p w' s x := h.frame hb.size fun b hp hl => ⟨hp, hb.block b hl⟩
theorem SyIn.any {p : Nat → Prop} {w : World} {s : Sy} {x : Value} (h : SyIn p w s x) : SyIn Any w s x := h.frame (Nat.le_refl _) fun _ _ _ => ⟨trivial, rfl⟩
theorem SyIn.shape {p : Nat → Prop} {w : World} {s : Sy} {x : Value} (h : SyIn p w s x) : ∃ a c b d, x = .agg #[.slice a s.init.length c, .slice b s.procs.length d] := by
  obtain ⟨a, c, b, d, h, _⟩ := h; exact ⟨a, c, b, d, h⟩
end Go.Proofs.YtgopfjnpjkpelaaDoor
namespace Go.Proofs.YtgopfjnpjkpelaaDoor
open Go.RowKit

/-- which operations may come up, one behind the other; 'fre', 'twf': of those that wait for all reads -/
inductive Ord where
  | done
  | one (i : Nat) (r : Ord)
  | fre (i : Nat) (r : Ord)
  | two (i j : Nat) (r s : Ord)
  | twf (i j : Nat) (r s : Ord)
  | thr (i j k : Nat) (r s t : Ord)

section
variable {P : Program} {ops : Array Oper} {Q : Exit → Act → World → Prop} {md : Region.Mode} {C : World → Prop} {Z : List Nat}

/-- whatever order is picked; C holds behind each operation but those of Z -/
def AnyZ (P : Program) (md : Region.Mode) (ops : Array Oper) (Q : Exit → Act → World → Prop) (C : World → Prop) (Z : List Nat) : Nat → Array Bool → Act → World → Prop
  | 0, listed, a, w => Region.ready md ops listed = [] ∧ Q .normal a w
  | n + 1, listed, a, w => (Region.ready md ops listed = [] → Q .normal a w) ∧ ∀ i, i ∈ Region.ready md ops listed →
      wpOp P ops Q i (fun a' w' => (Z.contains i = false → C w') ∧ AnyZ P md ops Q C Z n (listed.setIfInBounds i true) a' w') a w

theorem AnyZ.sound : ∀ (n : Nat) (listed : Array Bool) (a : Act) (w : World), AnyZ P md ops Q C Z n listed a w → wpAny P md ops Q n listed a w
  | 0, _, _, _, h => h
  | n + 1, _, _, _, h => ⟨h.1, fun i hi => wpOp_mono (fun a' w' h' => AnyZ.sound n _ a' w' h'.2) (h.2 i hi)⟩

/-- all operations of Z wait for operation i -/
def waitsZ (md : Region.Mode) (ops : Array Oper) (Z : List Nat) (i : Nat) : Bool := Z.all fun z => waits md ops z i

theorem AnyZ.take {i : Nat} {o : Oper} {v : Value} (hi : ops[i]? = some o) (hsel : Region.noSelect ops = true) (hQ : ∀ c a w, Q (.panic c) (a.put o.dst v) w → Q (.panic c) a w) (hz : waitsZ md ops Z i = true) :
    ∀ (n : Nat) (listed : Array Bool) (a : Act) (w : World),
      (∀ j oj, ops[j]? = some oj → j ≠ i → listed.getD j true = false → (∀ e ∈ oj.after, Region.binds md e = true → e.on ≠ i) → o.apart ops oj = true) →
      i ∈ Region.ready md ops listed → YieldsIf P ops C o v a → C w → AnyZ P md ops Q C Z n (listed.setIfInBounds i true) (a.put o.dst v) w → AnyZ P md ops Q C Z (n + 1) listed a w := by
  intro n
  induction n with
  | zero =>
    intro listed a w _ hr hy hC H
    refine ⟨fun h => by (rw [h] at hr; cases hr), fun j hj => ?_⟩
    by_cases e : j = i
    · subst e; exact hy.wpOp hi hC ⟨fun _ => hC, H⟩
    · have h1 := ready_mono hj e
      rw [H.1] at h1; cases h1
  | succ n ih =>
    intro listed a w hfree hr hy hC H
    refine ⟨fun h => by (rw [h] at hr; cases hr), fun j hj => ?_⟩
    by_cases e : j = i
    · subst e; exact hy.wpOp hi hC ⟨fun _ => hC, H⟩
    · have h1 := H.2 j (ready_mono hj e)
      obtain ⟨hun, oj, hoj, hall⟩ := mem_ready.1 hj
      have hno : ∀ x ∈ oj.after, Region.binds md x = true → x.on ≠ i := fun x hx hb he => by
        have h2 := hall x hx hb
        have h3 := (mem_ready.1 hr).1
        rw [he] at h2
        rcases Nat.lt_or_ge i listed.size with h4 | h4
        · simp [h4] at h2 h3; rw [h3] at h2; cases h2
        · simp [Array.getElem?_eq_none h4] at h2
      have hjz : Z.contains j = false := by
        cases hjz : Z.contains j with
        | false => rfl
        | true =>
          exfalso
          unfold waitsZ at hz
          rw [List.all_eq_true] at hz
          have hz := hz j (by simpa using hjz)
          unfold waits at hz
          rw [hoj] at hz
          simp only [Option.map_some, Option.getD_some, Array.any_eq_true] at hz
          obtain ⟨k, hk, hz⟩ := hz
          simp only [Bool.and_eq_true, beq_iff_eq] at hz
          exact hno _ (Array.getElem_mem hk) hz.1 hz.2
      have h5 := wpOp_putIf hoj (hfree j oj hoj e hun hno) (fun cs b => Region.noSelect_spec hsel i o cs b hi) (fun cs b => Region.noSelect_spec hsel j oj cs b hoj) hQ hy h1
      have hri := ready_mono (md := md) hr (Ne.symm e)
      refine wpOp_mono (fun a' w' h6 => ?_) h5
      have hCw : C w' := h6.2.1 hjz
      exact ⟨fun _ => hCw, ih (listed.setIfInBounds j true) a' w' (fun k ok hk hki hu hnk => hfree k ok hk hki (by
          by_cases hjk : j = k
          · subst hjk; exact hun
          · rw [getD_set_ne true hjk] at hu; exact hu) hnk) hri h6.1 hCw (by rw [Array.setIfInBounds_comm _ _ e]; exact h6.2.2)⟩

/-- an operation that only reads: a plain one, or 'len' -/
def lenOp (o : Oper) : Bool := match o.op with
  | .call { callee := .builtin .len, .. } => true
  | _ => false
theorem len_value {o : Oper} (h : lenOp o = true) {ρ : Operand → Value} {w w' : World} {n : Next} (hr : Sem.run P (execOp ρ o) w = .ok n w') : ∃ u, n = .value u := by
  obtain ⟨dst, op, ty, pos, after, guard⟩ := o
  unfold lenOp at h
  split at h
  · rename_i c1 c2 hop
    dsimp only at hop
    subst hop
    unfold execOp at hr
    simp only [resolve, invoke, builtin, Sem.run_bind, Sem.run_pure, Result.andThen_ok] at hr
    generalize Sem.run P (Builtin.len_ c2 ty (Array.map ρ c1)) w = rr at hr
    cases rr with
    | ok v w1 => simp [Result.andThen] at hr; exact ⟨v, hr.1.symm⟩
    | halt h w1 => simp [Result.andThen] at hr
  · cases h
theorem plain2_value {o : Oper} (h : (plainOp o || lenOp o) = true) {ρ : Operand → Value} {w w' : World} {n : Next} (hr : Sem.run P (execOp ρ o) w = .ok n w') : ∃ u, n = .value u := by
  rw [Bool.or_eq_true] at h
  rcases h with h | h
  · exact plain_value h hr
  · exact len_value h hr
/-- each of these may be taken first, one behind the other -/
def preZ (md : Region.Mode) (l : List Oper) (Z : List Nat) : List Nat → Array Bool → Bool
  | [], _ => true
  | i :: r, listed => (Region.ready md l.toArray listed).contains i && (Region.free md l.toArray listed i && (waitsZ md l.toArray Z i && (((l[i]?).map fun o => plainOp o || lenOp o).getD false && preZ md l Z r (listed.setIfInBounds i true))))
theorem AnyZ.pre {l : List Oper} {n : Nat} {w : World} (hsel : Region.noSelect l.toArray = true) (hQ : ∀ d v c a w, Q (.panic c) (Act.put a d v) w → Q (.panic c) a w) (hC : C w) :
    ∀ (I : List Nat) (listed : Array Bool) (a : Act), preZ md l Z I listed = true → wpQuiet P l.toArray C (fun a' => AnyZ P md l.toArray Q C Z n (marked I listed) a' w) (pick l I) a → AnyZ P md l.toArray Q C Z (n + I.length) listed a w := by
  intro I
  induction I with
  | nil => intro listed a _ h; exact h
  | cons i r ih =>
    intro listed a hB h
    simp only [preZ, Bool.and_eq_true] at hB
    obtain ⟨h1, h2, h3, h4, h5⟩ := hB
    cases ho : l[i]? with
    | none => rw [ho] at h4; simp at h4
    | some o =>
      rw [ho] at h4
      simp only [Option.map_some, Option.getD_some] at h4
      rw [pick_cons ho] at h
      have hoa : l.toArray[i]? = some o := by simpa using ho
      unfold wpQuiet at h
      have hgo : ∀ v, YieldsIf P l.toArray C o v a → wpQuiet P l.toArray C (fun a' => AnyZ P md l.toArray Q C Z n (marked r (listed.setIfInBounds i true)) a' w) (pick l r) (a.put o.dst v) → AnyZ P md l.toArray Q C Z (n + (i :: r).length) listed a w := fun v hy hr =>
        AnyZ.take hoa hsel (fun c a w => hQ _ _ c a w) h3 _ listed a w (Region.free_spec hoa h2) (by simpa using h1) hy hC (ih _ _ h5 hr)
      split at h
      · rename_i hw
        obtain ⟨v, hv, hr⟩ := h
        refine hgo v (.inl ⟨hw, fun w1 hw1 => ?_⟩) hr
        have hq := hv w1 hw1
        unfold Oper.quietAt at hq
        cases hrun : Sem.run P (execOp a.eval o) w1 with
        | ok nx w2 =>
          obtain ⟨u, rfl⟩ := plain2_value h4 hrun
          rw [hrun] at hq
          simp only [Oper.quietUpon] at hq
          rw [hq.1, hq.2]
        | halt hh w2 => rw [hrun] at hq; simp only [Oper.quietUpon] at hq
      · rename_i hw
        exact hgo undef (.inr ⟨by simpa using hw, rfl⟩) h


/-- these orders, and no others -/
def ordB (md : Region.Mode) (l : List Oper) (Z : List Nat) : Ord → Array Bool → Bool
  | .done, listed => (Region.ready md l.toArray listed).isEmpty
  | .one i r, listed => (Region.ready md l.toArray listed) == [i] && ((l[i]?).isSome && ordB md l Z r (listed.setIfInBounds i true))
  | .fre i r, listed => (Region.ready md l.toArray listed) == [i] && ((l[i]?).isSome && (Z.contains i && ordB md l Z r (listed.setIfInBounds i true)))
  | .two i j r s, listed => (Region.ready md l.toArray listed) == [i, j] && ((l[i]?).isSome && ((l[j]?).isSome && (ordB md l Z r (listed.setIfInBounds i true) && ordB md l Z s (listed.setIfInBounds j true))))
  | .twf i j r s, listed => (Region.ready md l.toArray listed) == [i, j] && ((l[i]?).isSome && ((l[j]?).isSome && (Z.contains i && (Z.contains j && (ordB md l Z r (listed.setIfInBounds i true) && ordB md l Z s (listed.setIfInBounds j true))))))
  | .thr i j k r s t, listed => (Region.ready md l.toArray listed) == [i, j, k] && ((l[i]?).isSome && ((l[j]?).isSome && ((l[k]?).isSome && (ordB md l Z r (listed.setIfInBounds i true) && (ordB md l Z s (listed.setIfInBounds j true) && ordB md l Z t (listed.setIfInBounds k true))))))
def Ord.len : Ord → Nat
  | .done => 0
  | .one _ r => r.len + 1
  | .fre _ r => r.len + 1
  | .two _ _ r _ => r.len + 1
  | .twf _ _ r _ => r.len + 1
  | .thr _ _ _ r _ _ => r.len + 1
/-- both ways are equally long -/
def Ord.even : Ord → Bool
  | .done => true
  | .one _ r => r.even
  | .fre _ r => r.even
  | .two _ _ r s => r.len == s.len && (r.even && s.even)
  | .twf _ _ r s => r.len == s.len && (r.even && s.even)
  | .thr _ _ _ r s t => r.len == s.len && (r.len == t.len && (r.even && (s.even && t.even)))

/-- each order, an operation at a time; C is shown behind each that does not wait for all reads -/
def ordW (P : Program) (ops : Array Oper) (Q : Exit → Act → World → Prop) (C : World → Prop) (l : List Oper) : Ord → Act → World → Prop
  | .done, a, w => Q .normal a w
  | .one i r, a, w => wpList P ops (Exit.then (fun a' w' => C w' ∧ ordW P ops Q C l r a' w') Q) (pick l [i]) a w
  | .fre i r, a, w => wpList P ops (Exit.then (fun a' w' => ordW P ops Q C l r a' w') Q) (pick l [i]) a w
  | .two i j r s, a, w => wpList P ops (Exit.then (fun a' w' => C w' ∧ ordW P ops Q C l r a' w') Q) (pick l [i]) a w ∧ wpList P ops (Exit.then (fun a' w' => C w' ∧ ordW P ops Q C l s a' w') Q) (pick l [j]) a w
  | .twf i j r s, a, w => wpList P ops (Exit.then (fun a' w' => ordW P ops Q C l r a' w') Q) (pick l [i]) a w ∧ wpList P ops (Exit.then (fun a' w' => ordW P ops Q C l s a' w') Q) (pick l [j]) a w
  | .thr i j k r s t, a, w => wpList P ops (Exit.then (fun a' w' => C w' ∧ ordW P ops Q C l r a' w') Q) (pick l [i]) a w ∧ wpList P ops (Exit.then (fun a' w' => C w' ∧ ordW P ops Q C l s a' w') Q) (pick l [j]) a w ∧ wpList P ops (Exit.then (fun a' w' => C w' ∧ ordW P ops Q C l t a' w') Q) (pick l [k]) a w

theorem pick_one {l : List Oper} {i : Nat} {o : Oper} (h : l[i]? = some o) : pick l [i] = [o] := by simp [pick, h]

theorem AnyZ.ord {l : List Oper} : ∀ (T : Ord) (listed : Array Bool) (a : Act) (w : World), ordB md l Z T listed = true → T.even = true → ordW P l.toArray Q C l T a w → AnyZ P md l.toArray Q C Z T.len listed a w := by
  intro T
  induction T with
  | done => intro listed a w h _ hw; exact ⟨List.isEmpty_iff.1 h, hw⟩
  | one i r ih =>
    intro listed a w hB he h
    simp only [ordB, Bool.and_eq_true, beq_iff_eq] at hB
    obtain ⟨h1, h2, h3⟩ := hB
    obtain ⟨o, ho⟩ := Option.isSome_iff_exists.1 h2
    have hoa : l.toArray[i]? = some o := by simpa using ho
    rw [ordW, pick_one ho] at h
    refine ⟨fun hn => by (rw [h1] at hn; cases hn), fun j hj => ?_⟩
    rw [h1] at hj
    obtain rfl : j = i := by simpa using hj
    exact wpOp_mono (fun a' w' hq => ⟨fun _ => hq.1, ih _ a' w' h3 he hq.2⟩) (op_then hoa h)
  | fre i r ih =>
    intro listed a w hB he h
    simp only [ordB, Bool.and_eq_true, beq_iff_eq] at hB
    obtain ⟨h1, h2, h4, h3⟩ := hB
    obtain ⟨o, ho⟩ := Option.isSome_iff_exists.1 h2
    have hoa : l.toArray[i]? = some o := by simpa using ho
    rw [ordW, pick_one ho] at h
    refine ⟨fun hn => by (rw [h1] at hn; cases hn), fun j hj => ?_⟩
    rw [h1] at hj
    obtain rfl : j = i := by simpa using hj
    exact wpOp_mono (fun a' w' hq => ⟨fun hc => (by rw [h4] at hc; cases hc), ih _ a' w' h3 he hq⟩) (op_then hoa h)
  | two i j r s ihr ihs =>
    intro listed a w hB he h
    simp only [ordB, Bool.and_eq_true, beq_iff_eq] at hB
    obtain ⟨h1, h2, h3, h4, h5⟩ := hB
    simp only [Ord.even, Bool.and_eq_true, beq_iff_eq] at he
    obtain ⟨e1, e2, e3⟩ := he
    obtain ⟨o, ho⟩ := Option.isSome_iff_exists.1 h2
    obtain ⟨o', ho'⟩ := Option.isSome_iff_exists.1 h3
    have hoa : l.toArray[i]? = some o := by simpa using ho
    have hoa' : l.toArray[j]? = some o' := by simpa using ho'
    rw [ordW, pick_one ho, pick_one ho'] at h
    refine ⟨fun hn => by (rw [h1] at hn; cases hn), fun k hk => ?_⟩
    rw [h1] at hk
    have hk2 : k = i ∨ k = j := by simpa using hk
    rcases hk2 with rfl | rfl
    · exact wpOp_mono (fun a' w' hq => ⟨fun _ => hq.1, ihr _ a' w' h4 e2 hq.2⟩) (op_then hoa h.1)
    · exact wpOp_mono (fun a' w' hq => ⟨fun _ => hq.1, by rw [e1]; exact ihs _ a' w' h5 e3 hq.2⟩) (op_then hoa' h.2)
  | twf i j r s ihr ihs =>
    intro listed a w hB he h
    simp only [ordB, Bool.and_eq_true, beq_iff_eq] at hB
    obtain ⟨h1, h2, h3, z1, z2, h4, h5⟩ := hB
    simp only [Ord.even, Bool.and_eq_true, beq_iff_eq] at he
    obtain ⟨e1, e2, e3⟩ := he
    obtain ⟨o, ho⟩ := Option.isSome_iff_exists.1 h2
    obtain ⟨o', ho'⟩ := Option.isSome_iff_exists.1 h3
    have hoa : l.toArray[i]? = some o := by simpa using ho
    have hoa' : l.toArray[j]? = some o' := by simpa using ho'
    rw [ordW, pick_one ho, pick_one ho'] at h
    refine ⟨fun hn => by (rw [h1] at hn; cases hn), fun k hk => ?_⟩
    rw [h1] at hk
    have hk2 : k = i ∨ k = j := by simpa using hk
    rcases hk2 with rfl | rfl
    · exact wpOp_mono (fun a' w' hq => ⟨fun hc => (by rw [z1] at hc; cases hc), ihr _ a' w' h4 e2 hq⟩) (op_then hoa h.1)
    · exact wpOp_mono (fun a' w' hq => ⟨fun hc => (by rw [z2] at hc; cases hc), by rw [e1]; exact ihs _ a' w' h5 e3 hq⟩) (op_then hoa' h.2)
  | thr i j k r s t ihr ihs iht =>
    intro listed a w hB he h
    simp only [ordB, Bool.and_eq_true, beq_iff_eq] at hB
    obtain ⟨h1, h2, h3, h3', h4, h5, h6⟩ := hB
    simp only [Ord.even, Bool.and_eq_true, beq_iff_eq] at he
    obtain ⟨e1, e1', e2, e3, e4⟩ := he
    obtain ⟨o, ho⟩ := Option.isSome_iff_exists.1 h2
    obtain ⟨o', ho'⟩ := Option.isSome_iff_exists.1 h3
    obtain ⟨o2, ho2⟩ := Option.isSome_iff_exists.1 h3'
    have hoa : l.toArray[i]? = some o := by simpa using ho
    have hoa' : l.toArray[j]? = some o' := by simpa using ho'
    have hoa2 : l.toArray[k]? = some o2 := by simpa using ho2
    rw [ordW, pick_one ho, pick_one ho', pick_one ho2] at h
    refine ⟨fun hn => by (rw [h1] at hn; cases hn), fun m hk => ?_⟩
    rw [h1] at hk
    have hk2 : m = i ∨ m = j ∨ m = k := by simpa using hk
    rcases hk2 with rfl | rfl | rfl
    · exact wpOp_mono (fun a' w' hq => ⟨fun _ => hq.1, ihr _ a' w' h4 e2 hq.2⟩) (op_then hoa h.1)
    · exact wpOp_mono (fun a' w' hq => ⟨fun _ => hq.1, by rw [e1]; exact ihs _ a' w' h5 e3 hq.2⟩) (op_then hoa' h.2.1)
    · exact wpOp_mono (fun a' w' hq => ⟨fun _ => hq.1, by rw [e1']; exact iht _ a' w' h6 e4 hq.2⟩) (op_then hoa2 h.2.2)

/-- **A REGION THAT DRAWS: ITS READS FIRST (I), THEN ONE OF A FEW ORDERS (T)**; Z: the operations that wait for all reads -/
theorem wp_region_ord {id : Nat} {a : Act} {w : World} {l : List Oper} (I : List Nat) (T : Ord) (Z : List Nat) (hm : P.follows .mixedOrders = true)
    (hB : (Region.noSelect l.toArray && (preZ .any l Z I (Array.replicate l.length false) && (ordB .any l Z T (marked I (Array.replicate l.length false)) && (T.even && decide (T.len + I.length = l.length))))) = true)
    (hQ : ∀ d v c a w, Q (.panic c) (Act.put a d v) w → Q (.panic c) a w) (hC : C w.drew)
    (h : wpQuiet P l.toArray C (fun a' => ordW P l.toArray Q C l T a' w.drew) (pick l I) a) : (Code.region id l.toArray true).wp P Q a w := by
  simp only [Bool.and_eq_true, decide_eq_true_eq] at hB
  obtain ⟨h1, h2, h3, h4, h5⟩ := hB
  refine wp_region_any hm (AnyZ.sound (C := C) (Z := Z) _ _ _ _ ?_)
  have := AnyZ.pre (n := T.len) h1 hQ hC I _ a h2 (wpQuiet_mono' (fun a' ha => AnyZ.ord T _ a' _ h3 h4 ha) _ _ h)
  rw [h5] at this
  simpa using this
end
end Go.Proofs.YtgopfjnpjkpelaaDoor
namespace Go.Proofs.YtgopfjnpjkpelaaDoor
open Go.RowKit

/-- a row of one's own, of numbers -/
theorem Row.ints {w : World} {R : Nat} {l : List Int} {p : Nat → Prop} (h : Row w R l.length (fun i => .int .i64 (l.getD i 0))) (hl : ∀ n, n ∈ l → i64 n) (hp : p R) : IntsIn p w (some ⟨R, 0, none⟩) l :=
  ⟨h.rowIn (l := l.map (Value.int .i64)) (by simp) (fun i v hv => by
    rw [List.getElem?_map] at hv
    cases hn : l[i]? with
    | none => rw [hn] at hv; simp at hv
    | some n => rw [hn] at hv; simp at hv; subst hv; simp [List.getD_eq_getElem?_getD, hn]) hp, hl⟩
theorem ints_info : (Tryd.prog.info? 3).map (fun i => (i.zero, i.size, i.bytes)) = some (some (.int .i64 0), 1, 8) := by kernel_rfl
def zerosI (n : Nat) : Array Value := madeCells #[.int .i64 0] n
theorem make_ints (n : Nat) (h : n ≤ 1048576) (w : World) : (Instr.makeSlice 23 (.int .i64 (n : Int)) (.int .i64 (n : Int))).run Tryd.prog w =
    .ok (.slice (some ⟨w.heap.size, 0, none⟩) n n) (w.alloc (.cells (zerosI n) 3)) := by
  obtain ⟨i, hi, hz, h1, h2⟩ := info_parts ints_info
  have := run_make (P := Tryd.prog) w 23 3 i _ Tryd.underlying23 hi hz .i64 .i64 n n (by omega) (by omega) (by rw [h2]; omega) (by omega)
  rw [this, h1]
  simp [zerosI, Value.cells]
theorem row_new {w : World} {cs : Array Value} {n : Nat} (hcs : cs.size = n) (e : TypeId) : Row (w.alloc (.cells cs e)) w.heap.size n (fun i => cs.getD i undef) :=
  ⟨by simp, fun i hi => by rw [World.cell?_alloc_new]; simp [Array.getD, hcs, hi], fun i => by simp⟩

theorem bools_info : (Tryd.prog.info? 4).map (fun i => (i.zero, i.size, i.bytes)) = some (some (.bool false), 1, 1) := by kernel_rfl
def zerosB (n : Nat) : Array Value := madeCells #[.bool false] n
theorem make_bools (n : Nat) (h : n ≤ 1048576) (w : World) : (Instr.makeSlice 128 (.int .i64 (n : Int)) (.int .i64 (n : Int))).run Tryd.prog w =
    .ok (.slice (some ⟨w.heap.size, 0, none⟩) n n) (w.alloc (.cells (zerosB n) 4)) := by
  obtain ⟨i, hi, hz, h1, h2⟩ := info_parts bools_info
  have := run_make (P := Tryd.prog) w 128 4 i _ Tryd.underlying128 hi hz .i64 .i64 n n (by omega) (by omega) (by rw [h2]; omega) (by omega)
  rw [this, h1]
  simp [zerosB, Value.cells]

end Go.Proofs.YtgopfjnpjkpelaaDoor
