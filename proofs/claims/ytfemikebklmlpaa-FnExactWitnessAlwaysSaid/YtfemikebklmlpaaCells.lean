/- Rows of one-cell values in memory: where they lie, what of them is kept. Conditions: none. -/
import Derived.Test.YtfemikebklmlpaaMem
import Derived.ProofKit
import Derived.ChangeOld
import Derived.Lib.SmallJoins
namespace Go.Proofs.Ytfemikebklmlpaa
open Go.RowKit

/-- values that lie one behind the other from an address on, in blocks that p allows -/
def RowIn (p : Nat → Prop) (w : World) (a : Option Addr) (l : List Value) : Prop :=
  l = [] ∨ ∃ b o, a = some ⟨b, o, none⟩ ∧ p b ∧ b < w.heap.size ∧ ∀ i v, l[i]? = some v → w.cell? ⟨b, o + i, none⟩ = some v
theorem RowIn.frame {p q : Nat → Prop} {w w' : World} {a : Option Addr} {l : List Value} (h : RowIn p w a l) (hs : w.heap.size ≤ w'.heap.size) (hp : ∀ b, p b → b < w.heap.size → q b ∧ w'.heap[b]? = w.heap[b]?) : RowIn q w' a l := by
  rcases h with h | ⟨b, o, h1, h2, h3, h4⟩
  · exact .inl h
  · obtain ⟨hq, he⟩ := hp b h2 h3
    exact .inr ⟨b, o, h1, hq, by omega, fun i v hv => by rw [World.cell?_of_block (w := w) (a := ⟨b, o + i, none⟩) he]; exact h4 i v hv⟩
theorem RowIn.below {p : Nat → Prop} {w w' : World} {a : Option Addr} {l : List Value} (h : RowIn p w a l) (hb : Below w.heap.size w w') : RowIn p w' a l :=
  h.frame hb.size fun b hp hl => ⟨hp, hb.block b hl⟩
theorem RowIn.any {p : Nat → Prop} {w : World} {a : Option Addr} {l : List Value} (h : RowIn p w a l) : RowIn Any w a l := h.frame (Nat.le_refl _) fun _ _ _ => ⟨trivial, rfl⟩
theorem RowIn.old {w : World} {a : Option Addr} {l : List Value} (h : RowIn Any w a l) : RowIn (· < w.heap.size) w a l := h.frame (Nat.le_refl _) fun _ _ hl => ⟨hl, rfl⟩
theorem RowIn.mono {p q : Nat → Prop} {w : World} {a : Option Addr} {l : List Value} (h : RowIn p w a l) (hp : ∀ b, p b → q b) : RowIn q w a l := h.frame (Nat.le_refl _) fun b hb _ => ⟨hp b hb, rfl⟩
/-- the k-th -/
theorem RowIn.at {p : Nat → Prop} {w wr : World} {a : Option Addr} {l : List Value} {k : Nat} {v : Value} (h : RowIn p w a l) (hb : Below w.heap.size w wr) (hk : l[k]? = some v) : ∃ b o, a = some ⟨b, o, none⟩ ∧ b < wr.heap.size ∧ p b ∧ wr.cell? ⟨b, o + k, none⟩ = some v := by
  rcases h with rfl | ⟨b, o, h1, h2, h3, h4⟩
  · simp at hk
  · exact ⟨b, o, h1, by have := hb.size; omega, h2, by rw [hb.cell (p := ⟨b, o + k, none⟩) h3]; exact h4 k v hk⟩
/-- a row of one's own -/
theorem Row.rowIn {w : World} {R n : Nat} {f : Nat → Value} {l : List Value} (h : Row w R n f) (hl : l.length ≤ n) (hf : ∀ i v, l[i]? = some v → f i = v) {p : Nat → Prop} (hp : p R) : RowIn p w (some ⟨R, 0, none⟩) l :=
  .inr ⟨R, 0, rfl, hp, h.1, fun i v hv => by
    have hi : i < l.length := (List.getElem?_eq_some_iff.1 hv).1
    rw [Nat.zero_add, h.2.1 i (by omega), hf i v hv]⟩

/-- numbers in a slice -/
def IntsIn (p : Nat → Prop) (w : World) (a : Option Addr) (l : List Int) : Prop := RowIn p w a (l.map (Value.int .i64)) ∧ ∀ n, n ∈ l → i64 n
theorem IntsIn.below {p : Nat → Prop} {w w' : World} {a : Option Addr} {l : List Int} (h : IntsIn p w a l) (hb : Below w.heap.size w w') : IntsIn p w' a l := ⟨h.1.below hb, h.2⟩
/-- truth values in a slice -/
def BoolsIn (p : Nat → Prop) (w : World) (a : Option Addr) (l : List Bool) : Prop := RowIn p w a (l.map Value.bool)
theorem BoolsIn.below {p : Nat → Prop} {w w' : World} {a : Option Addr} {l : List Bool} (h : BoolsIn p w a l) (hb : Below w.heap.size w w') : BoolsIn p w' a l := RowIn.below h hb
theorem ints_at {p : Nat → Prop} {w wr : World} {a : Option Addr} {l : List Int} {k : Nat} (h : IntsIn p w a l) (hb : Below w.heap.size w wr) (hk : k < l.length) :
    ∃ b o, a = some ⟨b, o, none⟩ ∧ b < wr.heap.size ∧ p b ∧ wr.cell? ⟨b, o + k, none⟩ = some (.int .i64 l[k]) ∧ i64 l[k] := by
  obtain ⟨b, o, h1, h2, h3, h4⟩ := h.1.at (k := k) (v := .int .i64 l[k]) hb (by rw [List.getElem?_map, List.getElem?_eq_getElem hk]; rfl)
  exact ⟨b, o, h1, h2, h3, h4, h.2 _ (List.getElem_mem hk)⟩
theorem bools_at {p : Nat → Prop} {w wr : World} {a : Option Addr} {l : List Bool} {k : Nat} (h : BoolsIn p w a l) (hb : Below w.heap.size w wr) (hk : k < l.length) :
    ∃ b o, a = some ⟨b, o, none⟩ ∧ b < wr.heap.size ∧ p b ∧ wr.cell? ⟨b, o + k, none⟩ = some (.bool l[k]) :=
  RowIn.at h (k := k) (v := .bool l[k]) hb (by rw [List.getElem?_map, List.getElem?_eq_getElem hk]; rfl)

section
variable {H : Type} {enc : TypeId × Value → H} {P : Program} {w : World} {base : Nat} {spare : Nat → Bool} {held : Bool}
theorem cells_one {a : Addr} {cs : List Value} (h : w.cells? base a 1 = some cs) : ∃ c0, cs = [c0] ∧ w.cell? (a.add 0) = some c0 := by
  obtain ⟨_, hl, hc⟩ := World.cells?_some h
  match cs, hl with
  | [c0], _ => exact ⟨c0, rfl, by simpa using hc 0 (by omega)⟩
theorem rowIn_build {a : Addr} : ∀ {len : Nat}, (∃ l : List Value, l.length = len ∧ ∀ i v, l[i]? = some v → w.cell? (a.add i) = some v) → ∃ l : List Value, l.length = len ∧ (∀ i v, l[i]? = some v → w.cell? (a.add i) = some v) ∧ RowIn Any w (some a) l := by
  rintro len ⟨l, h1, h2⟩
  refine ⟨l, h1, h2, ?_⟩
  cases l with
  | nil => exact .inl rfl
  | cons v l =>
    obtain ⟨b, o, s⟩ := a
    have e0 := h2 0 v rfl
    have hs : s = none := by simpa [Addr.add] using World.cell?_spot e0
    subst hs
    have ea : ∀ i, Addr.add ⟨b, o, none⟩ i = ⟨b, o + i, none⟩ := fun i => by unfold Addr.add; split <;> simp_all
    refine .inr ⟨b, o, rfl, trivial, blt (by rw [ea] at e0; exact e0), fun i u hu => ?_⟩
    have := h2 i u hu
    rwa [ea] at this
theorem elems_read {S I : TypeId} {X : Type} {V : X → Value} {ok : X → Prop} (hS : P.underlying S = some (.slice I)) (cI : P.cellsOf I = 1)
    (hel : ∀ (m : Nat) (c : Value) (x : DataW H × List MemPlace), DataW.trod enc P w base spare held m I [c] = some x → ∃ n, c = V n ∧ ok n)
    {fuel : Nat} {a : Option Addr} {len cap : Nat} {x : DataW H × List MemPlace} (h : DataW.trod enc P w base spare held fuel S [.slice a len cap] = some x) :
    ∃ l : List X, l.length = len ∧ len ≤ cap ∧ cap ≤ maxLen ∧ RowIn Any w a (l.map V) ∧ ∀ n, n ∈ l → ok n := by
  rcases DataW.trod_slice hS h with ⟨hc, _⟩ | ⟨a', len', cap', elems, rest, m, hm, hc, _, _, hlc, hcm, hel', hcell, _⟩
  · simp at hc
    obtain ⟨rfl, rfl, rfl⟩ := hc
    exact ⟨[], rfl, Nat.le_refl _, Nat.zero_le _, .inl rfl, by simp⟩
  · simp at hc
    obtain ⟨rfl, rfl, rfl⟩ := hc
    have key : ∀ i, i < len → ∃ n : X, w.cell? (a'.add i) = some (V n) ∧ ok n := fun i hi => by
      have hh := hcell i hi
      rw [cI, List.getElem?_eq_getElem (by omega)] at hh
      obtain ⟨cs', h3, h4⟩ := Option.bind_eq_some_iff.1 hh
      obtain ⟨c0, rfl, q0⟩ := cells_one h3
      obtain ⟨n, rfl, wn⟩ := hel m _ _ h4
      exact ⟨n, by simpa [Addr.add] using q0, wn⟩
    have build : ∀ k, k ≤ len → ∃ l : List X, l.length = k ∧ (∀ i n, l[i]? = some n → w.cell? (a'.add i) = some (V n) ∧ ok n) := by
      intro k
      induction k with
      | zero => intro _; exact ⟨[], rfl, by simp⟩
      | succ k ih =>
        intro hk
        obtain ⟨l, h1, h2⟩ := ih (by omega)
        obtain ⟨n, h3, h4⟩ := key k (by omega)
        refine ⟨l ++ [n], by simp [h1], fun i m hm => ?_⟩
        by_cases hi : i < l.length
        · rw [List.getElem?_append_left hi] at hm; exact h2 i m hm
        · rw [List.getElem?_append_right (by omega)] at hm
          have hi2 : i = k := by
            have := (List.getElem?_eq_some_iff.1 hm).1
            simp at this; omega
          subst hi2
          simp [h1] at hm
          subst hm
          exact ⟨h3, h4⟩
    obtain ⟨l, h1, h2⟩ := build len (Nat.le_refl _)
    obtain ⟨l', h3, h4, h5⟩ := rowIn_build (w := w) (a := a') (len := len) ⟨l.map V, by simpa using h1, fun i v hv => by
      rw [List.getElem?_map] at hv
      cases hn : l[i]? with
      | none => rw [hn] at hv; simp at hv
      | some n => rw [hn] at hv; simp at hv; subst hv; exact (h2 i n hn).1⟩
    refine ⟨l, h1, hlc, hcm, ?_, fun n hn => ?_⟩
    · rcases h5 with h5 | ⟨b, o, h5, h6, h7, h8⟩
      · left; rw [h5] at h3; simp at h3; subst h3; simp at h1; simp [h1]
      · right
        obtain rfl : a' = ⟨b, o, none⟩ := by simpa using h5
        have ea : ∀ i, Addr.add ⟨b, o, none⟩ i = ⟨b, o + i, none⟩ := fun i => by unfold Addr.add; split <;> simp_all
        refine ⟨b, o, rfl, trivial, h7, fun i v hv => ?_⟩
        rw [List.getElem?_map] at hv
        cases hn : l[i]? with
        | none => rw [hn] at hv; simp at hv
        | some n => rw [hn] at hv; simp at hv; subst hv; have := (h2 i n hn).1; rwa [ea] at this
    · obtain ⟨i, hi⟩ := List.getElem?_of_mem hn
      exact (h2 i n hi).2
/-- WHAT READS AS A SLICE OF NUMBERS -/
theorem ints_read {S I : TypeId} (hS : P.underlying S = some (.slice I)) (hI : P.underlying I = some (.int .i64)) (cI : P.cellsOf I = 1)
    {fuel : Nat} {a : Option Addr} {len cap : Nat} {x : DataW H × List MemPlace} (h : DataW.trod enc P w base spare held fuel S [.slice a len cap] = some x) : ∃ l : List Int, l.length = len ∧ len ≤ cap ∧ cap ≤ maxLen ∧ IntsIn Any w a l := by
  obtain ⟨l, h1, h2, h3, h4, h5⟩ := elems_read (V := Value.int .i64) (ok := i64) hS cI (fun m c x hx => by
    obtain ⟨n, hn, _, wn⟩ := DataW.trod_int hI hx
    simp only [List.cons.injEq, and_true] at hn
    refine ⟨n, hn, ?_⟩
    simp [Lit.wf, IntKind.min, IntKind.max, IntKind.signed, IntKind.bits] at wn
    exact wn) h
  exact ⟨l, h1, h2, h3, h4, h5⟩
end

end Go.Proofs.Ytfemikebklmlpaa
