/- Rows of one-cell values of one's own, and the numbers that the laws' mark writes. Conditions: none. -/
import Derived.Test.YtfemikebklmlpaaCells
import Derived.Test.YtfemikebklmlpaaOwnPlain
namespace Go.Proofs.Ytfemikebklmlpaa
open Go.RowKit

/-- a row of values in a block of its own -/
def OwnV (l : List Value) (a : Option Addr) (bs : List Nat) (w : World) : Prop := (l = [] ∧ bs = []) ∨ ∃ R, a = some ⟨R, 0, none⟩ ∧ bs = [R] ∧ Row w R l.length (fun i => l.getD i undef)
theorem OwnV.frame {l : List Value} {a : Option Addr} {bs : List Nat} {w w' : World} (h : OwnV l a bs w) (hs : w.heap.size ≤ w'.heap.size) (hb : ∀ b, b ∈ bs → b < w.heap.size → w'.heap[b]? = w.heap[b]?) : OwnV l a bs w' := by
  rcases h with h | ⟨R, rfl, rfl, hr⟩
  · exact .inl h
  · exact .inr ⟨R, rfl, rfl, hr.kept hs (hb R (by simp) hr.1)⟩
theorem OwnV.below {l : List Value} {a : Option Addr} {bs : List Nat} {w w' : World} (h : OwnV l a bs w) (hb : Below w.heap.size w w') : OwnV l a bs w' := h.frame hb.size fun b _ hl => hb.block b hl
theorem OwnV.only {S : List Nat} {l : List Value} {a : Option Addr} {bs : List Nat} {w w' : World} (h : OwnV l a bs w) (ho : Only S w w') (hd : ∀ b, b ∈ bs → b ∉ S) : OwnV l a bs w' := h.frame ho.size fun b hb hl => ho.block b hl (hd b hb)
theorem OwnV.lt {l : List Value} {a : Option Addr} {bs : List Nat} {w : World} (h : OwnV l a bs w) : ∀ b, b ∈ bs → b < w.heap.size := by
  rcases h with ⟨_, rfl⟩ | ⟨R, rfl, rfl, hr⟩
  · simp
  · intro b hb; simp at hb; subst hb; exact hr.1
theorem OwnV.rowIn {l : List Value} {a : Option Addr} {bs : List Nat} {w : World} (h : OwnV l a bs w) {p : Nat → Prop} (hp : ∀ b, b ∈ bs → p b) : RowIn p w a l := by
  rcases h with ⟨rfl, _⟩ | ⟨R, rfl, rfl, hr⟩
  · exact .inl rfl
  · exact hr.rowIn (Nat.le_refl _) (fun i v hv => by simp [List.getD_eq_getElem?_getD, hv]) (hp R (by simp))
theorem OwnV.any {l : List Value} {a : Option Addr} {bs : List Nat} {w : World} (h : OwnV l a bs w) : RowIn Any w a l := h.rowIn fun _ _ => trivial

/-- a slice of values of one's own, in blocks from B on -/
def NewV (B : Nat) (l : List Value) (v : Value) (w' : World) : Prop := ∃ a c bs, v = .slice a l.length c ∧ l.length ≤ c ∧ c ≤ maxLen ∧ OwnV l a bs w' ∧ ∀ b, b ∈ bs → B ≤ b
theorem NewV.nil (B : Nat) (a : Option Addr) (c : Nat) (hc : c ≤ maxLen) (w : World) : NewV B [] (.slice a 0 c) w := ⟨a, c, [], rfl, Nat.zero_le _, hc, .inl ⟨rfl, rfl⟩, by simp⟩

/-- what mark writes into a row of n -/
def markV (M : Int → Value) (n : Nat) (k : Int) : List Value := (List.range n).map fun (i : Nat) => M (k + (i : Int))
theorem markV_len (M : Int → Value) (n : Nat) (k : Int) : (markV M n k).length = n := by simp [markV]
theorem markV_at (M : Int → Value) {n i : Nat} (k : Int) (h : i < n) : (markV M n k)[i]? = some (M (k + i)) := by simp [markV, h]
def mkB (k : Int) : Value := .bool (k % 3 == 0)
def mkI (k : Int) : Value := .int .i64 k

end Go.Proofs.Ytfemikebklmlpaa
