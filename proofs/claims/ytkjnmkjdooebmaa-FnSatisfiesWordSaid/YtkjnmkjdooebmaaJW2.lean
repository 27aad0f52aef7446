/- Joined texts (Cells, RowsMade, OwnPlain, CellsOwn, ConcatI, CloneI, IntsA, PairA, WordPlain, NextI): contracts and plain laws. Conditions: those of each theorem. -/
import Derived.Test.YtkjnmkjdooebmaaJW0
import Derived.Test.YtkjnmkjdooebmaaRows
import Derived.Test.YtkjnmkjdooebmaaJW1
import Derived.ProofKit
import Derived.ChangeOld
import Derived.Lib.SmallJoins
import Derived.WalkSpells
import Derived.WalkLawsBesides
import Derived.Lib.SliceRun
import Derived.Maps.AppendAt
set_option linter.unusedVariables false
set_option linter.unusedSimpArgs false
namespace Go.Proofs.Ytkjnmkjdooebmaa
open Go.RowKit

/-- values that lie one behind the other from an address on, in blocks that p allows -/
def RowIn (p : Nat → Prop) (w : World) (a : Option Addr) (l : List Value) : Prop :=
  l = [] ∨ ∃ b o, a = some ⟨b, o, none⟩ ∧ p b ∧ b < w.heap.size ∧ ∀ i v, l[i]? = some v → w.cell? ⟨b, o + i, none⟩ = some v
theorem RowIn.frame {p q : Nat → Prop} {w w' : World} {a : Option Addr} {l : List Value} (h : RowIn p w a l) (hs : w.heap.size ≤ w'.heap.size) (hp : ∀ b, p b → b < w.heap.size → q b ∧ w'.heap[b]? = w.heap[b]?) : RowIn q w' a l := by
  rcases h with h | ⟨b, o, h1, h2, h3, h4⟩
  · exact .inl h
  · obtain ⟨hq, he⟩ := hp b h2 h3
    exact .inr ⟨b, o, h1, hq, by omega, fun i v hv => by rw [World.cell?_of_block (w := w) (a := ⟨b, o + i, none⟩) he]; exact h4 i v hv⟩
theorem RowIn.below {p : Nat → Prop} {w w' : World} {a : Option Addr} {l : List Value} (h : RowIn p w a l) (hb : Below w.heap.size w w') : RowIn p w' a l :=
  h.frame hb.size fun b hp hl => ⟨hp, hb.block b hl⟩
theorem RowIn.any {p : Nat → Prop} {w : World} {a : Option Addr} {l : List Value} (h : RowIn p w a l) : RowIn Any w a l := h.frame (Nat.le_refl _) fun _ _ _ => ⟨trivial, rfl⟩
theorem RowIn.old {w : World} {a : Option Addr} {l : List Value} (h : RowIn Any w a l) : RowIn (· < w.heap.size) w a l := h.frame (Nat.le_refl _) fun _ _ hl => ⟨hl, rfl⟩
theorem RowIn.mono {p q : Nat → Prop} {w : World} {a : Option Addr} {l : List Value} (h : RowIn p w a l) (hp : ∀ b, p b → q b) : RowIn q w a l := h.frame (Nat.le_refl _) fun b hb _ => ⟨hp b hb, rfl⟩
/-- the k-th -/
theorem RowIn.at {p : Nat → Prop} {w wr : World} {a : Option Addr} {l : List Value} {k : Nat} {v : Value} (h : RowIn p w a l) (hb : Below w.heap.size w wr) (hk : l[k]? = some v) : ∃ b o, a = some ⟨b, o, none⟩ ∧ b < wr.heap.size ∧ p b ∧ wr.cell? ⟨b, o + k, none⟩ = some v := by
  rcases h with rfl | ⟨b, o, h1, h2, h3, h4⟩
  · simp at hk
  · exact ⟨b, o, h1, by have := hb.size; omega, h2, by rw [hb.cell (p := ⟨b, o + k, none⟩) h3]; exact h4 k v hk⟩
/-- a row of one's own -/
theorem Row.rowIn {w : World} {R n : Nat} {f : Nat → Value} {l : List Value} (h : Row w R n f) (hl : l.length ≤ n) (hf : ∀ i v, l[i]? = some v → f i = v) {p : Nat → Prop} (hp : p R) : RowIn p w (some ⟨R, 0, none⟩) l :=
  .inr ⟨R, 0, rfl, hp, h.1, fun i v hv => by
    have hi : i < l.length := (List.getElem?_eq_some_iff.1 hv).1
    rw [Nat.zero_add, h.2.1 i (by omega), hf i v hv]⟩

/-- numbers in a slice -/
def IntsIn (p : Nat → Prop) (w : World) (a : Option Addr) (l : List Int) : Prop := RowIn p w a (l.map (Value.int .i64)) ∧ ∀ n, n ∈ l → i64 n
theorem IntsIn.below {p : Nat → Prop} {w w' : World} {a : Option Addr} {l : List Int} (h : IntsIn p w a l) (hb : Below w.heap.size w w') : IntsIn p w' a l := ⟨h.1.below hb, h.2⟩
/-- truth values in a slice -/
def BoolsIn (p : Nat → Prop) (w : World) (a : Option Addr) (l : List Bool) : Prop := RowIn p w a (l.map Value.bool)
theorem BoolsIn.below {p : Nat → Prop} {w w' : World} {a : Option Addr} {l : List Bool} (h : BoolsIn p w a l) (hb : Below w.heap.size w w') : BoolsIn p w' a l := RowIn.below h hb
theorem ints_at {p : Nat → Prop} {w wr : World} {a : Option Addr} {l : List Int} {k : Nat} (h : IntsIn p w a l) (hb : Below w.heap.size w wr) (hk : k < l.length) :
    ∃ b o, a = some ⟨b, o, none⟩ ∧ b < wr.heap.size ∧ p b ∧ wr.cell? ⟨b, o + k, none⟩ = some (.int .i64 l[k]) ∧ i64 l[k] := by
  obtain ⟨b, o, h1, h2, h3, h4⟩ := h.1.at (k := k) (v := .int .i64 l[k]) hb (by rw [List.getElem?_map, List.getElem?_eq_getElem hk]; rfl)
  exact ⟨b, o, h1, h2, h3, h4, h.2 _ (List.getElem_mem hk)⟩
theorem bools_at {p : Nat → Prop} {w wr : World} {a : Option Addr} {l : List Bool} {k : Nat} (h : BoolsIn p w a l) (hb : Below w.heap.size w wr) (hk : k < l.length) :
    ∃ b o, a = some ⟨b, o, none⟩ ∧ b < wr.heap.size ∧ p b ∧ wr.cell? ⟨b, o + k, none⟩ = some (.bool l[k]) :=
  RowIn.at h (k := k) (v := .bool l[k]) hb (by rw [List.getElem?_map, List.getElem?_eq_getElem hk]; rfl)

section
variable {H : Type} {enc : TypeId × Value → H} {P : Program} {w : World} {base : Nat} {spare : Nat → Bool} {held : Bool}
theorem cells_one {a : Addr} {cs : List Value} (h : w.cells? base a 1 = some cs) : ∃ c0, cs = [c0] ∧ w.cell? (a.add 0) = some c0 := by
  obtain ⟨_, hl, hc⟩ := World.cells?_some h
  match cs, hl with
  | [c0], _ => exact ⟨c0, rfl, by simpa using hc 0 (by omega)⟩
theorem rowIn_build {a : Addr} : ∀ {len : Nat}, (∃ l : List Value, l.length = len ∧ ∀ i v, l[i]? = some v → w.cell? (a.add i) = some v) → ∃ l : List Value, l.length = len ∧ (∀ i v, l[i]? = some v → w.cell? (a.add i) = some v) ∧ RowIn Any w (some a) l := by
  rintro len ⟨l, h1, h2⟩
  refine ⟨l, h1, h2, ?_⟩
  cases l with
  | nil => exact .inl rfl
  | cons v l =>
    obtain ⟨b, o, s⟩ := a
    have e0 := h2 0 v rfl
    have hs : s = none := by simpa [Addr.add] using World.cell?_spot e0
    subst hs
    have ea : ∀ i, Addr.add ⟨b, o, none⟩ i = ⟨b, o + i, none⟩ := fun i => by unfold Addr.add; split <;> simp_all
    refine .inr ⟨b, o, rfl, trivial, blt (by rw [ea] at e0; exact e0), fun i u hu => ?_⟩
    have := h2 i u hu
    rwa [ea] at this
theorem elems_read {S I : TypeId} {X : Type} {V : X → Value} {ok : X → Prop} (hS : P.underlying S = some (.slice I)) (cI : P.cellsOf I = 1)
    (hel : ∀ (m : Nat) (c : Value) (x : DataW H × List MemPlace), DataW.trod enc P w base spare held m I [c] = some x → ∃ n, c = V n ∧ ok n)
    {fuel : Nat} {a : Option Addr} {len cap : Nat} {x : DataW H × List MemPlace} (h : DataW.trod enc P w base spare held fuel S [.slice a len cap] = some x) :
    ∃ l : List X, l.length = len ∧ len ≤ cap ∧ cap ≤ maxLen ∧ RowIn Any w a (l.map V) ∧ ∀ n, n ∈ l → ok n := by
  rcases DataW.trod_slice hS h with ⟨hc, _⟩ | ⟨a', len', cap', elems, rest, m, hm, hc, _, _, hlc, hcm, hel', hcell, _⟩
  · simp at hc
    obtain ⟨rfl, rfl, rfl⟩ := hc
    exact ⟨[], rfl, Nat.le_refl _, Nat.zero_le _, .inl rfl, by simp⟩
  · simp at hc
    obtain ⟨rfl, rfl, rfl⟩ := hc
    have key : ∀ i, i < len → ∃ n : X, w.cell? (a'.add i) = some (V n) ∧ ok n := fun i hi => by
      have hh := hcell i hi
      rw [cI, List.getElem?_eq_getElem (by omega)] at hh
      obtain ⟨cs', h3, h4⟩ := Option.bind_eq_some_iff.1 hh
      obtain ⟨c0, rfl, q0⟩ := cells_one h3
      obtain ⟨n, rfl, wn⟩ := hel m _ _ h4
      exact ⟨n, by simpa [Addr.add] using q0, wn⟩
    have build : ∀ k, k ≤ len → ∃ l : List X, l.length = k ∧ (∀ i n, l[i]? = some n → w.cell? (a'.add i) = some (V n) ∧ ok n) := by
      intro k
      induction k with
      | zero => intro _; exact ⟨[], rfl, by simp⟩
      | succ k ih =>
        intro hk
        obtain ⟨l, h1, h2⟩ := ih (by omega)
        obtain ⟨n, h3, h4⟩ := key k (by omega)
        refine ⟨l ++ [n], by simp [h1], fun i m hm => ?_⟩
        by_cases hi : i < l.length
        · rw [List.getElem?_append_left hi] at hm; exact h2 i m hm
        · rw [List.getElem?_append_right (by omega)] at hm
          have hi2 : i = k := by
            have := (List.getElem?_eq_some_iff.1 hm).1
            simp at this; omega
          subst hi2
          simp [h1] at hm
          subst hm
          exact ⟨h3, h4⟩
    obtain ⟨l, h1, h2⟩ := build len (Nat.le_refl _)
    obtain ⟨l', h3, h4, h5⟩ := rowIn_build (w := w) (a := a') (len := len) ⟨l.map V, by simpa using h1, fun i v hv => by
      rw [List.getElem?_map] at hv
      cases hn : l[i]? with
      | none => rw [hn] at hv; simp at hv
      | some n => rw [hn] at hv; simp at hv; subst hv; exact (h2 i n hn).1⟩
    refine ⟨l, h1, hlc, hcm, ?_, fun n hn => ?_⟩
    · rcases h5 with h5 | ⟨b, o, h5, h6, h7, h8⟩
      · left; rw [h5] at h3; simp at h3; subst h3; simp at h1; simp [h1]
      · right
        obtain rfl : a' = ⟨b, o, none⟩ := by simpa using h5
        have ea : ∀ i, Addr.add ⟨b, o, none⟩ i = ⟨b, o + i, none⟩ := fun i => by unfold Addr.add; split <;> simp_all
        refine ⟨b, o, rfl, trivial, h7, fun i v hv => ?_⟩
        rw [List.getElem?_map] at hv
        cases hn : l[i]? with
        | none => rw [hn] at hv; simp at hv
        | some n => rw [hn] at hv; simp at hv; subst hv; have := (h2 i n hn).1; rwa [ea] at this
    · obtain ⟨i, hi⟩ := List.getElem?_of_mem hn
      exact (h2 i n hi).2
/-- WHAT READS AS A SLICE OF NUMBERS -/
theorem ints_read {S I : TypeId} (hS : P.underlying S = some (.slice I)) (hI : P.underlying I = some (.int .i64)) (cI : P.cellsOf I = 1)
    {fuel : Nat} {a : Option Addr} {len cap : Nat} {x : DataW H × List MemPlace} (h : DataW.trod enc P w base spare held fuel S [.slice a len cap] = some x) : ∃ l : List Int, l.length = len ∧ len ≤ cap ∧ cap ≤ maxLen ∧ IntsIn Any w a l := by
  obtain ⟨l, h1, h2, h3, h4, h5⟩ := elems_read (V := Value.int .i64) (ok := i64) hS cI (fun m c x hx => by
    obtain ⟨n, hn, _, wn⟩ := DataW.trod_int hI hx
    simp only [List.cons.injEq, and_true] at hn
    refine ⟨n, hn, ?_⟩
    simp [Lit.wf, IntKind.min, IntKind.max, IntKind.signed, IntKind.bits] at wn
    exact wn) h
  exact ⟨l, h1, h2, h3, h4, h5⟩
end

end Go.Proofs.Ytkjnmkjdooebmaa
namespace Go.Proofs.Ytkjnmkjdooebmaa
open Go.RowKit

/-- a row of one's own, of numbers -/
theorem Row.ints {w : World} {R : Nat} {l : List Int} {p : Nat → Prop} (h : Row w R l.length (fun i => .int .i64 (l.getD i 0))) (hl : ∀ n, n ∈ l → i64 n) (hp : p R) : IntsIn p w (some ⟨R, 0, none⟩) l :=
  ⟨h.rowIn (l := l.map (Value.int .i64)) (by simp) (fun i v hv => by
    rw [List.getElem?_map] at hv
    cases hn : l[i]? with
    | none => rw [hn] at hv; simp at hv
    | some n => rw [hn] at hv; simp at hv; subst hv; simp [List.getD_eq_getElem?_getD, hn]) hp, hl⟩
theorem ints_info : (Try.prog.info? 3).map (fun i => (i.zero, i.size, i.bytes)) = some (some (.int .i64 0), 1, 8) := by kernel_rfl
def zerosI (n : Nat) : Array Value := madeCells #[.int .i64 0] n
theorem make_ints (n : Nat) (h : n ≤ 1048576) (w : World) : (Instr.makeSlice 23 (.int .i64 (n : Int)) (.int .i64 (n : Int))).run Try.prog w =
    .ok (.slice (some ⟨w.heap.size, 0, none⟩) n n) (w.alloc (.cells (zerosI n) 3)) := by
  obtain ⟨i, hi, hz, h1, h2⟩ := info_parts ints_info
  have := run_make (P := Try.prog) w 23 3 i _ Try.underlying23 hi hz .i64 .i64 n n (by omega) (by omega) (by rw [h2]; omega) (by omega)
  rw [this, h1]
  simp [zerosI, Value.cells]
theorem row_new {w : World} {cs : Array Value} {n : Nat} (hcs : cs.size = n) (e : TypeId) : Row (w.alloc (.cells cs e)) w.heap.size n (fun i => cs.getD i undef) :=
  ⟨by simp, fun i hi => by rw [World.cell?_alloc_new]; simp [Array.getD, hcs, hi], fun i => by simp⟩

theorem bools_info : (Try.prog.info? 4).map (fun i => (i.zero, i.size, i.bytes)) = some (some (.bool false), 1, 1) := by kernel_rfl
def zerosB (n : Nat) : Array Value := madeCells #[.bool false] n
theorem make_bools (n : Nat) (h : n ≤ 1048576) (w : World) : (Instr.makeSlice 49 (.int .i64 (n : Int)) (.int .i64 (n : Int))).run Try.prog w =
    .ok (.slice (some ⟨w.heap.size, 0, none⟩) n n) (w.alloc (.cells (zerosB n) 4)) := by
  obtain ⟨i, hi, hz, h1, h2⟩ := info_parts bools_info
  have := run_make (P := Try.prog) w 49 4 i _ Try.underlying49 hi hz .i64 .i64 n n (by omega) (by omega) (by rw [h2]; omega) (by omega)
  rw [this, h1]
  simp [zerosB, Value.cells]

end Go.Proofs.Ytkjnmkjdooebmaa
namespace Go.Proofs.Ytkjnmkjdooebmaa
open Go.RowKit

/-- all blocks but those of a list are kept -/
structure Only (S : List Nat) (w w' : World) : Prop where
  os : w'.os = w.os
  tape : w'.tape = w.tape
  output : w'.output = w.output
  size : w.heap.size ≤ w'.heap.size
  block : ∀ b, b < w.heap.size → b ∉ S → w'.heap[b]? = w.heap[b]?
theorem Only.refl (S : List Nat) (w : World) : Only S w w := ⟨rfl, rfl, rfl, Nat.le_refl _, fun _ _ _ => rfl⟩
theorem Only.trans {S : List Nat} {a b c : World} (h : Only S a b) (k : Only S b c) : Only S a c :=
  ⟨k.os.trans h.os, k.tape.trans h.tape, k.output.trans h.output, Nat.le_trans h.size k.size, fun i hi hd => (k.block i (Nat.lt_of_lt_of_le hi h.size) hd).trans (h.block i hi hd)⟩
theorem Only.mono {S S' : List Nat} {w w' : World} (h : Only S w w') (hs : ∀ b, b ∈ S → b ∈ S') : Only S' w w' := ⟨h.os, h.tape, h.output, h.size, fun b hb hn => h.block b hb (fun e => hn (hs b e))⟩
theorem Only.below {S : List Nat} {w w' : World} (h : Below w.heap.size w w') : Only S w w' := ⟨h.os, h.tape, h.output, h.size, fun b hb _ => h.block b hb⟩
theorem Only.set {S : List Nat} {w w' : World} (h : Only S w w') {a : Addr} (ha : a.block ∈ S) (v : Value) : Only S w (w'.setCell a v) :=
  ⟨h.os, h.tape, h.output, by simpa using h.size, fun b hb hn => by rw [Below.heap_setCell _ _ _ _ (show b ≠ a.block from fun e => hn (by rw [e]; exact ha))]; exact h.block b hb hn⟩
/-- the blocks are new since an older world -/
theorem Only.new {S : List Nat} {w W W' : World} (h : Only S W W') (hb : Below w.heap.size w W) (hs : ∀ b, b ∈ S → w.heap.size ≤ b) : Below w.heap.size w W' :=
  hb.trans ⟨h.os, h.tape, h.output, h.size, fun k hk => h.block k (Nat.lt_of_lt_of_le hk hb.size) (fun e => by have := hs k e; omega)⟩
theorem TrOwn_only {S : List Nat} {w w' : World} (h : Only S w w') {t : Tr} {x : Value} {bs : List Nat} (hx : TrOwn w t x bs) (hd : ∀ b, b ∈ bs → b ∉ S) : TrOwn w' t x bs :=
  (TrOwn_frame h.size).1 t x bs hx fun b hb => h.block b (TrOwn_lt.1 t x bs hx b hb) (hd b hb)

/-- a row of nodes, each in blocks of its own -/
def RowOf (w : World) (l : List Tr) (a : Option Addr) (bs : List Nat) : Prop :=
  (l = [] ∧ bs = []) ∨ ∃ R f r, a = some ⟨R, 0, none⟩ ∧ bs = R :: r ∧ R ∉ r ∧ Row w R (l.length * 3) f ∧ TrsOwn w f l 0 r

theorem TrOwn_row {w : World} {k v : Int} {kids : List Tr} {x : Value} {bs : List Nat} (h : TrOwn w (.mk k v kids) x bs) :
    ∃ a c, x = .agg #[.int .i64 k, .int .i64 v, .slice a kids.length c] ∧ i64 k ∧ i64 v ∧ kids.length ≤ c ∧ c ≤ maxLen ∧ RowOf w kids a bs := (TrOwn_mk ..).1 h
theorem row_TrOwn {w : World} {k v : Int} {kids : List Tr} {a : Option Addr} {c : Nat} {bs : List Nat} (h1 : i64 k) (h2 : i64 v) (h3 : kids.length ≤ c) (h4 : c ≤ maxLen) (h : RowOf w kids a bs) :
    TrOwn w (.mk k v kids) (.agg #[.int .i64 k, .int .i64 v, .slice a kids.length c]) bs := (TrOwn_mk ..).2 ⟨a, c, rfl, h1, h2, h3, h4, h⟩

/-- A NODE OF A ROW, AND WHAT MAY STAND IN ITS PLACE -/
theorem TrsOwn_replace {w : World} {f : Nat → Value} {t : Tr} : ∀ (l1 : List Tr) (l2 : List Tr) (o : Nat) (bs : List Nat), TrsOwn w f (l1 ++ t :: l2) o bs →
    ∃ r, (∀ b, b ∈ r → b ∈ bs) ∧ TrOwn w t (.agg #[f (o + l1.length * 3), f (o + l1.length * 3 + 1), f (o + l1.length * 3 + 2)]) r ∧
      ∀ (w' : World) (f' : Nat → Value) (t' : Tr), w.heap.size ≤ w'.heap.size → (∀ b, b ∈ bs → b ∉ r → w'.heap[b]? = w.heap[b]?) → (∀ i, i < o + l1.length * 3 ∨ o + l1.length * 3 + 3 ≤ i → f' i = f i) →
        TrOwn w' t' (.agg #[f' (o + l1.length * 3), f' (o + l1.length * 3 + 1), f' (o + l1.length * 3 + 2)]) r → TrsOwn w' f' (l1 ++ t' :: l2) o bs := by
  intro l1
  induction l1 with
  | nil =>
    intro l2 o bs h
    rw [List.nil_append, TrsOwn_cons] at h
    obtain ⟨r1, r2, rfl, hd, h1, h2⟩ := h
    refine ⟨r1, fun b hb => by simp [hb], by simpa using h1, fun w' f' t' hs hk hf ht => ?_⟩
    rw [List.nil_append, TrsOwn_cons]
    refine ⟨r1, r2, rfl, hd, by simpa using ht, ?_⟩
    refine (TrOwn_frame hs).2 _ _ _ _ (TrsOwn_congr h2 fun i hi _ => ?_) fun b hb => hk b (by simp [hb]) (fun e => hd b e hb)
    exact (hf i (.inr (by simpa using hi))).symm
  | cons u us ih =>
    intro l2 o bs h
    rw [List.cons_append, TrsOwn_cons] at h
    obtain ⟨r1, r2, rfl, hd, h1, h2⟩ := h
    obtain ⟨r, hr, hT, hrep⟩ := ih l2 (o + 3) r2 h2
    have e : o + 3 + us.length * 3 = o + (u :: us).length * 3 := by simp; omega
    rw [e] at hT hrep
    refine ⟨r, fun b hb => by simp [hr b hb], hT, fun w' f' t' hs hk hf ht => ?_⟩
    rw [List.cons_append, TrsOwn_cons]
    refine ⟨r1, r2, rfl, hd, ?_, hrep w' f' t' hs (fun b hb hn => hk b (by simp [hb]) hn) (fun i hi => hf i (by omega)) ht⟩
    have hl : ∀ i, i < 3 → f' (o + i) = f (o + i) := fun i hi => hf _ (.inl (by simp; omega))
    have h0 := hl 0 (by omega)
    rw [Nat.add_zero] at h0
    rw [h0, hl 1 (by omega), hl 2 (by omega)]
    exact (TrOwn_frame hs).1 _ _ _ h1 fun b hb => hk b (by simp [hb]) (fun e => hd b hb (hr b e))

mutual
/-- the nodes below, numbered from k on -/
def markT : Tr → Int → Tr | .mk a b kids, k => .mk a b (markL kids k)
def markL : List Tr → Int → List Tr
  | [], _ => []
  | t :: ts, k => markN t k :: markL ts (k + 2 * nodes t)
/-- a node and those below -/
def markN : Tr → Int → Tr | .mk _ _ kids, k => .mk k (k + 1) (markL kids (k + 2))
end
theorem markL_len : ∀ (l : List Tr) (k : Int), (markL l k).length = l.length
  | [], _ => by simp [markL]
  | t :: ts, k => by simp [markL, markL_len ts]

end Go.Proofs.Ytkjnmkjdooebmaa
namespace Go.Proofs.Ytkjnmkjdooebmaa
open Go.RowKit

/-- a row of values in a block of its own -/
def OwnV (l : List Value) (a : Option Addr) (bs : List Nat) (w : World) : Prop := (l = [] ∧ bs = []) ∨ ∃ R, a = some ⟨R, 0, none⟩ ∧ bs = [R] ∧ Row w R l.length (fun i => l.getD i undef)
theorem OwnV.frame {l : List Value} {a : Option Addr} {bs : List Nat} {w w' : World} (h : OwnV l a bs w) (hs : w.heap.size ≤ w'.heap.size) (hb : ∀ b, b ∈ bs → b < w.heap.size → w'.heap[b]? = w.heap[b]?) : OwnV l a bs w' := by
  rcases h with h | ⟨R, rfl, rfl, hr⟩
  · exact .inl h
  · exact .inr ⟨R, rfl, rfl, hr.kept hs (hb R (by simp) hr.1)⟩
theorem OwnV.below {l : List Value} {a : Option Addr} {bs : List Nat} {w w' : World} (h : OwnV l a bs w) (hb : Below w.heap.size w w') : OwnV l a bs w' := h.frame hb.size fun b _ hl => hb.block b hl
theorem OwnV.only {S : List Nat} {l : List Value} {a : Option Addr} {bs : List Nat} {w w' : World} (h : OwnV l a bs w) (ho : Only S w w') (hd : ∀ b, b ∈ bs → b ∉ S) : OwnV l a bs w' := h.frame ho.size fun b hb hl => ho.block b hl (hd b hb)
theorem OwnV.lt {l : List Value} {a : Option Addr} {bs : List Nat} {w : World} (h : OwnV l a bs w) : ∀ b, b ∈ bs → b < w.heap.size := by
  rcases h with ⟨_, rfl⟩ | ⟨R, rfl, rfl, hr⟩
  · simp
  · intro b hb; simp at hb; subst hb; exact hr.1
theorem OwnV.rowIn {l : List Value} {a : Option Addr} {bs : List Nat} {w : World} (h : OwnV l a bs w) {p : Nat → Prop} (hp : ∀ b, b ∈ bs → p b) : RowIn p w a l := by
  rcases h with ⟨rfl, _⟩ | ⟨R, rfl, rfl, hr⟩
  · exact .inl rfl
  · exact hr.rowIn (Nat.le_refl _) (fun i v hv => by simp [List.getD_eq_getElem?_getD, hv]) (hp R (by simp))
theorem OwnV.any {l : List Value} {a : Option Addr} {bs : List Nat} {w : World} (h : OwnV l a bs w) : RowIn Any w a l := h.rowIn fun _ _ => trivial

/-- a slice of values of one's own, in blocks from B on -/
def NewV (B : Nat) (l : List Value) (v : Value) (w' : World) : Prop := ∃ a c bs, v = .slice a l.length c ∧ l.length ≤ c ∧ c ≤ maxLen ∧ OwnV l a bs w' ∧ ∀ b, b ∈ bs → B ≤ b
theorem NewV.nil (B : Nat) (a : Option Addr) (c : Nat) (hc : c ≤ maxLen) (w : World) : NewV B [] (.slice a 0 c) w := ⟨a, c, [], rfl, Nat.zero_le _, hc, .inl ⟨rfl, rfl⟩, by simp⟩

/-- what mark writes into a row of n -/
def markV (M : Int → Value) (n : Nat) (k : Int) : List Value := (List.range n).map fun (i : Nat) => M (k + (i : Int))
theorem markV_len (M : Int → Value) (n : Nat) (k : Int) : (markV M n k).length = n := by simp [markV]
theorem markV_at (M : Int → Value) {n i : Nat} (k : Int) (h : i < n) : (markV M n k)[i]? = some (M (k + i)) := by simp [markV, h]
def mkB (k : Int) : Value := .bool (k % 3 == 0)
def mkI (k : Int) : Value := .int .i64 k

end Go.Proofs.Ytkjnmkjdooebmaa
namespace Go.Proofs.Ytkjnmkjdooebmaa
open Go.RowKit

/-- a row of numbers of one's own that may grow -/
def OwnI (B : Nat) (v : Value) (l : List Int) (w : World) : Prop := w.ownsRow B 3 1 v l.length (l.map (Value.int .i64))
/-- append to nil of n zeros, at the operation -/
theorem wp_app_make {ops : Array Oper} {rest : List Oper} {o : Oper} {a : Act} {Q : Exit → Act → World → Prop} {w : World} (hgd : o.guard = none) (s x : Operand)
    (ho : o.op = .call { callee := .builtin .append, args := #[s, x], argTypes := #[23, 3] }) (n : Nat) (hs : a.eval s = .slice none 0 0) (hx : a.eval x = .int .i64 n) (h0 : 0 < n) (hn : n ≤ 1000000)
    (h : ∀ c Z, n ≤ c → c ≤ maxLen → Array.size Z = c → wpList Try.prog ops Q rest (a.put o.dst (.slice (some ⟨w.heap.size, 0, none⟩) n c)) (w.drew.alloc (.cells Z 3))) : wpList Try.prog ops Q (o :: rest) a w := by
  obtain ⟨i, hi, hz, hz1, hz2⟩ := info_parts ints_info
  have e : (Builtin.append_ #[23, 3] o.type #[.slice none 0 0, .int .i64 n]).run Try.prog w =
      .ok (.slice (some ⟨w.heap.size, 0, none⟩) n (grownCap w n 0 3)) (w.drew.alloc (.cells (Builtin.zeroCells (Value.int .i64 0).cells n ++ Builtin.zeroCells (Value.int .i64 0).cells (grownCap w n 0 3 - n)) 3)) := by
    have k1 : n ≠ 0 := by omega
    have k2 : IntKind.i64.wrap (n : Int) = n := IntWalk.i64_in _ (by omega)
    have k3 : ¬ (9223372036854775807 < (n : Int)) := by omega
    have k4 : ¬ (281474976710656 < Builtin.nextslicecap n 0 * 8) := by rw [nextslicecap_zero h0]; omega
    have k5 : ¬ (281474976710656 < (n : Int) * 8) := by omega
    have k6 : ¬ ((n : Int) < 0) := by omega
    simp [Builtin.append_, run_underlying Try.underlying23, run_underlying Try.underlying3, sizeOf, typeInfo, zeroValue, hi, hz, hz1, hz2, asInt, asIntOf, k1, k2, k3, k4, k5, k6, Question.forced, run_firstCells_none, newRow, grownCap]
  refine wpList_plain hgd fun K hK => ?_
  unfold Oper.wp execOp
  simp only [ho, resolve, invoke, builtin, Sem.run_bind, Sem.run_pure, Result.andThen_ok, List.map_toArray, List.map_cons, List.map_nil, hs, hx, e]
  exact hK _ _ (h _ _ (grownCap_ge w _ 0 _) (grownCap_le_maxLen w _ 0 _ (by unfold maxLen; omega)) (by have := grownCap_ge w n 0 3; simp [size_zeroCells, Value.cells]; omega))
def GrowPost (w : World) (e : Ending) (w' : World) : Prop := ∃ v, e = .returned v ∧ OwnI w.heap.size v [] w' ∧ Below w.heap.size w w'

set_option maxHeartbeats 2000000 in
theorem grow_any (n : Nat) (w : World) (hn : n ≤ 1000000) : Calls Try.prog 54 #[.slice none 0 0, .int .i64 n] w (GrowPost w) := by
  have h1 : ¬ ((n : Int) < 0) := by omega
  by_cases h0 : n = 0
  · subst h0
    go_enter Try.func54, Try.ntmps54
    go_wp2_with fail
    go_ret
    exact ⟨_, rfl, World.ownsRow_nil .., Below.refl _ _⟩
  · have f1 : (n : Int) > 0 := by omega
    have f2 : IntKind.i64.wrap (n : Int) = n := IntWalk.i64_in _ (by omega)
    go_enter Try.func54, Try.ntmps54
    go_wp2_with (at_builtin; refine wp_app_make rfl _ _ rfl n rfl rfl (by omega) hn ?_; intro c Z hc1 hc2 hZ)
    go_ret
    exact ⟨_, rfl, ⟨by simp, .inr ⟨w.heap.size, c, Z, rfl, Nat.le_refl _, heap_alloc_new w _, Nat.zero_le _, hc2, by omega, by simp⟩⟩, (by repeat (first | exact Below.refl _ _ | assumption | refine below_a ?_ _ | refine below_o ?_ _ | refine below_d ?_ | refine below_n ?_ _ | refine below_s ?_ (by first | (simp; done) | (simp; omega) | omega) _))⟩

/-- append of a nil slice, at the operation -/
theorem wp_app_nil {ops : Array Oper} {rest : List Oper} {o : Oper} {a : Act} {Q : Exit → Act → World → Prop} {w : World} (hgd : o.guard = none) (s x : Operand)
    (ho : o.op = .call { callee := .builtin .append, args := #[s, x], argTypes := #[23, 23] }) (b : Option Addr) (n c : Nat) (hs : a.eval s = .slice b n c) (hx : a.eval x = .slice none 0 0) (hc : n ≤ c)
    (h : wpList Try.prog ops Q rest (a.put o.dst (.slice b n c)) w) : wpList Try.prog ops Q (o :: rest) a w := by
  obtain ⟨i, hi, hz, hz1, hz2⟩ := info_parts ints_info
  have e : (Builtin.append_ #[23, 23] o.type #[.slice b n c, .slice none 0 0]).run Try.prog w = .ok (.slice b n c) w := by
    cases b with
    | none => simp [Builtin.append_, run_underlying Try.underlying23, sizeOf, typeInfo, hi, hc, Builtin.lenOf, run_firstCells_none]
    | some ad => simp [Builtin.append_, run_underlying Try.underlying23, sizeOf, typeInfo, hi, hc, Builtin.lenOf, run_firstCells_none, storeCells]
  refine wpList_plain hgd fun K hK => ?_
  unfold Oper.wp execOp
  simp only [ho, resolve, invoke, builtin, Sem.run_bind, Sem.run_pure, Result.andThen_ok, List.map_toArray, List.map_cons, List.map_nil, hs, hx, e]
  exact hK _ _ h
/-- append of numbers to a row of one's own, at the operation -/
theorem wp_app_own {ops : Array Oper} {rest : List Oper} {o : Oper} {a : Act} {Q : Exit → Act → World → Prop} {w : World} (hgd : o.guard = none) (s x : Operand)
    (ho : o.op = .call { callee := .builtin .append, args := #[s, x], argTypes := #[23, 23] }) (B : Nat) (v : Value) (acc l : List Int) (ad : Option Addr) (c : Nat) (hs : a.eval s = v) (hx : a.eval x = .slice ad l.length c) (hn : ad = none → c = 0)
    (hv : OwnI B v acc w) (hB : B ≤ w.heap.size) (hl : IntsIn Any w ad l) (h1 : acc.length ≤ 1000000) (h2 : l.length ≤ 1000000)
    (h : ∀ v' w', OwnI B v' (acc ++ l) w' → w.grownBy w' v.ownBlock → wpList Try.prog ops Q rest (a.put o.dst v') w') :
    wpList Try.prog ops Q (o :: rest) a w := by
  cases ad with
  | none =>
    obtain rfl : c = 0 := hn rfl
    have hl0 : l = [] := by
      rcases hl.1 with h0 | ⟨b, o', h0, _⟩
      · simpa using h0
      · cases h0
    subst hl0
    have hsh : ∃ b n c, v = .slice b n c ∧ n ≤ c := by
      rcases hv.2 with ⟨rfl, _⟩ | ⟨g, cap, cur, rfl, _, _, hc, _⟩
      · exact ⟨_, _, _, rfl, Nat.le_refl _⟩
      · exact ⟨_, _, _, rfl, hc⟩
    obtain ⟨b, n, c, rfl, hc⟩ := hsh
    exact wp_app_nil hgd s x ho b n c hs hx hc (h _ _ (by simpa using hv) (World.grownBy.refl _ _))
  | some ad =>
    obtain ⟨ri, hi, hz, hs1, hs2⟩ := info_parts ints_info
    refine wpList_append_own_at _ hgd s x 23 ho B 3 ri (.int .i64 0) 1 8 Try.underlying23 hi hz hs1 hs2 rfl (by omega) v acc.length _ hs hv ad l.length c (l.map (Value.int .i64)) hx (by simp) (fun j u hj => ?_) (fun u hu => ?_) (by simp only [maxLen]; omega) (by omega) hB ?_
    · rcases hl.1 with h0 | ⟨b, o', h1, h2, h3, h4⟩
      · rw [h0] at hj; simp at hj
      · obtain rfl : ad = ⟨b, o', none⟩ := by simpa using h1
        have := h4 j u hj
        have e : Addr.add ⟨b, o', none⟩ j = ⟨b, o' + j, none⟩ := by unfold Addr.add; split <;> simp_all
        rw [e]
        exact this
    · simp at hu
      obtain ⟨n, _, rfl⟩ := hu
      rfl
    · intro v2 w3 hown hgrow _ _
      exact h v2 w3 (by unfold OwnI; rw [List.length_append, List.map_append]; exact hown) hgrow

theorem below_grown {w wr w' : World} {v : Value} {l : List Int} (hb : Below w.heap.size w wr) (hv : OwnI w.heap.size v l wr) (hg : wr.grownBy w' v.ownBlock) : Below w.heap.size w w' :=
  ⟨hg.os.trans hb.os, hg.tape.trans hb.tape, hg.output.trans hb.output, Nat.le_trans hb.size hg.size, fun k hk => by
    rw [hg.block k (Nat.lt_of_lt_of_le hk hb.size) (fun e => by have := (hv.lt k e.symm).1; omega), hb.block k hk]⟩
/-- two rows in a row of slices -/
def Two2 (w : World) (q : Nat) (a b : Option Addr) (l m : List Int) (c d : Nat) : Prop := q < w.heap.size ∧ w.cell? ⟨q, 0, none⟩ = some (.slice a l.length c) ∧ w.cell? ⟨q, 1, none⟩ = some (.slice b m.length d)
def ConPost (l : List Int) (w : World) (e : Ending) (w' : World) : Prop := ∃ v, e = .returned v ∧ OwnI w.heap.size v l w' ∧ Below w.heap.size w w'
def accL (l m : List Int) (j : Nat) : List Int := if j = 0 then [] else if j = 1 then l else l ++ m

set_option maxRecDepth 100000 in
set_option maxHeartbeats 2000000 in
theorem concat_any (w : World) (q : Nat) (a b : Option Addr) (l m : List Int) (c d : Nat) (ht : Two2 w q a b l m c d) (hl : IntsIn Any w a l) (hm : IntsIn Any w b m) (hna : a = none → c = 0) (hnb : b = none → d = 0) (h1 : l.length ≤ 1000) (h2 : m.length ≤ 1000) :
    Calls Try.prog 34 #[.slice (some ⟨q, 0, none⟩) 2 2] w (ConPost (l ++ m) w) := by
  go_enter Try.func34, Try.ntmps34
  go_wp2_with fail
  go_loopw [3, 5, 11] (fun nn _ i wr => ∃ (j : Nat) (z : Int), j ≤ 2 ∧ wr = w ∧ i = .int .i64 j ∧ nn = .int .i64 z ∧ z = (accL l m j).length) (fun _ _ i _ => 2 - (intOf i).toNat)
  case atStart => exact ⟨0, 0, by omega, rfl, rfl, rfl, rfl⟩
  case round =>
    obtain ⟨j, z, hj, rfl, rfl, rfl, hz⟩ := hrel
    rcases (by omega : j = 0 ∨ j = 1 ∨ j = 2) with rfl | rfl | rfl
    · simp [accL] at hz
      subst hz
      obtain ⟨k1, k2, k3⟩ := ht
      have f1 : IntKind.i64.wrap (l.length : Int) = l.length := IntWalk.i64_in _ (by omega)
      have f2 : ¬ ((l.length : Int) < 0) := by omega
      go_wp2_with fail
      go_roundw
      case rel => exact ⟨1, _, by omega, trivial, rfl, rfl, by simp [accL]⟩
      case measure => simp [intOf]
    · simp [accL] at hz
      subst hz
      obtain ⟨k1, k2, k3⟩ := ht
      have f1 : IntKind.i64.wrap ((l.length : Int) + m.length) = l.length + m.length := IntWalk.i64_in _ (by omega)
      have f2 : ¬ ((l.length : Int) + m.length < 0) := by omega
      go_wp2_with fail
      go_roundw
      case rel => exact ⟨2, _, by omega, trivial, rfl, rfl, by simp [accL]⟩
      case measure => simp [intOf]
    · simp [accL] at hz
      obtain ⟨n, hn⟩ : ∃ n : Nat, n = l.length + m.length := ⟨_, rfl⟩
      obtain rfl : z = (n : Int) := by omega
      have hn2 : n ≤ 1000000 := by omega
      have HT := hid ht
      clear hz hn ht
      go_wp2_with fail
      refine (grow_any n wr hn2).mono ?_
      rintro e w1 ⟨v, rfl, hv, hb⟩
      have HV := hid hv
      have HB := hid hb
      clear hv hb
      go_wp2_with fail
      go_loopw [6, 8, 27] (fun u _ i w2 => ∃ (j : Nat) (v : Value), j ≤ 2 ∧ i = .int .i64 j ∧ u = v ∧ Hid (OwnI wr.heap.size v (accL l m j) w2 ∧ Below wr.heap.size wr w2)) (fun _ _ i _ => 2 - (intOf i).toNat)
      case atStart => exact ⟨0, v, by omega, rfl, rfl, hid ⟨HV.out, HB.out⟩⟩
      case round =>
        obtain ⟨j, v, hj, rfl, rfl, hr⟩ := hrel
        obtain ⟨k1, k2, k3⟩ := HT.out
        have hl2 := hid (hl.below hr.out.2)
        have hm2 := hid (hm.below hr.out.2)
        have hsz := hr.out.2.size
        have e2 := hr.out.2.cell (p := ⟨q, 0, none⟩) k1
        have e3 := hr.out.2.cell (p := ⟨q, 1, none⟩) k1
        rw [k2] at e2
        rw [k3] at e3
        have k4 : q < wr.heap.size := by omega
        clear k1 k2 k3
        rcases (by omega : j = 0 ∨ j = 1 ∨ j = 2) with rfl | rfl | rfl
        · go_wp2_with (at_builtin; refine wp_app_own rfl _ _ rfl _ _ (accL l m 0) l a c rfl rfl hna hr.out.1 hsz hl2.out (by simp [accL]) (by omega) ?_; intro v' w' hv' hg)
          have hbx := hid (below_grown hr.out.2 hr.out.1 hg)
          have hvx := hid (show OwnI _ v' (accL l m 1) w' from hv')
          go_wp2_with fail
          go_roundw
          case rel => exact ⟨1, _, by omega, rfl, rfl, hid ⟨hvx.out, hbx.out⟩⟩
          case measure => simp [intOf]
        · go_wp2_with (at_builtin; refine wp_app_own rfl _ _ rfl _ _ (accL l m 1) m b d rfl rfl hnb hr.out.1 hsz hm2.out (by simp [accL]; omega) (by omega) ?_; intro v' w' hv' hg)
          have hbx := hid (below_grown hr.out.2 hr.out.1 hg)
          have hvx := hid (show OwnI _ v' (accL l m 2) w' from hv')
          go_wp2_with fail
          go_roundw
          case rel => exact ⟨2, _, by omega, rfl, rfl, hid ⟨hvx.out, hbx.out⟩⟩
          case measure => simp [intOf]
        · go_wp2_with fail
          go_ret
          exact ⟨_, rfl, hr.out.1, hr.out.2⟩
end Go.Proofs.Ytkjnmkjdooebmaa
namespace Go.Proofs.Ytkjnmkjdooebmaa
open Go.RowKit
set_option linter.unusedVariables false

theorem OwnI.row {B : Nat} {v : Value} {l : List Int} {w : World} (h : OwnI B v l w) : (l = [] ∧ v = .slice none 0 0) ∨ ∃ g c, v = .slice (some ⟨g, 0, none⟩) l.length c ∧ B ≤ g ∧ l.length ≤ c ∧ c ≤ maxLen ∧ Row w g l.length (fun i => (l.map (Value.int .i64)).getD i undef) := by
  have h0 := h
  obtain ⟨k1, k2⟩ := h
  rcases k2 with ⟨rfl, hz⟩ | ⟨g, cap, cur, rfl, e2, e3, e4, e5, e6, e7⟩
  · exact .inl ⟨by simpa using hz, rfl⟩
  · have hg := (Array.getElem?_eq_some_iff.1 e3).1
    refine .inr ⟨g, cap, rfl, e2, e4, e5, hg, fun i hi => ?_, fun i => ?_⟩
    · have hi2 : (l.map (Value.int .i64))[i]? = some ((l.map (Value.int .i64)).getD i undef) := by rw [List.getD_eq_getElem?_getD, List.getElem?_eq_getElem (by simpa using hi)]; rfl
      have := World.ownsRow.cells h0 (g := g) rfl i _ hi2
      have e : Addr.add ⟨g, 0, none⟩ i = ⟨g, i, none⟩ := by unfold Addr.add; split <;> simp_all
      rw [e] at this
      exact this
    · simp [World.frozen?, e3]
/-- a row of numbers of one's own, as it is handed back: nil, or as long as it is wide -/
theorem OwnI.clip {B : Nat} {v : Value} {l : List Int} {w : World} (h : OwnI B v l w) (hl : l.length ≤ 1000000) : (l = [] ∧ v = .slice none 0 0) ∨ ∃ g c, v = .slice (some ⟨g, 0, none⟩) l.length c ∧ l.length ≤ c ∧ c ≤ maxLen ∧ NewV B (l.map (Value.int .i64)) (.slice (some ⟨g, 0, none⟩) l.length l.length) w := by
  rcases h.row with h | ⟨g, c, h1, h2, h3, h4, h5⟩
  · exact .inl h
  · have hlm : (l.map (Value.int .i64)).length = l.length := by simp
    exact .inr ⟨g, c, h1, h3, h4, _, l.length, [g], by rw [hlm], by rw [hlm]; exact Nat.le_refl _, by unfold maxLen; omega, .inr ⟨g, rfl, rfl, by rw [hlm]; exact h5⟩, by simpa using h2⟩

theorem OwnI.made (w : World) : OwnI w.heap.size (.slice (some ⟨w.heap.size, 0, none⟩) 0 0) [] (w.alloc (.cells #[] 3)) :=
  World.ownsRow_made (e := 3) (size := 1) (base := w.heap.size) w #[] 0 (Nat.le_refl _) (by simp) (by simp)

set_option maxHeartbeats 1000000 in
theorem sclone_any (l : List Int) (w : World) (a : Option Addr) (c : Nat) (hl : IntsIn Any w a l) (hlen : l.length ≤ 1000000) (hn : a = none → c = 0) : Calls Try.prog 52 #[.slice a l.length c] w (ConPost l w) := by
  cases a with
  | none =>
    obtain rfl : c = 0 := hn rfl
    obtain rfl : l = [] := by
      rcases hl.1 with h | ⟨b, o, h, _⟩
      · simpa using h
      · cases h
    clear hl hn
    have HE := fun (W : World) => Lib.run_eql_slice_nil (P := Try.prog) W 23 3 none 0 0 0 0 Try.underlying23
    go_enter Try.func52, Try.ntmps52
    go_wp2_with fail
    go_ret
    exact ⟨_, rfl, World.ownsRow_nil .., Below.refl _ _⟩
  | some ad =>
    have HL := hid hl
    have HN := hid hn
    clear hl hn
    have HE := fun (W : World) => Lib.run_eql_slice_nil (P := Try.prog) W 23 3 (some ad) l.length c 0 0 Try.underlying23
    go_enter Try.func52, Try.ntmps52
    go_wp2_with (at_builtin; refine wp_app_own rfl _ _ rfl _ _ [] l (some ad) c rfl rfl (fun h => by cases h) (OwnI.made _) (by simp) (HL.out.below (below_alloc _ _)) (by simp) hlen ?_; intro v' w' hv' hg)
    have HB := hid (show Below w.heap.size w w' from below_grown (below_alloc _ _) (OwnI.made w) hg)
    have HV := hid (show OwnI w.heap.size v' l w' from hv')
    clear hv' hg
    go_wp2_with fail
    go_ret
    exact ⟨_, rfl, HV.out, HB.out⟩

set_option maxHeartbeats 1000000 in
theorem sclip_any (l : List Int) (w : World) (v : Value) (hv : OwnI w.heap.size v l w → True) (B : Nat) (h : OwnI B v l w) (hlen : l.length ≤ 1000000) : Calls Try.prog 51 #[v] w (RetP (NewV B (l.map (Value.int .i64))) w) := by
  rcases h.clip hlen with ⟨rfl, rfl⟩ | ⟨g, c, rfl, h1, h2, h3⟩
  · go_enter Try.func51, Try.ntmps51
    go_wp2_with fail
    go_ret
    exact RetP.mk (NewV.nil _ _ _ (by simp) _) (Below.refl _ _)
  · have HV := hid h3
    unfold maxLen at h2
    have hl2 : (l.length : Int) ≤ (c : Int) := by omega
    clear h h3 hv
    go_enter Try.func51, Try.ntmps51
    go_wp2_with fail
    go_ret
    exact RetP.mk HV.out (Below.refl _ _)

set_option maxHeartbeats 1000000 in
theorem clone_any (l : List Int) (w : World) (a : Option Addr) (c : Nat) (hl : IntsIn Any w a l) (hlen : l.length ≤ 1000000) (hn : a = none → c = 0) : Calls Try.prog 32 #[.slice a l.length c] w (RetP (NewV w.heap.size (l.map (Value.int .i64))) w) := by
  have HC := hid (sclone_any l w a c hl hlen hn)
  go_enter Try.func32, Try.ntmps32
  go_wp2_with fail
  refine HC.out.mono ?_
  rintro e w1 ⟨v, rfl, hv, hb⟩
  have HV := hid hv
  have HB := hid hb
  clear hv hb
  go_wp2_with fail
  refine (sclip_any l w1 v (fun _ => trivial) w.heap.size HV.out hlen).mono ?_
  rintro e w2 ⟨u, rfl, hu, hb⟩
  have HU := hid hu
  have HB2 := hid (below_next HB.out hb)
  clear hu hb
  go_wp2_with fail
  go_ret
  exact RetP.mk HU.out HB2.out
end Go.Proofs.Ytkjnmkjdooebmaa
namespace Go.Proofs.Ytkjnmkjdooebmaa
open Go.RowKit

/-- what a copy comes to -/
def NewInts (l : List Int) (B : Nat) (v : Value) (w' : World) : Prop := v = .slice (some ⟨B, 0, none⟩) l.length l.length ∧ Row w' B l.length (fun i => .int .i64 (l.getD i 0))

/-- a row of numbers, asked number by number -/
theorem ints_drop {l m : List Int} {k : Nat} (hk : k < l.length) (hk' : k < m.length) (h : (l.drop k == m.drop k) = (l == m)) : (l == m) = ((l[k] == m[k]) && (l.drop (k + 1) == m.drop (k + 1))) := by
  rw [← h, List.drop_eq_getElem_cons hk, List.drop_eq_getElem_cons hk']
  rfl

end Go.Proofs.Ytkjnmkjdooebmaa
namespace Go.Proofs.Ytkjnmkjdooebmaa
open Go.RowKit
namespace Lasso
/-- a variable of two cells -/
abbrev PBox (w : World) (B : Nat) (a b : Value) : Prop := B < w.heap.size ∧ w.cell? ⟨B, 0, none⟩ = some a ∧ w.cell? ⟨B, 1, none⟩ = some b ∧ w.frozen? ⟨B, 0, none⟩ = false ∧ w.frozen? ⟨B, 1, none⟩ = false
theorem pbox_next {w w' : World} (h : Below w.heap.size w w') {B : Nat} {a b : Value} (hb : PBox w B a b) : PBox w' B a b :=
  ⟨Nat.lt_of_lt_of_le hb.1 h.size, by rw [h.cell (p := ⟨B, 0, none⟩) hb.1]; exact hb.2.1, by rw [h.cell (p := ⟨B, 1, none⟩) hb.1]; exact hb.2.2.1,
    by rw [h.frozen (p := ⟨B, 0, none⟩) hb.1]; exact hb.2.2.2.1, by rw [h.frozen (p := ⟨B, 1, none⟩) hb.1]; exact hb.2.2.2.2⟩
theorem pbox_at {w : World} {B : Nat} {a b : Value} {t : TypeId} (h : B = w.heap.size) : PBox (w.alloc (.cells #[a, b] t)) B a b := by subst h; exact ⟨by simp, by simp, by simp, by simp, by simp⟩

theorem pbox_set0 {w : World} {B : Nat} {a b : Value} (h : PBox w B a b) (v : Value) : PBox (w.setCell ⟨B, 0, none⟩ v) B v b :=
  ⟨by simpa using h.1, World.cell?_setCell_same _ _ _ h.2.1, by rw [World.cell?_setCell_other _ _ _ _ (by simp)]; exact h.2.2.1, by simpa using h.2.2.2.1, by simpa using h.2.2.2.2⟩
theorem pbox_set1 {w : World} {B : Nat} {a b : Value} (h : PBox w B a b) (v : Value) : PBox (w.setCell ⟨B, 1, none⟩ v) B a v :=
  ⟨by simpa using h.1, by rw [World.cell?_setCell_other _ _ _ _ (by simp)]; exact h.2.1, World.cell?_setCell_same _ _ _ h.2.2.1, by simpa using h.2.2.2.1, by simpa using h.2.2.2.2⟩
theorem pbox_but {w w' : World} {D : Nat} (h : But w D w') {B : Nat} {a b : Value} (hd : B ≠ D) (hb : PBox w B a b) : PBox w' B a b :=
  ⟨Nat.lt_of_lt_of_le hb.1 h.size, by rw [h.cell hb.1 hd]; exact hb.2.1, by rw [h.cell hb.1 hd]; exact hb.2.2.1, by rw [h.frozen hb.1 hd]; exact hb.2.2.2.1, by rw [h.frozen hb.1 hd]; exact hb.2.2.2.2⟩
theorem pbox_set {w : World} {B D : Nat} {a b : Value} (h : PBox w B a b) (hd : B ≠ D) (i : Nat) (v : Value) : PBox (w.setCell ⟨D, i, none⟩ v) B a b := pbox_but (But.set w D i v) hd h

/-- two rows of numbers -/
def PairIn (p : Nat → Prop) (w : World) (l m : List Int) (v : Value) : Prop := ∃ a b c d, v = .agg #[.slice a l.length c, .slice b m.length d] ∧ IntsIn p w a l ∧ IntsIn p w b m ∧ l.length ≤ c ∧ c ≤ maxLen ∧ m.length ≤ d ∧ d ≤ maxLen
theorem PairIn.below {p : Nat → Prop} {w w' : World} {l m : List Int} {v : Value} (h : PairIn p w l m v) (hb : Below w.heap.size w w') : PairIn p w' l m v := by
  obtain ⟨a, b, c, d, rfl, h1, h2, h3⟩ := h
  exact ⟨a, b, c, d, rfl, h1.below hb, h2.below hb, h3⟩
/-- two rows of one's own -/
def NewPair (B : Nat) (l m : List Int) (v : Value) (w : World) : Prop := ∃ R1 R2, v = .agg #[.slice (some ⟨R1, 0, none⟩) l.length l.length, .slice (some ⟨R2, 0, none⟩) m.length m.length] ∧ B ≤ R1 ∧ R1 < R2 ∧ Row w R1 l.length (fun i => .int .i64 (l.getD i 0)) ∧ Row w R2 m.length (fun i => .int .i64 (m.getD i 0))
theorem NewPair.any {B : Nat} {l m : List Int} {v : Value} {w : World} (h : NewPair B l m v w) (hl : ∀ n, n ∈ l → i64 n) (hm : ∀ n, n ∈ m → i64 n) (h1 : l.length ≤ maxLen) (h2 : m.length ≤ maxLen) : PairIn Any w l m v := by
  obtain ⟨R1, R2, rfl, _, _, r1, r2⟩ := h
  exact ⟨_, _, _, _, rfl, r1.ints hl trivial, r2.ints hm trivial, Nat.le_refl _, h1, Nat.le_refl _, h2⟩

end Lasso
end Go.Proofs.Ytkjnmkjdooebmaa
namespace Go.Proofs.Ytkjnmkjdooebmaa

noncomputable def dec (p : Prop) : Bool := @decide p (Classical.propDecidable p)
theorem dec_iff {p : Prop} : dec p = true ↔ p := @decide_eq_true_iff p (Classical.propDecidable p)

/-- b comes, and a holds until then -/
noncomputable def unt (a b : Nat → Bool) (i : Nat) : Bool := dec (∃ j, b (i + j) = true ∧ ∀ m, m < j → a (i + m) = true)
noncomputable def rls (a b : Nat → Bool) (i : Nat) : Bool := !unt (fun j => !a j) (fun j => !b j) i
theorem unt_step (a b : Nat → Bool) (i : Nat) : unt a b i = (b i || a i && unt a b (i + 1)) := by
  rw [Bool.eq_iff_iff, Bool.or_eq_true, Bool.and_eq_true, unt, unt, dec_iff, dec_iff]
  constructor
  · rintro ⟨j, h1, h2⟩
    cases j with
    | zero => exact .inl h1
    | succ j => exact .inr ⟨h2 0 (by omega), j, by rw [show i + 1 + j = i + (j + 1) by omega]; exact h1, fun m hm => by rw [show i + 1 + m = i + (m + 1) by omega]; exact h2 _ (by omega)⟩
  · rintro (h | ⟨h1, j, h2, h3⟩)
    · exact ⟨0, h, fun m hm => by omega⟩
    · refine ⟨j + 1, by rw [show i + (j + 1) = i + 1 + j by omega]; exact h2, fun m hm => ?_⟩
      cases m with
      | zero => exact h1
      | succ m => rw [show i + (m + 1) = i + 1 + m by omega]; exact h3 m (by omega)
theorem rls_step (a b : Nat → Bool) (i : Nat) : rls a b i = (b i && (a i || rls a b (i + 1))) := by
  simp only [rls]
  rw [unt_step]
  cases a i <;> cases b i <;> simp

/-- from s on, f repeats with the period p -/
def Per (s p : Nat) (f : Nat → Bool) : Prop := ∀ i, s ≤ i → f (i + p) = f i
theorem Per.at {s p : Nat} {f : Nat → Bool} (h : Per s p f) {i : Nat} (hi : s ≤ i) (j : Nat) : f (i + p + j) = f (i + j) := by
  rw [show i + p + j = i + j + p by omega]; exact h _ (by omega)
theorem unt_per {s p : Nat} {a b : Nat → Bool} (ha : Per s p a) (hb : Per s p b) : Per s p (unt a b) := by
  intro i hi
  simp only [unt, ha.at hi, hb.at hi]
theorem Per.not {s p : Nat} {a : Nat → Bool} (ha : Per s p a) : Per s p (fun j => !a j) := fun i hi => by simp only [ha i hi]
theorem rls_per {s p : Nat} {a b : Nat → Bool} (ha : Per s p a) (hb : Per s p b) : Per s p (rls a b) := fun i hi => by
  simp only [rls]; rw [unt_per ha.not hb.not i hi]

/-- the position behind i -/
def nx (s p i : Nat) : Nat := if i + 1 = s + p then s else i + 1
theorem nx_lt {s p i : Nat} (hp : 0 < p) (hi : i < s + p) : nx s p i < s + p := by unfold nx; split <;> omega
theorem per_nx {s p : Nat} {f : Nat → Bool} (h : Per s p f) (i : Nat) : f (nx s p i) = f (i + 1) := by
  unfold nx
  split
  · rename_i e; rw [e]; exact (h s (Nat.le_refl _)).symm
  · rfl

theorem unt_ext {s p : Nat} {a b : Nat → Bool} (hp : 0 < p) (ha : Per s p a) (hb : Per s p b) (g : Nat → Bool) (hg : ∀ k, k < s + p → g k = (b k || a k && g (nx s p k))) :
    ∀ k, k < s + p → unt a b k = true → g k = true := by
  intro k hk h
  rw [unt, dec_iff] at h
  obtain ⟨j, h1, h2⟩ := h
  induction j generalizing k with
  | zero => rw [hg k hk, show b k = true from h1]; rfl
  | succ j ih =>
    have h0 : a k = true := h2 0 (by omega)
    have h3 : g (nx s p k) = true := by
      refine ih _ (nx_lt hp hk) ?_ fun m hm => ?_
      · have e : b (k + 1 + j) = true := by rw [show k + 1 + j = k + (j + 1) by omega]; exact h1
        unfold nx
        split
        · rename_i e2
          rw [e2] at e
          rw [← hb.at (Nat.le_refl s) j]; exact e
        · exact e
      · have e : a (k + 1 + m) = true := by rw [show k + 1 + m = k + (m + 1) by omega]; exact h2 _ (by omega)
        unfold nx
        split
        · rename_i e2
          rw [e2] at e
          rw [← ha.at (Nat.le_refl s) m]; exact e
        · exact e
    rw [hg k hk, h0, h3]; simp

/-- F is the solution of F k = h k (F (nxt k)) that is nearest to the constant st -/
structure FixSol (n : Nat) (nxt : Nat → Nat) (st : Bool) (h : Nat → Bool → Bool) (F : Nat → Bool) : Prop where
  lt : ∀ k, k < n → nxt k < n
  mono : ∀ k, k < n → h k st = !st → h k (!st) = !st
  fix : ∀ k, k < n → F k = h k (F (nxt k))
  ext : ∀ g : Nat → Bool, (∀ k, k < n → g k = h k (g (nxt k))) → ∀ k, k < n → F k = !st → g k = !st

theorem fix_unt {s p : Nat} {a b : Nat → Bool} (hp : 0 < p) (ha : Per s p a) (hb : Per s p b) : FixSol (s + p) (nx s p) false (fun i x => b i || a i && x) (unt a b) where
  lt k hk := nx_lt hp hk
  mono k hk h := by simp at h; simp [h]
  fix k hk := by rw [per_nx (unt_per ha hb)]; exact unt_step a b k
  ext g hg k hk h := unt_ext hp ha hb g hg k hk h
theorem fix_rls {s p : Nat} {a b : Nat → Bool} (hp : 0 < p) (ha : Per s p a) (hb : Per s p b) : FixSol (s + p) (nx s p) true (fun i x => b i && (a i || x)) (rls a b) where
  lt k hk := nx_lt hp hk
  mono k hk h := by simp at h; simp [h]
  fix k hk := by rw [per_nx (rls_per ha hb)]; exact rls_step a b k
  ext g hg k hk h := by
    have := unt_ext hp ha.not hb.not (fun j => !g j) (fun j hj => by rw [hg j hj]; cases b j <;> cases a j <;> simp) k hk (by simpa [rls] using h)
    simpa using this

/-- how many k < n have f k = v -/
def cntB (v : Bool) (f : Nat → Bool) : Nat → Nat
  | 0 => 0
  | n + 1 => cntB v f n + (if f n = v then 1 else 0)
theorem cntB_le_n (v : Bool) (f : Nat → Bool) : ∀ n, cntB v f n ≤ n
  | 0 => Nat.le_refl _
  | n + 1 => by have := cntB_le_n v f n; simp only [cntB]; split <;> omega
theorem cntB_mono {v : Bool} {f g : Nat → Bool} : ∀ {n}, (∀ k, k < n → f k = v → g k = v) → cntB v f n ≤ cntB v g n
  | 0, _ => Nat.le_refl _
  | n + 1, h => by
    have h1 := cntB_mono (n := n) (fun k hk => h k (by omega))
    simp only [cntB]
    by_cases e : f n = v
    · rw [if_pos e, if_pos (h n (by omega) e)]; omega
    · rw [if_neg e]; omega
def upd (f : Nat → Bool) (k : Nat) (v : Bool) : Nat → Bool := fun j => if j = k then v else f j
theorem upd_same (f : Nat → Bool) (k : Nat) : upd f k (f k) = f := by
  funext j; unfold upd; split
  · rename_i e; rw [e]
  · rfl
theorem cntB_upd_ge {v : Bool} {f : Nat → Bool} {k : Nat} : ∀ {n}, n ≤ k → cntB v (upd f k v) n = cntB v f n
  | 0, _ => rfl
  | n + 1, h => by
    simp only [cntB]
    rw [cntB_upd_ge (by omega)]
    simp [upd, show n ≠ k by omega]
theorem cntB_upd {v : Bool} {f : Nat → Bool} {k : Nat} (hv : f k ≠ v) : ∀ {n}, k < n → cntB v (upd f k v) n = cntB v f n + 1
  | 0, h => by omega
  | n + 1, h => by
    simp only [cntB]
    by_cases e : n = k
    · subst e
      rw [cntB_upd_ge (Nat.le_refl _), if_neg hv]
      simp [upd]
    · rw [cntB_upd hv (by omega)]
      simp only [upd, if_neg e]
      omega

section
variable {n : Nat} {nxt : Nat → Nat} {st : Bool} {h : Nat → Bool → Bool} {F : Nat → Bool}
def FixInv (n : Nat) (nxt : Nat → Nat) (st : Bool) (h : Nat → Bool → Bool) (F out : Nat → Bool) : Prop := ∀ k, k < n → out k = !st → h k (out (nxt k)) = !st ∧ F k = !st
/-- behind the part of a sweep that has passed i: out0 at its start, ch: has something changed? -/
structure FixRel (n : Nat) (nxt : Nat → Nat) (st : Bool) (h : Nat → Bool → Bool) (F out0 : Nat → Bool) (i : Nat) (ch : Bool) (out : Nat → Bool) : Prop where
  inv : FixInv n nxt st h F out
  no : ch = false → cntB (!st) out0 n = cntB (!st) out n ∧ ∀ k, i ≤ k → k < n → out k = h k (out (nxt k))
  yes : ch = true → cntB (!st) out0 n < cntB (!st) out n
theorem fixInv_start {out : Nat → Bool} (h0 : ∀ k, k < n → out k = st) : FixInv n nxt st h F out := fun k hk e => by rw [h0 k hk] at e; cases st <;> simp at e
theorem FixRel.start {out : Nat → Bool} (hi : FixInv n nxt st h F out) : FixRel n nxt st h F out n false out := ⟨hi, fun _ => ⟨rfl, fun k h1 h2 => by omega⟩, fun e => by cases e⟩
theorem FixRel.step (hs : FixSol n nxt st h F) {out0 out : Nat → Bool} {k : Nat} {ch : Bool} (hk : k < n) (hr : FixRel n nxt st h F out0 (k + 1) ch out) :
    FixRel n nxt st h F out0 k (ch || h k (out (nxt k)) != out k) (upd out k (h k (out (nxt k)))) := by
  by_cases e : h k (out (nxt k)) = out k
  · rw [e, upd_same]
    refine ⟨hr.inv, fun hc => ?_, fun hc => hr.yes (by simpa using hc)⟩
    have := hr.no (by simpa using hc)
    refine ⟨this.1, fun j h1 h2 => ?_⟩
    by_cases ej : j = k
    · subst ej; exact e.symm
    · exact this.2 j (by omega) h2
  · have hk0 : out k = st := by
      by_cases e2 : out k = !st
      · rw [(hr.inv k hk e2).1, e2] at e; exact absurd rfl e
      · cases st <;> simpa using e2
    have hv : h k (out (nxt k)) = !st := by
      rw [hk0] at e
      cases st <;> simpa using e
    rw [hv]
    have hm : ∀ j, j < n → h j (out (nxt j)) = !st → h j (upd out k (!st) (nxt j)) = !st := by
      intro j hj e3
      by_cases e4 : nxt j = k
      · have : h j st = !st := by have e5 := e3; rw [e4, hk0] at e5; exact e5
        rw [show upd out k (!st) (nxt j) = !st by simp [upd, e4]]
        exact hs.mono j hj this
      · rw [show upd out k (!st) (nxt j) = out (nxt j) by simp [upd, e4]]; exact e3
    refine ⟨fun j hj e3 => ?_, fun hc => ?_, fun _ => ?_⟩
    · by_cases ej : j = k
      · subst ej
        refine ⟨hm j hj hv, ?_⟩
        rw [hs.fix j hj]
        by_cases e5 : out (nxt j) = !st
        · rw [(hr.inv _ (hs.lt j hj) e5).2]
          rw [e5] at hv; exact hv
        · have e6 : out (nxt j) = st := by cases st <;> simpa using e5
          rw [e6] at hv
          have := hs.mono j hj hv
          cases F (nxt j) <;> cases st <;> simp_all
      · have e4 : out j = !st := by simpa [upd, ej] using e3
        exact ⟨hm j hj (hr.inv j hj e4).1, (hr.inv j hj e4).2⟩
    · have : (!st != out k) = false := by
        cases ch <;> simp_all
      rw [hk0] at this
      cases st <;> simp at this
    · rw [cntB_upd (by rw [hk0]; cases st <;> simp) hk]
      cases ch with
      | false => have := (hr.no rfl).1; omega
      | true => have := hr.yes rfl; omega
/-- a fixed point is the solution -/
theorem FixInv.done (hs : FixSol n nxt st h F) {out : Nat → Bool} (hi : FixInv n nxt st h F out) (hf : ∀ k, k < n → out k = h k (out (nxt k))) : ∀ k, k < n → out k = F k := by
  intro k hk
  by_cases e : F k = !st
  · rw [e]; exact hs.ext out hf k hk e
  · by_cases e2 : out k = !st
    · exact absurd (hi k hk e2).2 e
    · cases st <;> simp_all
/-- r sweeps of the reference -/
def FixRound (n : Nat) (nxt : Nat → Nat) (st : Bool) (h : Nat → Bool → Bool) (F : Nat → Bool) (r : Nat) (out : Nat → Bool) : Prop :=
  FixInv n nxt st h F out ∧ ((∀ k, k < n → out k = F k) ∨ r ≤ cntB (!st) out n)
theorem FixRound.next (hs : FixSol n nxt st h F) {r : Nat} {out0 out : Nat → Bool} {ch : Bool} (h0 : FixRound n nxt st h F r out0) (hr : FixRel n nxt st h F out0 0 ch out) : FixRound n nxt st h F (r + 1) out := by
  refine ⟨hr.inv, ?_⟩
  cases ch with
  | false => exact .inl (hr.inv.done hs fun k hk => (hr.no rfl).2 k (Nat.zero_le _) hk)
  | true =>
    have hy := hr.yes rfl
    rcases h0.2 with hd | hc
    · have : cntB (!st) out n ≤ cntB (!st) out0 n := cntB_mono fun k hk e => by rw [hd k hk]; exact (hr.inv k hk e).2
      omega
    · exact .inr (by omega)
theorem FixRound.end {out : Nat → Bool} (h0 : FixRound n nxt st h F (2 * n) out) : ∀ k, k < n → out k = F k := by
  rcases h0.2 with hd | hc
  · exact hd
  · have := cntB_le_n (!st) out n
    intro k hk
    omega
end

/-- has a letter the atom? -/
def bit (n a : Int) : Bool := n / 2 ^ a.toNat % 2 == 1
noncomputable def semN (w : Nat → Int) (k v : Int) (s : List (Nat → Bool)) : Nat → Bool :=
  if k = 1 then fun _ => true
  else if k = 2 then fun i => bit (w i) v
  else if k = 3 then fun i => !s.getD 0 (fun _ => false) i
  else if k = 4 then fun i => s.getD 0 (fun _ => false) i && s.getD 1 (fun _ => false) i
  else if k = 5 then fun i => s.getD 0 (fun _ => false) i || s.getD 1 (fun _ => false) i
  else if k = 6 then fun i => s.getD 0 (fun _ => false) (i + 1)
  else if k = 7 then unt (s.getD 0 (fun _ => false)) (s.getD 1 (fun _ => false))
  else if k = 8 then rls (s.getD 0 (fun _ => false)) (s.getD 1 (fun _ => false))
  else if k = 9 then unt (fun _ => true) (s.getD 0 (fun _ => false))
  else if k = 10 then rls (fun _ => false) (s.getD 0 (fun _ => false))
  else fun _ => false
mutual
/-- at which positions of a word a formula holds -/
noncomputable def sem (w : Nat → Int) : Tr → Nat → Bool | .mk k v kids => semN w k v (semL w kids)
noncomputable def semL (w : Nat → Int) : List Tr → List (Nat → Bool) | [] => [] | t :: ts => sem w t :: semL w ts
end
theorem semL_len (w : Nat → Int) : ∀ l, (semL w l).length = l.length
  | [] => rfl
  | t :: ts => by simp [semL, semL_len w ts]
theorem semN_per {s p : Nat} {w : Nat → Int} (hw : ∀ i, s ≤ i → w (i + p) = w i) (k v : Int) (l : List (Nat → Bool)) (hl : ∀ f, f ∈ l → Per s p f) : Per s p (semN w k v l) := by
  have hz : Per s p (fun _ => false) := fun _ _ => rfl
  have ho : Per s p (fun _ => true) := fun _ _ => rfl
  have hg : ∀ j, Per s p (l.getD j (fun _ => false)) := fun j => by
    rw [List.getD_eq_getElem?_getD]
    cases e : l[j]? with
    | none => exact hz
    | some f => exact hl f (List.mem_of_getElem? e)
  have g0 := hg 0
  have g1 := hg 1
  unfold semN
  repeat' split
  all_goals first
    | exact ho
    | exact hz
    | exact unt_per g0 g1
    | exact rls_per g0 g1
    | exact unt_per ho g0
    | exact rls_per hz g0
    | (intro i hi; simp only [hw i hi]; done)
    | (intro i hi; simp only [g0 i hi]; done)
    | (intro i hi; simp only [g0 i hi, g1 i hi]; done)
    | (intro i hi; exact g0.at hi 1)
mutual
theorem sem_per {s p : Nat} {w : Nat → Int} (hw : ∀ i, s ≤ i → w (i + p) = w i) : ∀ t, Per s p (sem w t)
  | .mk k v kids => by rw [sem]; exact semN_per hw k v _ (semL_per hw kids)
theorem semL_per {s p : Nat} {w : Nat → Int} (hw : ∀ i, s ≤ i → w (i + p) = w i) : ∀ l f, f ∈ semL w l → Per s p f
  | [], f, h => by simp [semL] at h
  | t :: ts, f, h => by
    simp only [semL, List.mem_cons] at h
    rcases h with rfl | h
    · exact sem_per hw t
    · exact semL_per hw ts f h
end

/-- a word of a stem and a loop -/
def wordOf (stem loop : List Int) (i : Nat) : Int := if i < stem.length then stem.getD i 0 else loop.getD ((i - stem.length) % loop.length) 0
theorem wordOf_per (stem loop : List Int) (i : Nat) (hi : stem.length ≤ i) : wordOf stem loop (i + loop.length) = wordOf stem loop i := by
  unfold wordOf
  rw [if_neg (by omega), if_neg (by omega), show i + loop.length - stem.length = i - stem.length + loop.length by omega, Nat.add_mod_right]
theorem wordOf_all {stem loop : List Int} {i : Nat} (hi : i < stem.length + loop.length) : wordOf stem loop i = (stem ++ loop).getD i 0 := by
  unfold wordOf
  split
  · rename_i h
    rw [List.getD_eq_getElem?_getD, List.getD_eq_getElem?_getD, List.getElem?_append_left h]
  · rename_i h
    rw [Nat.mod_eq_of_lt (by omega), List.getD_eq_getElem?_getD, List.getD_eq_getElem?_getD, List.getElem?_append_right (by omega)]
end Go.Proofs.Ytkjnmkjdooebmaa
namespace Go.Proofs.Ytkjnmkjdooebmaa
open Go.RowKit
namespace Lasso

theorem next_any (s p i : Nat) (w : World) (a b : Option Addr) (c d : Nat) (hs : s ≤ 1000) (hp : p ≤ 1000) (hi : i < s + p) :
    Calls Try.prog 41 #[.agg #[.slice a s c, .slice b p d], .int .i64 i] w (Ret (.int .i64 (nx s p i : Nat)) w) := by
  by_cases h : i + 1 = s + p
  · have e1 : ((i : Int) + 1 == (s : Int) + p) = true := by rw [beq_iff_eq]; omega
    have E := hid (show nx s p i = s by unfold nx; rw [if_pos h])
    clear h
    go_enter Try.func41, Try.ntmps41
    go_wp2_with fail
    go_ret
    exact Ret.mk (int_val (by rw [E.out])) (by repeat (first | exact Below.refl _ _ | assumption | refine below_a ?_ _ | refine below_o ?_ _ | refine below_d ?_ | refine below_n ?_ _ | refine below_s ?_ (by first | (simp; done) | (simp; omega) | omega) _))
  · have e1 : ((i : Int) + 1 == (s : Int) + p) = false := by rw [beq_eq_false_iff_ne]; omega
    have E := hid (show nx s p i = i + 1 by unfold nx; rw [if_neg h])
    clear h
    go_enter Try.func41, Try.ntmps41
    go_wp2_with fail
    go_ret
    exact Ret.mk (int_val (by rw [E.out]; omega)) (by repeat (first | exact Below.refl _ _ | assumption | refine below_a ?_ _ | refine below_o ?_ _ | refine below_d ?_ | refine below_n ?_ _ | refine below_s ?_ (by first | (simp; done) | (simp; omega) | omega) _))
end Lasso
end Go.Proofs.Ytkjnmkjdooebmaa
