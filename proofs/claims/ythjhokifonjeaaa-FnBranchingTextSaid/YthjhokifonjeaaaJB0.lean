/- Joined texts (Mem, Reg): contracts and plain laws. Conditions: those of each theorem. -/
import Derived.WalkKit
import Derived.Deep.QuietTactic
import Derived.BigQuiet
import Derived.OrdersHeld
import Derived.Deep.Quiet
set_option linter.unusedVariables false
set_option linter.unusedSimpArgs false
namespace Go.Proofs.Ythjhokifonjeaaa
open Go.RowKit

/-! ### small words -/

theorem hid {p : Prop} (h : p) : Hid p := h
def i64 (n : Int) : Prop := -9223372036854775808 ≤ n ∧ n ≤ 9223372036854775807

/-! ### worlds that keep all that was there: 'w.over x' -/

/-- what may come of a world w while all of w's blocks are kept -/
def Over (w : World) : Type := { w' : World // Below w.heap.size w w' }
/-- the world that x says -/
def _root_.Go.World.over (w : World) (x : Over w) : World := x.1
theorem over_below (w : World) (x : Over w) : Below w.heap.size w (w.over x) := x.2
def Over.of {w w' : World} (h : Below w.heap.size w w') : Over w := ⟨w', h⟩
instance over_some (w : World) : Nonempty (Over w) := ⟨Over.of (Below.refl _ _)⟩
theorem over_of {w w' : World} (h : Below w.heap.size w w') : w' = w.over (Over.of h) := rfl
theorem bex {w w' : World} (h : Below w.heap.size w w') : ∃ x, w' = w.over x := ⟨Over.of h, rfl⟩

@[go_sem] theorem over_cell (w : World) (x : Over w) (b o : Nat) (h : b < w.heap.size) : (w.over x).cell? ⟨b, o, none⟩ = w.cell? ⟨b, o, none⟩ := x.2.cell (p := ⟨b, o, none⟩) h
@[go_sem] theorem over_frozen (w : World) (x : Over w) (b o : Nat) (h : b < w.heap.size) : (w.over x).frozen? ⟨b, o, none⟩ = w.frozen? ⟨b, o, none⟩ := x.2.frozen (p := ⟨b, o, none⟩) h
@[go_sem] theorem over_lt (w : World) (x : Over w) (b : Nat) (h : b < w.heap.size) : (b < (w.over x).heap.size) = True := eq_true (Nat.lt_of_lt_of_le h x.2.size)
def Over.drew {w : World} (x : Over w) : Over w := ⟨(w.over x).drew, (over_below w x).drew⟩
@[go_sem] theorem over_drew (w : World) (x : Over w) : (w.over x).drew = w.over x.drew := rfl

attribute [irreducible] World.over Over
theorem below_a {w W : World} (h : Below w.heap.size w W) (o : Obj) : Below w.heap.size w (W.alloc o) := h.alloc h.size _
theorem below_o {w W : World} (h : Below w.heap.size w W) (x : Over W) : Below w.heap.size w (W.over x) := h.trans ((over_below W x).mono h.size)
theorem below_d {w W : World} (h : Below w.heap.size w W) : Below w.heap.size w W.drew := h.drew
theorem below_n {w W : World} (h : Below w.heap.size w W) (n : Nat) : Below w.heap.size w (W.drewN n) := h.trans ⟨rfl, rfl, rfl, Nat.le_refl _, fun _ _ => rfl⟩
theorem below_s {w W : World} (h : Below w.heap.size w W) {p : Addr} (hp : w.heap.size ≤ p.block) (u : Value) : Below w.heap.size w (W.setCell p u) := h.setCell hp u

/-- what a call comes to that only reads and makes memory: a value; all old memory as it was -/
def Ret (v : Value) (w : World) (e : Ending) (w' : World) : Prop := e = .returned v ∧ Below w.heap.size w w'
theorem Ret.mk {u v : Value} {w w' : World} (h : u = v) (hb : Below w.heap.size w w') : Ret v w (.returned u) w' := ⟨by rw [h], hb⟩
/-- the same, in the very world -/
def RetW (v : Value) (w : World) (e : Ending) (w' : World) : Prop := e = .returned v ∧ w' = w
/-- the same, the value known by a property -/
def RetP (p : Value → World → Prop) (w : World) (e : Ending) (w' : World) : Prop := ∃ v, e = .returned v ∧ p v w' ∧ Below w.heap.size w w'
theorem RetP.mk {p : Value → World → Prop} {v : Value} {w w' : World} (h : p v w') (hb : Below w.heap.size w w') : RetP p w (.returned v) w' := ⟨v, rfl, h, hb⟩

theorem below_ex_drew (w : World) : ∃ x, ({ w with drawn := w.drawn + 1 } : World) = w.over x := bex (Below.refl w.heap.size w).drew
theorem wpQuiet_mono' {P : Program} {ops : Array Oper} {C : World → Prop} {Q Q' : Act → Prop} (hq : ∀ a, Q a → Q' a) : ∀ (l : List Oper) (a : Act), wpQuiet P ops C Q l a → wpQuiet P ops C Q' l a
  | [], a, h => hq a h
  | o :: l, a, h => by
    unfold wpQuiet at h ⊢
    split
    · rename_i hw; rw [if_pos hw] at h; exact Oper.quiet_mono (wpQuiet_mono' hq l) h
    · rename_i hw; rw [if_neg hw] at h; exact wpQuiet_mono' hq l _ h
/-! ### a region that draws its order, whose operations read and whose callees make memory at most: ONE walk serves every order -/
theorem wp_region_over {P : Program} {id : Nat} {Q : Exit → Act → World → Prop} {a : Act} {w : World} {l : List Oper} (hm : P.follows .mixedOrders = true) (hB : Region.lexB .any l.toArray = true)
    (h : wpQuiet P l.toArray (fun w' => ∃ x, w' = w.over x) (fun a' => ∀ w', (∃ x, w' = w.over x) → Q .normal a' w') l a) : (Code.region id l.toArray true).wp P Q a w :=
  wp_region_quiet (C := fun w' => ∃ x, w' = w.over x) hm hB (below_ex_drew w) (by simpa using h)

/-- .. what follows is asked in every world that keeps this one -/
theorem wp_region_below {P : Program} {id : Nat} {Q : Exit → Act → World → Prop} {a : Act} {w : World} {l : List Oper} (hm : P.follows .mixedOrders = true) (hB : Region.lexB .any l.toArray = true)
    (h : wpQuiet P l.toArray (fun w' => ∃ x, w' = w.over x) (fun a' => ∀ w', Below w.heap.size w w' → Q .normal a' w') l a) : (Code.region id l.toArray true).wp P Q a w :=
  wp_region_quiet (C := fun w' => ∃ x, w' = w.over x) hm hB (below_ex_drew w) (wpQuiet_mono' (Q := fun a' => ∀ w', Below w.heap.size w w' → Q .normal a' w') (fun _ hq w' hx => hq w' (by obtain ⟨x, hx⟩ := hx; rw [hx]; exact over_below w x)) _ _ (by simpa using h))

/-- a callee's contract in such a region -/
theorem Calls.over {P : Program} {f : FuncId} {args : Array Value} {w : World} {x : Over w} {v : Value} (h : Calls P f args (w.over x) (Ret v (w.over x))) :
    Calls P f args (w.over x) fun e w'' => e = .returned v ∧ ∃ m, w'' = w.over m :=
  h.mono fun _ _ ⟨he, hy⟩ => ⟨he, bex ((over_below w x).trans (hy.mono (over_below w x).size))⟩

theorem int_val {a b : Int} (h : a = b) : Value.int .i64 a = .int .i64 b := by rw [h]
theorem bool_val {a b : Bool} (h : a = b) : Value.bool a = .bool b := by rw [h]

theorem blt {w : World} {a : Addr} {v : Value} (h : w.cell? a = some v) : a.block < w.heap.size := World.block_lt_of_cell? _ _ h

theorem below_alloc (w : World) (o : Obj) : Below w.heap.size w (w.alloc o) := (Below.refl _ _).alloc (Nat.le_refl _) _
theorem below_then {B : Nat} {a b c : World} (h : Below B a b) (k : Below b.heap.size b c) (hB : B ≤ b.heap.size) : Below B a c := h.trans (k.mono hB)
theorem below_next {a b c : World} (h : Below a.heap.size a b) (k : Below b.heap.size b c) : Below a.heap.size a c := below_then h k h.size
/-- behind a call: all old cells and marks read as before, as rules of the walk; and its size -/
theorem bcell {W w1 : World} (hb : Below W.heap.size W w1) : (∀ b o, b < W.heap.size → w1.cell? ⟨b, o, none⟩ = W.cell? ⟨b, o, none⟩) ∧ (∀ b o, b < W.heap.size → w1.frozen? ⟨b, o, none⟩ = W.frozen? ⟨b, o, none⟩) ∧ W.heap.size ≤ w1.heap.size :=
  ⟨fun b o h => hb.cell (p := ⟨b, o, none⟩) h, fun b o h => hb.frozen (p := ⟨b, o, none⟩) h, hb.size⟩

/-! ### boxes: the variables of a call that lie in memory -/
abbrev Box1 (w : World) (B : Nat) (a : Value) : Prop := B < w.heap.size ∧ w.cell? ⟨B, 0, none⟩ = some a ∧ w.frozen? ⟨B, 0, none⟩ = false
abbrev Box3 (w : World) (B : Nat) (a b c : Value) : Prop := B < w.heap.size ∧ w.cell? ⟨B, 0, none⟩ = some a ∧ w.cell? ⟨B, 1, none⟩ = some b ∧ w.cell? ⟨B, 2, none⟩ = some c ∧
  w.frozen? ⟨B, 0, none⟩ = false ∧ w.frozen? ⟨B, 1, none⟩ = false ∧ w.frozen? ⟨B, 2, none⟩ = false
theorem box1_next {w w' : World} (h : Below w.heap.size w w') {B : Nat} {a : Value} (hb : Box1 w B a) : Box1 w' B a :=
  ⟨Nat.lt_of_lt_of_le hb.1 h.size, by rw [h.cell (p := ⟨B, 0, none⟩) hb.1]; exact hb.2.1, by rw [h.frozen (p := ⟨B, 0, none⟩) hb.1]; exact hb.2.2⟩
theorem box3_next {w w' : World} (h : Below w.heap.size w w') {B : Nat} {a b c : Value} (hb : Box3 w B a b c) : Box3 w' B a b c :=
  ⟨Nat.lt_of_lt_of_le hb.1 h.size, by rw [h.cell (p := ⟨B, 0, none⟩) hb.1]; exact hb.2.1, by rw [h.cell (p := ⟨B, 1, none⟩) hb.1]; exact hb.2.2.1, by rw [h.cell (p := ⟨B, 2, none⟩) hb.1]; exact hb.2.2.2.1,
    by rw [h.frozen (p := ⟨B, 0, none⟩) hb.1]; exact hb.2.2.2.2.1, by rw [h.frozen (p := ⟨B, 1, none⟩) hb.1]; exact hb.2.2.2.2.2.1, by rw [h.frozen (p := ⟨B, 2, none⟩) hb.1]; exact hb.2.2.2.2.2.2⟩
theorem box1_new (w : World) (a : Value) (t : TypeId) : Box1 (w.alloc (.cells #[a] t)) w.heap.size a := ⟨by simp, by simp, by simp⟩
theorem box3_new (w : World) (a b c : Value) (t : TypeId) : Box3 (w.alloc (.cells #[a, b, c] t)) w.heap.size a b c := ⟨by simp, by simp, by simp, by simp, by simp, by simp, by simp⟩

/-! ### trees -/

/-- a node: a kind, a number, the nodes below -/
inductive Tr where
  | mk (k v : Int) (kids : List Tr)

namespace Tr
def kind : Tr → Int | mk k _ _ => k
def val : Tr → Int | mk _ v _ => v
def kids : Tr → List Tr | mk _ _ ks => ks

theorem ind {P : Tr → Prop} (h : ∀ k v kids, (∀ t, t ∈ kids → P t) → P (mk k v kids)) : ∀ t, P t := by
  intro t
  refine Tr.rec (motive_1 := P) (motive_2 := fun l => ∀ t, t ∈ l → P t) ?_ ?_ ?_ t
  · intro k v kids ih; exact h k v kids ih
  · intro t ht; cases ht
  · intro a l ha hl t ht
    cases ht with
    | head => exact ha
    | tail _ h => exact hl t h

/-- both at once, for trees and for rows of trees -/
theorem both {P : Tr → Prop} {Q : List Tr → Prop} (h : ∀ k v kids, Q kids → P (mk k v kids)) (h0 : Q []) (h1 : ∀ t ts, P t → Q ts → Q (t :: ts)) : (∀ t, P t) ∧ ∀ l, Q l := by
  have hP : ∀ t, P t := fun t => Tr.rec (motive_1 := P) (motive_2 := Q) h h0 (fun t ts a b => h1 t ts a b) t
  refine ⟨hP, fun l => ?_⟩
  induction l with
  | nil => exact h0
  | cons t ts ih => exact h1 t ts (hP t) ih
end Tr

mutual
/-- the node's value, in world w; every row of nodes lies in a block that p allows -/
def TrIn (p : Nat → Prop) (w : World) : Tr → Value → Prop
  | .mk k v kids, x => ∃ a n c, x = .agg #[.int .i64 k, .int .i64 v, .slice a n c] ∧ i64 k ∧ i64 v ∧ n = kids.length ∧ n ≤ c ∧ c ≤ maxLen ∧ TrsIn p w kids a
/-- nodes that lie one behind the other from an address on -/
def TrsIn (p : Nat → Prop) (w : World) : List Tr → Option Addr → Prop
  | [], _ => True
  | t :: ts, a => ∃ b o c0 c1 c2, a = some ⟨b, o, none⟩ ∧ p b ∧ w.cell? ⟨b, o, none⟩ = some c0 ∧ w.cell? ⟨b, o + 1, none⟩ = some c1 ∧ w.cell? ⟨b, o + 2, none⟩ = some c2 ∧
      TrIn p w t (.agg #[c0, c1, c2]) ∧ TrsIn p w ts (some ⟨b, o + 3, none⟩)
end

abbrev Any : Nat → Prop := fun _ => True

theorem TrIn_mk (p : Nat → Prop) (w : World) (k v : Int) (kids : List Tr) (x : Value) : TrIn p w (.mk k v kids) x ↔ ∃ a n c, x = .agg #[.int .i64 k, .int .i64 v, .slice a n c] ∧ i64 k ∧ i64 v ∧ n = kids.length ∧ n ≤ c ∧ c ≤ maxLen ∧
      TrsIn p w kids a := by simp only [TrIn]
theorem TrsIn_cons (p : Nat → Prop) (w : World) (t : Tr) (ts : List Tr) (a : Option Addr) : TrsIn p w (t :: ts) a ↔ ∃ b o c0 c1 c2, a = some ⟨b, o, none⟩ ∧ p b ∧ w.cell? ⟨b, o, none⟩ = some c0 ∧ w.cell? ⟨b, o + 1, none⟩ = some c1 ∧ w.cell? ⟨b, o + 2, none⟩ = some c2 ∧
      TrIn p w t (.agg #[c0, c1, c2]) ∧ TrsIn p w ts (some ⟨b, o + 3, none⟩) := by simp only [TrsIn]
theorem TrsIn_nil (p : Nat → Prop) (w : World) (a : Option Addr) : TrsIn p w [] a := by simp only [TrsIn]

/-- a world that holds the same in the blocks that p allows keeps the tree; p may grow -/
theorem TrIn_frame {p q : Nat → Prop} {w w' : World} (hp : ∀ b, p b → b < w.heap.size → q b ∧ w'.heap[b]? = w.heap[b]?) :
    (∀ t x, TrIn p w t x → TrIn q w' t x) ∧ ∀ l a, TrsIn p w l a → TrsIn q w' l a := by
  refine Tr.both (P := fun t => ∀ x, TrIn p w t x → TrIn q w' t x) (Q := fun l => ∀ a, TrsIn p w l a → TrsIn q w' l a) ?_ ?_ ?_
  · intro k v kids ih x hx
    rw [TrIn_mk] at hx ⊢
    obtain ⟨a, n, c, h1, h2, h3, h4, h5, h6, h7⟩ := hx
    exact ⟨a, n, c, h1, h2, h3, h4, h5, h6, ih _ h7⟩
  · intro a _; exact TrsIn_nil _ _ _
  · intro t ts ht hts a ha
    rw [TrsIn_cons] at ha ⊢
    obtain ⟨b, o, c0, c1, c2, h1, hb, h2, h3, h4, h5, h6⟩ := ha
    obtain ⟨hq, he⟩ := hp b hb (blt h2)
    refine ⟨b, o, c0, c1, c2, h1, hq, ?_, ?_, ?_, ht _ h5, hts _ h6⟩
    · rw [World.cell?_of_block (w := w) (a := ⟨b, o, none⟩) he]; exact h2
    · rw [World.cell?_of_block (w := w) (a := ⟨b, o + 1, none⟩) he]; exact h3
    · rw [World.cell?_of_block (w := w) (a := ⟨b, o + 2, none⟩) he]; exact h4

theorem TrIn_below {p : Nat → Prop} {w w' : World} (h : Below w.heap.size w w') {t : Tr} {x : Value} (hx : TrIn p w t x) : TrIn p w' t x :=
  (TrIn_frame fun b hb hl => ⟨hb, h.block b hl⟩).1 t x hx
theorem TrsIn_below {p : Nat → Prop} {w w' : World} (h : Below w.heap.size w w') {l : List Tr} {a : Option Addr} (hx : TrsIn p w l a) : TrsIn p w' l a :=
  (TrIn_frame fun b hb hl => ⟨hb, h.block b hl⟩).2 l a hx
theorem TrIn_any {p : Nat → Prop} {w : World} {t : Tr} {x : Value} (hx : TrIn p w t x) : TrIn Any w t x :=
  (TrIn_frame fun _ _ _ => ⟨trivial, rfl⟩).1 t x hx
theorem TrsIn_any {p : Nat → Prop} {w : World} {l : List Tr} {a : Option Addr} (hx : TrsIn p w l a) : TrsIn Any w l a :=
  (TrIn_frame fun _ _ _ => ⟨trivial, rfl⟩).2 l a hx
theorem TrIn_over {p : Nat → Prop} {w : World} {t : Tr} {x : Value} (hx : TrIn p w t x) (y : Over w) : TrIn p (w.over y) t x := TrIn_below (over_below _ _) hx
theorem TrsIn_over {p : Nat → Prop} {w : World} {l : List Tr} {a : Option Addr} (hx : TrsIn p w l a) (y : Over w) : TrsIn p (w.over y) l a := TrsIn_below (over_below _ _) hx
theorem TrIn_alloc {p : Nat → Prop} {w : World} {t : Tr} {x : Value} (hx : TrIn p w t x) (o : Obj) : TrIn p (w.alloc o) t x := TrIn_below (below_alloc _ _) hx
theorem TrsIn_alloc {p : Nat → Prop} {w : World} {l : List Tr} {a : Option Addr} (hx : TrsIn p w l a) (o : Obj) : TrsIn p (w.alloc o) l a := TrsIn_below (below_alloc _ _) hx

/-- the i-th node of a row -/
theorem TrsIn_at {p : Nat → Prop} {w : World} {t : Tr} : ∀ (ts : List Tr) (b o i : Nat), TrsIn p w ts (some ⟨b, o, none⟩) → ts[i]? = some t →
    ∃ c0 c1 c2, w.cell? ⟨b, o + i * 3, none⟩ = some c0 ∧ w.cell? ⟨b, o + i * 3 + 1, none⟩ = some c1 ∧ w.cell? ⟨b, o + i * 3 + 2, none⟩ = some c2 ∧ TrIn p w t (.agg #[c0, c1, c2]) := by
  intro ts
  induction ts with
  | nil => intro b o i _ hi; simp at hi
  | cons u us ih =>
    intro b o i h hi
    rw [TrsIn_cons] at h
    obtain ⟨b', o', c0, c1, c2, h1, hb, h2, h3, h4, h5, h6⟩ := h
    obtain ⟨rfl, rfl⟩ : b = b' ∧ o = o' := by simpa using h1
    cases i with
    | zero =>
      obtain rfl : u = t := by simpa using hi
      exact ⟨c0, c1, c2, by simpa using h2, by simpa using h3, by simpa using h4, h5⟩
    | succ i =>
      have := ih b (o + 3) i h6 (by simpa using hi)
      rw [show o + 3 + i * 3 = o + (i + 1) * 3 by omega] at this
      exact this

theorem TrsIn_addr {p : Nat → Prop} {w : World} {ts : List Tr} {a : Option Addr} (h : TrsIn p w ts a) (h0 : 0 < ts.length) : ∃ b o, a = some ⟨b, o, none⟩ ∧ b < w.heap.size ∧ p b := by
  cases ts with
  | nil => simp at h0
  | cons u us =>
    rw [TrsIn_cons] at h
    obtain ⟨b, o, c0, c1, c2, h1, hb, h2, _⟩ := h
    exact ⟨b, o, h1, blt h2, hb⟩

/-- A ROUND OF A LOOP OVER A ROW: the k-th node's three cells, in a world that keeps the old one; the tree there -/
theorem TrsIn_round {p : Nat → Prop} {w wr : World} {l : List Tr} {a : Option Addr} {k : Nat} (h : TrsIn p w l a) (hb : Below w.heap.size w wr) (hk : k < l.length) :
    ∃ b o c0 c1 c2 t, a = some ⟨b, o, none⟩ ∧ b < wr.heap.size ∧ wr.cell? ⟨b, o + k * 3, none⟩ = some c0 ∧ wr.cell? ⟨b, o + k * 3 + 1, none⟩ = some c1 ∧ wr.cell? ⟨b, o + k * 3 + 2, none⟩ = some c2 ∧
      Hid (TrIn p wr t (.agg #[c0, c1, c2]) ∧ t ∈ l ∧ l.drop k = t :: l.drop (k + 1) ∧ l[k]? = some t) := by
  obtain ⟨b, o, rfl, hbk, _⟩ := TrsIn_addr h (by omega)
  obtain ⟨c0, c1, c2, g0, g1, g2, hT⟩ := TrsIn_at l b o k h (List.getElem?_eq_getElem hk)
  refine ⟨b, o, c0, c1, c2, l[k], rfl, Nat.lt_of_lt_of_le hbk hb.size, ?_, ?_, ?_, TrIn_below hb hT, List.getElem_mem _, List.drop_eq_getElem_cons hk, List.getElem?_eq_getElem hk⟩
  · rw [hb.cell (p := ⟨b, _, none⟩) hbk]; exact g0
  · rw [hb.cell (p := ⟨b, _, none⟩) hbk]; exact g1
  · rw [hb.cell (p := ⟨b, _, none⟩) hbk]; exact g2

theorem TrIn_kids {p : Nat → Prop} {w : World} {k v : Int} {kids : List Tr} {c0 c1 c2 : Value} (h : TrIn p w (.mk k v kids) (.agg #[c0, c1, c2])) :
    ∃ a c, c0 = .int .i64 k ∧ c1 = .int .i64 v ∧ c2 = .slice a kids.length c ∧ i64 k ∧ i64 v ∧ kids.length ≤ c ∧ c ≤ maxLen ∧ TrsIn p w kids a := by
  rw [TrIn_mk] at h
  obtain ⟨a, n, c, h1, h2, h3, rfl, h5, h6, h7⟩ := h
  simp at h1
  exact ⟨a, c, h1.1, h1.2.1, h1.2.2, h2, h3, h5, h6, h7⟩

/-! ### rows and trees of one's own: each row of nodes in a block of its own -/

/-- block R is a row of n cells at least, cell i holding f i; none is frozen -/
def Row (w : World) (R n : Nat) (f : Nat → Value) : Prop :=
  R < w.heap.size ∧ (∀ i, i < n → w.cell? ⟨R, i, none⟩ = some (f i)) ∧ ∀ i, w.frozen? ⟨R, i, none⟩ = false

theorem Row.kept {w w' : World} {R n : Nat} {f : Nat → Value} (h : Row w R n f) (hs : w.heap.size ≤ w'.heap.size) (he : w'.heap[R]? = w.heap[R]?) : Row w' R n f :=
  ⟨by have := h.1; omega, fun i hi => by rw [World.cell?_of_block (w := w) (a := ⟨R, i, none⟩) he]; exact h.2.1 i hi, fun i => by rw [World.frozen?_of_block (w := w) (a := ⟨R, i, none⟩) he]; exact h.2.2 i⟩
theorem Row.below {w w' : World} {R n : Nat} {f : Nat → Value} (h : Row w R n f) (hb : Below w.heap.size w w') : Row w' R n f := h.kept hb.size (hb.block R h.1)
theorem Row.congr {w : World} {R n : Nat} {f g : Nat → Value} (h : Row w R n f) (e : ∀ i, i < n → f i = g i) : Row w R n g := ⟨h.1, fun i hi => by rw [h.2.1 i hi, e i hi], h.2.2⟩
theorem Row.less {w : World} {R n m : Nat} {f : Nat → Value} (h : Row w R n f) (hm : m ≤ n) : Row w R m f := ⟨h.1, fun i hi => h.2.1 i (by omega), h.2.2⟩
theorem Row.set {w : World} {R n i : Nat} {f : Nat → Value} (h : Row w R n f) (hi : i < n) (v : Value) : Row (w.setCell ⟨R, i, none⟩ v) R n (fun j => if j = i then v else f j) := by
  refine ⟨by simpa using h.1, fun j hj => ?_, fun j => by rw [World.frozen?_setCell]; exact h.2.2 j⟩
  show _ = some (if j = i then v else f j)
  by_cases e : j = i
  · subst e; rw [if_pos rfl]; exact World.cell?_setCell_same _ _ _ (h.2.1 j hj)
  · rw [if_neg e, World.cell?_setCell_other]
    · exact h.2.1 j hj
    · intro h'; exact e (congrArg Addr.off h').symm

theorem Row.setOther {w : World} {R n : Nat} {f : Nat → Value} (h : Row w R n f) {a : Addr} (ha : R ≠ a.block) (v : Value) : Row (w.setCell a v) R n f :=
  h.kept (by simp) (Below.heap_setCell _ _ _ _ ha)

mutual
/-- the node's value; every row of nodes below it begins a block of its own; bs: these blocks -/
def TrOwn (w : World) : Tr → Value → List Nat → Prop
  | .mk k v kids, x, bs => ∃ a c, x = .agg #[.int .i64 k, .int .i64 v, .slice a kids.length c] ∧ i64 k ∧ i64 v ∧ kids.length ≤ c ∧ c ≤ maxLen ∧
      ((kids = [] ∧ bs = []) ∨ ∃ R f r, a = some ⟨R, 0, none⟩ ∧ bs = R :: r ∧ R ∉ r ∧ Row w R (kids.length * 3) f ∧ TrsOwn w f kids 0 r)
/-- nodes whose cells f gives from place o on -/
def TrsOwn (w : World) (f : Nat → Value) : List Tr → Nat → List Nat → Prop
  | [], _, bs => bs = []
  | t :: ts, o, bs => ∃ r1 r2, bs = r1 ++ r2 ∧ (∀ b, b ∈ r1 → b ∉ r2) ∧ TrOwn w t (.agg #[f o, f (o + 1), f (o + 2)]) r1 ∧ TrsOwn w f ts (o + 3) r2
end

theorem TrOwn_mk (w : World) (k v : Int) (kids : List Tr) (x : Value) (bs : List Nat) : TrOwn w (.mk k v kids) x bs ↔ ∃ a c, x = .agg #[.int .i64 k, .int .i64 v, .slice a kids.length c] ∧ i64 k ∧ i64 v ∧ kids.length ≤ c ∧ c ≤ maxLen ∧
      ((kids = [] ∧ bs = []) ∨ ∃ R f r, a = some ⟨R, 0, none⟩ ∧ bs = R :: r ∧ R ∉ r ∧ Row w R (kids.length * 3) f ∧ TrsOwn w f kids 0 r) := by simp only [TrOwn]
theorem TrsOwn_nil (w : World) (f : Nat → Value) (o : Nat) (bs : List Nat) : TrsOwn w f [] o bs ↔ bs = [] := by simp only [TrsOwn]
theorem TrsOwn_cons (w : World) (f : Nat → Value) (t : Tr) (ts : List Tr) (o : Nat) (bs : List Nat) : TrsOwn w f (t :: ts) o bs ↔
    ∃ r1 r2, bs = r1 ++ r2 ∧ (∀ b, b ∈ r1 → b ∉ r2) ∧ TrOwn w t (.agg #[f o, f (o + 1), f (o + 2)]) r1 ∧ TrsOwn w f ts (o + 3) r2 := by simp only [TrsOwn]

theorem Row.agree {w : World} {R n : Nat} {f : Nat → Value} (h : Row w R n f) : R < w.heap.size := h.1

/-- a world that holds the same in the tree's own blocks keeps it -/
theorem TrOwn_frame {w w' : World} (hs : w.heap.size ≤ w'.heap.size) :
    (∀ t x bs, TrOwn w t x bs → (∀ b, b ∈ bs → w'.heap[b]? = w.heap[b]?) → TrOwn w' t x bs) ∧
    (∀ l f o bs, TrsOwn w f l o bs → (∀ b, b ∈ bs → w'.heap[b]? = w.heap[b]?) → TrsOwn w' f l o bs) := by
  refine Tr.both (P := fun t => ∀ x bs, TrOwn w t x bs → (∀ b, b ∈ bs → w'.heap[b]? = w.heap[b]?) → TrOwn w' t x bs)
    (Q := fun l => ∀ f o bs, TrsOwn w f l o bs → (∀ b, b ∈ bs → w'.heap[b]? = w.heap[b]?) → TrsOwn w' f l o bs) ?_ ?_ ?_
  · intro k v kids ih x bs hx he
    rw [TrOwn_mk] at hx ⊢
    obtain ⟨a, c, h1, h2, h3, h4, h5, h6⟩ := hx
    refine ⟨a, c, h1, h2, h3, h4, h5, ?_⟩
    rcases h6 with h6 | ⟨R, f, r, g1, rfl, g3, g4, g5⟩
    · exact .inl h6
    · exact .inr ⟨R, f, r, g1, rfl, g3, g4.kept hs (he _ (by simp)), ih _ _ _ g5 fun b hb => he b (by simp [hb])⟩
  · intro f o bs h _; exact h
  · intro t ts ht hts f o bs h he
    rw [TrsOwn_cons] at h ⊢
    obtain ⟨r1, r2, rfl, hd, h1, h2⟩ := h
    exact ⟨r1, r2, rfl, hd, ht _ _ h1 fun b hb => he b (by simp [hb]), hts _ _ _ h2 fun b hb => he b (by simp [hb])⟩

theorem TrOwn_lt {w : World} : (∀ t x bs, TrOwn w t x bs → ∀ b, b ∈ bs → b < w.heap.size) ∧ (∀ l f o bs, TrsOwn w f l o bs → ∀ b, b ∈ bs → b < w.heap.size) := by
  refine Tr.both (P := fun t => ∀ x bs, TrOwn w t x bs → ∀ b, b ∈ bs → b < w.heap.size) (Q := fun l => ∀ f o bs, TrsOwn w f l o bs → ∀ b, b ∈ bs → b < w.heap.size) ?_ ?_ ?_
  · intro k v kids ih x bs hx b hb
    rw [TrOwn_mk] at hx
    obtain ⟨a, c, h1, h2, h3, h4, h5, h6⟩ := hx
    rcases h6 with ⟨_, rfl⟩ | ⟨R, f, r, g1, rfl, g3, g4, g5⟩
    · simp at hb
    · rcases List.mem_cons.1 hb with rfl | hb
      · exact g4.1
      · exact ih _ _ _ g5 b hb
  · intro f o bs h b hb
    rw [TrsOwn_nil] at h; subst h; simp at hb
  · intro t ts ht hts f o bs h b hb
    rw [TrsOwn_cons] at h
    obtain ⟨r1, r2, rfl, hd, h1, h2⟩ := h
    rcases List.mem_append.1 hb with hb | hb
    · exact ht _ _ h1 b hb
    · exact hts _ _ _ h2 b hb

theorem TrOwn_below {w w' : World} (h : Below w.heap.size w w') {t : Tr} {x : Value} {bs : List Nat} (hx : TrOwn w t x bs) : TrOwn w' t x bs :=
  (TrOwn_frame h.size).1 t x bs hx fun b hb => h.block b (TrOwn_lt.1 t x bs hx b hb)
theorem TrsOwn_below {w w' : World} (h : Below w.heap.size w w') {f : Nat → Value} {l : List Tr} {o : Nat} {bs : List Nat} (hx : TrsOwn w f l o bs) : TrsOwn w' f l o bs :=
  (TrOwn_frame h.size).2 l f o bs hx fun b hb => h.block b (TrOwn_lt.2 l f o bs hx b hb)
theorem TrOwn_set {w : World} {t : Tr} {x : Value} {bs : List Nat} (hx : TrOwn w t x bs) {a : Addr} (ha : a.block ∉ bs) (v : Value) : TrOwn (w.setCell a v) t x bs :=
  (TrOwn_frame (by simp)).1 t x bs hx fun b hb => Below.heap_setCell _ _ _ _ (fun e => ha (e ▸ hb))
theorem TrsOwn_set {w : World} {f : Nat → Value} {l : List Tr} {o : Nat} {bs : List Nat} (hx : TrsOwn w f l o bs) {a : Addr} (ha : a.block ∉ bs) (v : Value) : TrsOwn (w.setCell a v) f l o bs :=
  (TrOwn_frame (by simp)).2 l f o bs hx fun b hb => Below.heap_setCell _ _ _ _ (fun e => ha (e ▸ hb))

theorem TrsOwn_congr {w : World} {f g : Nat → Value} : ∀ {l : List Tr} {o : Nat} {bs : List Nat}, TrsOwn w f l o bs → (∀ i, o ≤ i → i < o + l.length * 3 → f i = g i) → TrsOwn w g l o bs := by
  intro l
  induction l with
  | nil => intro o bs h _; exact h
  | cons t ts ih =>
    intro o bs h e
    rw [TrsOwn_cons] at h ⊢
    obtain ⟨r1, r2, rfl, hd, h1, h2⟩ := h
    simp only [List.length_cons] at e
    refine ⟨r1, r2, rfl, hd, ?_, ih h2 fun i h3 h4 => e i (by omega) (by omega)⟩
    rw [← e o (by omega) (by omega), ← e (o + 1) (by omega) (by omega), ← e (o + 2) (by omega) (by omega)]
    exact h1

theorem TrsOwn_snoc {w : World} {f : Nat → Value} {t : Tr} : ∀ {l : List Tr} {o : Nat} {bs cs : List Nat}, TrsOwn w f l o bs →
    TrOwn w t (.agg #[f (o + l.length * 3), f (o + l.length * 3 + 1), f (o + l.length * 3 + 2)]) cs → (∀ b, b ∈ bs → b ∉ cs) → TrsOwn w f (l ++ [t]) o (bs ++ cs) := by
  intro l
  induction l with
  | nil =>
    intro o bs cs h ht hd
    rw [TrsOwn_nil] at h; subst h
    rw [List.nil_append, TrsOwn_cons]
    exact ⟨cs, [], by simp, by simp, by simpa using ht, (TrsOwn_nil ..).2 rfl⟩
  | cons u us ih =>
    intro o bs cs h ht hd
    rw [TrsOwn_cons] at h
    obtain ⟨r1, r2, rfl, hd', h1, h2⟩ := h
    rw [List.cons_append, TrsOwn_cons]
    refine ⟨r1, r2 ++ cs, by simp, ?_, h1, ih h2 (by rw [List.length_cons] at ht; rw [show o + 3 + us.length * 3 = o + (us.length + 1) * 3 by omega]; exact ht) fun b hb => hd b (by simp [hb])⟩
    intro b hb hc
    rcases List.mem_append.1 hc with hc | hc
    · exact hd' b hb hc
    · exact hd b (by simp [hb]) hc

theorem TrOwn_in {w : World} {p : Nat → Prop} : (∀ t x bs, TrOwn w t x bs → (∀ b, b ∈ bs → p b) → TrIn p w t x) ∧
    (∀ l f o bs, TrsOwn w f l o bs → (∀ b, b ∈ bs → p b) → ∀ R, p R → Row w R (o + l.length * 3) f → TrsIn p w l (some ⟨R, o, none⟩)) := by
  refine Tr.both (P := fun t => ∀ x bs, TrOwn w t x bs → (∀ b, b ∈ bs → p b) → TrIn p w t x)
    (Q := fun l => ∀ f o bs, TrsOwn w f l o bs → (∀ b, b ∈ bs → p b) → ∀ R, p R → Row w R (o + l.length * 3) f → TrsIn p w l (some ⟨R, o, none⟩)) ?_ ?_ ?_
  · intro k v kids ih x bs hx hp
    rw [TrOwn_mk] at hx
    obtain ⟨a, c, h1, h2, h3, h4, h5, h6⟩ := hx
    rw [TrIn_mk]
    refine ⟨a, _, c, h1, h2, h3, rfl, h4, h5, ?_⟩
    rcases h6 with ⟨rfl, rfl⟩ | ⟨R, f, r, rfl, rfl, g3, g4, g5⟩
    · exact TrsIn_nil _ _ _
    · exact ih f 0 r g5 (fun b hb => hp b (by simp [hb])) R (hp R (by simp)) (by simpa using g4)
  · intro f o bs _ _ R _ _; exact TrsIn_nil _ _ _
  · intro t ts ht hts f o bs h hp R hR hrow
    rw [TrsOwn_cons] at h
    obtain ⟨r1, r2, rfl, hd, h1, h2⟩ := h
    simp only [List.length_cons] at hrow
    rw [TrsIn_cons]
    refine ⟨R, o, f o, f (o + 1), f (o + 2), rfl, hR, hrow.2.1 o (by omega), hrow.2.1 (o + 1) (by omega), hrow.2.1 (o + 2) (by omega), ht _ _ h1 fun b hb => hp b (by simp [hb]), hts f (o + 3) r2 h2 (fun b hb => hp b (by simp [hb])) R hR ?_⟩
    rw [show o + 3 + ts.length * 3 = o + (ts.length + 1) * 3 by omega]; exact hrow

theorem TrOwn.any {w : World} {t : Tr} {x : Value} {bs : List Nat} (h : TrOwn w t x bs) : TrIn Any w t x := TrOwn_in.1 t x bs h fun _ _ => trivial

theorem TrOwn_new {w : World} {k v : Int} {kids : List Tr} {R c : Nat} {f : Nat → Value} {bs : List Nat} (hk : i64 k) (hv : i64 v) (hc : kids.length ≤ c) (hc2 : c ≤ maxLen)
    (hrow : Row w R (kids.length * 3) f) (hown : TrsOwn w f kids 0 bs) (hR : R ∉ bs) :
    ∃ bs', TrOwn w (.mk k v kids) (.agg #[.int .i64 k, .int .i64 v, .slice (some ⟨R, 0, none⟩) kids.length c]) bs' ∧ ∀ b, b ∈ bs' → b = R ∨ b ∈ bs := by
  refine ⟨R :: bs, (TrOwn_mk ..).2 ⟨_, c, rfl, hk, hv, hc, hc2, .inr ⟨R, f, bs, rfl, rfl, hR, hrow, hown⟩⟩, fun b hb => ?_⟩
  simpa using hb
theorem TrOwn_leaf {w : World} {k v : Int} {a : Option Addr} {c : Nat} (hk : i64 k) (hv : i64 v) (hc2 : c ≤ maxLen) : TrOwn w (.mk k v []) (.agg #[.int .i64 k, .int .i64 v, .slice a 0 c]) [] :=
  (TrOwn_mk ..).2 ⟨_, c, rfl, hk, hv, by simp, hc2, .inl ⟨rfl, rfl⟩⟩

/-- a tree of the call's own: in new blocks -/
def NewTr (B : Nat) (t : Tr) (v : Value) (w' : World) : Prop := ∃ bs, TrOwn w' t v bs ∧ ∀ b, b ∈ bs → B ≤ b
theorem NewTr.any {B : Nat} {t : Tr} {v : Value} {w : World} (h : NewTr B t v w) : TrIn Any w t v := by obtain ⟨bs, h1, _⟩ := h; exact h1.any
theorem NewTr.below {B : Nat} {t : Tr} {v : Value} {w w' : World} (h : NewTr B t v w) (hb : Below w.heap.size w w') : NewTr B t v w' := by
  obtain ⟨bs, h1, h2⟩ := h; exact ⟨bs, TrOwn_below hb h1, h2⟩
theorem NewTr.mono {B B' : Nat} {t : Tr} {v : Value} {w : World} (h : NewTr B t v w) (hB : B' ≤ B) : NewTr B' t v w := by
  obtain ⟨bs, h1, h2⟩ := h; exact ⟨bs, h1, fun b hb => Nat.le_trans hB (h2 b hb)⟩
theorem TrIn_shape {p : Nat → Prop} {w : World} {t : Tr} {x : Value} (h : TrIn p w t x) : ∃ a c, x = .agg #[.int .i64 t.kind, .int .i64 t.val, .slice a t.kids.length c] := by
  cases t with
  | mk k v kids => rw [TrIn_mk] at h; obtain ⟨a, n, c, h1, _, _, rfl, _⟩ := h; exact ⟨a, c, h1⟩

/-! ### a row of nodes that is filled, node by node -/

/-- since w: block R, no block of w's, is a row for the nodes l, of which the first k are laid, each in blocks of its own behind R -/
def Fill (w : World) (R : Nat) (l : List Tr) (k : Nat) (wr : World) : Prop :=
  Below w.heap.size w wr ∧ w.heap.size ≤ R ∧ ∃ f bs, Row wr R (l.length * 3) f ∧ TrsOwn wr f (l.take k) 0 bs ∧ ∀ b, b ∈ bs → R < b

theorem Fill.bel {w wr : World} {R k : Nat} {l : List Tr} (h : Fill w R l k wr) : Below w.heap.size w wr := h.1

/-- what the walk wants of the row in a later world -/
theorem Fill.cells {w wr w2 : World} {R k : Nat} {l : List Tr} (h : Fill w R l k wr) (hk : k < l.length) (hb : Below wr.heap.size wr w2) :
    ∃ u0 u1 u2, w2.cell? ⟨R, k * 3, none⟩ = some u0 ∧ w2.cell? ⟨R, k * 3 + 1, none⟩ = some u1 ∧ w2.cell? ⟨R, k * 3 + 2, none⟩ = some u2 ∧ ∀ i, w2.frozen? ⟨R, i, none⟩ = false := by
  obtain ⟨_, _, f, bs, hr, _, _⟩ := h
  have hr2 := hr.below hb
  exact ⟨_, _, _, hr2.2.1 _ (by omega), hr2.2.1 _ (by omega), hr2.2.1 _ (by omega), hr2.2.2⟩

theorem Fill.step {w wr w2 : World} {R k : Nat} {l : List Tr} {t : Tr} {x y z : Value} (h : Fill w R l k wr) (ht : l[k]? = some t) (hnew : NewTr wr.heap.size t (.agg #[x, y, z]) w2) (hb : Below wr.heap.size wr w2) :
    Fill w R l (k + 1) (((w2.setCell ⟨R, k * 3, none⟩ x).setCell ⟨R, k * 3 + 1, none⟩ y).setCell ⟨R, k * 3 + 2, none⟩ z) := by
  obtain ⟨h1, h2, f, bs, hr, ho, hlt⟩ := h
  obtain ⟨cs, hn, hcs⟩ := hnew
  have hk : k < l.length := by
    rcases Nat.lt_or_ge k l.length with h | h
    · exact h
    · rw [List.getElem?_eq_none h] at ht; cases ht
  have hR := hr.1
  have hRb : R ∉ bs := fun e => by have := hlt R e; omega
  have hRc : R ∉ cs := fun e => by have := hcs R e; omega
  have hr2 := (((hr.below hb).set (i := k * 3) (by omega) x).set (i := k * 3 + 1) (by omega) y).set (i := k * 3 + 2) (by omega) z
  refine ⟨(((below_then h1 hb h1.size).setCell h2 _).setCell h2 _).setCell h2 _, h2, _, bs ++ cs, hr2, ?_, ?_⟩
  · have hl : l.take (k + 1) = l.take k ++ [t] := by rw [List.take_add_one, ht]; rfl
    have hlen : (l.take k).length = k := by rw [List.length_take]; omega
    rw [hl]
    refine TrsOwn_snoc ?_ ?_ ?_
    · refine TrsOwn_set (TrsOwn_set (TrsOwn_set (TrsOwn_congr (TrsOwn_below hb ho) ?_) hRb _) hRb _) hRb _
      intro i _ hi
      rw [hlen] at hi
      rw [if_neg (by omega), if_neg (by omega), if_neg (by omega)]
    · rw [hlen, Nat.zero_add, if_neg (by omega), if_neg (by omega), if_pos rfl, if_neg (by omega), if_pos rfl, if_pos rfl]
      exact TrOwn_set (TrOwn_set (TrOwn_set hn hRc _) hRc _) hRc _
    · intro b hb' hc
      have h3 := TrOwn_lt.2 _ _ _ _ ho b hb'
      have h4 := hcs b hc
      omega
  · intro b hb'
    rcases List.mem_append.1 hb' with h3 | h3
    · exact hlt b h3
    · have := hcs b h3; omega

theorem Fill.done {w wr : World} {R : Nat} {l : List Tr} {k : Nat} (h : Fill w R l k wr) (hk : l.length ≤ k) : ∃ f bs, Row wr R (l.length * 3) f ∧ TrsOwn wr f l 0 bs ∧ ∀ b, b ∈ bs → R < b := by
  obtain ⟨_, _, f, bs, hr, ho, hlt⟩ := h
  rw [List.take_of_length_le hk] at ho
  exact ⟨f, bs, hr, ho, hlt⟩

/-- a new row: what the cells hold does not matter yet -/
theorem Fill.start {w : World} {l : List Tr} {cs : Array Value} (hcs : cs.size = l.length * 3) (e : TypeId) : Fill w w.heap.size l 0 (w.alloc (.cells cs e)) := by
  refine ⟨below_alloc _ _, Nat.le_refl _, fun i => cs.getD i undef, [], ⟨by simp, fun i hi => ?_, fun i => ?_⟩, ?_, by simp⟩
  · rw [World.cell?_alloc_new]
    simp [Array.getD, hcs, hi]
  · simp
  · rw [List.take_zero, TrsOwn_nil]

/-! ### one cell of an older block has turned: 'Upd' -/

/-- w' is w with the cell R, 0 written, and new blocks -/
def Upd (w : World) (R : Nat) (v : Value) (w' : World) : Prop := Below w.heap.size (w.setCell ⟨R, 0, none⟩ v) w'

theorem heap_setCell_at (w : World) (R : Nat) (v : Value) : (w.setCell ⟨R, 0, none⟩ v).heap[R]? = (w.heap[R]?).map fun
    | .cells c elem frozen => .cells (c.setIfInBounds 0 v) elem frozen
    | o => o := by
  simp only [World.setCell, Array.getElem?_modify, if_true]
  rfl

theorem Upd.of_below {w W : World} {R : Nat} {v : Value} (hb : Below w.heap.size w W) (hR : R < w.heap.size) : Upd w R v (W.setCell ⟨R, 0, none⟩ v) := by
  refine ⟨hb.os, hb.tape, hb.output, by simpa using hb.size, fun k hk => ?_⟩
  by_cases e : k = R
  · subst e
    rw [heap_setCell_at, heap_setCell_at, hb.block k hR]
  · rw [Below.heap_setCell _ _ _ _ e, Below.heap_setCell _ _ _ _ e, hb.block k hk]
theorem Upd.of {w W : World} {R : Nat} {v : Value} (h : Below (w.setCell ⟨R, 0, none⟩ v).heap.size (w.setCell ⟨R, 0, none⟩ v) W) : Upd w R v W := by
  rw [World.size_setCell] at h; exact h
theorem Upd.trans {w W W' : World} {R : Nat} {u v : Value} (h : Upd w R u W) (h' : Upd W R v W') : Upd w R v W' := by
  have hs : w.heap.size ≤ W.heap.size := by simpa using h.size
  refine ⟨h'.os.trans h.os, h'.tape.trans h.tape, h'.output.trans h.output, ?_, fun k hk => ?_⟩
  · have := h'.size; simp at this; simp; omega
  · rw [h'.block k (by omega)]
    by_cases e : k = R
    · subst e
      rw [heap_setCell_at, h.block k hk, heap_setCell_at, heap_setCell_at, Option.map_map]
      congr 1
      funext o
      cases o <;> simp
    · rw [Below.heap_setCell _ _ _ _ e, h.block k hk, Below.heap_setCell _ _ _ _ e, Below.heap_setCell _ _ _ _ e]
theorem Upd.self {w : World} {R : Nat} {v : Value} (h : w.cell? ⟨R, 0, none⟩ = some v) : Upd w R v w := by
  refine ⟨rfl, rfl, rfl, by simp, fun k hk => ?_⟩
  by_cases e : k = R
  · subst e
    rw [heap_setCell_at]
    unfold World.cell? at h
    cases ho : w.heap[k]? with
    | none => rfl
    | some o =>
      cases o with
      | cells c t f =>
        have h2 : c[0]? = some v := by simpa [ho] using h
        have h5 : c.setIfInBounds 0 v = c := by
          apply Array.ext_getElem?
          intro i
          rw [Array.getElem?_setIfInBounds]
          by_cases e : 0 = i
          · subst e
            rw [if_pos rfl, h2, if_pos]
            exact (Array.getElem?_eq_some_iff.1 h2).1
          · rw [if_neg e]
        simp only [Option.map_some, h5]
      | _ => rfl
  · rw [Below.heap_setCell _ _ _ _ e]
theorem Upd.more {w W W' : World} {R : Nat} {v : Value} (h : Upd w R v W) (h' : Below W.heap.size W W') : Upd w R v W' :=
  Below.trans h (h'.mono (by simpa using h.size))
theorem Upd.trans_below {w W W' : World} {R : Nat} {v : Value} (h : Upd w R v (W.setCell ⟨R, 0, none⟩ v)) (h' : Upd W R v W') : Upd w R v W' :=
  Below.trans h (Below.mono h' (by simpa using h.size))
theorem Upd.new {w W W' : World} {R : Nat} {v : Value} (h : Upd W R v W') (hb : Below w.heap.size w W) (hR : w.heap.size ≤ R) : Below w.heap.size w W' :=
  (below_s hb (p := ⟨R, 0, none⟩) hR v).trans (Below.mono h hb.size)
theorem Upd.cell {w W : World} {R : Nat} {u v : Value} (h : Upd w R v W) (hc : w.cell? ⟨R, 0, none⟩ = some u) : W.cell? ⟨R, 0, none⟩ = some v := by
  rw [Below.cell h (p := ⟨R, 0, none⟩) (blt hc)]
  exact World.cell?_setCell_same _ _ _ hc
theorem Upd.other {w W : World} {R b o : Nat} {v : Value} (h : Upd w R v W) (hb : b < w.heap.size) (hne : b ≠ R) : W.cell? ⟨b, o, none⟩ = w.cell? ⟨b, o, none⟩ := by
  rw [Below.cell h (p := ⟨b, o, none⟩) hb]
  exact World.cell?_setCell_other _ _ _ _ (fun e => hne (by simpa using (congrArg Addr.block e).symm))
theorem Upd.frozen {w W : World} {R b o : Nat} {v : Value} (h : Upd w R v W) (hb : b < w.heap.size) : W.frozen? ⟨b, o, none⟩ = w.frozen? ⟨b, o, none⟩ := by
  rw [Below.frozen h (p := ⟨b, o, none⟩) hb]; simp
theorem Upd.size {w W : World} {R : Nat} {v : Value} (h : Upd w R v W) : w.heap.size ≤ W.heap.size := by simpa using Below.size h
theorem Upd.block {w W : World} {R b : Nat} {v : Value} (h : Upd w R v W) (hb : b < w.heap.size) (hne : b ≠ R) : W.heap[b]? = w.heap[b]? := by
  rw [Below.block h b hb, Below.heap_setCell _ _ _ _ hne]
theorem TrIn_upd {p : Nat → Prop} {w W : World} {R : Nat} {v : Value} (h : Upd w R v W) (hp : ∀ b, p b → b ≠ R) {t : Tr} {x : Value} (hx : TrIn p w t x) : TrIn p W t x :=
  (TrIn_frame fun b hb hl => ⟨hb, h.block hl (hp b hb)⟩).1 t x hx
theorem TrsIn_upd {p : Nat → Prop} {w W : World} {R : Nat} {v : Value} (h : Upd w R v W) (hp : ∀ b, p b → b ≠ R) {l : List Tr} {a : Option Addr} (hx : TrsIn p w l a) : TrsIn p W l a :=
  (TrIn_frame fun b hb hl => ⟨hb, h.block hl (hp b hb)⟩).2 l a hx
/-- a tree of the old world lies in none of the new blocks -/
theorem TrIn_old {w : World} {t : Tr} {x : Value} (hx : TrIn Any w t x) : TrIn (fun b => b < w.heap.size) w t x := (TrIn_frame fun _ _ hl => ⟨hl, rfl⟩).1 t x hx
theorem TrIn_mono {p q : Nat → Prop} {w : World} (h : ∀ b, p b → q b) {t : Tr} {x : Value} (hx : TrIn p w t x) : TrIn q w t x := (TrIn_frame fun b hb _ => ⟨h b hb, rfl⟩).1 t x hx

end Go.Proofs.Ythjhokifonjeaaa
namespace Go.Proofs.Ythjhokifonjeaaa
open Go.RowKit

/-- the worlds that keep all but block D -/
structure But (w : World) (D : Nat) (w' : World) : Prop where
  os : w'.os = w.os
  tape : w'.tape = w.tape
  output : w'.output = w.output
  size : w.heap.size ≤ w'.heap.size
  block : ∀ k, k < w.heap.size → k ≠ D → w'.heap[k]? = w.heap[k]?

theorem But.of {w w' : World} {D : Nat} (h : Below w.heap.size w w') : But w D w' := ⟨h.os, h.tape, h.output, h.size, fun k hk _ => h.block k hk⟩
theorem But.refl (w : World) (D : Nat) : But w D w := ⟨rfl, rfl, rfl, Nat.le_refl _, fun _ _ _ => rfl⟩
theorem But.trans {a b c : World} {D : Nat} (h : But a D b) (k : But b D c) : But a D c :=
  ⟨k.os.trans h.os, k.tape.trans h.tape, k.output.trans h.output, Nat.le_trans h.size k.size, fun i hi hd => (k.block i (Nat.lt_of_lt_of_le hi h.size) hd).trans (h.block i hi hd)⟩
theorem But.set (w : World) (D o : Nat) (v : Value) : But w D (w.setCell ⟨D, o, none⟩ v) := ⟨rfl, rfl, rfl, by simp, fun k _ hd => Below.heap_setCell _ _ _ _ hd⟩
theorem But.drewN {w w' : World} {D : Nat} (h : But w D w') (n : Nat) : But w D (w'.drewN n) := ⟨h.os, h.tape, h.output, h.size, h.block⟩
theorem But.cell {w w' : World} {D b o : Nat} (h : But w D w') (hb : b < w.heap.size) (hd : b ≠ D) : w'.cell? ⟨b, o, none⟩ = w.cell? ⟨b, o, none⟩ := World.cell?_of_block (w := w) (h.block b hb hd)
theorem But.frozen {w w' : World} {D b o : Nat} (h : But w D w') (hb : b < w.heap.size) (hd : b ≠ D) : w'.frozen? ⟨b, o, none⟩ = w.frozen? ⟨b, o, none⟩ := World.frozen?_of_block (w := w) (h.block b hb hd)
/-- below a block that is new since w, all is kept -/
theorem But.new {w W W' : World} {D : Nat} (h : But W D W') (hb : Below w.heap.size w W) (hD : w.heap.size ≤ D) : Below w.heap.size w W' :=
  hb.trans ⟨h.os, h.tape, h.output, h.size, fun k hk => h.block k (Nat.lt_of_lt_of_le hk hb.size) (by omega)⟩
theorem TrIn_but {p : Nat → Prop} {w W : World} {D : Nat} (h : But w D W) (hp : ∀ b, p b → b ≠ D) {t : Tr} {x : Value} (hx : TrIn p w t x) : TrIn p W t x :=
  (TrIn_frame fun b hb hl => ⟨hb, h.block b hl (hp b hb)⟩).1 t x hx
theorem TrOwn_but {w W : World} {D : Nat} (h : But w D W) {t : Tr} {x : Value} {bs : List Nat} (hD : D ∉ bs) (hx : TrOwn w t x bs) : TrOwn W t x bs :=
  (TrOwn_frame h.size).1 t x bs hx fun b hb => h.block b (TrOwn_lt.1 t x bs hx b hb) (fun e => hD (e ▸ hb))
theorem box1_but {w w' : World} {D : Nat} (h : But w D w') {B : Nat} {a : Value} (hd : B ≠ D) (hb : Box1 w B a) : Box1 w' B a :=
  ⟨Nat.lt_of_lt_of_le hb.1 h.size, by rw [h.cell hb.1 hd]; exact hb.2.1, by rw [h.frozen hb.1 hd]; exact hb.2.2⟩
theorem box3_but {w w' : World} {D : Nat} (h : But w D w') {B : Nat} {a b c : Value} (hd : B ≠ D) (hb : Box3 w B a b c) : Box3 w' B a b c :=
  ⟨Nat.lt_of_lt_of_le hb.1 h.size, by rw [h.cell hb.1 hd]; exact hb.2.1, by rw [h.cell hb.1 hd]; exact hb.2.2.1, by rw [h.cell hb.1 hd]; exact hb.2.2.2.1,
    by rw [h.frozen hb.1 hd]; exact hb.2.2.2.2.1, by rw [h.frozen hb.1 hd]; exact hb.2.2.2.2.2.1, by rw [h.frozen hb.1 hd]; exact hb.2.2.2.2.2.2⟩

theorem But.drew {w w' : World} {D : Nat} (h : But w D w') : But w D w'.drew := ⟨h.os, h.tape, h.output, h.size, h.block⟩
theorem But.next {w w1 w2 : World} {D : Nat} (h : But w D w1) (k : Below w1.heap.size w1 w2) : But w D w2 := h.trans (But.of k)

/-- the worlds that keep all blocks below B but R -/
structure ButX (B R : Nat) (w w' : World) : Prop where
  os : w'.os = w.os
  tape : w'.tape = w.tape
  output : w'.output = w.output
  size : w.heap.size ≤ w'.heap.size
  block : ∀ k, k < B → k ≠ R → w'.heap[k]? = w.heap[k]?
theorem ButX.refl (B R : Nat) (w : World) : ButX B R w w := ⟨rfl, rfl, rfl, Nat.le_refl _, fun _ _ _ => rfl⟩
theorem ButX.trans {B R : Nat} {a b c : World} (h : ButX B R a b) (k : ButX B R b c) : ButX B R a c :=
  ⟨k.os.trans h.os, k.tape.trans h.tape, k.output.trans h.output, Nat.le_trans h.size k.size, fun i hi hd => (k.block i hi hd).trans (h.block i hi hd)⟩
theorem ButX.but {B R : Nat} {w w' : World} (h : But w R w') (hB : B ≤ w.heap.size) : ButX B R w w' := ⟨h.os, h.tape, h.output, h.size, fun k hk hd => h.block k (Nat.lt_of_lt_of_le hk hB) hd⟩
theorem ButX.below {B R : Nat} {w w' : World} (h : Below w.heap.size w w') (hB : B ≤ w.heap.size) : ButX B R w w' := ButX.but (But.of h) hB
theorem ButX.to {R : Nat} {w w' : World} (h : ButX w.heap.size R w w') : But w R w' := ⟨h.os, h.tape, h.output, h.size, h.block⟩
theorem ButX.mono {B B' R : Nat} {w w' : World} (h : ButX B R w w') (hB : B' ≤ B) : ButX B' R w w' := ⟨h.os, h.tape, h.output, h.size, fun k hk hd => h.block k (Nat.lt_of_lt_of_le hk hB) hd⟩
theorem ButX.grown {B R : Nat} {a b c : World} {row : Option Nat} (h : ButX B R a b) (hg : b.grownBy c row) (hr : ∀ k, row = some k → B ≤ k) (hB : B ≤ b.heap.size) : ButX B R a c :=
  h.trans ⟨hg.os, hg.tape, hg.output, hg.size, fun k hk _ => hg.block k (Nat.lt_of_lt_of_le hk hB) (fun e => by have := hr k e.symm; omega)⟩
theorem ButX.set {B R : Nat} (w : World) {a : Addr} (ha : B ≤ a.block ∨ a.block = R) (v : Value) : ButX B R w (w.setCell a v) := ⟨rfl, rfl, rfl, by simp, fun k hk hd => Below.heap_setCell _ _ _ _ (by rcases ha with h | h <;> omega)⟩
theorem ButX.cell {B R : Nat} {w w' : World} (h : ButX B R w w') {b o : Nat} (hb : b < B) (hd : b ≠ R) : w'.cell? ⟨b, o, none⟩ = w.cell? ⟨b, o, none⟩ := World.cell?_of_block (w := w) (h.block b hb hd)
theorem ButX.frozen {B R : Nat} {w w' : World} (h : ButX B R w w') {b o : Nat} (hb : b < B) (hd : b ≠ R) : w'.frozen? ⟨b, o, none⟩ = w.frozen? ⟨b, o, none⟩ := World.frozen?_of_block (w := w) (h.block b hb hd)
theorem box1_butx {B R : Nat} {w w' : World} (h : ButX B R w w') {b : Nat} {a : Value} (hl : b < B) (hd : b ≠ R) (hb : Box1 w b a) : Box1 w' b a :=
  ⟨Nat.lt_of_lt_of_le hb.1 h.size, by rw [h.cell hl hd]; exact hb.2.1, by rw [h.frozen hl hd]; exact hb.2.2⟩
theorem box3_butx {B R : Nat} {w w' : World} (h : ButX B R w w') {b : Nat} {x y z : Value} (hl : b < B) (hd : b ≠ R) (hb : Box3 w b x y z) : Box3 w' b x y z :=
  ⟨Nat.lt_of_lt_of_le hb.1 h.size, by rw [h.cell hl hd]; exact hb.2.1, by rw [h.cell hl hd]; exact hb.2.2.1, by rw [h.cell hl hd]; exact hb.2.2.2.1,
    by rw [h.frozen hl hd]; exact hb.2.2.2.2.1, by rw [h.frozen hl hd]; exact hb.2.2.2.2.2.1, by rw [h.frozen hl hd]; exact hb.2.2.2.2.2.2⟩

def OverX (w : World) (B R : Nat) : Type := { w' : World // ButX B R w w' }
def _root_.Go.World.overX (w : World) (B R : Nat) (x : OverX w B R) : World := x.1
theorem overX_but (w : World) (B R : Nat) (x : OverX w B R) : ButX B R w (w.overX B R x) := x.2
instance overX_some (w : World) (B R : Nat) : Nonempty (OverX w B R) := ⟨⟨w, ButX.refl _ _ _⟩⟩
theorem ButX.ex {B R : Nat} {w w' : World} (h : ButX B R w w') : ∃ x, w' = w.overX B R x := ⟨⟨w', h⟩, rfl⟩
theorem overX_cell (w : World) (B R : Nat) (x : OverX w B R) (b o : Nat) (h : b < B) (hd : b ≠ R) : (w.overX B R x).cell? ⟨b, o, none⟩ = w.cell? ⟨b, o, none⟩ := x.2.cell h hd
theorem ButX.drew {B R : Nat} {w w' : World} (h : ButX B R w w') : ButX B R w w'.drew := ⟨h.os, h.tape, h.output, h.size, h.block⟩
theorem ButX.next {B R : Nat} {w w1 w2 : World} (h : ButX B R w w1) (k : Below w1.heap.size w1 w2) (hB : B ≤ w1.heap.size) : ButX B R w w2 := h.trans (ButX.below k hB)
attribute [irreducible] World.overX OverX

section
variable {P : Program} {ops : Array Oper} {Q : Exit → Act → World → Prop} {md : Region.Mode} {C : World → Prop} {z : Nat}

/-- whatever order is picked; C holds behind each operation but number z -/
def AnyT (P : Program) (md : Region.Mode) (ops : Array Oper) (Q : Exit → Act → World → Prop) (C : World → Prop) (z : Nat) : Nat → Array Bool → Act → World → Prop
  | 0, listed, a, w => Region.ready md ops listed = [] ∧ Q .normal a w
  | n + 1, listed, a, w => (Region.ready md ops listed = [] → Q .normal a w) ∧ ∀ i, i ∈ Region.ready md ops listed →
      wpOp P ops Q i (fun a' w' => (i ≠ z → C w') ∧ AnyT P md ops Q C z n (listed.setIfInBounds i true) a' w') a w

theorem AnyT.sound : ∀ (n : Nat) (listed : Array Bool) (a : Act) (w : World), AnyT P md ops Q C z n listed a w → wpAny P md ops Q n listed a w
  | 0, _, _, _, h => h
  | n + 1, _, _, _, h => ⟨h.1, fun i hi => wpOp_mono (fun a' w' h' => AnyT.sound n _ a' w' h'.2) (h.2 i hi)⟩

/-- operation z waits for operation i -/
def waits (md : Region.Mode) (ops : Array Oper) (z i : Nat) : Bool := ((ops[z]?).map fun o => o.after.any fun e => Region.binds md e && e.on == i).getD false

theorem AnyT.take {i : Nat} {o : Oper} {v : Value} (hi : ops[i]? = some o) (hsel : Region.noSelect ops = true) (hQ : ∀ c a w, Q (.panic c) (a.put o.dst v) w → Q (.panic c) a w) (hz : waits md ops z i = true) :
    ∀ (n : Nat) (listed : Array Bool) (a : Act) (w : World),
      (∀ j oj, ops[j]? = some oj → j ≠ i → listed.getD j true = false → (∀ e ∈ oj.after, Region.binds md e = true → e.on ≠ i) → o.apart ops oj = true) →
      i ∈ Region.ready md ops listed → YieldsIf P ops C o v a → C w → AnyT P md ops Q C z n (listed.setIfInBounds i true) (a.put o.dst v) w → AnyT P md ops Q C z (n + 1) listed a w := by
  intro n
  induction n with
  | zero =>
    intro listed a w _ hr hy hC H
    refine ⟨fun h => by (rw [h] at hr; cases hr), fun j hj => ?_⟩
    by_cases e : j = i
    · subst e; exact hy.wpOp hi hC ⟨fun _ => hC, H⟩
    · have h1 := ready_mono hj e
      rw [H.1] at h1; cases h1
  | succ n ih =>
    intro listed a w hfree hr hy hC H
    refine ⟨fun h => by (rw [h] at hr; cases hr), fun j hj => ?_⟩
    by_cases e : j = i
    · subst e; exact hy.wpOp hi hC ⟨fun _ => hC, H⟩
    · have h1 := H.2 j (ready_mono hj e)
      obtain ⟨hun, oj, hoj, hall⟩ := mem_ready.1 hj
      have hno : ∀ x ∈ oj.after, Region.binds md x = true → x.on ≠ i := fun x hx hb he => by
        have h2 := hall x hx hb
        have h3 := (mem_ready.1 hr).1
        rw [he] at h2
        rcases Nat.lt_or_ge i listed.size with h4 | h4
        · simp [h4] at h2 h3; rw [h3] at h2; cases h2
        · simp [Array.getElem?_eq_none h4] at h2
      have hjz : j ≠ z := fun hjz => by
        subst hjz
        unfold waits at hz
        rw [hoj] at hz
        simp only [Option.map_some, Option.getD_some, Array.any_eq_true] at hz
        obtain ⟨k, hk, hz⟩ := hz
        simp only [Bool.and_eq_true, beq_iff_eq] at hz
        exact hno _ (Array.getElem_mem hk) hz.1 hz.2
      have h5 := wpOp_putIf hoj (hfree j oj hoj e hun hno) (fun cs b => Region.noSelect_spec hsel i o cs b hi) (fun cs b => Region.noSelect_spec hsel j oj cs b hoj) hQ hy h1
      have hri := ready_mono (md := md) hr (Ne.symm e)
      refine wpOp_mono (fun a' w' h6 => ?_) h5
      have hCw : C w' := h6.2.1 hjz
      exact ⟨fun _ => hCw, ih (listed.setIfInBounds j true) a' w' (fun k ok hk hki hu hnk => hfree k ok hk hki (by
          by_cases hjk : j = k
          · subst hjk; exact hun
          · rw [getD_set_ne true hjk] at hu; exact hu) hnk) hri h6.1 hCw (by rw [Array.setIfInBounds_comm _ _ e]; exact h6.2.2)⟩

/-! ### the operations that only read, taken first, in a given order -/

/-- an operation that hands back a value and makes no call -/
def plainOp (o : Oper) : Bool := match o.op with
  | .move _ | .assign _ | .load .. | .binOp .. | .unOp .. | .convert .. | .fieldAddr .. | .field .. | .indexAddr .. | .index .. | .slice .. => true
  | _ => false

theorem val_bind {s : Sem Value} {w w' : World} {n : Next} (hr : Sem.run P (do pure (.value (← s))) w = .ok n w') : ∃ u, n = .value u := by
  rw [Sem.run_bind] at hr
  cases hs : Sem.run P s w with
  | ok v w1 =>
    rw [hs] at hr
    simp [Result.andThen, pure] at hr
    exact ⟨v, hr.1.symm⟩
  | halt h w1 =>
    rw [hs] at hr
    simp [Result.andThen] at hr

theorem plain_value {o : Oper} (h : plainOp o = true) {ρ : Operand → Value} {w w' : World} {n : Next} (hr : Sem.run P (execOp ρ o) w = .ok n w') : ∃ u, n = .value u := by
  obtain ⟨dst, op, ty, pos, after, guard⟩ := o
  cases op <;> simp only [plainOp] at h <;> (try cases h) <;> unfold execOp at hr <;> dsimp only at hr
  all_goals first
    | exact val_bind hr
    | (simp [pure] at hr; exact ⟨_, hr.1.symm⟩)

/-- the operations of some numbers -/
def pick (l : List Oper) : List Nat → List Oper
  | [] => []
  | i :: r => match l[i]? with
    | some o => o :: pick l r
    | none => pick l r
theorem pick_cons {l : List Oper} {i : Nat} {r : List Nat} {o : Oper} (h : l[i]? = some o) : pick l (i :: r) = o :: pick l r := by
  simp only [pick, h]

/-- each of these may be taken first, one behind the other -/
def preB (md : Region.Mode) (l : List Oper) (z : Nat) : List Nat → Array Bool → Bool
  | [], _ => true
  | i :: r, listed => (Region.ready md l.toArray listed).contains i && (Region.free md l.toArray listed i && (waits md l.toArray z i && (((l[i]?).map plainOp).getD false && preB md l z r (listed.setIfInBounds i true))))
def marked : List Nat → Array Bool → Array Bool
  | [], listed => listed
  | i :: r, listed => marked r (listed.setIfInBounds i true)
/-- these come up in this order alone -/
def tailB (md : Region.Mode) (l : List Oper) : List Nat → Array Bool → Bool
  | [], listed => (Region.ready md l.toArray listed).isEmpty
  | i :: r, listed => (Region.ready md l.toArray listed) == [i] && ((l[i]?).isSome && tailB md l r (listed.setIfInBounds i true))

theorem AnyT.pre {l : List Oper} {n : Nat} {w : World} (hsel : Region.noSelect l.toArray = true) (hQ : ∀ d v c a w, Q (.panic c) (Act.put a d v) w → Q (.panic c) a w) (hC : C w) :
    ∀ (I : List Nat) (listed : Array Bool) (a : Act), preB md l z I listed = true → wpQuiet P l.toArray C (fun a' => AnyT P md l.toArray Q C z n (marked I listed) a' w) (pick l I) a → AnyT P md l.toArray Q C z (n + I.length) listed a w := by
  intro I
  induction I with
  | nil => intro listed a _ h; exact h
  | cons i r ih =>
    intro listed a hB h
    simp only [preB, Bool.and_eq_true] at hB
    obtain ⟨h1, h2, h3, h4, h5⟩ := hB
    cases ho : l[i]? with
    | none => rw [ho] at h4; simp at h4
    | some o =>
      rw [ho] at h4
      simp only [Option.map_some, Option.getD_some] at h4
      rw [pick_cons ho] at h
      have hoa : l.toArray[i]? = some o := by simpa using ho
      unfold wpQuiet at h
      have hgo : ∀ v, YieldsIf P l.toArray C o v a → wpQuiet P l.toArray C (fun a' => AnyT P md l.toArray Q C z n (marked r (listed.setIfInBounds i true)) a' w) (pick l r) (a.put o.dst v) → AnyT P md l.toArray Q C z (n + (i :: r).length) listed a w := fun v hy hr =>
        AnyT.take hoa hsel (fun c a w => hQ _ _ c a w) h3 _ listed a w (Region.free_spec hoa h2) (by simpa using h1) hy hC (ih _ _ h5 hr)
      split at h
      · rename_i hw
        obtain ⟨v, hv, hr⟩ := h
        refine hgo v (.inl ⟨hw, fun w1 hw1 => ?_⟩) hr
        have hq := hv w1 hw1
        unfold Oper.quietAt at hq
        cases hrun : Sem.run P (execOp a.eval o) w1 with
        | ok nx w2 =>
          obtain ⟨u, rfl⟩ := plain_value h4 hrun
          rw [hrun] at hq
          simp only [Oper.quietUpon] at hq
          rw [hq.1, hq.2]
        | halt hh w2 => rw [hrun] at hq; simp only [Oper.quietUpon] at hq
      · rename_i hw
        exact hgo undef (.inr ⟨by simpa using hw, rfl⟩) h

/-- the tail, an operation at a time; C is shown behind each but the last -/
def tailW (P : Program) (ops : Array Oper) (Q : Exit → Act → World → Prop) (C : World → Prop) : List Oper → Act → World → Prop
  | [], a, w => Q .normal a w
  | [o], a, w => wpList P ops Q [o] a w
  | o :: r, a, w => wpList P ops (Exit.then (fun a' w' => C w' ∧ tailW P ops Q C r a' w') Q) [o] a w

theorem wp_then {o : Oper} {a : Act} {w : World} {K : Act → World → Prop} (h : o.wp P a w (wpList P ops (Exit.then K Q) []) (Exit.then K Q)) : o.wp P a w K Q := by
  unfold Oper.wp at h ⊢
  generalize Sem.run P (execOp a.eval o) w = r at h ⊢
  cases r with
  | ok n w' =>
    cases n <;> simp only [Oper.upon] at h ⊢ <;> first | exact h | exact Calls.mono h fun e w'' he => by (cases e <;> exact he)
  | halt x w' => cases x <;> simp only [Oper.upon] at h ⊢ <;> exact h

theorem op_then {i : Nat} {o : Oper} {a : Act} {w : World} {K : Act → World → Prop} (hi : ops[i]? = some o) (h : wpList P ops (Exit.then K Q) [o] a w) : wpOp P ops Q i K a w := by
  unfold wpOp
  unfold wpList at h
  simp only [hi]
  split at h
  · rename_i hw; rw [if_pos hw]; exact h.imp wp_then id
  · rename_i hw; rw [if_neg hw]; exact h

theorem op_last {i : Nat} {o : Oper} {a : Act} {w : World} (hi : ops[i]? = some o) (h : wpList P ops Q [o] a w) : wpOp P ops Q i (Q .normal) a w := by
  unfold wpOp
  unfold wpList at h
  simp only [hi]
  split at h
  · rename_i hw; rw [if_pos hw]; exact h
  · rename_i hw; rw [if_neg hw]; exact h

theorem AnyT.tail {l : List Oper} : ∀ (J : List Nat) (listed : Array Bool) (a : Act) (w : World), tailB md l J listed = true → J.getLast? = some z → tailW P l.toArray Q C (pick l J) a w → AnyT P md l.toArray Q C z J.length listed a w := by
  intro J
  induction J with
  | nil => intro listed a w _ h; cases h
  | cons i r ih =>
    intro listed a w hB hz h
    simp only [tailB, Bool.and_eq_true, beq_iff_eq] at hB
    obtain ⟨h1, h2, h3⟩ := hB
    cases ho : l[i]? with
    | none => rw [ho] at h2; cases h2
    | some o =>
      have hoa : l.toArray[i]? = some o := by simpa using ho
      rw [pick_cons ho] at h
      refine ⟨fun hn => by (rw [h1] at hn; cases hn), fun j hj => ?_⟩
      rw [h1] at hj
      obtain rfl : j = i := by simpa using hj
      cases r with
      | nil =>
        obtain rfl : j = z := by simpa using hz
        simp only [pick, tailW] at h
        simp only [tailB, List.isEmpty_iff] at h3
        exact wpOp_mono (fun a' w' hq => ⟨fun hne => absurd rfl hne, h3, hq⟩) (op_last hoa h)
      | cons k r =>
        have hk : ∃ o2, l[k]? = some o2 := by
          simp only [tailB, Bool.and_eq_true] at h3
          exact Option.isSome_iff_exists.1 h3.2.1
        obtain ⟨o2, ho2⟩ := hk
        rw [pick_cons ho2] at h
        simp only [tailW] at h
        rw [← pick_cons ho2] at h
        exact wpOp_mono (fun a' w' hq => ⟨fun _ => hq.1, ih _ a' w' h3 (by simpa using hz) hq.2⟩) (op_then hoa h)

/-- **A REGION THAT DRAWS: ITS READS FIRST (I), THEN ITS TAIL (J)** -/
theorem wp_region_tail {id : Nat} {a : Act} {w : World} {l : List Oper} (I J : List Nat) (z : Nat) (hm : P.follows .mixedOrders = true)
    (hB : (Region.noSelect l.toArray && (preB .any l z I (Array.replicate l.length false) && (tailB .any l J (marked I (Array.replicate l.length false)) && (J.getLast? == some z && decide (J.length + I.length = l.length))))) = true)
    (hQ : ∀ d v c a w, Q (.panic c) (Act.put a d v) w → Q (.panic c) a w) (hC : C w.drew)
    (h : wpQuiet P l.toArray C (fun a' => tailW P l.toArray Q C (pick l J) a' w.drew) (pick l I) a) : (Code.region id l.toArray true).wp P Q a w := by
  simp only [Bool.and_eq_true, beq_iff_eq, decide_eq_true_eq] at hB
  obtain ⟨h1, h2, h3, h4, h5⟩ := hB
  refine wp_region_any hm (AnyT.sound (C := C) (z := z) _ _ _ _ ?_)
  have := AnyT.pre (n := J.length) h1 hQ hC I _ a h2 (wpQuiet_mono' (fun a' ha => AnyT.tail J _ a' _ h3 h4 ha) _ _ h)
  rw [h5] at this
  simpa using this

end
end Go.Proofs.Ythjhokifonjeaaa
