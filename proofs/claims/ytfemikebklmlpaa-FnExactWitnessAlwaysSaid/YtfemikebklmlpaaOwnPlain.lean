/- Rows of one's own: a node replaced, in its own blocks; the numbers that mark[[T]] writes. Conditions: none. -/
import Derived.Test.YtfemikebklmlpaaMem
import Derived.Test.YtfemikebklmlpaaValidPlain
namespace Go.Proofs.Ytfemikebklmlpaa
open Go.RowKit

/-- all blocks but those of a list are kept -/
structure Only (S : List Nat) (w w' : World) : Prop where
  os : w'.os = w.os
  tape : w'.tape = w.tape
  output : w'.output = w.output
  size : w.heap.size ≤ w'.heap.size
  block : ∀ b, b < w.heap.size → b ∉ S → w'.heap[b]? = w.heap[b]?
theorem Only.refl (S : List Nat) (w : World) : Only S w w := ⟨rfl, rfl, rfl, Nat.le_refl _, fun _ _ _ => rfl⟩
theorem Only.trans {S : List Nat} {a b c : World} (h : Only S a b) (k : Only S b c) : Only S a c :=
  ⟨k.os.trans h.os, k.tape.trans h.tape, k.output.trans h.output, Nat.le_trans h.size k.size, fun i hi hd => (k.block i (Nat.lt_of_lt_of_le hi h.size) hd).trans (h.block i hi hd)⟩
theorem Only.mono {S S' : List Nat} {w w' : World} (h : Only S w w') (hs : ∀ b, b ∈ S → b ∈ S') : Only S' w w' := ⟨h.os, h.tape, h.output, h.size, fun b hb hn => h.block b hb (fun e => hn (hs b e))⟩
theorem Only.below {S : List Nat} {w w' : World} (h : Below w.heap.size w w') : Only S w w' := ⟨h.os, h.tape, h.output, h.size, fun b hb _ => h.block b hb⟩
theorem Only.set {S : List Nat} {w w' : World} (h : Only S w w') {a : Addr} (ha : a.block ∈ S) (v : Value) : Only S w (w'.setCell a v) :=
  ⟨h.os, h.tape, h.output, by simpa using h.size, fun b hb hn => by rw [Below.heap_setCell _ _ _ _ (show b ≠ a.block from fun e => hn (by rw [e]; exact ha))]; exact h.block b hb hn⟩
/-- the blocks are new since an older world -/
theorem Only.new {S : List Nat} {w W W' : World} (h : Only S W W') (hb : Below w.heap.size w W) (hs : ∀ b, b ∈ S → w.heap.size ≤ b) : Below w.heap.size w W' :=
  hb.trans ⟨h.os, h.tape, h.output, h.size, fun k hk => h.block k (Nat.lt_of_lt_of_le hk hb.size) (fun e => by have := hs k e; omega)⟩
theorem TrOwn_only {S : List Nat} {w w' : World} (h : Only S w w') {t : Tr} {x : Value} {bs : List Nat} (hx : TrOwn w t x bs) (hd : ∀ b, b ∈ bs → b ∉ S) : TrOwn w' t x bs :=
  (TrOwn_frame h.size).1 t x bs hx fun b hb => h.block b (TrOwn_lt.1 t x bs hx b hb) (hd b hb)

/-- a row of nodes, each in blocks of its own -/
def RowOf (w : World) (l : List Tr) (a : Option Addr) (bs : List Nat) : Prop :=
  (l = [] ∧ bs = []) ∨ ∃ R f r, a = some ⟨R, 0, none⟩ ∧ bs = R :: r ∧ R ∉ r ∧ Row w R (l.length * 3) f ∧ TrsOwn w f l 0 r

theorem TrOwn_row {w : World} {k v : Int} {kids : List Tr} {x : Value} {bs : List Nat} (h : TrOwn w (.mk k v kids) x bs) :
    ∃ a c, x = .agg #[.int .i64 k, .int .i64 v, .slice a kids.length c] ∧ i64 k ∧ i64 v ∧ kids.length ≤ c ∧ c ≤ maxLen ∧ RowOf w kids a bs := (TrOwn_mk ..).1 h
theorem row_TrOwn {w : World} {k v : Int} {kids : List Tr} {a : Option Addr} {c : Nat} {bs : List Nat} (h1 : i64 k) (h2 : i64 v) (h3 : kids.length ≤ c) (h4 : c ≤ maxLen) (h : RowOf w kids a bs) :
    TrOwn w (.mk k v kids) (.agg #[.int .i64 k, .int .i64 v, .slice a kids.length c]) bs := (TrOwn_mk ..).2 ⟨a, c, rfl, h1, h2, h3, h4, h⟩

/-- A NODE OF A ROW, AND WHAT MAY STAND IN ITS PLACE -/
theorem TrsOwn_replace {w : World} {f : Nat → Value} {t : Tr} : ∀ (l1 : List Tr) (l2 : List Tr) (o : Nat) (bs : List Nat), TrsOwn w f (l1 ++ t :: l2) o bs →
    ∃ r, (∀ b, b ∈ r → b ∈ bs) ∧ TrOwn w t (.agg #[f (o + l1.length * 3), f (o + l1.length * 3 + 1), f (o + l1.length * 3 + 2)]) r ∧
      ∀ (w' : World) (f' : Nat → Value) (t' : Tr), w.heap.size ≤ w'.heap.size → (∀ b, b ∈ bs → b ∉ r → w'.heap[b]? = w.heap[b]?) → (∀ i, i < o + l1.length * 3 ∨ o + l1.length * 3 + 3 ≤ i → f' i = f i) →
        TrOwn w' t' (.agg #[f' (o + l1.length * 3), f' (o + l1.length * 3 + 1), f' (o + l1.length * 3 + 2)]) r → TrsOwn w' f' (l1 ++ t' :: l2) o bs := by
  intro l1
  induction l1 with
  | nil =>
    intro l2 o bs h
    rw [List.nil_append, TrsOwn_cons] at h
    obtain ⟨r1, r2, rfl, hd, h1, h2⟩ := h
    refine ⟨r1, fun b hb => by simp [hb], by simpa using h1, fun w' f' t' hs hk hf ht => ?_⟩
    rw [List.nil_append, TrsOwn_cons]
    refine ⟨r1, r2, rfl, hd, by simpa using ht, ?_⟩
    refine (TrOwn_frame hs).2 _ _ _ _ (TrsOwn_congr h2 fun i hi _ => ?_) fun b hb => hk b (by simp [hb]) (fun e => hd b e hb)
    exact (hf i (.inr (by simpa using hi))).symm
  | cons u us ih =>
    intro l2 o bs h
    rw [List.cons_append, TrsOwn_cons] at h
    obtain ⟨r1, r2, rfl, hd, h1, h2⟩ := h
    obtain ⟨r, hr, hT, hrep⟩ := ih l2 (o + 3) r2 h2
    have e : o + 3 + us.length * 3 = o + (u :: us).length * 3 := by simp; omega
    rw [e] at hT hrep
    refine ⟨r, fun b hb => by simp [hr b hb], hT, fun w' f' t' hs hk hf ht => ?_⟩
    rw [List.cons_append, TrsOwn_cons]
    refine ⟨r1, r2, rfl, hd, ?_, hrep w' f' t' hs (fun b hb hn => hk b (by simp [hb]) hn) (fun i hi => hf i (by omega)) ht⟩
    have hl : ∀ i, i < 3 → f' (o + i) = f (o + i) := fun i hi => hf _ (.inl (by simp; omega))
    have h0 := hl 0 (by omega)
    rw [Nat.add_zero] at h0
    rw [h0, hl 1 (by omega), hl 2 (by omega)]
    exact (TrOwn_frame hs).1 _ _ _ h1 fun b hb => hk b (by simp [hb]) (fun e => hd b hb (hr b e))

mutual
/-- the nodes below, numbered from k on -/
def markT : Tr → Int → Tr | .mk a b kids, k => .mk a b (markL kids k)
def markL : List Tr → Int → List Tr
  | [], _ => []
  | t :: ts, k => markN t k :: markL ts (k + 2 * nodes t)
/-- a node and those below -/
def markN : Tr → Int → Tr | .mk _ _ kids, k => .mk k (k + 1) (markL kids (k + 2))
end
theorem markL_len : ∀ (l : List Tr) (k : Int), (markL l k).length = l.length
  | [], _ => by simp [markL]
  | t :: ts, k => by simp [markL, markL_len ts]

end Go.Proofs.Ytfemikebklmlpaa
