/- append(row, a fresh node), as the region that draws its order does it: an empty node is put behind the row, and filled by a store. Conditions: none. -/
import Derived.Test.YthjhokifonjeaaaSubPlain
import Derived.Test.YthjhokifonjeaaaRegOrd
namespace Go.Proofs.Ythjhokifonjeaaa
open Go.RowKit
namespace Formula

/-- a row of one's own, an empty node behind it; the nodes of the row lie below N -/
def HalfRow (B N : Nat) (e : TypeId) (g c : Nat) (l : List Tr) (w : World) : Prop :=
  ∃ xs bs, w.ownsRow B e 3 (.slice (some ⟨g, 0, none⟩) (l.length + 1) c) (l.length + 1) (xs ++ [.int .i64 0, .int .i64 0, .slice none 0 0]) ∧ xs.length = l.length * 3 ∧ TrsOwn w (fun i => xs.getD i undef) l 0 bs ∧ (∀ b, b ∈ bs → B ≤ b ∧ b ≠ g ∧ b < N) ∧ l.length + 1 ≤ c ∧ c ≤ maxLen ∧ B ≤ g ∧ g < w.heap.size
/-- a tree of one's own, from block N on, not in block g -/
def NewTrX (N g : Nat) (t : Tr) (v : Value) (w : World) : Prop := ∃ cs, TrOwn w t v cs ∧ ∀ b, b ∈ cs → N ≤ b ∧ b ≠ g

theorem HalfRow.below {B N : Nat} {e : TypeId} {g c : Nat} {l : List Tr} {w w' : World} (h : HalfRow B N e g c l w) (hb : Below w.heap.size w w') : HalfRow B N e g c l w' := by
  obtain ⟨xs, bs, h1, h2, h3, h4, h5, h6, h7, h8⟩ := h
  exact ⟨xs, bs, ownsRow_keep h1 (Keep.below hb), h2, TrsOwn_below hb h3, h4, h5, h6, h7, Nat.lt_of_lt_of_le h8 hb.size⟩
theorem HalfRow.cells {B N : Nat} {e : TypeId} {g c : Nat} {l : List Tr} {w : World} (h : HalfRow B N e g c l w) : w.cell? ⟨g, l.length * 3, none⟩ = some (.int .i64 0) ∧ w.cell? ⟨g, l.length * 3 + 1, none⟩ = some (.int .i64 0) ∧ w.cell? ⟨g, l.length * 3 + 2, none⟩ = some (.slice none 0 0) ∧ (∀ i, w.frozen? ⟨g, i, none⟩ = false) ∧ l.length + 1 ≤ c ∧ c ≤ maxLen ∧ B ≤ g ∧ g < w.heap.size := by
  obtain ⟨xs, bs, h1, h2, h3, h4, h5, h6, h7, h8⟩ := h
  refine ⟨?_, ?_, ?_, fun i => h1.frozenAt i, h5, h6, h7, h8⟩
  · rw [h1.cellAt _ (by omega), List.getElem?_append_right (by omega), show l.length * 3 - xs.length = 0 by omega]; rfl
  · rw [h1.cellAt _ (by omega), List.getElem?_append_right (by omega), show l.length * 3 + 1 - xs.length = 1 by omega]; rfl
  · rw [h1.cellAt _ (by omega), List.getElem?_append_right (by omega), show l.length * 3 + 2 - xs.length = 2 by omega]; rfl

theorem sets3 (xs : List Value) (n : Nat) (h : xs.length = n) (u0 u1 u2 x y z : Value) : (((xs ++ [u0, u1, u2]).set n x).set (n + 1) y).set (n + 2) z = xs ++ [x, y, z] := by
  subst h
  simp

/-- the node, filled -/
theorem HalfRow.put {B N : Nat} {e : TypeId} {g c : Nat} {l : List Tr} {w : World} {t : Tr} {x y z : Value} (h : HalfRow B N e g c l w) (hB : B ≤ N) (ht : NewTrX N g t (.agg #[x, y, z]) w) :
    OwnRow B e (.slice (some ⟨g, 0, none⟩) (l.length + 1) c) (l ++ [t]) (((w.setCell ⟨g, l.length * 3, none⟩ x).setCell ⟨g, l.length * 3 + 1, none⟩ y).setCell ⟨g, l.length * 3 + 2, none⟩ z) := by
  obtain ⟨xs, bs, h1, h2, h3, h4, h5, h6, h7, h8⟩ := h
  obtain ⟨cs, t1, t2⟩ := ht
  have s1 := (((h1.stored (l.length * 3) x).1.stored (l.length * 3 + 1) y).1.stored (l.length * 3 + 2) z).1
  rw [sets3 xs _ h2] at s1
  have hgb : g ∉ bs := fun hh => (h4 g hh).2.1 rfl
  have hgc : g ∉ cs := fun hh => (t2 g hh).2 rfl
  refine ⟨xs ++ [x, y, z], bs ++ cs, by simpa using s1, TrsOwn_snoc ?_ ?_ ?_, fun b hb => ?_⟩
  · refine TrsOwn_set (TrsOwn_set (TrsOwn_set (TrsOwn_congr h3 fun i _ hi => ?_) hgb _) hgb _) hgb _
    simp only [List.getD_eq_getElem?_getD]
    rw [List.getElem?_append_left (by omega)]
  · have e0 : (xs ++ [x, y, z]).getD (0 + l.length * 3) undef = x := by
      simp only [List.getD_eq_getElem?_getD]; rw [List.getElem?_append_right (by omega), show 0 + l.length * 3 - xs.length = 0 by omega]; rfl
    have e1 : (xs ++ [x, y, z]).getD (0 + l.length * 3 + 1) undef = y := by
      simp only [List.getD_eq_getElem?_getD]; rw [List.getElem?_append_right (by omega), show 0 + l.length * 3 + 1 - xs.length = 1 by omega]; rfl
    have e2 : (xs ++ [x, y, z]).getD (0 + l.length * 3 + 2) undef = z := by
      simp only [List.getD_eq_getElem?_getD]; rw [List.getElem?_append_right (by omega), show 0 + l.length * 3 + 2 - xs.length = 2 by omega]; rfl
    rw [e0, e1, e2]
    exact TrOwn_set (TrOwn_set (TrOwn_set t1 hgc _) hgc _) hgc _
  · intro b hb hc
    have := (h4 b hb).2.2; have := (t2 b hc).1; omega
  · rcases List.mem_append.1 hb with hb | hb
    · exact ⟨(h4 b hb).1, fun e => (h4 b hb).2.1 (by simpa [Value.ownBlock] using e)⟩
    · exact ⟨by have := (t2 b hb).1; omega, fun e => (t2 b hb).2 (by simpa [Value.ownBlock] using e)⟩

theorem cell_three_box {w : World} {D : Nat} {x y z : Value} (h : Box3 w D x y z) : ∀ j u, [x, y, z][j]? = some u → w.cell? ((⟨D, 0, none⟩ : Addr).add j) = some u := by
  intro j u hj
  match j, hj with
  | 0, hj => simp at hj; subst hj; simpa [Addr.add] using h.2.1
  | 1, hj => simp at hj; subst hj; simpa [Addr.add] using h.2.2.1
  | 2, hj => simp at hj; subst hj; simpa [Addr.add] using h.2.2.2.1

/-- append(row, an empty node) -/
theorem wp_append_half {P : Program} {ops : Array Oper} {rest : List Oper} {o : Oper} {a : Act} {Q : Exit → Act → World → Prop} {wr w1 : World} {B D : Nat} {l : List Tr} {u : Value} (hgd : o.guard = none) (s xx : Operand) (t : TypeId)
    (ho : o.op = .call { callee := .builtin .append, args := #[s, xx], argTypes := #[t, t] }) (e : TypeId) (ht : P.underlying t = some (.slice e))
    (hinf : (P.info? e).map (fun i => (i.zero, i.size, i.bytes)) = some (some (.agg #[.int .i64 0, .int .i64 0, .slice none 0 0]), 3, 40))
    (hs : a.eval s = u) (hx : a.eval xx = .slice (some ⟨D, 0, none⟩) 1 1) (hD : Box3 w1 D (.int .i64 0) (.int .i64 0) (.slice none 0 0))
    (hown : OwnRow B e u l wr) (hB : B ≤ wr.heap.size) (hk : Keep B wr w1) (hl : l.length ≤ 1048576)
    (h : ∀ g c2 w', HalfRow B wr.heap.size e g c2 l w' → Off u w1 w' → (u.ownBlock = some g ∨ g = w1.heap.size) → wpList P ops Q rest (a.put o.dst (.slice (some ⟨g, 0, none⟩) (l.length + 1) c2)) w') : wpList P ops Q (o :: rest) a w1 := by
  obtain ⟨xs, bs, o1, o2, o3⟩ := hown
  obtain ⟨ri, hi, hz, hs1, hs2⟩ := info_parts hinf
  have s1 := hk.size
  refine wpList_append_own_at _ hgd s xx t ho B e ri _ 3 40 ht hi hz hs1 hs2 rfl (by omega) u l.length xs hs (ownsRow_keep o1 hk) ⟨D, 0, none⟩ 1 1 [.int .i64 0, .int .i64 0, .slice none 0 0] hx rfl (cell_three_box hD) (by intro x hx; simp at hx; rcases hx with rfl | rfl | rfl <;> rfl)
    (by simp only [maxLen]; omega) (by omega) (by omega) ?_
  intro v2 w3 hown hgrow _ hat
  obtain ⟨g, c, rfl, hBg, hgl⟩ : ∃ g c, v2 = .slice (some ⟨g, 0, none⟩) (l.length + 1) c ∧ B ≤ g ∧ g < w3.heap.size := by
    rcases hown.2 with ⟨_, h0⟩ | ⟨g, cap, cur, hv, hb, hg, _⟩
    · omega
    · exact ⟨g, cap, hv, hb, (Array.getElem?_eq_some_iff.1 hg).1⟩
  have lb := TrOwn_lt.2 _ _ _ _ o2
  have hc : l.length + 1 ≤ c ∧ c ≤ maxLen := by
    rcases hown.2 with ⟨h', _⟩ | ⟨g', cap', cur, h', _, _, h1, h2, _⟩
    · simp at h'
    · simp only [Value.slice.injEq, Option.some.injEq, Addr.mk.injEq, and_true, true_and] at h'
      obtain ⟨rfl, rfl⟩ := h'
      exact ⟨h1, h2⟩
  have hat2 : u.ownBlock = some g ∨ g = w1.heap.size := by
    rcases hat with hat | hat
    · exact .inl hat.symm
    · exact .inr (by simpa [Value.ownBlock] using hat)
  refine h g c w3 ⟨xs, bs, hown, o1.1, ?_, fun b hb => ⟨(o3 b hb).1, fun e => ?_, lb b hb⟩, hc.1, hc.2, hBg, hgl⟩ ⟨hgrow.os, hgrow.tape, hgrow.output, hgrow.size, fun k hk' hkD => hgrow.block k hk' hkD⟩ hat2
  · refine (TrOwn_frame (w := wr) (by have := hgrow.size; omega)).2 _ _ _ _ o2 fun b hb => ?_
    rw [hgrow.block b (by have := lb b hb; omega) (o3 b hb).2, hk.block b (o3 b hb).1 (lb b hb)]
  · rcases hat2 with h1 | h1
    · exact (o3 b hb).2 (by rw [h1, e])
    · have := lb b hb; omega

/-- all that was there stays, but a row's own block and block O -/
structure Off2 (O : Nat) (v : Value) (w w' : World) : Prop where
  os : w'.os = w.os
  tape : w'.tape = w.tape
  output : w'.output = w.output
  size : w.heap.size ≤ w'.heap.size
  block : ∀ b, b < w.heap.size → b ≠ O → some b ≠ v.ownBlock → w'.heap[b]? = w.heap[b]?
theorem Off2.refl (O : Nat) (v : Value) (w : World) : Off2 O v w w := ⟨rfl, rfl, rfl, Nat.le_refl _, fun _ _ _ _ => rfl⟩
theorem Off2.trans {O : Nat} {v v' : Value} {w w1 w2 : World} (h : Off2 O v w w1) (ho : Own2 v w.heap.size v') (k : Off2 O v' w1 w2) : Off2 O v w w2 :=
  ⟨k.os.trans h.os, k.tape.trans h.tape, k.output.trans h.output, Nat.le_trans h.size k.size, fun b hb hO hn => by
    rw [k.block b (Nat.lt_of_lt_of_le hb h.size) hO (fun e => by rcases ho b e.symm with h1 | h1
                                                                 · exact hn h1.symm
                                                                 · omega), h.block b hb hO hn]⟩
theorem Off2.of {O : Nat} {v : Value} {w w' : World} (h : Below w.heap.size w w') : Off2 O v w w' := ⟨h.os, h.tape, h.output, h.size, fun b hb _ _ => h.block b hb⟩
theorem Off2.off {O : Nat} {v : Value} {w w' : World} (h : Off v w w') : Off2 O v w w' := ⟨h.os, h.tape, h.output, h.size, fun b hb _ hn => h.block b hb hn⟩
theorem Off2.setO {O : Nat} {v : Value} {w w' : World} (h : Off2 O v w w') (u : Value) : Off2 O v w (w'.setCell ⟨O, 0, none⟩ u) := ⟨h.os, h.tape, h.output, by simpa using h.size, fun b hb hO hn => by
  rw [Below.heap_setCell _ _ _ _ (by simpa using hO)]; exact h.block b hb hO hn⟩
theorem Off2.setG {O g : Nat} {v : Value} {w w' : World} (h : Off2 O v w w') (hg : v.ownBlock = some g ∨ w.heap.size ≤ g) (i : Nat) (u : Value) : Off2 O v w (w'.setCell ⟨g, i, none⟩ u) := ⟨h.os, h.tape, h.output, by simpa using h.size, fun b hb hO hn => by
  rw [Below.heap_setCell _ _ _ _ (show b ≠ g from fun e => by rcases hg with h1 | h1
                                                              · exact hn (by rw [h1, e])
                                                              · omega)]; exact h.block b hb hO hn⟩
theorem Off2.alloc {O : Nat} {v : Value} {w w' : World} {o : Obj} (h : Off2 O v (w.alloc o) w') : Off2 O v w w' := ⟨h.os, h.tape, h.output, by have := h.size; simp at this; omega, fun b hb hO hn => by
  rw [h.block b (by simp; omega) hO hn, (below_alloc w _).block b hb]⟩
theorem box3_off2 {O : Nat} {v : Value} {w w' : World} (h : Off2 O v w w') {B : Nat} {a b c : Value} (hO : B ≠ O) (hd : some B ≠ v.ownBlock) (hb : Box3 w B a b c) : Box3 w' B a b c := by
  have e := h.block B hb.1 hO hd
  refine ⟨Nat.lt_of_lt_of_le hb.1 h.size, ?_, ?_, ?_, ?_, ?_, ?_⟩
  · rw [World.cell?_of_block (w := w) (a := ⟨B, 0, none⟩) e]; exact hb.2.1
  · rw [World.cell?_of_block (w := w) (a := ⟨B, 1, none⟩) e]; exact hb.2.2.1
  · rw [World.cell?_of_block (w := w) (a := ⟨B, 2, none⟩) e]; exact hb.2.2.2.1
  · rw [World.frozen?_of_block (w := w) (a := ⟨B, 0, none⟩) e]; exact hb.2.2.2.2.1
  · rw [World.frozen?_of_block (w := w) (a := ⟨B, 1, none⟩) e]; exact hb.2.2.2.2.2.1
  · rw [World.frozen?_of_block (w := w) (a := ⟨B, 2, none⟩) e]; exact hb.2.2.2.2.2.2
theorem box1_off2 {O : Nat} {v : Value} {w w' : World} (h : Off2 O v w w') {B : Nat} {a : Value} (hO : B ≠ O) (hd : some B ≠ v.ownBlock) (hb : Box1 w B a) : Box1 w' B a := by
  have e := h.block B hb.1 hO hd
  refine ⟨Nat.lt_of_lt_of_le hb.1 h.size, ?_, ?_⟩
  · rw [World.cell?_of_block (w := w) (a := ⟨B, 0, none⟩) e]; exact hb.2.1
  · rw [World.frozen?_of_block (w := w) (a := ⟨B, 0, none⟩) e]; exact hb.2.2
/-- trees below L stay, where O and a row's own block lie from L on -/
theorem TrIn_off2 {O : Nat} {v : Value} {L : Nat} {w w' : World} (h : Off2 O v w w') (hO : L ≤ O) (hv : ∀ k, v.ownBlock = some k → L ≤ k) : (∀ t x, TrIn (· < L) w t x → TrIn (· < L) w' t x) ∧ ∀ l a, TrsIn (· < L) w l a → TrsIn (· < L) w' l a :=
  TrIn_frame fun b hb hl => ⟨hb, h.block b hl (by omega) fun e => by have := hv b e.symm; omega⟩
theorem box1_set {w : World} {B : Nat} {a : Value} (h : Box1 w B a) (u : Value) : Box1 (w.setCell ⟨B, 0, none⟩ u) B u := ⟨by simpa using h.1, World.cell?_setCell_same _ _ _ h.2.1, by simpa using h.2.2⟩
theorem box1_setOther {w : World} {B g i : Nat} {a : Value} (h : Box1 w B a) (hg : B ≠ g) (u : Value) : Box1 (w.setCell ⟨g, i, none⟩ u) B a := box1_but (But.set w g i u) hg h

/-- the end of append(out, node) where 'out' is a variable in memory -/
theorem half_end {B N O : Nat} {e : TypeId} {g c : Nat} {l : List Tr} {W w : World} {t : Tr} {r x y z : Value} (hh : HalfRow B N e g c l w) (hB : B ≤ N) (hOB : O < B) (ht : NewTrX N g t (.agg #[x, y, z]) w) (hb : Box1 w O r) (ho : Off2 O r W w) (hg : r.ownBlock = some g ∨ W.heap.size ≤ g) :
    OwnRow B e (.slice (some ⟨g, 0, none⟩) (l.length + 1) c) (l ++ [t]) ((((w.setCell ⟨g, l.length * 3, none⟩ x).setCell ⟨g, l.length * 3 + 1, none⟩ y).setCell ⟨g, l.length * 3 + 2, none⟩ z).setCell ⟨O, 0, none⟩ (.slice (some ⟨g, 0, none⟩) (l.length + 1) c)) ∧
    Box1 ((((w.setCell ⟨g, l.length * 3, none⟩ x).setCell ⟨g, l.length * 3 + 1, none⟩ y).setCell ⟨g, l.length * 3 + 2, none⟩ z).setCell ⟨O, 0, none⟩ (.slice (some ⟨g, 0, none⟩) (l.length + 1) c)) O (.slice (some ⟨g, 0, none⟩) (l.length + 1) c) ∧
    Off2 O r W ((((w.setCell ⟨g, l.length * 3, none⟩ x).setCell ⟨g, l.length * 3 + 1, none⟩ y).setCell ⟨g, l.length * 3 + 2, none⟩ z).setCell ⟨O, 0, none⟩ (.slice (some ⟨g, 0, none⟩) (l.length + 1) c)) ∧
    Own2 r W.heap.size (.slice (some ⟨g, 0, none⟩) (l.length + 1) c) := by
  have hgB : B ≤ g := hh.cells.2.2.2.2.2.2.1
  refine ⟨(hh.put hB ht).keep (Keep.set _ hOB _), box1_set (box1_setOther (box1_setOther (box1_setOther hb (by omega) _) (by omega) _) (by omega) _) _, (((ho.setG hg _ _).setG hg _ _).setG hg _ _).setO _, fun k hk => ?_⟩
  obtain rfl : g = k := by simpa [Value.ownBlock] using hk
  exact hg
/-- .. where the variable is written first -/
theorem half_end2 {B N O : Nat} {e : TypeId} {g c : Nat} {l : List Tr} {W w : World} {t : Tr} {r x y z : Value} (hh : HalfRow B N e g c l w) (hB : B ≤ N) (hOB : O < B) (ht : NewTrX N g t (.agg #[x, y, z]) w) (hb : Box1 w O r) (ho : Off2 O r W w) (hg : r.ownBlock = some g ∨ W.heap.size ≤ g) :
    OwnRow B e (.slice (some ⟨g, 0, none⟩) (l.length + 1) c) (l ++ [t]) ((((w.setCell ⟨O, 0, none⟩ (.slice (some ⟨g, 0, none⟩) (l.length + 1) c)).setCell ⟨g, l.length * 3, none⟩ x).setCell ⟨g, l.length * 3 + 1, none⟩ y).setCell ⟨g, l.length * 3 + 2, none⟩ z) ∧
    Box1 ((((w.setCell ⟨O, 0, none⟩ (.slice (some ⟨g, 0, none⟩) (l.length + 1) c)).setCell ⟨g, l.length * 3, none⟩ x).setCell ⟨g, l.length * 3 + 1, none⟩ y).setCell ⟨g, l.length * 3 + 2, none⟩ z) O (.slice (some ⟨g, 0, none⟩) (l.length + 1) c) ∧
    Off2 O r W ((((w.setCell ⟨O, 0, none⟩ (.slice (some ⟨g, 0, none⟩) (l.length + 1) c)).setCell ⟨g, l.length * 3, none⟩ x).setCell ⟨g, l.length * 3 + 1, none⟩ y).setCell ⟨g, l.length * 3 + 2, none⟩ z) ∧
    Own2 r W.heap.size (.slice (some ⟨g, 0, none⟩) (l.length + 1) c) := by
  have hgB : B ≤ g := hh.cells.2.2.2.2.2.2.1
  obtain ⟨xs, bs, h1, h2, h3, h4, h5, h6, h7, h8⟩ := hh
  obtain ⟨cs, t1, t2⟩ := ht
  have hh' : HalfRow B N e g c l (w.setCell ⟨O, 0, none⟩ (.slice (some ⟨g, 0, none⟩) (l.length + 1) c)) :=
    ⟨xs, bs, ownsRow_keep h1 (Keep.set _ hOB _), h2, TrsOwn_set h3 (fun hm => by have := (h4 _ hm).1; simp at this; omega) _, h4, h5, h6, h7, by simpa using h8⟩
  have ht' : NewTrX N g t (.agg #[x, y, z]) (w.setCell ⟨O, 0, none⟩ (.slice (some ⟨g, 0, none⟩) (l.length + 1) c)) := ⟨cs, TrOwn_set t1 (fun hm => by have := (t2 _ hm).1; simp at this; omega) _, t2⟩
  refine ⟨hh'.put hB ht', box1_setOther (box1_setOther (box1_setOther (box1_set hb _) (by omega) _) (by omega) _) (by omega) _, (((ho.setO _).setG hg _ _).setG hg _ _).setG hg _ _, fun k hk => ?_⟩
  obtain rfl : g = k := by simpa [Value.ownBlock] using hk
  exact hg
theorem newX {N g : Nat} {w1 w4 : World} {t : Tr} {v r : Value} (hn : NewTr N t v w1) (hoff : Off r w1 w4) (hr : ∀ k, r.ownBlock = some k → k < N) (hg : r.ownBlock = some g ∨ g = w1.heap.size) : NewTrX N g t v w4 := by
  obtain ⟨cs, h1, h2⟩ := hn
  have hl := TrOwn_lt.1 _ _ _ h1
  refine ⟨cs, (TrOwn_frame hoff.size).1 _ _ _ h1 fun b hb => hoff.block b (hl b hb) (fun e => by have := hr b e.symm; have := h2 b hb; omega), fun b hb => ⟨h2 b hb, fun e => ?_⟩⟩
  rcases hg with hg | hg
  · have := hr g hg; have := h2 b hb; omega
  · have := hl b hb; omega
theorem box1_off {v : Value} {w w' : World} (h : Off v w w') {B : Nat} {a : Value} (hd : some B ≠ v.ownBlock) (hb : Box1 w B a) : Box1 w' B a := box1_off2 (O := B + 1) (Off2.off h) (by omega) hd hb
end Formula
end Go.Proofs.Ythjhokifonjeaaa
