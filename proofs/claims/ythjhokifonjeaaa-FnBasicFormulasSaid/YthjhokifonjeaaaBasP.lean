/- The nodes of a row that are basic, put into a row of one's own. Conditions: none. -/
import Derived.Test.YthjhokifonjeaaaRowNew
import Derived.Test.YthjhokifonjeaaaNormX
namespace Go.Proofs.Ythjhokifonjeaaa
open Go.RowKit
namespace Formula

def basT (t : Tr) : Bool := t.kind == 2 || t.kind == 6 || t.kind == 7 || t.kind == 8
def basL (l : List Tr) : List Tr := l.filter basT
/-- the basic formulas of a formula's normal form -/
def basN (t : Tr) : List Tr := basL (subsT [] (normV t))
def basOk (t : Tr) : Bool := normOk t && decide ((basN t).length ≤ 5)
def basV (t : Tr) : List Tr := if basOk t = true then basN t else []

theorem basL_take {l : List Tr} {j : Nat} {t : Tr} (h : l[j]? = some t) : basL (l.take (j + 1)) = if basT t = true then basL (l.take j) ++ [t] else basL (l.take j) := by
  unfold basL
  rw [List.take_add_one, h, List.filter_append]
  by_cases hb : basT t = true
  · rw [if_pos hb]; simp [hb]
  · rw [if_neg hb]; simp [hb]
theorem basL_len (l : List Tr) : (basL l).length ≤ l.length := List.length_filter_le _ _
theorem basL_nodes : ∀ l, nodesL (basL l) ≤ nodesL l
  | [] => by simp [basL]
  | t :: ts => by
    have h := basL_nodes ts
    have hp := nodes_pos t
    unfold basL at h ⊢
    rw [List.filter_cons]
    split
    · simp only [nodesL]; omega
    · simp only [nodesL]; omega

/-- the first j nodes of a row (in block R, the nodes' own blocks r) are looked through; the basic ones lie in v -/
def Filt (B : Nat) (e : TypeId) (w : World) (l : List Tr) (f : Nat → Value) (R : Nat) (r : List Nat) (j : Nat) (v0 v : Value) (wr : World) : Prop :=
  ∃ xs b1 r1 r2, r = r1 ++ r2 ∧ (∀ b, b ∈ r1 → b ∉ r2) ∧ TrsOwn w f (l.drop j) (j * 3) r2 ∧ (∀ b, b ∈ b1 → b ∈ r1) ∧ wr.ownsRow B e 3 v (basL (l.take j)).length xs ∧ TrsOwn wr (fun i => xs.getD i undef) (basL (l.take j)) 0 b1 ∧
    (∀ b, b ∈ R :: r → wr.heap[b]? = w.heap[b]? ∧ some b ≠ v.ownBlock) ∧ Off v0 w wr ∧ Own2 v0 w.heap.size v

/-- the row that is looked through -/
def Src (B : Nat) (w : World) (l : List Tr) (f : Nat → Value) (R : Nat) (r : List Nat) : Prop := R ∉ r ∧ Row w R (l.length * 3) f ∧ TrsOwn w f l 0 r ∧ ∀ b, b ∈ R :: r → B ≤ b

theorem Filt.start {B : Nat} {e : TypeId} {w : World} {l : List Tr} {f : Nat → Value} {R : Nat} {r : List Nat} {v : Value} (hs : Src B w l f R r) (hv : OwnRow B e v [] w) (hd : ∀ b, b ∈ R :: r → some b ≠ v.ownBlock) : Filt B e w l f R r 0 v v w := by
  obtain ⟨xs, bs, h1, h2, h3⟩ := hv
  exact ⟨xs, [], [], r, rfl, by simp, by simpa using hs.2.2.1, by simp, by simpa [basL] using h1, by simp [basL, TrsOwn_nil], fun b hb => ⟨rfl, hd b hb⟩, Off.refl _ _, Own2.refl _ _⟩

theorem Filt.below {B : Nat} {e : TypeId} {w : World} {l : List Tr} {f : Nat → Value} {R : Nat} {r : List Nat} {j : Nat} {v0 v : Value} {wr w' : World} (hs : Src B w l f R r) (h : Filt B e w l f R r j v0 v wr) (hb : Below wr.heap.size wr w') : Filt B e w l f R r j v0 v w' := by
  obtain ⟨xs, b1, r1, r2, h1, h2, h3, h4, h5, h6, h7, h8, h9⟩ := h
  refine ⟨xs, b1, r1, r2, h1, h2, h3, h4, ownsRow_keep h5 (Keep.below hb), TrsOwn_below hb h6, fun b hm => ⟨?_, (h7 b hm).2⟩, h8.trans h9 (Off.of hb), h9⟩
  have hl : b < w.heap.size := by
    rcases List.mem_cons.1 hm with rfl | hm
    · exact hs.2.1.1
    · exact TrOwn_lt.2 _ _ _ _ hs.2.2.1 b hm
  rw [hb.block b (Nat.lt_of_lt_of_le hl h8.size), (h7 b hm).1]

theorem Filt.off {B : Nat} {e : TypeId} {w : World} {l : List Tr} {f : Nat → Value} {R : Nat} {r : List Nat} {j : Nat} {v0 v : Value} {wr : World} (h : Filt B e w l f R r j v0 v wr) : Off v0 w wr ∧ Own2 v0 w.heap.size v := by
  obtain ⟨xs, b1, r1, r2, h1, h2, h3, h4, h5, h6, h7, h8, h9⟩ := h
  exact ⟨h8, h9⟩
theorem Filt.row {B : Nat} {e : TypeId} {w : World} {l : List Tr} {f : Nat → Value} {R : Nat} {r : List Nat} {j : Nat} {v0 v : Value} {wr : World} (hs : Src B w l f R r) (h : Filt B e w l f R r j v0 v wr) : TrsIn Any wr l (some ⟨R, 0, none⟩) := by
  obtain ⟨xs, b1, r1, r2, h1, h2, h3, h4, h5, h6, h7, h8, h9⟩ := h
  exact TrOwn_in.2 _ _ _ _ ((TrOwn_frame h8.size).2 _ _ _ _ hs.2.2.1 fun b hb => (h7 b (by simp [hb])).1) (fun _ _ => trivial) R trivial (by simpa using hs.2.1.kept h8.size (h7 R (by simp)).1)
theorem Filt.shape {B : Nat} {e : TypeId} {w : World} {l : List Tr} {f : Nat → Value} {R : Nat} {r : List Nat} {j : Nat} {v0 v : Value} {wr : World} (h : Filt B e w l f R r j v0 v wr) : ∃ a c, v = .slice a (basL (l.take j)).length c ∧ (basL (l.take j)).length ≤ c ∧ c ≤ maxLen := by
  obtain ⟨xs, b1, r1, r2, h1, h2, h3, h4, h5, h6, h7, h8, h9⟩ := h
  rcases h5.2 with ⟨rfl, h⟩ | ⟨g, cap, cur, rfl, hb, hgg, h4, h5, _⟩
  · exact ⟨none, 0, by rw [h], by omega, by simp⟩
  · exact ⟨_, _, rfl, h4, h5⟩

theorem Filt.skip {B : Nat} {e : TypeId} {w : World} {l : List Tr} {f : Nat → Value} {R : Nat} {r : List Nat} {j : Nat} {v0 v : Value} {wr : World} {t : Tr} (h : Filt B e w l f R r j v0 v wr) (ht : l[j]? = some t) (hb : basT t = false) : Filt B e w l f R r (j + 1) v0 v wr := by
  obtain ⟨xs, b1, r1, r2, rfl, h2, h3, h4, h5, h6, h7, h8, h9⟩ := h
  have hj : j < l.length := by
    rcases Nat.lt_or_ge j l.length with h | h
    · exact h
    · rw [List.getElem?_eq_none h] at ht; cases ht
  have hdr := List.drop_eq_getElem_cons hj
  rw [hdr, TrsOwn_cons] at h3
  obtain ⟨c1, c2, rfl, hd, _, h3⟩ := h3
  have e1 : basL (l.take (j + 1)) = basL (l.take j) := by rw [basL_take ht, hb]; simp
  refine ⟨xs, b1, r1 ++ c1, c2, by simp, ?_, by rw [show (j + 1) * 3 = j * 3 + 3 by omega]; exact h3, fun b hb => by simp [h4 b hb], by rw [e1]; exact h5, by rw [e1]; exact h6, h7, h8, h9⟩
  intro b hb hc
  rcases List.mem_append.1 hb with hb | hb
  · exact h2 b hb (by simp [hc])
  · exact hd b hb hc

/-- append(row, node) of a basic node -/
theorem wp_append_filt {P : Program} {ops : Array Oper} {rest : List Oper} {o : Oper} {a : Act} {Q : Exit → Act → World → Prop} {w wr w1 : World} {B : Nat} {l : List Tr} {f : Nat → Value} {R j : Nat} {r : List Nat} {v0 u x y z : Value} {tr : Tr} {ty : TypeId} (hgd : o.guard = none) (s xx : Operand) (t : TypeId)
    (ho : o.op = .call { callee := .builtin .append, args := #[s, xx], argTypes := #[t, t] }) (e : TypeId) (ht : P.underlying t = some (.slice e))
    (hinf : (P.info? e).map (fun i => (i.zero, i.size, i.bytes)) = some (some (.agg #[.int .i64 0, .int .i64 0, .slice none 0 0]), 3, 40))
    (hs : a.eval s = u) (D : Nat) (hx : a.eval xx = .slice (some ⟨D, 0, none⟩) 1 1) (hD : D = w1.heap.size) (h1 : ∀ v ∈ [x, y, z], v.oneCell' = true)
    (hsrc : Src B w l f R r) (hf : Filt B e w l f R r j v0 u wr) (hb1 : Below wr.heap.size wr w1) (hB : B ≤ wr.heap.size) (hl : l.length ≤ 1048576) (htr : l[j]? = some tr) (hbas : basT tr = true) (hxyz : wr.cell? ⟨R, 0 + j * 3, none⟩ = some x ∧ wr.cell? ⟨R, 0 + j * 3 + 1, none⟩ = some y ∧ wr.cell? ⟨R, 0 + j * 3 + 2, none⟩ = some z)
    (h : ∀ a2 n2 c2 w', Filt B e w l f R r (j + 1) v0 (.slice a2 n2 c2) w' → (∀ b, b < wr.heap.size → some b ≠ u.ownBlock → w'.heap[b]? = wr.heap[b]?) → wpList P ops Q rest (a.put o.dst (.slice a2 n2 c2)) w') : wpList P ops Q (o :: rest) a (w1.alloc (.cells #[x, y, z] ty)) := by
  subst hD
  have hf0 := hf.below hsrc (below_next hb1 (below_alloc w1 (.cells #[x, y, z] ty)))
  obtain ⟨xs, b1, r1, r2, rfl, g2, g3, g4, g5, g6, g7, g8, g9⟩ := hf0
  obtain ⟨ri, hi, hz, hs1, hs2⟩ := info_parts hinf
  have hj : j < l.length := by
    rcases Nat.lt_or_ge j l.length with h | h
    · exact h
    · rw [List.getElem?_eq_none h] at htr; cases htr
  have hln : (basL (l.take j)).length ≤ 1048576 := by have := basL_len (l.take j); simp at this; omega
  have hlx := g5.1
  refine wpList_append_own_at _ hgd s xx t ho B e ri _ 3 40 ht hi hz hs1 hs2 rfl (by omega) u _ xs hs g5 ⟨w1.heap.size, 0, none⟩ 1 1 [x, y, z] hx rfl (cell_three_new _ _ _ _ _) h1
    (by simp only [maxLen]; omega) (by omega) (by have := hb1.size; simp; omega) ?_
  intro v2 w3 hown hgrow _ hat
  -- the node at hand
  have hdr := List.drop_eq_getElem_cons hj
  obtain rfl : l[j] = tr := by rw [List.getElem?_eq_getElem hj] at htr; simpa using htr
  rw [hdr, TrsOwn_cons] at g3
  obtain ⟨c1, c2, rfl, hd, hT, g3⟩ := g3
  have hfx : f (j * 3) = x ∧ f (j * 3 + 1) = y ∧ f (j * 3 + 2) = z := by
    obtain ⟨q1, q2, q3⟩ := hxyz
    obtain ⟨xs', b1', r1', r2', _, _, _, _, _, _, k7, k8, _⟩ := hf
    have hrow := hsrc.2.1.kept k8.size (k7 R (by simp)).1
    have z0 := hrow.2.1 (j * 3) (by omega)
    have z1 := hrow.2.1 (j * 3 + 1) (by omega)
    have z2 := hrow.2.1 (j * 3 + 2) (by omega)
    simp only [Nat.zero_add] at q1 q2 q3
    rw [q1] at z0; rw [q2] at z1; rw [q3] at z2
    simp at z0 z1 z2
    exact ⟨z0.symm, z1.symm, z2.symm⟩
  rw [hfx.1, hfx.2.1, hfx.2.2] at hT
  have hlt : ∀ b, b ∈ R :: (r1 ++ (c1 ++ c2)) → b < w.heap.size := fun b hm => by
    rcases List.mem_cons.1 hm with rfl | hm
    · exact hsrc.2.1.1
    · exact TrOwn_lt.2 _ _ _ _ hsrc.2.2.1 b hm
  have hsz := g8.size
  have hkeep : ∀ b, b ∈ R :: (r1 ++ (c1 ++ c2)) → w3.heap[b]? = (w1.alloc (.cells #[x, y, z] ty)).heap[b]? := fun b hm => hgrow.block b (Nat.lt_of_lt_of_le (hlt b hm) hsz) (g7 b hm).2
  have hnew : ∀ k, v2.ownBlock = some k → u.ownBlock = some k ∨ (w1.alloc (.cells #[x, y, z] ty)).heap.size ≤ k := fun k hk => by
    rcases hat with hat | hat
    · exact .inl (hat ▸ hk)
    · rw [hat] at hk; exact .inr (by have : k = _ := (Option.some.inj hk).symm; omega)
  have e1 : basL (l.take (j + 1)) = basL (l.take j) ++ [l[j]] := by rw [basL_take htr, if_pos hbas]
  have hsh : ∃ a2 n2 c2, v2 = .slice a2 n2 c2 := by
    rcases hown.2 with ⟨rfl, _⟩ | ⟨g, cap, cur, rfl, _⟩ <;> exact ⟨_, _, _, rfl⟩
  obtain ⟨a2, n2, m2, rfl⟩ := hsh
  have hfin : Filt B e w l f R (r1 ++ (c1 ++ c2)) (j + 1) v0 (.slice a2 n2 m2) w3 := by
    refine ⟨xs ++ [x, y, z], b1 ++ c1, r1 ++ c1, c2, by simp, ?_, by rw [show (j + 1) * 3 = j * 3 + 3 by omega]; exact g3, fun b hb => ?_, by rw [e1]; simpa using hown, ?_, fun b hm => ⟨?_, fun e => ?_⟩, g8.trans g9 ⟨hgrow.os, hgrow.tape, hgrow.output, hgrow.size, fun k hk' hkD => hgrow.block k hk' hkD⟩, fun k hk => ?_⟩
    · intro b hb hc
      rcases List.mem_append.1 hb with hb | hb
      · exact g2 b hb (by simp [hc])
      · exact hd b hb hc
    · rcases List.mem_append.1 hb with hb | hb
      · simp [g4 b hb]
      · simp [hb]
    · rw [e1]
      refine TrsOwn_snoc ?_ ?_ ?_
      · refine (TrOwn_frame hgrow.size).2 _ _ _ _ (TrsOwn_congr g6 fun i _ hi => ?_) fun b hb => hkeep b (by simp [g4 b hb])
        simp only [List.getD_eq_getElem?_getD]
        rw [List.getElem?_append_left (by omega)]
      · have e0 : (xs ++ [x, y, z]).getD (0 + (basL (l.take j)).length * 3) undef = x := by
          simp only [List.getD_eq_getElem?_getD]; rw [List.getElem?_append_right (by omega), show 0 + (basL (l.take j)).length * 3 - xs.length = 0 by omega]; rfl
        have e1 : (xs ++ [x, y, z]).getD (0 + (basL (l.take j)).length * 3 + 1) undef = y := by
          simp only [List.getD_eq_getElem?_getD]; rw [List.getElem?_append_right (by omega), show 0 + (basL (l.take j)).length * 3 + 1 - xs.length = 1 by omega]; rfl
        have e2 : (xs ++ [x, y, z]).getD (0 + (basL (l.take j)).length * 3 + 2) undef = z := by
          simp only [List.getD_eq_getElem?_getD]; rw [List.getElem?_append_right (by omega), show 0 + (basL (l.take j)).length * 3 + 2 - xs.length = 2 by omega]; rfl
        rw [e0, e1, e2]
        exact (TrOwn_frame (w := w) (by have := hgrow.size; omega)).1 _ _ _ hT fun b hb => by rw [hkeep b (by simp [hb]), (g7 b (by simp [hb])).1]
      · intro b hb hc
        exact g2 b (g4 b hb) (by simp [hc])
    · rw [hkeep b hm, (g7 b hm).1]
    · rcases hnew b e.symm with h1 | h1
      · exact (g7 b hm).2 h1.symm
      · have := hlt b hm; omega
    · rcases hnew k hk with h1 | h1
      · exact g9 k h1
      · exact .inr (by omega)
  refine h _ _ _ _ hfin fun b hb hn => ?_
  have s1 := hb1.size
  rw [hgrow.block b (by simp; omega) hn, (below_alloc w1 _).block b (by omega), hb1.block b hb]

theorem Filt.done {B : Nat} {e : TypeId} {w : World} {l : List Tr} {f : Nat → Value} {R : Nat} {r : List Nat} {j : Nat} {v0 v : Value} {wr : World} (hs : Src B w l f R r) (h : Filt B e w l f R r j v0 v wr) (hj : l.length ≤ j) : OwnRow B e v (basL l) wr := by
  obtain ⟨xs, b1, r1, r2, rfl, h2, h3, h4, h5, h6, h7, h8, h9⟩ := h
  rw [List.take_of_length_le hj] at h5 h6
  exact ⟨xs, b1, h5, h6, fun b hb => ⟨hs.2.2.2 b (by simp [h4 b hb]), (h7 b (by simp [h4 b hb])).2⟩⟩
end Formula
end Go.Proofs.Ythjhokifonjeaaa
