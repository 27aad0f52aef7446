/- Subformulas, plainly; and the frame of a call that hands its caller's own row on. Conditions: none. -/
import Derived.Test.YthjhokifonjeaaaSubFind
import Derived.Test.YthjhokifonjeaaaValidPlain
import Derived.Test.YthjhokifonjeaaaReg
import Derived.Test.YthjhokifonjeaaaGrow
namespace Go.Proofs.Ythjhokifonjeaaa
open Go.RowKit
namespace Formula

mutual
/-- the trees below a tree, each once, kids first, put behind a row -/
def subsT (acc : List Tr) : Tr → List Tr
  | .mk k v kids => if findT (subsL acc kids) (.mk k v kids) 0 < 0 then subsL acc kids ++ [.mk k v kids] else subsL acc kids
def subsL (acc : List Tr) : List Tr → List Tr
  | [] => acc
  | t :: ts => subsL (subsT acc t) ts
end
mutual
theorem subsT_len : ∀ (t : Tr) (acc : List Tr), ((subsT acc t).length : Int) ≤ acc.length + nodes t
  | .mk k v kids, acc => by
    have h := subsL_len kids acc
    simp only [subsT, nodes]
    split
    · simp; omega
    · omega
theorem subsL_len : ∀ (l : List Tr) (acc : List Tr), ((subsL acc l).length : Int) ≤ acc.length + nodesL l
  | [], acc => by simp [subsL, nodesL]
  | t :: ts, acc => by
    have h1 := subsT_len t acc
    have h2 := subsL_len ts (subsT acc t)
    simp only [subsL, nodesL]
    omega
end
theorem subsL_snoc (t : Tr) : ∀ (l : List Tr) (acc : List Tr), subsL acc (l ++ [t]) = subsT (subsL acc l) t
  | [], acc => by simp [subsL]
  | u :: us, acc => by simp only [List.cons_append, subsL]; exact subsL_snoc t us _
theorem subsL_take {l : List Tr} {k : Nat} {t : Tr} (acc : List Tr) (h : l[k]? = some t) : subsL acc (l.take (k + 1)) = subsT (subsL acc (l.take k)) t := by
  rw [List.take_add_one, h]
  exact subsL_snoc t _ _

/-- all that was there stays, but a row's own block -/
structure Off (v : Value) (w w' : World) : Prop where
  os : w'.os = w.os
  tape : w'.tape = w.tape
  output : w'.output = w.output
  size : w.heap.size ≤ w'.heap.size
  block : ∀ b, b < w.heap.size → some b ≠ v.ownBlock → w'.heap[b]? = w.heap[b]?
/-- a row's own block is the old row's, or new -/
def Own2 (v : Value) (N : Nat) (v' : Value) : Prop := ∀ k, v'.ownBlock = some k → v.ownBlock = some k ∨ N ≤ k
theorem Off.refl (v : Value) (w : World) : Off v w w := ⟨rfl, rfl, rfl, Nat.le_refl _, fun _ _ _ => rfl⟩
theorem Own2.refl (v : Value) (N : Nat) : Own2 v N v := fun _ h => .inl h
theorem Off.trans {v v' : Value} {w w1 w2 : World} (h : Off v w w1) (ho : Own2 v w.heap.size v') (k : Off v' w1 w2) : Off v w w2 :=
  ⟨k.os.trans h.os, k.tape.trans h.tape, k.output.trans h.output, Nat.le_trans h.size k.size, fun b hb hn => by
    rw [k.block b (Nat.lt_of_lt_of_le hb h.size) (fun e => by rcases ho b e.symm with h1 | h1
                                                              · exact hn h1.symm
                                                              · omega), h.block b hb hn]⟩
theorem Own2.trans {v v' v'' : Value} {N N' : Nat} (h : Own2 v N v') (k : Own2 v' N' v'') (hN : N ≤ N') : Own2 v N v'' := fun j hj => by
  rcases k j hj with h1 | h1
  · exact h j h1
  · exact .inr (Nat.le_trans hN h1)
theorem Off.of {v : Value} {w w' : World} (h : Below w.heap.size w w') : Off v w w' := ⟨h.os, h.tape, h.output, h.size, fun b hb _ => h.block b hb⟩
/-- append(row, node), and what it leaves as it was -/
theorem wp_append_off {P : Program} {ops : Array Oper} {rest : List Oper} {o : Oper} {a : Act} {Q : Exit → Act → World → Prop} {wr w1 : World} {B Nn : Nat} {l : List Tr} {t' : Tr} {u x y z : Value} {ty : TypeId} (hgd : o.guard = none) (s xx : Operand) (t : TypeId)
    (ho : o.op = .call { callee := .builtin .append, args := #[s, xx], argTypes := #[t, t] }) (e : TypeId) (ht : P.underlying t = some (.slice e))
    (hinf : (P.info? e).map (fun i => (i.zero, i.size, i.bytes)) = some (some (.agg #[.int .i64 0, .int .i64 0, .slice none 0 0]), 3, 40))
    (hs : a.eval s = u) (hx : a.eval xx = .slice (some ⟨w1.heap.size, 0, none⟩) 1 1) (h1 : ∀ v ∈ [x, y, z], v.oneCell' = true)
    (hown : OwnRow B e u l wr) (hB : B ≤ wr.heap.size) (hk : Keep B wr w1) (hN : wr.heap.size ≤ Nn) (hn : NewTr Nn t' (.agg #[x, y, z]) w1) (hl : l.length ≤ 1048576)
    (h : ∀ a2 n2 c2 w', OwnRow B e (.slice a2 n2 c2) (l ++ [t']) w' → Off u w1 w' → Own2 u w1.heap.size (.slice a2 n2 c2) → wpList P ops Q rest (a.put o.dst (.slice a2 n2 c2)) w') : wpList P ops Q (o :: rest) a (w1.alloc (.cells #[x, y, z] ty)) := by
  obtain ⟨xs, bs, o1, o2, o3⟩ := hown
  obtain ⟨ri, hi, hz, hs1, hs2⟩ := info_parts hinf
  have s1 := hk.size
  refine wpList_append_own_at _ hgd s xx t ho B e ri _ 3 40 ht hi hz hs1 hs2 rfl (by omega) u l.length xs hs ((ownsRow_keep o1 hk).alloc _) ⟨w1.heap.size, 0, none⟩ 1 1 [x, y, z] hx rfl (cell_three_new _ _ _ _ _) h1
    (by simp only [maxLen]; omega) (by omega) (by simp; omega) ?_
  intro v2 w3 hown hgrow _ hat
  obtain ⟨xs', bs', z1, z2, z3, z4, z5⟩ := OwnRow.snocX o1 o2 o3 hB hk hN hn (below_alloc _ _) hown hgrow (by simpa using hat)
  have hsn : OwnRow B e v2 (l ++ [t']) w3 := ⟨xs', bs', z1, z2, z3⟩
  obtain ⟨a2, c2, rfl, _⟩ := hsn.shape
  refine h _ _ _ _ hsn ⟨hgrow.os, hgrow.tape, hgrow.output, by have := hgrow.size; simp at this; omega, fun k hk' hkD => ?_⟩ (fun k hk' => ?_)
  · rw [hgrow.block k (by simp; omega) hkD, (below_alloc w1 _).block k hk']
  · rcases hat with hat | hat
    · exact .inl (hat ▸ hk')
    · rw [hat] at hk'
      have : k = w1.heap.size + 1 := by simpa using hk'.symm
      exact .inr (by omega)


theorem TrsOwn_in {w : World} {g : Nat} {f : Nat → Value} : ∀ (l : List Tr) (o : Nat) (bs : List Nat), TrsOwn w f l o bs → (∀ j, o ≤ j → j < o + l.length * 3 → w.cell? ⟨g, j, none⟩ = some (f j)) → TrsIn Any w l (some ⟨g, o, none⟩)
  | [], _, _, _, _ => TrsIn_nil _ _ _
  | t :: ts, o, bs, h, hc => by
    rw [TrsOwn_cons] at h
    obtain ⟨r1, r2, _, _, h1, h2⟩ := h
    simp only [List.length_cons] at hc
    exact (TrsIn_cons ..).2 ⟨g, o, _, _, _, rfl, trivial, hc o (Nat.le_refl _) (by omega), hc (o + 1) (by omega) (by omega), hc (o + 2) (by omega) (by omega), h1.any, TrsOwn_in ts (o + 3) r2 h2 fun j h3 h4 => hc j (by omega) (by omega)⟩

/-- a row of one's own is a row of trees in memory -/
theorem OwnRow.rows {B : Nat} {e : TypeId} {v : Value} {l : List Tr} {w : World} (h : OwnRow B e v l w) : ∃ a c, v = .slice a l.length c ∧ l.length ≤ c ∧ c ≤ maxLen ∧ TrsIn Any w l a := by
  obtain ⟨xs, bs, h1, h2, h3⟩ := h
  have hl := h1.1
  rcases h1.2 with ⟨rfl, h⟩ | ⟨g, cap, cur, rfl, hb, hgg, h4, h5, _⟩
  · have : l = [] := List.eq_nil_of_length_eq_zero h
    subst this
    exact ⟨none, 0, rfl, by simp, by simp, TrsIn_nil _ _ _⟩
  · refine ⟨_, _, rfl, h4, h5, TrsOwn_in l 0 bs h2 fun j _ hj => ?_⟩
    rw [h1.cellAt j (by omega)]
    simp only [List.getD_eq_getElem?_getD]
    rw [List.getElem?_eq_getElem (by omega)]
    rfl
theorem OwnRow.own_lt {B : Nat} {e : TypeId} {v : Value} {l : List Tr} {w : World} (h : OwnRow B e v l w) {k : Nat} (hk : v.ownBlock = some k) : B ≤ k ∧ k < w.heap.size := by
  obtain ⟨xs, bs, h1, h2, h3⟩ := h
  exact h1.lt k hk
theorem box3_off {v : Value} {w w' : World} (h : Off v w w') {B : Nat} {a b c : Value} (hd : some B ≠ v.ownBlock) (hb : Box3 w B a b c) : Box3 w' B a b c := by
  have e := h.block B hb.1 hd
  refine ⟨Nat.lt_of_lt_of_le hb.1 h.size, ?_, ?_, ?_, ?_, ?_, ?_⟩
  · rw [World.cell?_of_block (w := w) (a := ⟨B, 0, none⟩) e]; exact hb.2.1
  · rw [World.cell?_of_block (w := w) (a := ⟨B, 1, none⟩) e]; exact hb.2.2.1
  · rw [World.cell?_of_block (w := w) (a := ⟨B, 2, none⟩) e]; exact hb.2.2.2.1
  · rw [World.frozen?_of_block (w := w) (a := ⟨B, 0, none⟩) e]; exact hb.2.2.2.2.1
  · rw [World.frozen?_of_block (w := w) (a := ⟨B, 1, none⟩) e]; exact hb.2.2.2.2.2.1
  · rw [World.frozen?_of_block (w := w) (a := ⟨B, 2, none⟩) e]; exact hb.2.2.2.2.2.2
/-- trees below B stay, where a row's own block lies from B on -/
theorem TrIn_off {v : Value} {B : Nat} {w w' : World} (h : Off v w w') (hv : ∀ k, v.ownBlock = some k → B ≤ k) : (∀ t x, TrIn (· < B) w t x → TrIn (· < B) w' t x) ∧ ∀ l a, TrsIn (· < B) w l a → TrsIn (· < B) w' l a :=
  TrIn_frame fun b hb hl => ⟨hb, h.block b hl fun e => by have := hv b e.symm; omega⟩

end Formula
end Go.Proofs.Ythjhokifonjeaaa
