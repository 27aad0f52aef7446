/- Rows of rows of truth values that grow; the letters of stem and loop in one row. Conditions: those of each contract. -/
import Derived.Test.YtbeljjalfhogdaaConcatI
import Derived.Test.YtbeljjalfhogdaaFixP
import Derived.Maps.AppendAt
namespace Go.Proofs.Ytbeljjalfhogdaa
open Go.RowKit
namespace Lasso

theorem and_bit (z v : Int) (hz : 0 ≤ z ∧ z ≤ 7) (hv : 0 ≤ v ∧ v ≤ 2) : (bits BinOp.and IntKind.i64 (z / 2 ^ min v.toNat 64) 1 == 1) = bit z v := by
  rcases (by omega : z = 0 ∨ z = 1 ∨ z = 2 ∨ z = 3 ∨ z = 4 ∨ z = 5 ∨ z = 6 ∨ z = 7) with rfl | rfl | rfl | rfl | rfl | rfl | rfl | rfl <;> rcases (by omega : v = 0 ∨ v = 1 ∨ v = 2) with rfl | rfl | rfl <;> decide
/-- a nil slice has no room -/
def NilOk (x : Value) : Prop := ∀ a n c b m d, x = .agg #[.slice a n c, .slice b m d] → (a = none → c = 0) ∧ (b = none → d = 0)

set_option maxHeartbeats 1000000 in
theorem all_any (l m : List Int) (w : World) (x : Value) (hx : PairIn Any w l m x) (hn : NilOk x) (h1 : l.length ≤ 1000) (h2 : m.length ≤ 1000) : Calls Try.prog 61 #[x] w (ConPost (l ++ m) w) := by
  obtain ⟨a, b, c, d, rfl, hl, hm, hc, hc2, hd, hd2⟩ := hx
  obtain ⟨n1, n2⟩ := hn _ _ _ _ _ _ rfl
  have HC := hid (fun (w' : World) (q : Nat) (ht : Two2 w' q a b l m c d) (M : Below w.heap.size w w') => concat_any w' q a b l m c d ht (hl.below M) (hm.below M) n1 n2 h1 h2)
  clear n1 n2
  go_enter Try.func61, Try.ntmps61
  go_wp2_with fail
  refine (HC.out _ _ ⟨by simp, by simp, by simp⟩ (by repeat (first | exact Below.refl _ _ | assumption | refine below_a ?_ _ | refine below_o ?_ _ | refine below_d ?_ | refine below_n ?_ _ | refine below_s ?_ (by first | (simp; done) | (simp; omega) | omega) _))).mono ?_
  rintro e w1 ⟨v, rfl, hv, hb⟩
  have HV := hid (show ConPost (l ++ m) w (.returned v) w1 from ⟨v, rfl, by
    obtain ⟨k1, k2⟩ := hv
    refine ⟨k1, ?_⟩
    rcases k2 with k2 | ⟨g, cap, cur, e1, e2, e3⟩
    · exact .inl k2
    · exact .inr ⟨g, cap, cur, e1, by simp at e2; omega, e3⟩, below_next (by repeat (first | exact Below.refl _ _ | assumption | refine below_a ?_ _ | refine below_o ?_ _ | refine below_d ?_ | refine below_n ?_ _ | refine below_s ?_ (by first | (simp; done) | (simp; omega) | omega) _)) hb⟩)
  clear hv hb
  go_wp2_with fail
  go_ret
  exact HV.out

/-- the numbers of a row of one's own -/
theorem OwnI.ints {B : Nat} {v : Value} {l : List Int} {w : World} (h : OwnI B v l w) (hl : ∀ n, n ∈ l → i64 n) : ∃ a c, v = .slice a l.length c ∧ l.length ≤ c ∧ c ≤ maxLen ∧ IntsIn Any w a l := by
  have h0 := h
  obtain ⟨k1, k2⟩ := h
  rcases k2 with ⟨rfl, hz⟩ | ⟨g, cap, cur, rfl, e2, e3, e4, e5, e6, e7⟩
  · refine ⟨none, 0, by rw [hz], by omega, by simp, .inl ?_, hl⟩
    simpa using hz
  · refine ⟨_, _, rfl, e4, e5, .inr ⟨g, 0, rfl, trivial, (Array.getElem?_eq_some_iff.1 e3).1, fun i u hu => ?_⟩, hl⟩
    have := World.ownsRow.cells h0 (g := g) rfl i u hu
    have e : Addr.add ⟨g, 0, none⟩ i = ⟨g, 0 + i, none⟩ := by unfold Addr.add; split <;> simp_all
    rw [e] at this
    exact this

/-- rows of n truth values, in a row of one's own -/
def OwnK (B : Nat) (v : Value) (n : Nat) (fs : List (Nat → Bool)) (w : World) : Prop :=
  ∃ Rs : List Nat, Rs.length = fs.length ∧ w.ownsRow B 50 1 v fs.length (Rs.map fun R => Value.slice (some ⟨R, 0, none⟩) n n) ∧
    ∀ (i R : Nat) (f : Nat → Bool), Rs[i]? = some R → fs[i]? = some f → B ≤ R ∧ some R ≠ v.ownBlock ∧ BRow w R n f
theorem OwnK.nil (B n : Nat) (w : World) : OwnK B (.slice none 0 0) n [] w := ⟨[], rfl, World.ownsRow_nil .., by simp⟩
theorem OwnK.keep {B n : Nat} {v : Value} {fs : List (Nat → Bool)} {w w' : World} (h : OwnK B v n fs w) (hk : Keep B w w') : OwnK B v n fs w' := by
  obtain ⟨Rs, h1, h2, h3⟩ := h
  refine ⟨Rs, h1, ownsRow_keep h2 hk, fun i R f hR hf => ?_⟩
  obtain ⟨k1, k2, k3⟩ := h3 i R f hR hf
  exact ⟨k1, k2, Row.kept k3 hk.size (hk.block R k1 k3.1)⟩
theorem OwnK.shape {B n : Nat} {v : Value} {fs : List (Nat → Bool)} {w : World} (h : OwnK B v n fs w) : ∃ a c, v = .slice a fs.length c ∧ fs.length ≤ c ∧ c ≤ maxLen := by
  obtain ⟨Rs, h1, h2, h3⟩ := h
  rcases h2.2 with ⟨rfl, h⟩ | ⟨g, cap, cur, rfl, hb, hgg, h4, h5, _⟩
  · exact ⟨none, 0, by rw [h], by omega, by simp⟩
  · exact ⟨_, _, rfl, h4, h5⟩
theorem OwnK.lt {B n : Nat} {v : Value} {fs : List (Nat → Bool)} {w : World} (h : OwnK B v n fs w) : ∀ k, v.ownBlock = some k → B ≤ k ∧ k < w.heap.size := by
  obtain ⟨Rs, h1, h2, h3⟩ := h
  exact h2.lt

theorem kids_info : (Try.prog.info? 50).map (fun i => (i.zero, i.size, i.bytes)) = some (some (.slice none 0 0), 1, 24) := by kernel_rfl
/-- append(kids, row), at the operation: the row was made meanwhile -/
theorem wp_append_kid {ops : Array Oper} {rest : List Oper} {o : Oper} {a : Act} {Q : Exit → Act → World → Prop} {wr w1 : World} {B n R : Nat} {fs : List (Nat → Bool)} {f : Nat → Bool} {u : Value} {ty : TypeId} (hgd : o.guard = none) (s xx : Operand)
    (ho : o.op = .call { callee := .builtin .append, args := #[s, xx], argTypes := #[86, 86] })
    (hs : a.eval s = u) (hx : a.eval xx = .slice (some ⟨w1.heap.size, 0, none⟩) 1 1)
    (hown : OwnK B u n fs wr) (hB : B ≤ wr.heap.size) (hk : Keep B wr w1) (hR : wr.heap.size ≤ R) (hrow : BRow w1 R n f) (hl : fs.length ≤ 1000000)
    (h : ∀ a2 n2 c2 w', OwnK B (.slice a2 n2 c2) n (fs ++ [f]) w' → Below B w1 w' → (∀ D, (∀ k, u.ownBlock = some k → k = D) → But w1 D w') → wpList Try.prog ops Q rest (a.put o.dst (.slice a2 n2 c2)) w') :
    wpList Try.prog ops Q (o :: rest) a (w1.alloc (.cells #[.slice (some ⟨R, 0, none⟩) n n] ty)) := by
  obtain ⟨Rs, q1, o1, o3⟩ := hown
  obtain ⟨ri, hi, hz, hs1, hs2⟩ := info_parts kids_info
  have s1 := hk.size
  refine wpList_append_own_at _ hgd s xx 86 ho B 50 ri _ 1 24 Try.underlying86 hi hz hs1 hs2 rfl (by omega) u fs.length _ hs ((ownsRow_keep o1 hk).alloc _) ⟨w1.heap.size, 0, none⟩ 1 1 [.slice (some ⟨R, 0, none⟩) n n] hx rfl (cell_one_new _ _ _) (by intro v hv; simp at hv; subst hv; rfl)
    (by simp only [maxLen]; omega) (by omega) (by simp; omega) ?_
  intro v2 w3 hown hgrow _ hat
  have hub := fun k hk => (o1.lt k hk).2
  have hsz := hgrow.size
  simp only [World.size_alloc] at hsz hat
  have hkeep : ∀ b, b < w1.heap.size → some b ≠ u.ownBlock → w3.heap[b]? = w1.heap[b]? := fun b hb hne => by
    rw [hgrow.block b (by simp; omega) hne, (below_alloc w1 _).block b hb]
  have hne : ∀ b, b < w1.heap.size + 1 → some b ≠ u.ownBlock → some b ≠ v2.ownBlock := fun b hb h e => by
    rcases hat with h' | h'
    · rw [h'] at e; exact h e
    · rw [h'] at e; simp at e; omega
  have hsn : OwnK B v2 n (fs ++ [f]) w3 := by
    refine ⟨Rs ++ [R], by simp [q1], by simpa using hown, fun i R' f' hR' hf' => ?_⟩
    by_cases hi : i < fs.length
    · rw [List.getElem?_append_left (by omega)] at hR' hf'
      obtain ⟨k1, k2, k3⟩ := o3 i R' f' hR' hf'
      have hl1 := k3.1
      refine ⟨k1, hne R' (by omega) k2, Row.kept k3 (by omega) ?_⟩
      rw [hkeep R' (by omega) k2]
      exact hk.block R' k1 hl1
    · have hi2 : i = fs.length := by
        have := (List.getElem?_eq_some_iff.1 hf').1
        simp at this; omega
      subst hi2
      rw [List.getElem?_append_right (by omega)] at hR' hf'
      simp [q1] at hR' hf'
      subst hR' hf'
      have hl1 := hrow.1
      have hnu : some R ≠ u.ownBlock := fun e => by have := hub R e.symm; omega
      exact ⟨by omega, hne R (by omega) hnu, Row.kept hrow (by omega) (hkeep R (by omega) hnu)⟩
  obtain ⟨a2, c2, rfl, _⟩ := hsn.shape
  refine h _ _ _ _ hsn ⟨hgrow.os, hgrow.tape, hgrow.output, by omega, fun k hk' => hkeep k (by omega) fun e => by have := (o1.lt k e.symm).1; omega⟩ (fun D hD => ⟨hgrow.os, hgrow.tape, hgrow.output, by omega, fun k hk' hkD => hkeep k hk' fun e => hkD (hD k e.symm)⟩)
theorem OwnK.rows {B n : Nat} {v : Value} {fs : List (Nat → Bool)} {w : World} (h : OwnK B v n fs w) (h0 : 0 < fs.length) : ∃ g c, v = .slice (some ⟨g, 0, none⟩) fs.length c ∧ fs.length ≤ c ∧ g < w.heap.size ∧
    ∀ i f, fs[i]? = some f → ∃ R, w.cell? ⟨g, i, none⟩ = some (.slice (some ⟨R, 0, none⟩) n n) ∧ BRow w R n f := by
  obtain ⟨Rs, h1, h2, h3⟩ := h
  rcases h2.2 with ⟨rfl, hz⟩ | ⟨g, cap, cur, rfl, hb, hgg, h4, h5, _⟩
  · omega
  · refine ⟨g, cap, rfl, h4, (Array.getElem?_eq_some_iff.1 hgg).1, fun i f hf => ?_⟩
    have hi : i < Rs.length := by have := (List.getElem?_eq_some_iff.1 hf).1; omega
    have hR := List.getElem?_eq_getElem hi
    refine ⟨Rs[i], ?_, (h3 i _ f hR hf).2.2⟩
    have := World.ownsRow.cells h2 (g := g) rfl i (.slice (some ⟨Rs[i], 0, none⟩) n n) (by rw [List.getElem?_map, hR]; rfl)
    have e : Addr.add ⟨g, 0, none⟩ i = ⟨g, i, none⟩ := by unfold Addr.add; split <;> simp_all
    rw [e] at this
    exact this
theorem OwnK.kid1 {B n K : Nat} {v : Value} {a : Nat → Bool} {w : World} (h : OwnK B v n [a] w) (hc : Box1 w K v) : Kid1 w K n a := by
  obtain ⟨g, c, rfl, k1, k2, k3⟩ := h.rows (by simp)
  obtain ⟨R, k4, k5⟩ := k3 0 a rfl
  exact ⟨g, c, R, hc.1, k2, k1, hc.2.1, k4, k5⟩
theorem OwnK.kid2 {B n K : Nat} {v : Value} {a b : Nat → Bool} {w : World} (h : OwnK B v n [a, b] w) (hc : Box1 w K v) : Kid2 w K n a b := by
  obtain ⟨g, c, rfl, k1, k2, k3⟩ := h.rows (by simp)
  obtain ⟨R, k4, k5⟩ := k3 0 a rfl
  obtain ⟨S, k6, k7⟩ := k3 1 b rfl
  exact ⟨g, c, R, S, hc.1, k2, k1, hc.2.1, k4, k6, k5, k7⟩
theorem Kid1.below {w w' : World} {K n : Nat} {a : Nat → Bool} (h : Kid1 w K n a) (hb : Below w.heap.size w w') : Kid1 w' K n a := by
  obtain ⟨g, c, ra, h1, h2, h3, h4, h5, h6⟩ := h
  have hs := hb.size
  exact ⟨g, c, ra, by omega, by omega, h3, by rw [hb.cell (p := ⟨K, 0, none⟩) h1]; exact h4, by rw [hb.cell (p := ⟨g, 0, none⟩) h2]; exact h5, Row.below h6 hb⟩
theorem Kid2.below {w w' : World} {K n : Nat} {a b : Nat → Bool} (h : Kid2 w K n a b) (hb : Below w.heap.size w w') : Kid2 w' K n a b := by
  obtain ⟨g, c, ra, rb, h1, h2, h3, h4, h5, h6, h7, h8⟩ := h
  have hs := hb.size
  exact ⟨g, c, ra, rb, by omega, by omega, h3, by rw [hb.cell (p := ⟨K, 0, none⟩) h1]; exact h4, by rw [hb.cell (p := ⟨g, 0, none⟩) h2]; exact h5, by rw [hb.cell (p := ⟨g, 1, none⟩) h2]; exact h6, Row.below h7 hb, Row.below h8 hb⟩
end Lasso
end Go.Proofs.Ytbeljjalfhogdaa
