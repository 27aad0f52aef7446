/- Joined texts (HoldsI, FixP, TruthsP, RegOrd, PairReg, LasWord): contracts and plain laws. Conditions: those of each theorem. -/
import Derived.Test.YtkjnmkjdooebmaaJW2
import Derived.Test.YtkjnmkjdooebmaaJW0
import Derived.Test.YtkjnmkjdooebmaaJW1
import Derived.Maps.AppendAt
set_option linter.unusedVariables false
set_option linter.unusedSimpArgs false
namespace Go.Proofs.Ytkjnmkjdooebmaa
open Go.RowKit
namespace Lasso

/-- a row of n truth values -/
def BRow (w : World) (R n : Nat) (f : Nat → Bool) : Prop := Row w R n (fun i => .bool (f i))
/-- the operands' rows, in a variable K: one -/
def Kid1 (w : World) (K n : Nat) (a : Nat → Bool) : Prop := ∃ g c ra, K < w.heap.size ∧ g < w.heap.size ∧ 1 ≤ c ∧ w.cell? ⟨K, 0, none⟩ = some (.slice (some ⟨g, 0, none⟩) 1 c) ∧ w.cell? ⟨g, 0, none⟩ = some (.slice (some ⟨ra, 0, none⟩) n n) ∧ BRow w ra n a
/-- two -/
def Kid2 (w : World) (K n : Nat) (a b : Nat → Bool) : Prop := ∃ g c ra rb, K < w.heap.size ∧ g < w.heap.size ∧ 2 ≤ c ∧ w.cell? ⟨K, 0, none⟩ = some (.slice (some ⟨g, 0, none⟩) 2 c) ∧ w.cell? ⟨g, 0, none⟩ = some (.slice (some ⟨ra, 0, none⟩) n n) ∧ w.cell? ⟨g, 1, none⟩ = some (.slice (some ⟨rb, 0, none⟩) n n) ∧ BRow w ra n a ∧ BRow w rb n b

set_option maxHeartbeats 1000000 in
theorem untC_any (n K i : Nat) (x : Bool) (a b : Nat → Bool) (w : World) (h : Kid2 w K n a b) (hi : i < n) (_ : n ≤ 1000) : Calls Try.prog 42 #[.int .i64 i, .bool x, .pointer (some ⟨K, 0, none⟩)] w (Ret (.bool (b i || a i && x)) w) := by
  obtain ⟨g, c, ra, rb, k1, k2, k3, c0, c1, c2, r1, r2⟩ := h
  have a1 : w.cell? ⟨ra, i, none⟩ = some (.bool (a i)) := r1.2.1 i hi
  have b1 : w.cell? ⟨rb, i, none⟩ = some (.bool (b i)) := r2.2.1 i hi
  have ra1 := r1.1
  have rb1 := r2.1
  have hi2 : (i : Int) < (n : Int) := by omega
  clear r1 r2
  generalize a i = p at *
  generalize b i = q at *
  go_enter Try.func42, Try.ntmps42
  go_wp2_with fail
  all_goals
    go_ret
    exact Ret.mk (bool_val (by cases p <;> cases q <;> cases x <;> first | rfl | contradiction)) (Below.refl _ _)
set_option maxHeartbeats 1000000 in
theorem rlsC_any (n K i : Nat) (x : Bool) (a b : Nat → Bool) (w : World) (h : Kid2 w K n a b) (hi : i < n) (_ : n ≤ 1000) : Calls Try.prog 43 #[.int .i64 i, .bool x, .pointer (some ⟨K, 0, none⟩)] w (Ret (.bool (b i && (a i || x))) w) := by
  obtain ⟨g, c, ra, rb, k1, k2, k3, c0, c1, c2, r1, r2⟩ := h
  have a1 : w.cell? ⟨ra, i, none⟩ = some (.bool (a i)) := r1.2.1 i hi
  have b1 : w.cell? ⟨rb, i, none⟩ = some (.bool (b i)) := r2.2.1 i hi
  have ra1 := r1.1
  have rb1 := r2.1
  have hi2 : (i : Int) < (n : Int) := by omega
  clear r1 r2
  generalize a i = p at *
  generalize b i = q at *
  go_enter Try.func43, Try.ntmps43
  go_wp2_with fail
  all_goals
    go_ret
    exact Ret.mk (bool_val (by cases p <;> cases q <;> cases x <;> first | rfl | contradiction)) (Below.refl _ _)
set_option maxHeartbeats 1000000 in
theorem evC_any (n K i : Nat) (x : Bool) (a : Nat → Bool) (w : World) (h : Kid1 w K n a) (hi : i < n) (_ : n ≤ 1000) : Calls Try.prog 44 #[.int .i64 i, .bool x, .pointer (some ⟨K, 0, none⟩)] w (Ret (.bool (a i || x)) w) := by
  obtain ⟨g, c, ra, k1, k2, k3, c0, c1, r1⟩ := h
  have a1 : w.cell? ⟨ra, i, none⟩ = some (.bool (a i)) := r1.2.1 i hi
  have ra1 := r1.1
  have hi2 : (i : Int) < (n : Int) := by omega
  clear r1
  generalize a i = p at *
  go_enter Try.func44, Try.ntmps44
  go_wp2_with fail
  all_goals
    go_ret
    exact Ret.mk (bool_val (by cases p <;> cases x <;> first | rfl | contradiction)) (Below.refl _ _)
set_option maxHeartbeats 1000000 in
theorem alC_any (n K i : Nat) (x : Bool) (a : Nat → Bool) (w : World) (h : Kid1 w K n a) (hi : i < n) (_ : n ≤ 1000) : Calls Try.prog 45 #[.int .i64 i, .bool x, .pointer (some ⟨K, 0, none⟩)] w (Ret (.bool (a i && x)) w) := by
  obtain ⟨g, c, ra, k1, k2, k3, c0, c1, r1⟩ := h
  have a1 : w.cell? ⟨ra, i, none⟩ = some (.bool (a i)) := r1.2.1 i hi
  have ra1 := r1.1
  have hi2 : (i : Int) < (n : Int) := by omega
  clear r1
  generalize a i = p at *
  go_enter Try.func45, Try.ntmps45
  go_wp2_with fail
  all_goals
    go_ret
    exact Ret.mk (bool_val (by cases p <;> cases x <;> first | rfl | contradiction)) (Below.refl _ _)
end Lasso
end Go.Proofs.Ytkjnmkjdooebmaa
namespace Go.Proofs.Ytkjnmkjdooebmaa
open Go.RowKit
namespace Lasso

theorem brow_upd {w : World} {R n k : Nat} {f : Nat → Bool} (h : BRow w R n f) (hk : k < n) (v : Bool) : BRow (w.setCell ⟨R, k, none⟩ (.bool v)) R n (upd f k v) :=
  (Row.set h hk (.bool v)).congr fun i _ => by
    unfold upd
    split <;> rfl
theorem But.pbox {w w' : World} {D : Nat} (h : But w D w') {B : Nat} {a b : Value} (hd : B ≠ D) (hb : PBox w B a b) : PBox w' B a b := pbox_but h hd hb
theorem But.box1 {w w' : World} {D : Nat} (h : But w D w') {B : Nat} {a : Value} (hd : B ≠ D) (hb : Box1 w B a) : Box1 w' B a :=
  ⟨Nat.lt_of_lt_of_le hb.1 h.size, by rw [h.cell hb.1 hd]; exact hb.2.1, by rw [h.frozen hb.1 hd]; exact hb.2.2⟩
/-- the truth values that lie in a block -/
def outOf (w : World) (R : Nat) : Nat → Bool := fun i => match w.cell? ⟨R, i, none⟩ with | some (.bool b) => b | _ => false
theorem outOf_row {w : World} {R n : Nat} {f : Nat → Bool} (h : BRow w R n f) {i : Nat} (hi : i < n) : outOf w R i = f i := by
  unfold outOf; rw [h.2.1 i hi]
theorem cntB_congr {v : Bool} {f g : Nat → Bool} {n : Nat} (h : ∀ k, k < n → f k = g k) : cntB v f n = cntB v g n :=
  Nat.le_antisymm (cntB_mono fun k hk e => by rw [← h k hk]; exact e) (cntB_mono fun k hk e => by rw [h k hk]; exact e)
def isT : Value → Bool | .bool true => true | _ => false
/-- what fix comes to -/
def FixPost (R n : Nat) (F : Nat → Bool) (w : World) (e : Ending) (w' : World) : Prop := e = .returned (.tuple #[]) ∧ But w R w' ∧ BRow w' R n F

end Lasso
end Go.Proofs.Ytkjnmkjdooebmaa
namespace Go.Proofs.Ytkjnmkjdooebmaa
open Go.RowKit
namespace Lasso

theorem and_bit (z v : Int) (hz : 0 ≤ z ∧ z ≤ 7) (hv : 0 ≤ v ∧ v ≤ 2) : (bits BinOp.and IntKind.i64 (z / 2 ^ min v.toNat 64) 1 == 1) = bit z v := by
  rcases (by omega : z = 0 ∨ z = 1 ∨ z = 2 ∨ z = 3 ∨ z = 4 ∨ z = 5 ∨ z = 6 ∨ z = 7) with rfl | rfl | rfl | rfl | rfl | rfl | rfl | rfl <;> rcases (by omega : v = 0 ∨ v = 1 ∨ v = 2) with rfl | rfl | rfl <;> decide
/-- a nil slice has no room -/
def NilOk (x : Value) : Prop := ∀ a n c b m d, x = .agg #[.slice a n c, .slice b m d] → (a = none → c = 0) ∧ (b = none → d = 0)

set_option maxHeartbeats 1000000 in
theorem all_any (l m : List Int) (w : World) (x : Value) (hx : PairIn Any w l m x) (hn : NilOk x) (h1 : l.length ≤ 1000) (h2 : m.length ≤ 1000) : Calls Try.prog 39 #[x] w (ConPost (l ++ m) w) := by
  obtain ⟨a, b, c, d, rfl, hl, hm, hc, hc2, hd, hd2⟩ := hx
  obtain ⟨n1, n2⟩ := hn _ _ _ _ _ _ rfl
  have HC := hid (fun (w' : World) (q : Nat) (ht : Two2 w' q a b l m c d) (M : Below w.heap.size w w') => concat_any w' q a b l m c d ht (hl.below M) (hm.below M) n1 n2 h1 h2)
  clear n1 n2
  go_enter Try.func39, Try.ntmps39
  go_wp2_with fail
  refine (HC.out _ _ ⟨by simp, by simp, by simp⟩ (by repeat (first | exact Below.refl _ _ | assumption | refine below_a ?_ _ | refine below_o ?_ _ | refine below_d ?_ | refine below_n ?_ _ | refine below_s ?_ (by first | (simp; done) | (simp; omega) | omega) _))).mono ?_
  rintro e w1 ⟨v, rfl, hv, hb⟩
  have HV := hid (show ConPost (l ++ m) w (.returned v) w1 from ⟨v, rfl, by
    obtain ⟨k1, k2⟩ := hv
    refine ⟨k1, ?_⟩
    rcases k2 with k2 | ⟨g, cap, cur, e1, e2, e3⟩
    · exact .inl k2
    · exact .inr ⟨g, cap, cur, e1, by simp at e2; omega, e3⟩, below_next (by repeat (first | exact Below.refl _ _ | assumption | refine below_a ?_ _ | refine below_o ?_ _ | refine below_d ?_ | refine below_n ?_ _ | refine below_s ?_ (by first | (simp; done) | (simp; omega) | omega) _)) hb⟩)
  clear hv hb
  go_wp2_with fail
  go_ret
  exact HV.out

/-- the numbers of a row of one's own -/
theorem OwnI.ints {B : Nat} {v : Value} {l : List Int} {w : World} (h : OwnI B v l w) (hl : ∀ n, n ∈ l → i64 n) : ∃ a c, v = .slice a l.length c ∧ l.length ≤ c ∧ c ≤ maxLen ∧ IntsIn Any w a l := by
  have h0 := h
  obtain ⟨k1, k2⟩ := h
  rcases k2 with ⟨rfl, hz⟩ | ⟨g, cap, cur, rfl, e2, e3, e4, e5, e6, e7⟩
  · refine ⟨none, 0, by rw [hz], by omega, by simp, .inl ?_, hl⟩
    simpa using hz
  · refine ⟨_, _, rfl, e4, e5, .inr ⟨g, 0, rfl, trivial, (Array.getElem?_eq_some_iff.1 e3).1, fun i u hu => ?_⟩, hl⟩
    have := World.ownsRow.cells h0 (g := g) rfl i u hu
    have e : Addr.add ⟨g, 0, none⟩ i = ⟨g, 0 + i, none⟩ := by unfold Addr.add; split <;> simp_all
    rw [e] at this
    exact this

/-- rows of n truth values, in a row of one's own -/
def OwnK (B : Nat) (v : Value) (n : Nat) (fs : List (Nat → Bool)) (w : World) : Prop :=
  ∃ Rs : List Nat, Rs.length = fs.length ∧ w.ownsRow B 49 1 v fs.length (Rs.map fun R => Value.slice (some ⟨R, 0, none⟩) n n) ∧
    ∀ (i R : Nat) (f : Nat → Bool), Rs[i]? = some R → fs[i]? = some f → B ≤ R ∧ some R ≠ v.ownBlock ∧ BRow w R n f
theorem OwnK.nil (B n : Nat) (w : World) : OwnK B (.slice none 0 0) n [] w := ⟨[], rfl, World.ownsRow_nil .., by simp⟩
theorem OwnK.keep {B n : Nat} {v : Value} {fs : List (Nat → Bool)} {w w' : World} (h : OwnK B v n fs w) (hk : Keep B w w') : OwnK B v n fs w' := by
  obtain ⟨Rs, h1, h2, h3⟩ := h
  refine ⟨Rs, h1, ownsRow_keep h2 hk, fun i R f hR hf => ?_⟩
  obtain ⟨k1, k2, k3⟩ := h3 i R f hR hf
  exact ⟨k1, k2, Row.kept k3 hk.size (hk.block R k1 k3.1)⟩
theorem OwnK.shape {B n : Nat} {v : Value} {fs : List (Nat → Bool)} {w : World} (h : OwnK B v n fs w) : ∃ a c, v = .slice a fs.length c ∧ fs.length ≤ c ∧ c ≤ maxLen := by
  obtain ⟨Rs, h1, h2, h3⟩ := h
  rcases h2.2 with ⟨rfl, h⟩ | ⟨g, cap, cur, rfl, hb, hgg, h4, h5, _⟩
  · exact ⟨none, 0, by rw [h], by omega, by simp⟩
  · exact ⟨_, _, rfl, h4, h5⟩
theorem OwnK.lt {B n : Nat} {v : Value} {fs : List (Nat → Bool)} {w : World} (h : OwnK B v n fs w) : ∀ k, v.ownBlock = some k → B ≤ k ∧ k < w.heap.size := by
  obtain ⟨Rs, h1, h2, h3⟩ := h
  exact h2.lt

theorem kids_info : (Try.prog.info? 49).map (fun i => (i.zero, i.size, i.bytes)) = some (some (.slice none 0 0), 1, 24) := by kernel_rfl
/-- append(kids, row), at the operation: the row was made meanwhile -/
theorem wp_append_kid {ops : Array Oper} {rest : List Oper} {o : Oper} {a : Act} {Q : Exit → Act → World → Prop} {wr w1 : World} {B n R : Nat} {fs : List (Nat → Bool)} {f : Nat → Bool} {u : Value} {ty : TypeId} (hgd : o.guard = none) (s xx : Operand)
    (ho : o.op = .call { callee := .builtin .append, args := #[s, xx], argTypes := #[66, 66] })
    (hs : a.eval s = u) (hx : a.eval xx = .slice (some ⟨w1.heap.size, 0, none⟩) 1 1)
    (hown : OwnK B u n fs wr) (hB : B ≤ wr.heap.size) (hk : Keep B wr w1) (hR : wr.heap.size ≤ R) (hrow : BRow w1 R n f) (hl : fs.length ≤ 1000000)
    (h : ∀ a2 n2 c2 w', OwnK B (.slice a2 n2 c2) n (fs ++ [f]) w' → Below B w1 w' → (∀ D, (∀ k, u.ownBlock = some k → k = D) → But w1 D w') → wpList Try.prog ops Q rest (a.put o.dst (.slice a2 n2 c2)) w') :
    wpList Try.prog ops Q (o :: rest) a (w1.alloc (.cells #[.slice (some ⟨R, 0, none⟩) n n] ty)) := by
  obtain ⟨Rs, q1, o1, o3⟩ := hown
  obtain ⟨ri, hi, hz, hs1, hs2⟩ := info_parts kids_info
  have s1 := hk.size
  refine wpList_append_own_at _ hgd s xx 66 ho B 49 ri _ 1 24 Try.underlying66 hi hz hs1 hs2 rfl (by omega) u fs.length _ hs ((ownsRow_keep o1 hk).alloc _) ⟨w1.heap.size, 0, none⟩ 1 1 [.slice (some ⟨R, 0, none⟩) n n] hx rfl (cell_one_new _ _ _) (by intro v hv; simp at hv; subst hv; rfl)
    (by simp only [maxLen]; omega) (by omega) (by simp; omega) ?_
  intro v2 w3 hown hgrow _ hat
  have hub := fun k hk => (o1.lt k hk).2
  have hsz := hgrow.size
  simp only [World.size_alloc] at hsz hat
  have hkeep : ∀ b, b < w1.heap.size → some b ≠ u.ownBlock → w3.heap[b]? = w1.heap[b]? := fun b hb hne => by
    rw [hgrow.block b (by simp; omega) hne, (below_alloc w1 _).block b hb]
  have hne : ∀ b, b < w1.heap.size + 1 → some b ≠ u.ownBlock → some b ≠ v2.ownBlock := fun b hb h e => by
    rcases hat with h' | h'
    · rw [h'] at e; exact h e
    · rw [h'] at e; simp at e; omega
  have hsn : OwnK B v2 n (fs ++ [f]) w3 := by
    refine ⟨Rs ++ [R], by simp [q1], by simpa using hown, fun i R' f' hR' hf' => ?_⟩
    by_cases hi : i < fs.length
    · rw [List.getElem?_append_left (by omega)] at hR' hf'
      obtain ⟨k1, k2, k3⟩ := o3 i R' f' hR' hf'
      have hl1 := k3.1
      refine ⟨k1, hne R' (by omega) k2, Row.kept k3 (by omega) ?_⟩
      rw [hkeep R' (by omega) k2]
      exact hk.block R' k1 hl1
    · have hi2 : i = fs.length := by
        have := (List.getElem?_eq_some_iff.1 hf').1
        simp at this; omega
      subst hi2
      rw [List.getElem?_append_right (by omega)] at hR' hf'
      simp [q1] at hR' hf'
      subst hR' hf'
      have hl1 := hrow.1
      have hnu : some R ≠ u.ownBlock := fun e => by have := hub R e.symm; omega
      exact ⟨by omega, hne R (by omega) hnu, Row.kept hrow (by omega) (hkeep R (by omega) hnu)⟩
  obtain ⟨a2, c2, rfl, _⟩ := hsn.shape
  refine h _ _ _ _ hsn ⟨hgrow.os, hgrow.tape, hgrow.output, by omega, fun k hk' => hkeep k (by omega) fun e => by have := (o1.lt k e.symm).1; omega⟩ (fun D hD => ⟨hgrow.os, hgrow.tape, hgrow.output, by omega, fun k hk' hkD => hkeep k hk' fun e => hkD (hD k e.symm)⟩)
theorem OwnK.rows {B n : Nat} {v : Value} {fs : List (Nat → Bool)} {w : World} (h : OwnK B v n fs w) (h0 : 0 < fs.length) : ∃ g c, v = .slice (some ⟨g, 0, none⟩) fs.length c ∧ fs.length ≤ c ∧ g < w.heap.size ∧
    ∀ i f, fs[i]? = some f → ∃ R, w.cell? ⟨g, i, none⟩ = some (.slice (some ⟨R, 0, none⟩) n n) ∧ BRow w R n f := by
  obtain ⟨Rs, h1, h2, h3⟩ := h
  rcases h2.2 with ⟨rfl, hz⟩ | ⟨g, cap, cur, rfl, hb, hgg, h4, h5, _⟩
  · omega
  · refine ⟨g, cap, rfl, h4, (Array.getElem?_eq_some_iff.1 hgg).1, fun i f hf => ?_⟩
    have hi : i < Rs.length := by have := (List.getElem?_eq_some_iff.1 hf).1; omega
    have hR := List.getElem?_eq_getElem hi
    refine ⟨Rs[i], ?_, (h3 i _ f hR hf).2.2⟩
    have := World.ownsRow.cells h2 (g := g) rfl i (.slice (some ⟨Rs[i], 0, none⟩) n n) (by rw [List.getElem?_map, hR]; rfl)
    have e : Addr.add ⟨g, 0, none⟩ i = ⟨g, i, none⟩ := by unfold Addr.add; split <;> simp_all
    rw [e] at this
    exact this
theorem OwnK.kid1 {B n K : Nat} {v : Value} {a : Nat → Bool} {w : World} (h : OwnK B v n [a] w) (hc : Box1 w K v) : Kid1 w K n a := by
  obtain ⟨g, c, rfl, k1, k2, k3⟩ := h.rows (by simp)
  obtain ⟨R, k4, k5⟩ := k3 0 a rfl
  exact ⟨g, c, R, hc.1, k2, k1, hc.2.1, k4, k5⟩
theorem OwnK.kid2 {B n K : Nat} {v : Value} {a b : Nat → Bool} {w : World} (h : OwnK B v n [a, b] w) (hc : Box1 w K v) : Kid2 w K n a b := by
  obtain ⟨g, c, rfl, k1, k2, k3⟩ := h.rows (by simp)
  obtain ⟨R, k4, k5⟩ := k3 0 a rfl
  obtain ⟨S, k6, k7⟩ := k3 1 b rfl
  exact ⟨g, c, R, S, hc.1, k2, k1, hc.2.1, k4, k6, k5, k7⟩
theorem Kid1.below {w w' : World} {K n : Nat} {a : Nat → Bool} (h : Kid1 w K n a) (hb : Below w.heap.size w w') : Kid1 w' K n a := by
  obtain ⟨g, c, ra, h1, h2, h3, h4, h5, h6⟩ := h
  have hs := hb.size
  exact ⟨g, c, ra, by omega, by omega, h3, by rw [hb.cell (p := ⟨K, 0, none⟩) h1]; exact h4, by rw [hb.cell (p := ⟨g, 0, none⟩) h2]; exact h5, Row.below h6 hb⟩
theorem Kid2.below {w w' : World} {K n : Nat} {a b : Nat → Bool} (h : Kid2 w K n a b) (hb : Below w.heap.size w w') : Kid2 w' K n a b := by
  obtain ⟨g, c, ra, rb, h1, h2, h3, h4, h5, h6, h7, h8⟩ := h
  have hs := hb.size
  exact ⟨g, c, ra, rb, by omega, by omega, h3, by rw [hb.cell (p := ⟨K, 0, none⟩) h1]; exact h4, by rw [hb.cell (p := ⟨g, 0, none⟩) h2]; exact h5, by rw [hb.cell (p := ⟨g, 1, none⟩) h2]; exact h6, Row.below h7 hb, Row.below h8 hb⟩
end Lasso
end Go.Proofs.Ytkjnmkjdooebmaa
namespace Go.Proofs.Ytkjnmkjdooebmaa
open Go.RowKit

/-- which operations may come up, one behind the other; 'fre', 'twf': of those that wait for all reads -/
inductive Ord where
  | done
  | one (i : Nat) (r : Ord)
  | fre (i : Nat) (r : Ord)
  | two (i j : Nat) (r s : Ord)
  | twf (i j : Nat) (r s : Ord)
  | thr (i j k : Nat) (r s t : Ord)

section
variable {P : Program} {ops : Array Oper} {Q : Exit → Act → World → Prop} {md : Region.Mode} {C : World → Prop} {Z : List Nat}

/-- whatever order is picked; C holds behind each operation but those of Z -/
def AnyZ (P : Program) (md : Region.Mode) (ops : Array Oper) (Q : Exit → Act → World → Prop) (C : World → Prop) (Z : List Nat) : Nat → Array Bool → Act → World → Prop
  | 0, listed, a, w => Region.ready md ops listed = [] ∧ Q .normal a w
  | n + 1, listed, a, w => (Region.ready md ops listed = [] → Q .normal a w) ∧ ∀ i, i ∈ Region.ready md ops listed →
      wpOp P ops Q i (fun a' w' => (Z.contains i = false → C w') ∧ AnyZ P md ops Q C Z n (listed.setIfInBounds i true) a' w') a w

theorem AnyZ.sound : ∀ (n : Nat) (listed : Array Bool) (a : Act) (w : World), AnyZ P md ops Q C Z n listed a w → wpAny P md ops Q n listed a w
  | 0, _, _, _, h => h
  | n + 1, _, _, _, h => ⟨h.1, fun i hi => wpOp_mono (fun a' w' h' => AnyZ.sound n _ a' w' h'.2) (h.2 i hi)⟩

/-- all operations of Z wait for operation i -/
def waitsZ (md : Region.Mode) (ops : Array Oper) (Z : List Nat) (i : Nat) : Bool := Z.all fun z => waits md ops z i

theorem AnyZ.take {i : Nat} {o : Oper} {v : Value} (hi : ops[i]? = some o) (hsel : Region.noSelect ops = true) (hQ : ∀ c a w, Q (.panic c) (a.put o.dst v) w → Q (.panic c) a w) (hz : waitsZ md ops Z i = true) :
    ∀ (n : Nat) (listed : Array Bool) (a : Act) (w : World),
      (∀ j oj, ops[j]? = some oj → j ≠ i → listed.getD j true = false → (∀ e ∈ oj.after, Region.binds md e = true → e.on ≠ i) → o.apart ops oj = true) →
      i ∈ Region.ready md ops listed → YieldsIf P ops C o v a → C w → AnyZ P md ops Q C Z n (listed.setIfInBounds i true) (a.put o.dst v) w → AnyZ P md ops Q C Z (n + 1) listed a w := by
  intro n
  induction n with
  | zero =>
    intro listed a w _ hr hy hC H
    refine ⟨fun h => by (rw [h] at hr; cases hr), fun j hj => ?_⟩
    by_cases e : j = i
    · subst e; exact hy.wpOp hi hC ⟨fun _ => hC, H⟩
    · have h1 := ready_mono hj e
      rw [H.1] at h1; cases h1
  | succ n ih =>
    intro listed a w hfree hr hy hC H
    refine ⟨fun h => by (rw [h] at hr; cases hr), fun j hj => ?_⟩
    by_cases e : j = i
    · subst e; exact hy.wpOp hi hC ⟨fun _ => hC, H⟩
    · have h1 := H.2 j (ready_mono hj e)
      obtain ⟨hun, oj, hoj, hall⟩ := mem_ready.1 hj
      have hno : ∀ x ∈ oj.after, Region.binds md x = true → x.on ≠ i := fun x hx hb he => by
        have h2 := hall x hx hb
        have h3 := (mem_ready.1 hr).1
        rw [he] at h2
        rcases Nat.lt_or_ge i listed.size with h4 | h4
        · simp [h4] at h2 h3; rw [h3] at h2; cases h2
        · simp [Array.getElem?_eq_none h4] at h2
      have hjz : Z.contains j = false := by
        cases hjz : Z.contains j with
        | false => rfl
        | true =>
          exfalso
          unfold waitsZ at hz
          rw [List.all_eq_true] at hz
          have hz := hz j (by simpa using hjz)
          unfold waits at hz
          rw [hoj] at hz
          simp only [Option.map_some, Option.getD_some, Array.any_eq_true] at hz
          obtain ⟨k, hk, hz⟩ := hz
          simp only [Bool.and_eq_true, beq_iff_eq] at hz
          exact hno _ (Array.getElem_mem hk) hz.1 hz.2
      have h5 := wpOp_putIf hoj (hfree j oj hoj e hun hno) (fun cs b => Region.noSelect_spec hsel i o cs b hi) (fun cs b => Region.noSelect_spec hsel j oj cs b hoj) hQ hy h1
      have hri := ready_mono (md := md) hr (Ne.symm e)
      refine wpOp_mono (fun a' w' h6 => ?_) h5
      have hCw : C w' := h6.2.1 hjz
      exact ⟨fun _ => hCw, ih (listed.setIfInBounds j true) a' w' (fun k ok hk hki hu hnk => hfree k ok hk hki (by
          by_cases hjk : j = k
          · subst hjk; exact hun
          · rw [getD_set_ne true hjk] at hu; exact hu) hnk) hri h6.1 hCw (by rw [Array.setIfInBounds_comm _ _ e]; exact h6.2.2)⟩

/-- an operation that only reads: a plain one, or 'len' -/
def lenOp (o : Oper) : Bool := match o.op with
  | .call { callee := .builtin .len, .. } => true
  | _ => false
theorem len_value {o : Oper} (h : lenOp o = true) {ρ : Operand → Value} {w w' : World} {n : Next} (hr : Sem.run P (execOp ρ o) w = .ok n w') : ∃ u, n = .value u := by
  obtain ⟨dst, op, ty, pos, after, guard⟩ := o
  unfold lenOp at h
  split at h
  · rename_i c1 c2 hop
    dsimp only at hop
    subst hop
    unfold execOp at hr
    simp only [resolve, invoke, builtin, Sem.run_bind, Sem.run_pure, Result.andThen_ok] at hr
    generalize Sem.run P (Builtin.len_ c2 ty (Array.map ρ c1)) w = rr at hr
    cases rr with
    | ok v w1 => simp [Result.andThen] at hr; exact ⟨v, hr.1.symm⟩
    | halt h w1 => simp [Result.andThen] at hr
  · cases h
theorem plain2_value {o : Oper} (h : (plainOp o || lenOp o) = true) {ρ : Operand → Value} {w w' : World} {n : Next} (hr : Sem.run P (execOp ρ o) w = .ok n w') : ∃ u, n = .value u := by
  rw [Bool.or_eq_true] at h
  rcases h with h | h
  · exact plain_value h hr
  · exact len_value h hr
/-- each of these may be taken first, one behind the other -/
def preZ (md : Region.Mode) (l : List Oper) (Z : List Nat) : List Nat → Array Bool → Bool
  | [], _ => true
  | i :: r, listed => (Region.ready md l.toArray listed).contains i && (Region.free md l.toArray listed i && (waitsZ md l.toArray Z i && (((l[i]?).map fun o => plainOp o || lenOp o).getD false && preZ md l Z r (listed.setIfInBounds i true))))
theorem AnyZ.pre {l : List Oper} {n : Nat} {w : World} (hsel : Region.noSelect l.toArray = true) (hQ : ∀ d v c a w, Q (.panic c) (Act.put a d v) w → Q (.panic c) a w) (hC : C w) :
    ∀ (I : List Nat) (listed : Array Bool) (a : Act), preZ md l Z I listed = true → wpQuiet P l.toArray C (fun a' => AnyZ P md l.toArray Q C Z n (marked I listed) a' w) (pick l I) a → AnyZ P md l.toArray Q C Z (n + I.length) listed a w := by
  intro I
  induction I with
  | nil => intro listed a _ h; exact h
  | cons i r ih =>
    intro listed a hB h
    simp only [preZ, Bool.and_eq_true] at hB
    obtain ⟨h1, h2, h3, h4, h5⟩ := hB
    cases ho : l[i]? with
    | none => rw [ho] at h4; simp at h4
    | some o =>
      rw [ho] at h4
      simp only [Option.map_some, Option.getD_some] at h4
      rw [pick_cons ho] at h
      have hoa : l.toArray[i]? = some o := by simpa using ho
      unfold wpQuiet at h
      have hgo : ∀ v, YieldsIf P l.toArray C o v a → wpQuiet P l.toArray C (fun a' => AnyZ P md l.toArray Q C Z n (marked r (listed.setIfInBounds i true)) a' w) (pick l r) (a.put o.dst v) → AnyZ P md l.toArray Q C Z (n + (i :: r).length) listed a w := fun v hy hr =>
        AnyZ.take hoa hsel (fun c a w => hQ _ _ c a w) h3 _ listed a w (Region.free_spec hoa h2) (by simpa using h1) hy hC (ih _ _ h5 hr)
      split at h
      · rename_i hw
        obtain ⟨v, hv, hr⟩ := h
        refine hgo v (.inl ⟨hw, fun w1 hw1 => ?_⟩) hr
        have hq := hv w1 hw1
        unfold Oper.quietAt at hq
        cases hrun : Sem.run P (execOp a.eval o) w1 with
        | ok nx w2 =>
          obtain ⟨u, rfl⟩ := plain2_value h4 hrun
          rw [hrun] at hq
          simp only [Oper.quietUpon] at hq
          rw [hq.1, hq.2]
        | halt hh w2 => rw [hrun] at hq; simp only [Oper.quietUpon] at hq
      · rename_i hw
        exact hgo undef (.inr ⟨by simpa using hw, rfl⟩) h


/-- these orders, and no others -/
def ordB (md : Region.Mode) (l : List Oper) (Z : List Nat) : Ord → Array Bool → Bool
  | .done, listed => (Region.ready md l.toArray listed).isEmpty
  | .one i r, listed => (Region.ready md l.toArray listed) == [i] && ((l[i]?).isSome && ordB md l Z r (listed.setIfInBounds i true))
  | .fre i r, listed => (Region.ready md l.toArray listed) == [i] && ((l[i]?).isSome && (Z.contains i && ordB md l Z r (listed.setIfInBounds i true)))
  | .two i j r s, listed => (Region.ready md l.toArray listed) == [i, j] && ((l[i]?).isSome && ((l[j]?).isSome && (ordB md l Z r (listed.setIfInBounds i true) && ordB md l Z s (listed.setIfInBounds j true))))
  | .twf i j r s, listed => (Region.ready md l.toArray listed) == [i, j] && ((l[i]?).isSome && ((l[j]?).isSome && (Z.contains i && (Z.contains j && (ordB md l Z r (listed.setIfInBounds i true) && ordB md l Z s (listed.setIfInBounds j true))))))
  | .thr i j k r s t, listed => (Region.ready md l.toArray listed) == [i, j, k] && ((l[i]?).isSome && ((l[j]?).isSome && ((l[k]?).isSome && (ordB md l Z r (listed.setIfInBounds i true) && (ordB md l Z s (listed.setIfInBounds j true) && ordB md l Z t (listed.setIfInBounds k true))))))
def Ord.len : Ord → Nat
  | .done => 0
  | .one _ r => r.len + 1
  | .fre _ r => r.len + 1
  | .two _ _ r _ => r.len + 1
  | .twf _ _ r _ => r.len + 1
  | .thr _ _ _ r _ _ => r.len + 1
/-- both ways are equally long -/
def Ord.even : Ord → Bool
  | .done => true
  | .one _ r => r.even
  | .fre _ r => r.even
  | .two _ _ r s => r.len == s.len && (r.even && s.even)
  | .twf _ _ r s => r.len == s.len && (r.even && s.even)
  | .thr _ _ _ r s t => r.len == s.len && (r.len == t.len && (r.even && (s.even && t.even)))

/-- each order, an operation at a time; C is shown behind each that does not wait for all reads -/
def ordW (P : Program) (ops : Array Oper) (Q : Exit → Act → World → Prop) (C : World → Prop) (l : List Oper) : Ord → Act → World → Prop
  | .done, a, w => Q .normal a w
  | .one i r, a, w => wpList P ops (Exit.then (fun a' w' => C w' ∧ ordW P ops Q C l r a' w') Q) (pick l [i]) a w
  | .fre i r, a, w => wpList P ops (Exit.then (fun a' w' => ordW P ops Q C l r a' w') Q) (pick l [i]) a w
  | .two i j r s, a, w => wpList P ops (Exit.then (fun a' w' => C w' ∧ ordW P ops Q C l r a' w') Q) (pick l [i]) a w ∧ wpList P ops (Exit.then (fun a' w' => C w' ∧ ordW P ops Q C l s a' w') Q) (pick l [j]) a w
  | .twf i j r s, a, w => wpList P ops (Exit.then (fun a' w' => ordW P ops Q C l r a' w') Q) (pick l [i]) a w ∧ wpList P ops (Exit.then (fun a' w' => ordW P ops Q C l s a' w') Q) (pick l [j]) a w
  | .thr i j k r s t, a, w => wpList P ops (Exit.then (fun a' w' => C w' ∧ ordW P ops Q C l r a' w') Q) (pick l [i]) a w ∧ wpList P ops (Exit.then (fun a' w' => C w' ∧ ordW P ops Q C l s a' w') Q) (pick l [j]) a w ∧ wpList P ops (Exit.then (fun a' w' => C w' ∧ ordW P ops Q C l t a' w') Q) (pick l [k]) a w

theorem pick_one {l : List Oper} {i : Nat} {o : Oper} (h : l[i]? = some o) : pick l [i] = [o] := by simp [pick, h]

theorem AnyZ.ord {l : List Oper} : ∀ (T : Ord) (listed : Array Bool) (a : Act) (w : World), ordB md l Z T listed = true → T.even = true → ordW P l.toArray Q C l T a w → AnyZ P md l.toArray Q C Z T.len listed a w := by
  intro T
  induction T with
  | done => intro listed a w h _ hw; exact ⟨List.isEmpty_iff.1 h, hw⟩
  | one i r ih =>
    intro listed a w hB he h
    simp only [ordB, Bool.and_eq_true, beq_iff_eq] at hB
    obtain ⟨h1, h2, h3⟩ := hB
    obtain ⟨o, ho⟩ := Option.isSome_iff_exists.1 h2
    have hoa : l.toArray[i]? = some o := by simpa using ho
    rw [ordW, pick_one ho] at h
    refine ⟨fun hn => by (rw [h1] at hn; cases hn), fun j hj => ?_⟩
    rw [h1] at hj
    obtain rfl : j = i := by simpa using hj
    exact wpOp_mono (fun a' w' hq => ⟨fun _ => hq.1, ih _ a' w' h3 he hq.2⟩) (op_then hoa h)
  | fre i r ih =>
    intro listed a w hB he h
    simp only [ordB, Bool.and_eq_true, beq_iff_eq] at hB
    obtain ⟨h1, h2, h4, h3⟩ := hB
    obtain ⟨o, ho⟩ := Option.isSome_iff_exists.1 h2
    have hoa : l.toArray[i]? = some o := by simpa using ho
    rw [ordW, pick_one ho] at h
    refine ⟨fun hn => by (rw [h1] at hn; cases hn), fun j hj => ?_⟩
    rw [h1] at hj
    obtain rfl : j = i := by simpa using hj
    exact wpOp_mono (fun a' w' hq => ⟨fun hc => (by rw [h4] at hc; cases hc), ih _ a' w' h3 he hq⟩) (op_then hoa h)
  | two i j r s ihr ihs =>
    intro listed a w hB he h
    simp only [ordB, Bool.and_eq_true, beq_iff_eq] at hB
    obtain ⟨h1, h2, h3, h4, h5⟩ := hB
    simp only [Ord.even, Bool.and_eq_true, beq_iff_eq] at he
    obtain ⟨e1, e2, e3⟩ := he
    obtain ⟨o, ho⟩ := Option.isSome_iff_exists.1 h2
    obtain ⟨o', ho'⟩ := Option.isSome_iff_exists.1 h3
    have hoa : l.toArray[i]? = some o := by simpa using ho
    have hoa' : l.toArray[j]? = some o' := by simpa using ho'
    rw [ordW, pick_one ho, pick_one ho'] at h
    refine ⟨fun hn => by (rw [h1] at hn; cases hn), fun k hk => ?_⟩
    rw [h1] at hk
    have hk2 : k = i ∨ k = j := by simpa using hk
    rcases hk2 with rfl | rfl
    · exact wpOp_mono (fun a' w' hq => ⟨fun _ => hq.1, ihr _ a' w' h4 e2 hq.2⟩) (op_then hoa h.1)
    · exact wpOp_mono (fun a' w' hq => ⟨fun _ => hq.1, by rw [e1]; exact ihs _ a' w' h5 e3 hq.2⟩) (op_then hoa' h.2)
  | twf i j r s ihr ihs =>
    intro listed a w hB he h
    simp only [ordB, Bool.and_eq_true, beq_iff_eq] at hB
    obtain ⟨h1, h2, h3, z1, z2, h4, h5⟩ := hB
    simp only [Ord.even, Bool.and_eq_true, beq_iff_eq] at he
    obtain ⟨e1, e2, e3⟩ := he
    obtain ⟨o, ho⟩ := Option.isSome_iff_exists.1 h2
    obtain ⟨o', ho'⟩ := Option.isSome_iff_exists.1 h3
    have hoa : l.toArray[i]? = some o := by simpa using ho
    have hoa' : l.toArray[j]? = some o' := by simpa using ho'
    rw [ordW, pick_one ho, pick_one ho'] at h
    refine ⟨fun hn => by (rw [h1] at hn; cases hn), fun k hk => ?_⟩
    rw [h1] at hk
    have hk2 : k = i ∨ k = j := by simpa using hk
    rcases hk2 with rfl | rfl
    · exact wpOp_mono (fun a' w' hq => ⟨fun hc => (by rw [z1] at hc; cases hc), ihr _ a' w' h4 e2 hq⟩) (op_then hoa h.1)
    · exact wpOp_mono (fun a' w' hq => ⟨fun hc => (by rw [z2] at hc; cases hc), by rw [e1]; exact ihs _ a' w' h5 e3 hq⟩) (op_then hoa' h.2)
  | thr i j k r s t ihr ihs iht =>
    intro listed a w hB he h
    simp only [ordB, Bool.and_eq_true, beq_iff_eq] at hB
    obtain ⟨h1, h2, h3, h3', h4, h5, h6⟩ := hB
    simp only [Ord.even, Bool.and_eq_true, beq_iff_eq] at he
    obtain ⟨e1, e1', e2, e3, e4⟩ := he
    obtain ⟨o, ho⟩ := Option.isSome_iff_exists.1 h2
    obtain ⟨o', ho'⟩ := Option.isSome_iff_exists.1 h3
    obtain ⟨o2, ho2⟩ := Option.isSome_iff_exists.1 h3'
    have hoa : l.toArray[i]? = some o := by simpa using ho
    have hoa' : l.toArray[j]? = some o' := by simpa using ho'
    have hoa2 : l.toArray[k]? = some o2 := by simpa using ho2
    rw [ordW, pick_one ho, pick_one ho', pick_one ho2] at h
    refine ⟨fun hn => by (rw [h1] at hn; cases hn), fun m hk => ?_⟩
    rw [h1] at hk
    have hk2 : m = i ∨ m = j ∨ m = k := by simpa using hk
    rcases hk2 with rfl | rfl | rfl
    · exact wpOp_mono (fun a' w' hq => ⟨fun _ => hq.1, ihr _ a' w' h4 e2 hq.2⟩) (op_then hoa h.1)
    · exact wpOp_mono (fun a' w' hq => ⟨fun _ => hq.1, by rw [e1]; exact ihs _ a' w' h5 e3 hq.2⟩) (op_then hoa' h.2.1)
    · exact wpOp_mono (fun a' w' hq => ⟨fun _ => hq.1, by rw [e1']; exact iht _ a' w' h6 e4 hq.2⟩) (op_then hoa2 h.2.2)

/-- **A REGION THAT DRAWS: ITS READS FIRST (I), THEN ONE OF A FEW ORDERS (T)**; Z: the operations that wait for all reads -/
theorem wp_region_ord {id : Nat} {a : Act} {w : World} {l : List Oper} (I : List Nat) (T : Ord) (Z : List Nat) (hm : P.follows .mixedOrders = true)
    (hB : (Region.noSelect l.toArray && (preZ .any l Z I (Array.replicate l.length false) && (ordB .any l Z T (marked I (Array.replicate l.length false)) && (T.even && decide (T.len + I.length = l.length))))) = true)
    (hQ : ∀ d v c a w, Q (.panic c) (Act.put a d v) w → Q (.panic c) a w) (hC : C w.drew)
    (h : wpQuiet P l.toArray C (fun a' => ordW P l.toArray Q C l T a' w.drew) (pick l I) a) : (Code.region id l.toArray true).wp P Q a w := by
  simp only [Bool.and_eq_true, decide_eq_true_eq] at hB
  obtain ⟨h1, h2, h3, h4, h5⟩ := hB
  refine wp_region_any hm (AnyZ.sound (C := C) (Z := Z) _ _ _ _ ?_)
  have := AnyZ.pre (n := T.len) h1 hQ hC I _ a h2 (wpQuiet_mono' (fun a' ha => AnyZ.ord T _ a' _ h3 h4 ha) _ _ h)
  rw [h5] at this
  simpa using this
end
end Go.Proofs.Ytkjnmkjdooebmaa
namespace Go.Proofs.Ytkjnmkjdooebmaa
open Go.RowKit
set_option linter.unusedVariables false
set_option linter.unusedSimpArgs false

/-! ### one step of a tree of orders at a time -/
section
variable {P : Program} {ops : Array Oper} {Q : Exit → Act → World → Prop} {C : World → Prop} {l : List Oper}
theorem ordW_done (a : Act) (w : World) : ordW P ops Q C l .done a w = Q .normal a w := rfl
theorem ordW_one (i : Nat) (r : Ord) (a : Act) (w : World) : ordW P ops Q C l (.one i r) a w = wpList P ops (Exit.then (fun a' w' => C w' ∧ ordW P ops Q C l r a' w') Q) (pick l [i]) a w := rfl
theorem ordW_fre (i : Nat) (r : Ord) (a : Act) (w : World) : ordW P ops Q C l (.fre i r) a w = wpList P ops (Exit.then (fun a' w' => ordW P ops Q C l r a' w') Q) (pick l [i]) a w := rfl
theorem ordW_two (i j : Nat) (r s : Ord) (a : Act) (w : World) : ordW P ops Q C l (.two i j r s) a w = (wpList P ops (Exit.then (fun a' w' => C w' ∧ ordW P ops Q C l r a' w') Q) (pick l [i]) a w ∧ wpList P ops (Exit.then (fun a' w' => C w' ∧ ordW P ops Q C l s a' w') Q) (pick l [j]) a w) := rfl
theorem ordW_thr (i j k : Nat) (r s t : Ord) (a : Act) (w : World) : ordW P ops Q C l (.thr i j k r s t) a w = (wpList P ops (Exit.then (fun a' w' => C w' ∧ ordW P ops Q C l r a' w') Q) (pick l [i]) a w ∧ wpList P ops (Exit.then (fun a' w' => C w' ∧ ordW P ops Q C l s a' w') Q) (pick l [j]) a w ∧ wpList P ops (Exit.then (fun a' w' => C w' ∧ ordW P ops Q C l t a' w') Q) (pick l [k]) a w) := rfl
end

/-! ### worlds in which some blocks are as they were: 'w.overP S x' -/
structure KeepP (S : List Nat) (w w' : World) : Prop where
  size : w.heap.size ≤ w'.heap.size
  block : ∀ b, b ∈ S → b < w.heap.size → w'.heap[b]? = w.heap[b]?
def OverP (w : World) (S : List Nat) : Type := { w' : World // KeepP S w w' }
def _root_.Go.World.overP (w : World) (S : List Nat) (x : OverP w S) : World := x.1
instance overP_some (w : World) (S : List Nat) : Nonempty (OverP w S) := ⟨⟨w, Nat.le_refl _, fun _ _ _ => rfl⟩⟩
theorem KeepP.ex {S : List Nat} {w w' : World} (h : KeepP S w w') : ∃ x, w' = w.overP S x := ⟨⟨w', h⟩, rfl⟩
@[go_sem] theorem overP_cell (w : World) (S : List Nat) (x : OverP w S) (b o : Nat) (h : b ∈ S) (hb : b < w.heap.size) : (w.overP S x).cell? ⟨b, o, none⟩ = w.cell? ⟨b, o, none⟩ := World.cell?_of_block (w := w) (x.2.block b h hb)
theorem KeepP.refl (S : List Nat) (w : World) : KeepP S w w := ⟨Nat.le_refl _, fun _ _ _ => rfl⟩
theorem KeepP.drew {S : List Nat} {w w' : World} (h : KeepP S w w') : KeepP S w w'.drew := ⟨h.size, h.block⟩
theorem KeepP.trans {S : List Nat} {a b c : World} (h : KeepP S a b) (k : KeepP S b c) : KeepP S a c := ⟨Nat.le_trans h.size k.size, fun q h1 h2 => (k.block q h1 (Nat.lt_of_lt_of_le h2 h.size)).trans (h.block q h1 h2)⟩
theorem KeepP.below {S : List Nat} {w w' : World} (h : Below w.heap.size w w') : KeepP S w w' := ⟨h.size, fun b _ hb => h.block b hb⟩
theorem KeepP.but {S : List Nat} {w w' : World} {R : Nat} (h : But w R w') (hR : R ∉ S) : KeepP S w w' := ⟨h.size, fun b hS hb => h.block b hb (fun e => hR (e ▸ hS))⟩
theorem KeepP.grown {S : List Nat} {w w' : World} {g : Option Nat} (h : w.grownBy w' g) (hg : ∀ b, b ∈ S → g ≠ some b) : KeepP S w w' := ⟨h.size, fun b hS hb => h.block b hb (fun e => hg b hS e.symm)⟩
theorem KeepP.set {S : List Nat} {w w' : World} (h : KeepP S w w') {a : Addr} (ha : a.block ∉ S) (v : Value) : KeepP S w (w'.setCell a v) := ⟨by simpa using h.size, fun b hS hb => by rw [Below.heap_setCell _ _ _ _ (fun e => ha (e ▸ hS))]; exact h.block b hS hb⟩
attribute [irreducible] World.overP OverP

/-! ### a growing row of numbers, in other worlds -/
theorem OwnI.keep {B : Nat} {v : Value} {l : List Int} {w w' : World} (h : OwnI B v l w) (hb : ∀ g, v.ownBlock = some g → B ≤ g → g < w.heap.size → w'.heap[g]? = w.heap[g]?) : OwnI B v l w' := by
  refine ⟨h.1, ?_⟩
  rcases h.2 with h2 | ⟨g, cap, cur, rfl, e2, e3, e4⟩
  · exact .inl h2
  · exact .inr ⟨g, cap, cur, rfl, e2, (hb g rfl e2 (Array.getElem?_eq_some_iff.1 e3).1).trans e3, e4⟩
theorem OwnI.next {B : Nat} {v : Value} {l : List Int} {w w' : World} (h : OwnI B v l w) (hb : Below w.heap.size w w') : OwnI B v l w' := h.keep fun g _ _ hl => hb.block g hl
theorem OwnI.but {B R : Nat} {v : Value} {l : List Int} {w w' : World} (h : OwnI B v l w) (hb : But w R w') (hR : R < B) : OwnI B v l w' := h.keep fun g _ h1 hl => hb.block g hl (by omega)
theorem OwnI.mono {B B' : Nat} {v : Value} {l : List Int} {w : World} (h : OwnI B v l w) (hB : B' ≤ B) : OwnI B' v l w := by
  refine ⟨h.1, ?_⟩
  rcases h.2 with h2 | ⟨g, cap, cur, e1, e2, e3⟩
  · exact .inl h2
  · exact .inr ⟨g, cap, cur, e1, Nat.le_trans hB e2, e3⟩
theorem OwnI.blk {B : Nat} {v : Value} {l : List Int} {w : World} (h : OwnI B v l w) : ∀ g, v.ownBlock = some g → B ≤ g ∧ g < w.heap.size := by
  intro g hg
  rcases h.2 with ⟨rfl, _⟩ | ⟨g', cap, cur, rfl, e2, e3, e4⟩
  · simp [Value.ownBlock] at hg
  · simp [Value.ownBlock] at hg
    subst hg
    exact ⟨e2, (Array.getElem?_eq_some_iff.1 e3).1⟩
/-- but for a source's block R and blocks from B on, all is as it was; a row of one's own has grown -/
theorem But.own {B R : Nat} {w wr w' : World} {v : Value} {l : List Int} (hb : But w R wr) (hv : OwnI B v l wr) (hB : w.heap.size ≤ B) (hg : wr.grownBy w' v.ownBlock) : But w R w' :=
  ⟨hg.os.trans hb.os, hg.tape.trans hb.tape, hg.output.trans hb.output, Nat.le_trans hb.size hg.size, fun k hk hd => by
    rw [hg.block k (Nat.lt_of_lt_of_le hk hb.size) (fun e => by have := (hv.blk k e.symm).1; omega), hb.block k hk hd]⟩
theorem below_own {B : Nat} {w wr w' : World} {v : Value} {l : List Int} (hb : Below w.heap.size w wr) (hv : OwnI B v l wr) (hB : w.heap.size ≤ B) (hg : wr.grownBy w' v.ownBlock) : Below w.heap.size w w' :=
  ⟨hg.os.trans hb.os, hg.tape.trans hb.tape, hg.output.trans hb.output, Nat.le_trans hb.size hg.size, fun k hk => by
    rw [hg.block k (Nat.lt_of_lt_of_le hk hb.size) (fun e => by have := (hv.blk k e.symm).1; omega), hb.block k hk]⟩
theorem OwnI.shape {B : Nat} {v : Value} {l : List Int} {w : World} (h : OwnI B v l w) : ∃ a c, v = .slice a l.length c ∧ l.length ≤ c ∧ c ≤ maxLen ∧ (a = none → c = 0) := by
  rcases h.row with ⟨rfl, rfl⟩ | ⟨g, c, rfl, h1, h2, h3, h4⟩
  · exact ⟨none, 0, rfl, Nat.le_refl _, by unfold maxLen; omega, fun _ => rfl⟩
  · exact ⟨_, c, rfl, h2, h3, fun e => by cases e⟩
theorem OwnI.ints2 {B : Nat} {a : Option Addr} {n c : Nat} {l : List Int} {w : World} (h : OwnI B (.slice a n c) l w) (hi : ∀ n, n ∈ l → i64 n) : IntsIn Any w a l := by
  rcases h.row with ⟨rfl, _⟩ | ⟨g, c', e, h1, h2, h3, h4⟩
  · exact ⟨.inl rfl, hi⟩
  · simp at e
    obtain ⟨rfl, _, _⟩ := e
    refine ⟨.inr ⟨g, 0, rfl, trivial, h4.1, fun i v hv => ?_⟩, hi⟩
    have hlt : i < l.length := by have := (List.getElem?_eq_some_iff.1 hv).1; simpa using this
    rw [Nat.zero_add, h4.2.1 i hlt]
    show some ((l.map (Value.int .i64)).getD i undef) = _
    rw [List.getD_eq_getElem?_getD, hv]; rfl
theorem OwnI.set {B : Nat} {v : Value} {l : List Int} {w : World} (h : OwnI B v l w) {a : Addr} (ha : ∀ g, v.ownBlock = some g → B ≤ g → g ≠ a.block) (u : Value) : OwnI B v l (w.setCell a u) :=
  h.keep fun g h1 h2 _ => Below.heap_setCell _ _ _ _ (ha g h1 h2)

theorem OwnI.grow {B g g' n c : Nat} {l : List Int} {w w' : World} (h : OwnI B (.slice (some ⟨g, 0, none⟩) n c) l w) (hg : w.grownBy w' (some g')) (hne : g ≠ g') : OwnI B (.slice (some ⟨g, 0, none⟩) n c) l w' :=
  h.keep fun b h1 _ h3 => hg.block b h3 (fun e => by simp [Value.ownBlock] at h1; simp at e; omega)
/-- append to an empty row just made, at the operation: the clone of a row; where it lies -/
theorem wp_app_clone {ops : Array Oper} {rest : List Oper} {o : Oper} {a : Act} {Q : Exit → Act → World → Prop} {w : World} (hgd : o.guard = none) (s x : Operand)
    (ho : o.op = .call { callee := .builtin .append, args := #[s, x], argTypes := #[23, 23] }) (g : Nat) (l : List Int) (ad : Option Addr) (c : Nat) (hs : a.eval s = .slice (some ⟨g, 0, none⟩) 0 0) (hx : a.eval x = .slice ad l.length c)
    (hv : OwnI g (.slice (some ⟨g, 0, none⟩) 0 0) [] w) (hB : g < w.heap.size) (hn : ad = none → c = 0) (hl : IntsIn Any w ad l) (h2 : l.length ≤ 1000000)
    (h : ∀ g' c' w', (g' = g ∨ g' = w.heap.size) → OwnI g (.slice (some ⟨g', 0, none⟩) l.length c') l w' → w.grownBy w' (some g) → g' < w'.heap.size → wpList Try.prog ops Q rest (a.put o.dst (.slice (some ⟨g', 0, none⟩) l.length c')) w') :
    wpList Try.prog ops Q (o :: rest) a w := by
  cases ad with
  | none =>
    obtain rfl : c = 0 := hn rfl
    have hl0 : l = [] := by
      rcases hl.1 with h0 | ⟨b, o', h0, _⟩
      · simpa using h0
      · cases h0
    subst hl0
    exact wp_app_nil hgd s x ho (some ⟨g, 0, none⟩) 0 0 hs hx (Nat.le_refl _) (h g 0 w (.inl rfl) hv (World.grownBy.refl _ _) hB)
  | some ad =>
    obtain ⟨ri, hi, hz, hs1, hs2⟩ := info_parts ints_info
    refine wpList_append_own_at _ hgd s x 23 ho g 3 ri (.int .i64 0) 1 8 Try.underlying23 hi hz hs1 hs2 rfl (by omega) _ 0 _ hs hv ad l.length c (l.map (Value.int .i64)) hx (by simp) (fun j u hj => ?_) (fun u hu => ?_) (by simp only [maxLen]; omega) (by omega) (Nat.le_of_lt hB) ?_
    · rcases hl.1 with h0 | ⟨b, o', h1, h2, h3, h4⟩
      · rw [h0] at hj; simp at hj
      · obtain rfl : ad = ⟨b, o', none⟩ := by simpa using h1
        have := h4 j u hj
        have e : Addr.add ⟨b, o', none⟩ j = ⟨b, o' + j, none⟩ := by unfold Addr.add; split <;> simp_all
        rw [e]
        exact this
    · simp at hu
      obtain ⟨n, _, rfl⟩ := hu
      rfl
    · intro v2 w3 hown hgrow hnil hblk
      have ho2 : OwnI g v2 l w3 := by unfold OwnI; simpa using hown
      rcases ho2.row with ⟨rfl, rfl⟩ | ⟨g', c', rfl, h1, h3, h4, h5⟩
      · simp at hnil
      · exact h g' c' w3 (by simpa [Value.ownBlock] using hblk) ho2 (by simpa [Value.ownBlock] using hgrow) h5.1

/-- append of numbers to a row of one's own, at the operation; where the result lies -/
theorem wp_app_own2 {ops : Array Oper} {rest : List Oper} {o : Oper} {a : Act} {Q : Exit → Act → World → Prop} {w : World} (hgd : o.guard = none) (s x : Operand)
    (ho : o.op = .call { callee := .builtin .append, args := #[s, x], argTypes := #[23, 23] }) (B : Nat) (v : Value) (acc l : List Int) (ad : Option Addr) (c : Nat) (hs : a.eval s = v) (hx : a.eval x = .slice ad l.length c) (hn : ad = none → c = 0)
    (hv : OwnI B v acc w) (hB : B ≤ w.heap.size) (hl : IntsIn Any w ad l) (h1 : acc.length ≤ 1000000) (h2 : l.length ≤ 1000000)
    (h : ∀ v' w', OwnI B v' (acc ++ l) w' → w.grownBy w' v.ownBlock → (v'.ownBlock = v.ownBlock ∨ v'.ownBlock = some w.heap.size) → wpList Try.prog ops Q rest (a.put o.dst v') w') :
    wpList Try.prog ops Q (o :: rest) a w := by
  cases ad with
  | none =>
    obtain rfl : c = 0 := hn rfl
    have hl0 : l = [] := by
      rcases hl.1 with h0 | ⟨b, o', h0, _⟩
      · simpa using h0
      · cases h0
    subst hl0
    have hsh : ∃ b n c, v = .slice b n c ∧ n ≤ c := by
      rcases hv.2 with ⟨rfl, _⟩ | ⟨g, cap, cur, rfl, _, _, hc, _⟩
      · exact ⟨_, _, _, rfl, Nat.le_refl _⟩
      · exact ⟨_, _, _, rfl, hc⟩
    obtain ⟨b, n, c, rfl, hc⟩ := hsh
    exact wp_app_nil hgd s x ho b n c hs hx hc (h _ _ (by simpa using hv) (World.grownBy.refl _ _) (.inl rfl))
  | some ad =>
    obtain ⟨ri, hi, hz, hs1, hs2⟩ := info_parts ints_info
    refine wpList_append_own_at _ hgd s x 23 ho B 3 ri (.int .i64 0) 1 8 Try.underlying23 hi hz hs1 hs2 rfl (by omega) v acc.length _ hs hv ad l.length c (l.map (Value.int .i64)) hx (by simp) (fun j u hj => ?_) (fun u hu => ?_) (by simp only [maxLen]; omega) (by omega) hB ?_
    · rcases hl.1 with h0 | ⟨b, o', h1, h2, h3, h4⟩
      · rw [h0] at hj; simp at hj
      · obtain rfl : ad = ⟨b, o', none⟩ := by simpa using h1
        have := h4 j u hj
        have e : Addr.add ⟨b, o', none⟩ j = ⟨b, o' + j, none⟩ := by unfold Addr.add; split <;> simp_all
        rw [e]
        exact this
    · simp at hu
      obtain ⟨n, _, rfl⟩ := hu
      rfl
    · intro v2 w3 hown hgrow _ hblk
      exact h v2 w3 (by unfold OwnI; rw [List.length_append, List.map_append]; exact hown) hgrow hblk

/-- a variable of two slices -/
abbrev BoxP (w : World) (B : Nat) (a b : Value) : Prop := B < w.heap.size ∧ w.cell? ⟨B, 0, none⟩ = some a ∧ w.cell? ⟨B, 1, none⟩ = some b ∧ w.frozen? ⟨B, 0, none⟩ = false ∧ w.frozen? ⟨B, 1, none⟩ = false
/-- two clones of rows, in a variable: all in new memory, each in a block of its own -/
structure Cl2 (W : World) (s l : List Int) (O : Nat) (vs vl : Value) (w : World) : Prop where
  own : OwnI W.heap.size vs s w
  own2 : OwnI W.heap.size vl l w
  box : BoxP w O vs vl
  new : W.heap.size ≤ O
  ne1 : ∀ g, vs.ownBlock = some g → g ≠ O
  ne2 : ∀ g, vl.ownBlock = some g → g ≠ O
  ne : ∀ g, vs.ownBlock = some g → vl.ownBlock ≠ some g
  below : Below W.heap.size W w
theorem boxp_next {w w' : World} (h : Below w.heap.size w w') {B : Nat} {a b : Value} (hb : BoxP w B a b) : BoxP w' B a b :=
  ⟨Nat.lt_of_lt_of_le hb.1 h.size, by rw [h.cell (p := ⟨B, 0, none⟩) hb.1]; exact hb.2.1, by rw [h.cell (p := ⟨B, 1, none⟩) hb.1]; exact hb.2.2.1,
    by rw [h.frozen (p := ⟨B, 0, none⟩) hb.1]; exact hb.2.2.2.1, by rw [h.frozen (p := ⟨B, 1, none⟩) hb.1]; exact hb.2.2.2.2⟩
theorem boxp_at {w : World} {B : Nat} {a b : Value} {t : TypeId} (h : B = w.heap.size) : BoxP (w.alloc (.cells #[a, b] t)) B a b := by subst h; exact ⟨by simp, by simp, by simp, by simp, by simp⟩
theorem boxp_keep {w w' : World} {B : Nat} {a b : Value} (hs : w.heap.size ≤ w'.heap.size) (h : w'.heap[B]? = w.heap[B]?) (hb : BoxP w B a b) : BoxP w' B a b :=
  ⟨Nat.lt_of_lt_of_le hb.1 hs, by rw [World.cell?_of_block (w := w) (a := ⟨B, 0, none⟩) h]; exact hb.2.1, by rw [World.cell?_of_block (w := w) (a := ⟨B, 1, none⟩) h]; exact hb.2.2.1,
    by rw [World.frozen?_of_block (w := w) (a := ⟨B, 0, none⟩) h]; exact hb.2.2.2.1, by rw [World.frozen?_of_block (w := w) (a := ⟨B, 1, none⟩) h]; exact hb.2.2.2.2⟩
theorem boxp_grown {w w' : World} {g B : Nat} {a b : Value} (h : w.grownBy w' (some g)) (hd : B ≠ g) (hb : BoxP w B a b) : BoxP w' B a b := boxp_keep h.size (h.block B hb.1 (fun e => hd (Option.some.inj e))) hb
theorem boxp_but {w w' : World} {D : Nat} (h : But w D w') {B : Nat} {a b : Value} (hd : B ≠ D) (hb : BoxP w B a b) : BoxP w' B a b := boxp_keep h.size (h.block B hb.1 hd) hb
theorem boxp_set0 {w : World} {B : Nat} {a b : Value} (h : BoxP w B a b) (v : Value) : BoxP (w.setCell ⟨B, 0, none⟩ v) B v b :=
  ⟨by simpa using h.1, World.cell?_setCell_same _ _ _ h.2.1, by rw [World.cell?_setCell_other _ _ _ _ (by simp)]; exact h.2.2.1, by simpa using h.2.2.2.1, by simpa using h.2.2.2.2⟩
theorem boxp_set1 {w : World} {B : Nat} {a b : Value} (h : BoxP w B a b) (v : Value) : BoxP (w.setCell ⟨B, 1, none⟩ v) B a v :=
  ⟨by simpa using h.1, by rw [World.cell?_setCell_other _ _ _ _ (by simp)]; exact h.2.1, World.cell?_setCell_same _ _ _ h.2.2.1, by simpa using h.2.2.2.1, by simpa using h.2.2.2.2⟩
theorem boxp_set {w : World} {B : Nat} {a b : Value} (h : BoxP w B a b) {p : Addr} (hd : B ≠ p.block) (v : Value) : BoxP (w.setCell p v) B a b := boxp_keep (by simp) (Below.heap_setCell _ _ _ _ hd) h
theorem Cl2.mk2 {W w : World} {s l : List Int} {O g1 g2 c1 c2 n1 n2 b1 b2 : Nat} {a b : Value} (h1 : OwnI b1 (.slice (some ⟨g1, 0, none⟩) n1 c1) s w) (h2 : OwnI b2 (.slice (some ⟨g2, 0, none⟩) n2 c2) l w) (hb : BoxP w O a b) (k1 : W.heap.size ≤ b1) (k2 : W.heap.size ≤ b2) (kO : W.heap.size ≤ O) (e1 : g1 ≠ O) (e2 : g2 ≠ O) (e : g1 ≠ g2) (hB : Below W.heap.size W w) :
    Cl2 W s l O (.slice (some ⟨g1, 0, none⟩) n1 c1) (.slice (some ⟨g2, 0, none⟩) n2 c2) ((w.setCell ⟨O, 0, none⟩ (.slice (some ⟨g1, 0, none⟩) n1 c1)).setCell ⟨O, 1, none⟩ (.slice (some ⟨g2, 0, none⟩) n2 c2)) where
  own := ((h1.set (fun g h _ => by simp [Value.ownBlock] at h; subst h; exact e1) _).set (fun g h _ => by simp [Value.ownBlock] at h; subst h; exact e1) _).mono k1
  own2 := ((h2.set (fun g h _ => by simp [Value.ownBlock] at h; subst h; exact e2) _).set (fun g h _ => by simp [Value.ownBlock] at h; subst h; exact e2) _).mono k2
  box := boxp_set1 (boxp_set0 hb _) _
  new := kO
  ne1 := fun g h => by simp [Value.ownBlock] at h; subst h; exact e1
  ne2 := fun g h => by simp [Value.ownBlock] at h; subst h; exact e2
  ne := fun g h h' => by simp [Value.ownBlock] at h h'; omega
  below := (hB.setCell kO _).setCell kO _
end Go.Proofs.Ytkjnmkjdooebmaa
namespace Go.Proofs.Ytkjnmkjdooebmaa
open Go.RowKit
set_option linter.unusedVariables false
set_option linter.unusedSimpArgs false

namespace Lasso
/-- a row of numbers, as it is handed back, in blocks from N on -/
def RowV (N : Nat) (l : List Int) (v : Value) (w : World) : Prop := ∃ a c bs, v = .slice a l.length c ∧ l.length ≤ c ∧ c ≤ maxLen ∧ (a = none → c = 0) ∧ OwnV (l.map (Value.int .i64)) a bs w ∧ ∀ b, b ∈ bs → N ≤ b
theorem RowV.frame {N : Nat} {l : List Int} {v : Value} {w w' : World} (h : RowV N l v w) (hs : w.heap.size ≤ w'.heap.size) (hb : ∀ b, N ≤ b → b < w.heap.size → w'.heap[b]? = w.heap[b]?) : RowV N l v w' := by
  obtain ⟨a, c, bs, h1, h2, h3, h4, h5, h6⟩ := h
  exact ⟨a, c, bs, h1, h2, h3, h4, h5.frame hs fun b hb' hl => hb b (h6 b hb') hl, h6⟩
theorem _root_.Go.Proofs.Ytkjnmkjdooebmaa.OwnI.rowV {N : Nat} {l : List Int} {v : Value} {w : World} (h : OwnI N v l w) : RowV N l v w := by
  rcases h.row with ⟨rfl, rfl⟩ | ⟨g, c, rfl, h1, h2, h3, h4⟩
  · exact ⟨none, 0, [], rfl, Nat.le_refl _, by unfold maxLen; omega, fun _ => rfl, .inl ⟨rfl, rfl⟩, by simp⟩
  · exact ⟨_, c, [g], rfl, h2, h3, (fun e => by cases e), .inr ⟨g, rfl, rfl, by rw [List.length_map]; exact h4⟩, by simpa using h1⟩
/-- a lasso, in blocks from N on -/
def NewLas (N : Nat) (s l : List Int) (v : Value) (w : World) : Prop := ∃ vs vl, v = .agg #[vs, vl] ∧ RowV N s vs w ∧ RowV N l vl w ∧ (∀ n, n ∈ s → i64 n) ∧ ∀ n, n ∈ l → i64 n
theorem NewLas.frame {N : Nat} {s l : List Int} {v : Value} {w w' : World} (h : NewLas N s l v w) (hs : w.heap.size ≤ w'.heap.size) (hb : ∀ b, N ≤ b → b < w.heap.size → w'.heap[b]? = w.heap[b]?) : NewLas N s l v w' := by
  obtain ⟨vs, vl, h1, h2, h3, h4⟩ := h
  exact ⟨vs, vl, h1, h2.frame hs hb, h3.frame hs hb, h4⟩
theorem NewLas.below {N : Nat} {s l : List Int} {v : Value} {w w' : World} (h : NewLas N s l v w) (hb : Below w.heap.size w w') : NewLas N s l v w' := h.frame hb.size fun b _ hl => hb.block b hl
theorem NewLas.mono {N N' : Nat} {s l : List Int} {v : Value} {w : World} (h : NewLas N s l v w) (hN : N' ≤ N) : NewLas N' s l v w := by
  obtain ⟨vs, vl, h1, ⟨a, c, bs, k1, k2, k3, k4, k5, k6⟩, ⟨a', c', bs', m1, m2, m3, m4, m5, m6⟩, h4⟩ := h
  exact ⟨vs, vl, h1, ⟨a, c, bs, k1, k2, k3, k4, k5, fun b hb => Nat.le_trans hN (k6 b hb)⟩, ⟨a', c', bs', m1, m2, m3, m4, m5, fun b hb => Nat.le_trans hN (m6 b hb)⟩, h4⟩
theorem NewLas.any {N : Nat} {s l : List Int} {v : Value} {w : World} (h : NewLas N s l v w) : PairIn Any w s l v ∧ NilOk v := by
  obtain ⟨vs, vl, rfl, ⟨a, c, bs, rfl, k2, k3, k4, k5, k6⟩, ⟨a', c', bs', rfl, m2, m3, m4, m5, m6⟩, h4, h5⟩ := h
  refine ⟨⟨a, a', c, c', rfl, ⟨k5.any, h4⟩, ⟨m5.any, h5⟩, k2, k3, m2, m3⟩, fun a n c b m d e => ?_⟩
  simp at e
  obtain ⟨⟨rfl, _, rfl⟩, rfl, _, rfl⟩ := e
  exact ⟨k4, m4⟩
/-- a lasso's value, of two slices -/
theorem NewLas.shape {N : Nat} {s l : List Int} {v : Value} {w : World} (h : NewLas N s l v w) : ∃ a c a' c', v = .agg #[.slice a s.length c, .slice a' l.length c'] := by
  obtain ⟨vs, vl, rfl, ⟨a, c, bs, rfl, _⟩, ⟨a', c', bs', rfl, _⟩, _⟩ := h
  exact ⟨_, _, _, _, rfl⟩

/-- what a call of l6Word comes to -/
def WordPost (B n R p : Nat) (w : World) (e : Ending) (w' : World) : Prop :=
  ∃ v l, e = .returned v ∧ OwnI w.heap.size v l w' ∧ l.length = n ∧ (∀ m, m ∈ l → i64 m) ∧ But w R w' ∧ Rd B w' R (p + n)

set_option maxRecDepth 100000 in
set_option maxHeartbeats 2000000 in
theorem word_any (n : Nat) (w : World) (R B p : Nat) (hr : Rd B w R p) (hn : n ≤ 100) (hp : p + n ≤ 1000000) : Calls Try.prog 23 #[.pointer (some ⟨R, 0, none⟩), .int .i64 n] w (WordPost B n R p w) := by
  have hB := hr.lt
  go_enter Try.func23, Try.ntmps23
  go_wp2_with fail
  go_loopw [5, 6] (fun out i wr => ∃ (j : Nat) (v : Value) (l : List Int), j ≤ n ∧ v = out ∧ i = .int .i64 j ∧ OwnI w.heap.size v l wr ∧ l.length = j ∧ Hid (∀ m, m ∈ l → i64 m) ∧ But w R wr ∧ Rd B wr R (p + j)) (fun _ i _ => n - (intOf i).toNat)
  case atStart => exact ⟨0, _, [], Nat.zero_le _, rfl, rfl, OwnI.made w, rfl, hid (by simp), But.of (below_alloc _ _), by simpa using hr.next (below_alloc _ _)⟩
  case round =>
    obtain ⟨j, v, l, hj, rfl, rfl, hv, hl, hi, hb, hr1⟩ := hrel
    by_cases hlt : j < n
    · have hlt2 : (j : Int) < (n : Int) := by omega
      have hsz := hb.size
      go_wp2_with fail
      refine (num_at [0, 1, 2, 3, 1, 0, 5, 4, 7] 0 7 (by simp) (by decide) (by decide) B _ _ _ R (p + j) rfl hr1 (by omega)).mono ?_
      rintro e w1 ⟨x, rfl, ⟨hx1, hx2⟩, hb1, hr2⟩
      have hv1 := (hv.next (below_alloc _ _)).but hb1 (by omega)
      have B1 := (hb.next (below_alloc _ _)).trans hb1
      have hs1 := B1.size
      have hI : IntsIn Any (w1.alloc (.cells #[.int .i64 x] 3)) (some ⟨w1.heap.size, 0, none⟩) [x] := ⟨.inr ⟨w1.heap.size, 0, rfl, trivial, by simp, fun i v hi => by
        cases i with
        | zero => simp at hi; subst hi; simp
        | succ i => simp at hi⟩, fun m hm => by simp at hm; subst hm; unfold i64; omega⟩
      have HV := hid hv1
      have HI := hid hI
      have HW := hid (fun m (hm : m ∈ l ++ [x]) => (by
        rcases List.mem_append.1 hm with h | h
        · exact hi.out m h
        · simp at h; subst h; unfold i64; omega : i64 m))
      clear hv hv1 hb hb1 hr1 hI hi
      go_wp2_with (at_builtin; refine wp_app_own rfl _ _ rfl w.heap.size v l [x] (some ⟨w1.heap.size, 0, none⟩) 1 rfl rfl (fun h => by cases h) (HV.out.next (below_alloc _ _)) (by simp; omega) HI.out (by omega) (by simp) ?_; intro v' w' hv' hg)
      have HV2 := hid hv'
      have B2 := (B1.next (below_alloc _ _)).own (HV.out.next (below_alloc _ _)) (Nat.le_refl _) hg
      have R2 := (hr2.next (below_alloc _ _)).grown hg (fun k hk => Nat.le_trans hB.2 ((HV.out.next (below_alloc w1 (.cells #[.int .i64 x] 3))).blk k hk).1)
      clear hv' hg
      go_wp2_with fail
      go_roundw
      case rel => exact ⟨j + 1, v', l ++ [x], by omega, rfl, by go_num, HV2.out, by simp [hl], HW, B2, R2⟩
      case measure => simp [intOf]; omega
    · have hlt2 : ¬ ((j : Int) < (n : Int)) := by omega
      obtain rfl : j = n := by omega
      have hf := hid (show WordPost B j R p w (.returned v) wr from ⟨v, l, rfl, hv, hl, hi.out, hb, hr1⟩)
      clear hv hb hr1
      go_wp2_with fail
      go_ret
      exact hf.out

/-- what a drawn lasso comes to -/
def LasPost (B K M R p : Nat) (w : World) (e : Ending) (w' : World) : Prop :=
  ∃ v s l p', e = .returned v ∧ NewLas w.heap.size s l v w' ∧ s.length ≤ M ∧ l.length ≤ M ∧ 1 ≤ l.length ∧ But w R w' ∧ Rd B w' R p' ∧ p' ≤ p + K
end Lasso
end Go.Proofs.Ytkjnmkjdooebmaa
