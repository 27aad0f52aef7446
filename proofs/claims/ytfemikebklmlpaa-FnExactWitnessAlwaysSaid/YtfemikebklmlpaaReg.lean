/- A region that draws its order: first what only reads (in whatever world of a class C), then a tail of operations in ONE forced order: one walk serves every order. Conditions: those of each theorem. -/
import Derived.Test.YtfemikebklmlpaaMem
import Derived.OrdersHeld
import Derived.Deep.Quiet
namespace Go.Proofs.Ytfemikebklmlpaa
open Go.RowKit

/-- the worlds that keep all but block D -/
structure But (w : World) (D : Nat) (w' : World) : Prop where
  os : w'.os = w.os
  tape : w'.tape = w.tape
  output : w'.output = w.output
  size : w.heap.size ≤ w'.heap.size
  block : ∀ k, k < w.heap.size → k ≠ D → w'.heap[k]? = w.heap[k]?

theorem But.of {w w' : World} {D : Nat} (h : Below w.heap.size w w') : But w D w' := ⟨h.os, h.tape, h.output, h.size, fun k hk _ => h.block k hk⟩
theorem But.refl (w : World) (D : Nat) : But w D w := ⟨rfl, rfl, rfl, Nat.le_refl _, fun _ _ _ => rfl⟩
theorem But.trans {a b c : World} {D : Nat} (h : But a D b) (k : But b D c) : But a D c :=
  ⟨k.os.trans h.os, k.tape.trans h.tape, k.output.trans h.output, Nat.le_trans h.size k.size, fun i hi hd => (k.block i (Nat.lt_of_lt_of_le hi h.size) hd).trans (h.block i hi hd)⟩
theorem But.set (w : World) (D o : Nat) (v : Value) : But w D (w.setCell ⟨D, o, none⟩ v) := ⟨rfl, rfl, rfl, by simp, fun k _ hd => Below.heap_setCell _ _ _ _ hd⟩
theorem But.drewN {w w' : World} {D : Nat} (h : But w D w') (n : Nat) : But w D (w'.drewN n) := ⟨h.os, h.tape, h.output, h.size, h.block⟩
theorem But.cell {w w' : World} {D b o : Nat} (h : But w D w') (hb : b < w.heap.size) (hd : b ≠ D) : w'.cell? ⟨b, o, none⟩ = w.cell? ⟨b, o, none⟩ := World.cell?_of_block (w := w) (h.block b hb hd)
theorem But.frozen {w w' : World} {D b o : Nat} (h : But w D w') (hb : b < w.heap.size) (hd : b ≠ D) : w'.frozen? ⟨b, o, none⟩ = w.frozen? ⟨b, o, none⟩ := World.frozen?_of_block (w := w) (h.block b hb hd)
/-- below a block that is new since w, all is kept -/
theorem But.new {w W W' : World} {D : Nat} (h : But W D W') (hb : Below w.heap.size w W) (hD : w.heap.size ≤ D) : Below w.heap.size w W' :=
  hb.trans ⟨h.os, h.tape, h.output, h.size, fun k hk => h.block k (Nat.lt_of_lt_of_le hk hb.size) (by omega)⟩
theorem TrIn_but {p : Nat → Prop} {w W : World} {D : Nat} (h : But w D W) (hp : ∀ b, p b → b ≠ D) {t : Tr} {x : Value} (hx : TrIn p w t x) : TrIn p W t x :=
  (TrIn_frame fun b hb hl => ⟨hb, h.block b hl (hp b hb)⟩).1 t x hx
theorem TrOwn_but {w W : World} {D : Nat} (h : But w D W) {t : Tr} {x : Value} {bs : List Nat} (hD : D ∉ bs) (hx : TrOwn w t x bs) : TrOwn W t x bs :=
  (TrOwn_frame h.size).1 t x bs hx fun b hb => h.block b (TrOwn_lt.1 t x bs hx b hb) (fun e => hD (e ▸ hb))
theorem box1_but {w w' : World} {D : Nat} (h : But w D w') {B : Nat} {a : Value} (hd : B ≠ D) (hb : Box1 w B a) : Box1 w' B a :=
  ⟨Nat.lt_of_lt_of_le hb.1 h.size, by rw [h.cell hb.1 hd]; exact hb.2.1, by rw [h.frozen hb.1 hd]; exact hb.2.2⟩
theorem box3_but {w w' : World} {D : Nat} (h : But w D w') {B : Nat} {a b c : Value} (hd : B ≠ D) (hb : Box3 w B a b c) : Box3 w' B a b c :=
  ⟨Nat.lt_of_lt_of_le hb.1 h.size, by rw [h.cell hb.1 hd]; exact hb.2.1, by rw [h.cell hb.1 hd]; exact hb.2.2.1, by rw [h.cell hb.1 hd]; exact hb.2.2.2.1,
    by rw [h.frozen hb.1 hd]; exact hb.2.2.2.2.1, by rw [h.frozen hb.1 hd]; exact hb.2.2.2.2.2.1, by rw [h.frozen hb.1 hd]; exact hb.2.2.2.2.2.2⟩

theorem But.drew {w w' : World} {D : Nat} (h : But w D w') : But w D w'.drew := ⟨h.os, h.tape, h.output, h.size, h.block⟩
theorem But.next {w w1 w2 : World} {D : Nat} (h : But w D w1) (k : Below w1.heap.size w1 w2) : But w D w2 := h.trans (But.of k)

/-- the worlds that keep all blocks below B but R -/
structure ButX (B R : Nat) (w w' : World) : Prop where
  os : w'.os = w.os
  tape : w'.tape = w.tape
  output : w'.output = w.output
  size : w.heap.size ≤ w'.heap.size
  block : ∀ k, k < B → k ≠ R → w'.heap[k]? = w.heap[k]?
theorem ButX.refl (B R : Nat) (w : World) : ButX B R w w := ⟨rfl, rfl, rfl, Nat.le_refl _, fun _ _ _ => rfl⟩
theorem ButX.trans {B R : Nat} {a b c : World} (h : ButX B R a b) (k : ButX B R b c) : ButX B R a c :=
  ⟨k.os.trans h.os, k.tape.trans h.tape, k.output.trans h.output, Nat.le_trans h.size k.size, fun i hi hd => (k.block i hi hd).trans (h.block i hi hd)⟩
theorem ButX.but {B R : Nat} {w w' : World} (h : But w R w') (hB : B ≤ w.heap.size) : ButX B R w w' := ⟨h.os, h.tape, h.output, h.size, fun k hk hd => h.block k (Nat.lt_of_lt_of_le hk hB) hd⟩
theorem ButX.below {B R : Nat} {w w' : World} (h : Below w.heap.size w w') (hB : B ≤ w.heap.size) : ButX B R w w' := ButX.but (But.of h) hB
theorem ButX.to {R : Nat} {w w' : World} (h : ButX w.heap.size R w w') : But w R w' := ⟨h.os, h.tape, h.output, h.size, h.block⟩
theorem ButX.mono {B B' R : Nat} {w w' : World} (h : ButX B R w w') (hB : B' ≤ B) : ButX B' R w w' := ⟨h.os, h.tape, h.output, h.size, fun k hk hd => h.block k (Nat.lt_of_lt_of_le hk hB) hd⟩
theorem ButX.grown {B R : Nat} {a b c : World} {row : Option Nat} (h : ButX B R a b) (hg : b.grownBy c row) (hr : ∀ k, row = some k → B ≤ k) (hB : B ≤ b.heap.size) : ButX B R a c :=
  h.trans ⟨hg.os, hg.tape, hg.output, hg.size, fun k hk _ => hg.block k (Nat.lt_of_lt_of_le hk hB) (fun e => by have := hr k e.symm; omega)⟩
theorem ButX.set {B R : Nat} (w : World) {a : Addr} (ha : B ≤ a.block ∨ a.block = R) (v : Value) : ButX B R w (w.setCell a v) := ⟨rfl, rfl, rfl, by simp, fun k hk hd => Below.heap_setCell _ _ _ _ (by rcases ha with h | h <;> omega)⟩
theorem ButX.cell {B R : Nat} {w w' : World} (h : ButX B R w w') {b o : Nat} (hb : b < B) (hd : b ≠ R) : w'.cell? ⟨b, o, none⟩ = w.cell? ⟨b, o, none⟩ := World.cell?_of_block (w := w) (h.block b hb hd)
theorem ButX.frozen {B R : Nat} {w w' : World} (h : ButX B R w w') {b o : Nat} (hb : b < B) (hd : b ≠ R) : w'.frozen? ⟨b, o, none⟩ = w.frozen? ⟨b, o, none⟩ := World.frozen?_of_block (w := w) (h.block b hb hd)
theorem box1_butx {B R : Nat} {w w' : World} (h : ButX B R w w') {b : Nat} {a : Value} (hl : b < B) (hd : b ≠ R) (hb : Box1 w b a) : Box1 w' b a :=
  ⟨Nat.lt_of_lt_of_le hb.1 h.size, by rw [h.cell hl hd]; exact hb.2.1, by rw [h.frozen hl hd]; exact hb.2.2⟩
theorem box3_butx {B R : Nat} {w w' : World} (h : ButX B R w w') {b : Nat} {x y z : Value} (hl : b < B) (hd : b ≠ R) (hb : Box3 w b x y z) : Box3 w' b x y z :=
  ⟨Nat.lt_of_lt_of_le hb.1 h.size, by rw [h.cell hl hd]; exact hb.2.1, by rw [h.cell hl hd]; exact hb.2.2.1, by rw [h.cell hl hd]; exact hb.2.2.2.1,
    by rw [h.frozen hl hd]; exact hb.2.2.2.2.1, by rw [h.frozen hl hd]; exact hb.2.2.2.2.2.1, by rw [h.frozen hl hd]; exact hb.2.2.2.2.2.2⟩

def OverX (w : World) (B R : Nat) : Type := { w' : World // ButX B R w w' }
def _root_.Go.World.overX (w : World) (B R : Nat) (x : OverX w B R) : World := x.1
theorem overX_but (w : World) (B R : Nat) (x : OverX w B R) : ButX B R w (w.overX B R x) := x.2
instance overX_some (w : World) (B R : Nat) : Nonempty (OverX w B R) := ⟨⟨w, ButX.refl _ _ _⟩⟩
theorem ButX.ex {B R : Nat} {w w' : World} (h : ButX B R w w') : ∃ x, w' = w.overX B R x := ⟨⟨w', h⟩, rfl⟩
theorem overX_cell (w : World) (B R : Nat) (x : OverX w B R) (b o : Nat) (h : b < B) (hd : b ≠ R) : (w.overX B R x).cell? ⟨b, o, none⟩ = w.cell? ⟨b, o, none⟩ := x.2.cell h hd
theorem ButX.drew {B R : Nat} {w w' : World} (h : ButX B R w w') : ButX B R w w'.drew := ⟨h.os, h.tape, h.output, h.size, h.block⟩
theorem ButX.next {B R : Nat} {w w1 w2 : World} (h : ButX B R w w1) (k : Below w1.heap.size w1 w2) (hB : B ≤ w1.heap.size) : ButX B R w w2 := h.trans (ButX.below k hB)
attribute [irreducible] World.overX OverX

section
variable {P : Program} {ops : Array Oper} {Q : Exit → Act → World → Prop} {md : Region.Mode} {C : World → Prop} {z : Nat}

/-- whatever order is picked; C holds behind each operation but number z -/
def AnyT (P : Program) (md : Region.Mode) (ops : Array Oper) (Q : Exit → Act → World → Prop) (C : World → Prop) (z : Nat) : Nat → Array Bool → Act → World → Prop
  | 0, listed, a, w => Region.ready md ops listed = [] ∧ Q .normal a w
  | n + 1, listed, a, w => (Region.ready md ops listed = [] → Q .normal a w) ∧ ∀ i, i ∈ Region.ready md ops listed →
      wpOp P ops Q i (fun a' w' => (i ≠ z → C w') ∧ AnyT P md ops Q C z n (listed.setIfInBounds i true) a' w') a w

theorem AnyT.sound : ∀ (n : Nat) (listed : Array Bool) (a : Act) (w : World), AnyT P md ops Q C z n listed a w → wpAny P md ops Q n listed a w
  | 0, _, _, _, h => h
  | n + 1, _, _, _, h => ⟨h.1, fun i hi => wpOp_mono (fun a' w' h' => AnyT.sound n _ a' w' h'.2) (h.2 i hi)⟩

/-- operation z waits for operation i -/
def waits (md : Region.Mode) (ops : Array Oper) (z i : Nat) : Bool := ((ops[z]?).map fun o => o.after.any fun e => Region.binds md e && e.on == i).getD false

theorem AnyT.take {i : Nat} {o : Oper} {v : Value} (hi : ops[i]? = some o) (hsel : Region.noSelect ops = true) (hQ : ∀ c a w, Q (.panic c) (a.put o.dst v) w → Q (.panic c) a w) (hz : waits md ops z i = true) :
    ∀ (n : Nat) (listed : Array Bool) (a : Act) (w : World),
      (∀ j oj, ops[j]? = some oj → j ≠ i → listed.getD j true = false → (∀ e ∈ oj.after, Region.binds md e = true → e.on ≠ i) → o.apart ops oj = true) →
      i ∈ Region.ready md ops listed → YieldsIf P ops C o v a → C w → AnyT P md ops Q C z n (listed.setIfInBounds i true) (a.put o.dst v) w → AnyT P md ops Q C z (n + 1) listed a w := by
  intro n
  induction n with
  | zero =>
    intro listed a w _ hr hy hC H
    refine ⟨fun h => by (rw [h] at hr; cases hr), fun j hj => ?_⟩
    by_cases e : j = i
    · subst e; exact hy.wpOp hi hC ⟨fun _ => hC, H⟩
    · have h1 := ready_mono hj e
      rw [H.1] at h1; cases h1
  | succ n ih =>
    intro listed a w hfree hr hy hC H
    refine ⟨fun h => by (rw [h] at hr; cases hr), fun j hj => ?_⟩
    by_cases e : j = i
    · subst e; exact hy.wpOp hi hC ⟨fun _ => hC, H⟩
    · have h1 := H.2 j (ready_mono hj e)
      obtain ⟨hun, oj, hoj, hall⟩ := mem_ready.1 hj
      have hno : ∀ x ∈ oj.after, Region.binds md x = true → x.on ≠ i := fun x hx hb he => by
        have h2 := hall x hx hb
        have h3 := (mem_ready.1 hr).1
        rw [he] at h2
        rcases Nat.lt_or_ge i listed.size with h4 | h4
        · simp [h4] at h2 h3; rw [h3] at h2; cases h2
        · simp [Array.getElem?_eq_none h4] at h2
      have hjz : j ≠ z := fun hjz => by
        subst hjz
        unfold waits at hz
        rw [hoj] at hz
        simp only [Option.map_some, Option.getD_some, Array.any_eq_true] at hz
        obtain ⟨k, hk, hz⟩ := hz
        simp only [Bool.and_eq_true, beq_iff_eq] at hz
        exact hno _ (Array.getElem_mem hk) hz.1 hz.2
      have h5 := wpOp_putIf hoj (hfree j oj hoj e hun hno) (fun cs b => Region.noSelect_spec hsel i o cs b hi) (fun cs b => Region.noSelect_spec hsel j oj cs b hoj) hQ hy h1
      have hri := ready_mono (md := md) hr (Ne.symm e)
      refine wpOp_mono (fun a' w' h6 => ?_) h5
      have hCw : C w' := h6.2.1 hjz
      exact ⟨fun _ => hCw, ih (listed.setIfInBounds j true) a' w' (fun k ok hk hki hu hnk => hfree k ok hk hki (by
          by_cases hjk : j = k
          · subst hjk; exact hun
          · rw [getD_set_ne true hjk] at hu; exact hu) hnk) hri h6.1 hCw (by rw [Array.setIfInBounds_comm _ _ e]; exact h6.2.2)⟩

/-! ### the operations that only read, taken first, in a given order -/

/-- an operation that hands back a value and makes no call -/
def plainOp (o : Oper) : Bool := match o.op with
  | .move _ | .assign _ | .load .. | .binOp .. | .unOp .. | .convert .. | .fieldAddr .. | .field .. | .indexAddr .. | .index .. | .slice .. => true
  | _ => false

theorem val_bind {s : Sem Value} {w w' : World} {n : Next} (hr : Sem.run P (do pure (.value (← s))) w = .ok n w') : ∃ u, n = .value u := by
  rw [Sem.run_bind] at hr
  cases hs : Sem.run P s w with
  | ok v w1 =>
    rw [hs] at hr
    simp [Result.andThen, pure] at hr
    exact ⟨v, hr.1.symm⟩
  | halt h w1 =>
    rw [hs] at hr
    simp [Result.andThen] at hr

theorem plain_value {o : Oper} (h : plainOp o = true) {ρ : Operand → Value} {w w' : World} {n : Next} (hr : Sem.run P (execOp ρ o) w = .ok n w') : ∃ u, n = .value u := by
  obtain ⟨dst, op, ty, pos, after, guard⟩ := o
  cases op <;> simp only [plainOp] at h <;> (try cases h) <;> unfold execOp at hr <;> dsimp only at hr
  all_goals first
    | exact val_bind hr
    | (simp [pure] at hr; exact ⟨_, hr.1.symm⟩)

/-- the operations of some numbers -/
def pick (l : List Oper) : List Nat → List Oper
  | [] => []
  | i :: r => match l[i]? with
    | some o => o :: pick l r
    | none => pick l r
theorem pick_cons {l : List Oper} {i : Nat} {r : List Nat} {o : Oper} (h : l[i]? = some o) : pick l (i :: r) = o :: pick l r := by
  simp only [pick, h]

/-- each of these may be taken first, one behind the other -/
def preB (md : Region.Mode) (l : List Oper) (z : Nat) : List Nat → Array Bool → Bool
  | [], _ => true
  | i :: r, listed => (Region.ready md l.toArray listed).contains i && (Region.free md l.toArray listed i && (waits md l.toArray z i && (((l[i]?).map plainOp).getD false && preB md l z r (listed.setIfInBounds i true))))
def marked : List Nat → Array Bool → Array Bool
  | [], listed => listed
  | i :: r, listed => marked r (listed.setIfInBounds i true)
/-- these come up in this order alone -/
def tailB (md : Region.Mode) (l : List Oper) : List Nat → Array Bool → Bool
  | [], listed => (Region.ready md l.toArray listed).isEmpty
  | i :: r, listed => (Region.ready md l.toArray listed) == [i] && ((l[i]?).isSome && tailB md l r (listed.setIfInBounds i true))

theorem AnyT.pre {l : List Oper} {n : Nat} {w : World} (hsel : Region.noSelect l.toArray = true) (hQ : ∀ d v c a w, Q (.panic c) (Act.put a d v) w → Q (.panic c) a w) (hC : C w) :
    ∀ (I : List Nat) (listed : Array Bool) (a : Act), preB md l z I listed = true → wpQuiet P l.toArray C (fun a' => AnyT P md l.toArray Q C z n (marked I listed) a' w) (pick l I) a → AnyT P md l.toArray Q C z (n + I.length) listed a w := by
  intro I
  induction I with
  | nil => intro listed a _ h; exact h
  | cons i r ih =>
    intro listed a hB h
    simp only [preB, Bool.and_eq_true] at hB
    obtain ⟨h1, h2, h3, h4, h5⟩ := hB
    cases ho : l[i]? with
    | none => rw [ho] at h4; simp at h4
    | some o =>
      rw [ho] at h4
      simp only [Option.map_some, Option.getD_some] at h4
      rw [pick_cons ho] at h
      have hoa : l.toArray[i]? = some o := by simpa using ho
      unfold wpQuiet at h
      have hgo : ∀ v, YieldsIf P l.toArray C o v a → wpQuiet P l.toArray C (fun a' => AnyT P md l.toArray Q C z n (marked r (listed.setIfInBounds i true)) a' w) (pick l r) (a.put o.dst v) → AnyT P md l.toArray Q C z (n + (i :: r).length) listed a w := fun v hy hr =>
        AnyT.take hoa hsel (fun c a w => hQ _ _ c a w) h3 _ listed a w (Region.free_spec hoa h2) (by simpa using h1) hy hC (ih _ _ h5 hr)
      split at h
      · rename_i hw
        obtain ⟨v, hv, hr⟩ := h
        refine hgo v (.inl ⟨hw, fun w1 hw1 => ?_⟩) hr
        have hq := hv w1 hw1
        unfold Oper.quietAt at hq
        cases hrun : Sem.run P (execOp a.eval o) w1 with
        | ok nx w2 =>
          obtain ⟨u, rfl⟩ := plain_value h4 hrun
          rw [hrun] at hq
          simp only [Oper.quietUpon] at hq
          rw [hq.1, hq.2]
        | halt hh w2 => rw [hrun] at hq; simp only [Oper.quietUpon] at hq
      · rename_i hw
        exact hgo undef (.inr ⟨by simpa using hw, rfl⟩) h

/-- the tail, an operation at a time; C is shown behind each but the last -/
def tailW (P : Program) (ops : Array Oper) (Q : Exit → Act → World → Prop) (C : World → Prop) : List Oper → Act → World → Prop
  | [], a, w => Q .normal a w
  | [o], a, w => wpList P ops Q [o] a w
  | o :: r, a, w => wpList P ops (Exit.then (fun a' w' => C w' ∧ tailW P ops Q C r a' w') Q) [o] a w

theorem wp_then {o : Oper} {a : Act} {w : World} {K : Act → World → Prop} (h : o.wp P a w (wpList P ops (Exit.then K Q) []) (Exit.then K Q)) : o.wp P a w K Q := by
  unfold Oper.wp at h ⊢
  generalize Sem.run P (execOp a.eval o) w = r at h ⊢
  cases r with
  | ok n w' =>
    cases n <;> simp only [Oper.upon] at h ⊢ <;> first | exact h | exact Calls.mono h fun e w'' he => by (cases e <;> exact he)
  | halt x w' => cases x <;> simp only [Oper.upon] at h ⊢ <;> exact h

theorem op_then {i : Nat} {o : Oper} {a : Act} {w : World} {K : Act → World → Prop} (hi : ops[i]? = some o) (h : wpList P ops (Exit.then K Q) [o] a w) : wpOp P ops Q i K a w := by
  unfold wpOp
  unfold wpList at h
  simp only [hi]
  split at h
  · rename_i hw; rw [if_pos hw]; exact h.imp wp_then id
  · rename_i hw; rw [if_neg hw]; exact h

theorem op_last {i : Nat} {o : Oper} {a : Act} {w : World} (hi : ops[i]? = some o) (h : wpList P ops Q [o] a w) : wpOp P ops Q i (Q .normal) a w := by
  unfold wpOp
  unfold wpList at h
  simp only [hi]
  split at h
  · rename_i hw; rw [if_pos hw]; exact h
  · rename_i hw; rw [if_neg hw]; exact h

theorem AnyT.tail {l : List Oper} : ∀ (J : List Nat) (listed : Array Bool) (a : Act) (w : World), tailB md l J listed = true → J.getLast? = some z → tailW P l.toArray Q C (pick l J) a w → AnyT P md l.toArray Q C z J.length listed a w := by
  intro J
  induction J with
  | nil => intro listed a w _ h; cases h
  | cons i r ih =>
    intro listed a w hB hz h
    simp only [tailB, Bool.and_eq_true, beq_iff_eq] at hB
    obtain ⟨h1, h2, h3⟩ := hB
    cases ho : l[i]? with
    | none => rw [ho] at h2; cases h2
    | some o =>
      have hoa : l.toArray[i]? = some o := by simpa using ho
      rw [pick_cons ho] at h
      refine ⟨fun hn => by (rw [h1] at hn; cases hn), fun j hj => ?_⟩
      rw [h1] at hj
      obtain rfl : j = i := by simpa using hj
      cases r with
      | nil =>
        obtain rfl : j = z := by simpa using hz
        simp only [pick, tailW] at h
        simp only [tailB, List.isEmpty_iff] at h3
        exact wpOp_mono (fun a' w' hq => ⟨fun hne => absurd rfl hne, h3, hq⟩) (op_last hoa h)
      | cons k r =>
        have hk : ∃ o2, l[k]? = some o2 := by
          simp only [tailB, Bool.and_eq_true] at h3
          exact Option.isSome_iff_exists.1 h3.2.1
        obtain ⟨o2, ho2⟩ := hk
        rw [pick_cons ho2] at h
        simp only [tailW] at h
        rw [← pick_cons ho2] at h
        exact wpOp_mono (fun a' w' hq => ⟨fun _ => hq.1, ih _ a' w' h3 (by simpa using hz) hq.2⟩) (op_then hoa h)

/-- **A REGION THAT DRAWS: ITS READS FIRST (I), THEN ITS TAIL (J)** -/
theorem wp_region_tail {id : Nat} {a : Act} {w : World} {l : List Oper} (I J : List Nat) (z : Nat) (hm : P.follows .mixedOrders = true)
    (hB : (Region.noSelect l.toArray && (preB .any l z I (Array.replicate l.length false) && (tailB .any l J (marked I (Array.replicate l.length false)) && (J.getLast? == some z && decide (J.length + I.length = l.length))))) = true)
    (hQ : ∀ d v c a w, Q (.panic c) (Act.put a d v) w → Q (.panic c) a w) (hC : C w.drew)
    (h : wpQuiet P l.toArray C (fun a' => tailW P l.toArray Q C (pick l J) a' w.drew) (pick l I) a) : (Code.region id l.toArray true).wp P Q a w := by
  simp only [Bool.and_eq_true, beq_iff_eq, decide_eq_true_eq] at hB
  obtain ⟨h1, h2, h3, h4, h5⟩ := hB
  refine wp_region_any hm (AnyT.sound (C := C) (z := z) _ _ _ _ ?_)
  have := AnyT.pre (n := J.length) h1 hQ hC I _ a h2 (wpQuiet_mono' (fun a' ha => AnyT.tail J _ a' _ h3 h4 ha) _ _ h)
  rw [h5] at this
  simpa using this

end
end Go.Proofs.Ytfemikebklmlpaa
