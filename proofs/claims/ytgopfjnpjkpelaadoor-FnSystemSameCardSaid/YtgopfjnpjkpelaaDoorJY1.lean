/- Joined texts (Reg, Grow, EdgeIn): contracts and plain laws. Conditions: those of each theorem. -/
import Derived.Test.YtgopfjnpjkpelaaDoorJY0
import Derived.OrdersHeld
import Derived.Deep.Quiet
import Derived.Maps.AppendAt
set_option linter.unusedVariables false
set_option linter.unusedSimpArgs false
namespace Go.Proofs.YtgopfjnpjkpelaaDoor
open Go.RowKit

/-- the worlds that keep all but block D -/
structure But (w : World) (D : Nat) (w' : World) : Prop where
  os : w'.os = w.os
  tape : w'.tape = w.tape
  output : w'.output = w.output
  size : w.heap.size ≤ w'.heap.size
  block : ∀ k, k < w.heap.size → k ≠ D → w'.heap[k]? = w.heap[k]?

theorem But.of {w w' : World} {D : Nat} (h : Below w.heap.size w w') : But w D w' := ⟨h.os, h.tape, h.output, h.size, fun k hk _ => h.block k hk⟩
theorem But.refl (w : World) (D : Nat) : But w D w := ⟨rfl, rfl, rfl, Nat.le_refl _, fun _ _ _ => rfl⟩
theorem But.trans {a b c : World} {D : Nat} (h : But a D b) (k : But b D c) : But a D c :=
  ⟨k.os.trans h.os, k.tape.trans h.tape, k.output.trans h.output, Nat.le_trans h.size k.size, fun i hi hd => (k.block i (Nat.lt_of_lt_of_le hi h.size) hd).trans (h.block i hi hd)⟩
theorem But.set (w : World) (D o : Nat) (v : Value) : But w D (w.setCell ⟨D, o, none⟩ v) := ⟨rfl, rfl, rfl, by simp, fun k _ hd => Below.heap_setCell _ _ _ _ hd⟩
theorem But.drewN {w w' : World} {D : Nat} (h : But w D w') (n : Nat) : But w D (w'.drewN n) := ⟨h.os, h.tape, h.output, h.size, h.block⟩
theorem But.cell {w w' : World} {D b o : Nat} (h : But w D w') (hb : b < w.heap.size) (hd : b ≠ D) : w'.cell? ⟨b, o, none⟩ = w.cell? ⟨b, o, none⟩ := World.cell?_of_block (w := w) (h.block b hb hd)
theorem But.frozen {w w' : World} {D b o : Nat} (h : But w D w') (hb : b < w.heap.size) (hd : b ≠ D) : w'.frozen? ⟨b, o, none⟩ = w.frozen? ⟨b, o, none⟩ := World.frozen?_of_block (w := w) (h.block b hb hd)
/-- below a block that is new since w, all is kept -/
theorem But.new {w W W' : World} {D : Nat} (h : But W D W') (hb : Below w.heap.size w W) (hD : w.heap.size ≤ D) : Below w.heap.size w W' :=
  hb.trans ⟨h.os, h.tape, h.output, h.size, fun k hk => h.block k (Nat.lt_of_lt_of_le hk hb.size) (by omega)⟩
theorem TrIn_but {p : Nat → Prop} {w W : World} {D : Nat} (h : But w D W) (hp : ∀ b, p b → b ≠ D) {t : Tr} {x : Value} (hx : TrIn p w t x) : TrIn p W t x :=
  (TrIn_frame fun b hb hl => ⟨hb, h.block b hl (hp b hb)⟩).1 t x hx
theorem TrOwn_but {w W : World} {D : Nat} (h : But w D W) {t : Tr} {x : Value} {bs : List Nat} (hD : D ∉ bs) (hx : TrOwn w t x bs) : TrOwn W t x bs :=
  (TrOwn_frame h.size).1 t x bs hx fun b hb => h.block b (TrOwn_lt.1 t x bs hx b hb) (fun e => hD (e ▸ hb))
theorem box1_but {w w' : World} {D : Nat} (h : But w D w') {B : Nat} {a : Value} (hd : B ≠ D) (hb : Box1 w B a) : Box1 w' B a :=
  ⟨Nat.lt_of_lt_of_le hb.1 h.size, by rw [h.cell hb.1 hd]; exact hb.2.1, by rw [h.frozen hb.1 hd]; exact hb.2.2⟩
theorem box3_but {w w' : World} {D : Nat} (h : But w D w') {B : Nat} {a b c : Value} (hd : B ≠ D) (hb : Box3 w B a b c) : Box3 w' B a b c :=
  ⟨Nat.lt_of_lt_of_le hb.1 h.size, by rw [h.cell hb.1 hd]; exact hb.2.1, by rw [h.cell hb.1 hd]; exact hb.2.2.1, by rw [h.cell hb.1 hd]; exact hb.2.2.2.1,
    by rw [h.frozen hb.1 hd]; exact hb.2.2.2.2.1, by rw [h.frozen hb.1 hd]; exact hb.2.2.2.2.2.1, by rw [h.frozen hb.1 hd]; exact hb.2.2.2.2.2.2⟩

theorem But.drew {w w' : World} {D : Nat} (h : But w D w') : But w D w'.drew := ⟨h.os, h.tape, h.output, h.size, h.block⟩
theorem But.next {w w1 w2 : World} {D : Nat} (h : But w D w1) (k : Below w1.heap.size w1 w2) : But w D w2 := h.trans (But.of k)

/-- the worlds that keep all blocks below B but R -/
structure ButX (B R : Nat) (w w' : World) : Prop where
  os : w'.os = w.os
  tape : w'.tape = w.tape
  output : w'.output = w.output
  size : w.heap.size ≤ w'.heap.size
  block : ∀ k, k < B → k ≠ R → w'.heap[k]? = w.heap[k]?
theorem ButX.refl (B R : Nat) (w : World) : ButX B R w w := ⟨rfl, rfl, rfl, Nat.le_refl _, fun _ _ _ => rfl⟩
theorem ButX.trans {B R : Nat} {a b c : World} (h : ButX B R a b) (k : ButX B R b c) : ButX B R a c :=
  ⟨k.os.trans h.os, k.tape.trans h.tape, k.output.trans h.output, Nat.le_trans h.size k.size, fun i hi hd => (k.block i hi hd).trans (h.block i hi hd)⟩
theorem ButX.but {B R : Nat} {w w' : World} (h : But w R w') (hB : B ≤ w.heap.size) : ButX B R w w' := ⟨h.os, h.tape, h.output, h.size, fun k hk hd => h.block k (Nat.lt_of_lt_of_le hk hB) hd⟩
theorem ButX.below {B R : Nat} {w w' : World} (h : Below w.heap.size w w') (hB : B ≤ w.heap.size) : ButX B R w w' := ButX.but (But.of h) hB
theorem ButX.to {R : Nat} {w w' : World} (h : ButX w.heap.size R w w') : But w R w' := ⟨h.os, h.tape, h.output, h.size, h.block⟩
theorem ButX.mono {B B' R : Nat} {w w' : World} (h : ButX B R w w') (hB : B' ≤ B) : ButX B' R w w' := ⟨h.os, h.tape, h.output, h.size, fun k hk hd => h.block k (Nat.lt_of_lt_of_le hk hB) hd⟩
theorem ButX.grown {B R : Nat} {a b c : World} {row : Option Nat} (h : ButX B R a b) (hg : b.grownBy c row) (hr : ∀ k, row = some k → B ≤ k) (hB : B ≤ b.heap.size) : ButX B R a c :=
  h.trans ⟨hg.os, hg.tape, hg.output, hg.size, fun k hk _ => hg.block k (Nat.lt_of_lt_of_le hk hB) (fun e => by have := hr k e.symm; omega)⟩
theorem ButX.set {B R : Nat} (w : World) {a : Addr} (ha : B ≤ a.block ∨ a.block = R) (v : Value) : ButX B R w (w.setCell a v) := ⟨rfl, rfl, rfl, by simp, fun k hk hd => Below.heap_setCell _ _ _ _ (by rcases ha with h | h <;> omega)⟩
theorem ButX.cell {B R : Nat} {w w' : World} (h : ButX B R w w') {b o : Nat} (hb : b < B) (hd : b ≠ R) : w'.cell? ⟨b, o, none⟩ = w.cell? ⟨b, o, none⟩ := World.cell?_of_block (w := w) (h.block b hb hd)
theorem ButX.frozen {B R : Nat} {w w' : World} (h : ButX B R w w') {b o : Nat} (hb : b < B) (hd : b ≠ R) : w'.frozen? ⟨b, o, none⟩ = w.frozen? ⟨b, o, none⟩ := World.frozen?_of_block (w := w) (h.block b hb hd)
theorem box1_butx {B R : Nat} {w w' : World} (h : ButX B R w w') {b : Nat} {a : Value} (hl : b < B) (hd : b ≠ R) (hb : Box1 w b a) : Box1 w' b a :=
  ⟨Nat.lt_of_lt_of_le hb.1 h.size, by rw [h.cell hl hd]; exact hb.2.1, by rw [h.frozen hl hd]; exact hb.2.2⟩
theorem box3_butx {B R : Nat} {w w' : World} (h : ButX B R w w') {b : Nat} {x y z : Value} (hl : b < B) (hd : b ≠ R) (hb : Box3 w b x y z) : Box3 w' b x y z :=
  ⟨Nat.lt_of_lt_of_le hb.1 h.size, by rw [h.cell hl hd]; exact hb.2.1, by rw [h.cell hl hd]; exact hb.2.2.1, by rw [h.cell hl hd]; exact hb.2.2.2.1,
    by rw [h.frozen hl hd]; exact hb.2.2.2.2.1, by rw [h.frozen hl hd]; exact hb.2.2.2.2.2.1, by rw [h.frozen hl hd]; exact hb.2.2.2.2.2.2⟩

def OverX (w : World) (B R : Nat) : Type := { w' : World // ButX B R w w' }
def _root_.Go.World.overX (w : World) (B R : Nat) (x : OverX w B R) : World := x.1
theorem overX_but (w : World) (B R : Nat) (x : OverX w B R) : ButX B R w (w.overX B R x) := x.2
instance overX_some (w : World) (B R : Nat) : Nonempty (OverX w B R) := ⟨⟨w, ButX.refl _ _ _⟩⟩
theorem ButX.ex {B R : Nat} {w w' : World} (h : ButX B R w w') : ∃ x, w' = w.overX B R x := ⟨⟨w', h⟩, rfl⟩
theorem overX_cell (w : World) (B R : Nat) (x : OverX w B R) (b o : Nat) (h : b < B) (hd : b ≠ R) : (w.overX B R x).cell? ⟨b, o, none⟩ = w.cell? ⟨b, o, none⟩ := x.2.cell h hd
theorem ButX.drew {B R : Nat} {w w' : World} (h : ButX B R w w') : ButX B R w w'.drew := ⟨h.os, h.tape, h.output, h.size, h.block⟩
theorem ButX.next {B R : Nat} {w w1 w2 : World} (h : ButX B R w w1) (k : Below w1.heap.size w1 w2) (hB : B ≤ w1.heap.size) : ButX B R w w2 := h.trans (ButX.below k hB)
attribute [irreducible] World.overX OverX

section
variable {P : Program} {ops : Array Oper} {Q : Exit → Act → World → Prop} {md : Region.Mode} {C : World → Prop} {z : Nat}

/-- whatever order is picked; C holds behind each operation but number z -/
def AnyT (P : Program) (md : Region.Mode) (ops : Array Oper) (Q : Exit → Act → World → Prop) (C : World → Prop) (z : Nat) : Nat → Array Bool → Act → World → Prop
  | 0, listed, a, w => Region.ready md ops listed = [] ∧ Q .normal a w
  | n + 1, listed, a, w => (Region.ready md ops listed = [] → Q .normal a w) ∧ ∀ i, i ∈ Region.ready md ops listed →
      wpOp P ops Q i (fun a' w' => (i ≠ z → C w') ∧ AnyT P md ops Q C z n (listed.setIfInBounds i true) a' w') a w

theorem AnyT.sound : ∀ (n : Nat) (listed : Array Bool) (a : Act) (w : World), AnyT P md ops Q C z n listed a w → wpAny P md ops Q n listed a w
  | 0, _, _, _, h => h
  | n + 1, _, _, _, h => ⟨h.1, fun i hi => wpOp_mono (fun a' w' h' => AnyT.sound n _ a' w' h'.2) (h.2 i hi)⟩

/-- operation z waits for operation i -/
def waits (md : Region.Mode) (ops : Array Oper) (z i : Nat) : Bool := ((ops[z]?).map fun o => o.after.any fun e => Region.binds md e && e.on == i).getD false

theorem AnyT.take {i : Nat} {o : Oper} {v : Value} (hi : ops[i]? = some o) (hsel : Region.noSelect ops = true) (hQ : ∀ c a w, Q (.panic c) (a.put o.dst v) w → Q (.panic c) a w) (hz : waits md ops z i = true) :
    ∀ (n : Nat) (listed : Array Bool) (a : Act) (w : World),
      (∀ j oj, ops[j]? = some oj → j ≠ i → listed.getD j true = false → (∀ e ∈ oj.after, Region.binds md e = true → e.on ≠ i) → o.apart ops oj = true) →
      i ∈ Region.ready md ops listed → YieldsIf P ops C o v a → C w → AnyT P md ops Q C z n (listed.setIfInBounds i true) (a.put o.dst v) w → AnyT P md ops Q C z (n + 1) listed a w := by
  intro n
  induction n with
  | zero =>
    intro listed a w _ hr hy hC H
    refine ⟨fun h => by (rw [h] at hr; cases hr), fun j hj => ?_⟩
    by_cases e : j = i
    · subst e; exact hy.wpOp hi hC ⟨fun _ => hC, H⟩
    · have h1 := ready_mono hj e
      rw [H.1] at h1; cases h1
  | succ n ih =>
    intro listed a w hfree hr hy hC H
    refine ⟨fun h => by (rw [h] at hr; cases hr), fun j hj => ?_⟩
    by_cases e : j = i
    · subst e; exact hy.wpOp hi hC ⟨fun _ => hC, H⟩
    · have h1 := H.2 j (ready_mono hj e)
      obtain ⟨hun, oj, hoj, hall⟩ := mem_ready.1 hj
      have hno : ∀ x ∈ oj.after, Region.binds md x = true → x.on ≠ i := fun x hx hb he => by
        have h2 := hall x hx hb
        have h3 := (mem_ready.1 hr).1
        rw [he] at h2
        rcases Nat.lt_or_ge i listed.size with h4 | h4
        · simp [h4] at h2 h3; rw [h3] at h2; cases h2
        · simp [Array.getElem?_eq_none h4] at h2
      have hjz : j ≠ z := fun hjz => by
        subst hjz
        unfold waits at hz
        rw [hoj] at hz
        simp only [Option.map_some, Option.getD_some, Array.any_eq_true] at hz
        obtain ⟨k, hk, hz⟩ := hz
        simp only [Bool.and_eq_true, beq_iff_eq] at hz
        exact hno _ (Array.getElem_mem hk) hz.1 hz.2
      have h5 := wpOp_putIf hoj (hfree j oj hoj e hun hno) (fun cs b => Region.noSelect_spec hsel i o cs b hi) (fun cs b => Region.noSelect_spec hsel j oj cs b hoj) hQ hy h1
      have hri := ready_mono (md := md) hr (Ne.symm e)
      refine wpOp_mono (fun a' w' h6 => ?_) h5
      have hCw : C w' := h6.2.1 hjz
      exact ⟨fun _ => hCw, ih (listed.setIfInBounds j true) a' w' (fun k ok hk hki hu hnk => hfree k ok hk hki (by
          by_cases hjk : j = k
          · subst hjk; exact hun
          · rw [getD_set_ne true hjk] at hu; exact hu) hnk) hri h6.1 hCw (by rw [Array.setIfInBounds_comm _ _ e]; exact h6.2.2)⟩

/-! ### the operations that only read, taken first, in a given order -/

/-- an operation that hands back a value and makes no call -/
def plainOp (o : Oper) : Bool := match o.op with
  | .move _ | .assign _ | .load .. | .binOp .. | .unOp .. | .convert .. | .fieldAddr .. | .field .. | .indexAddr .. | .index .. | .slice .. => true
  | _ => false

theorem val_bind {s : Sem Value} {w w' : World} {n : Next} (hr : Sem.run P (do pure (.value (← s))) w = .ok n w') : ∃ u, n = .value u := by
  rw [Sem.run_bind] at hr
  cases hs : Sem.run P s w with
  | ok v w1 =>
    rw [hs] at hr
    simp [Result.andThen, pure] at hr
    exact ⟨v, hr.1.symm⟩
  | halt h w1 =>
    rw [hs] at hr
    simp [Result.andThen] at hr

theorem plain_value {o : Oper} (h : plainOp o = true) {ρ : Operand → Value} {w w' : World} {n : Next} (hr : Sem.run P (execOp ρ o) w = .ok n w') : ∃ u, n = .value u := by
  obtain ⟨dst, op, ty, pos, after, guard⟩ := o
  cases op <;> simp only [plainOp] at h <;> (try cases h) <;> unfold execOp at hr <;> dsimp only at hr
  all_goals first
    | exact val_bind hr
    | (simp [pure] at hr; exact ⟨_, hr.1.symm⟩)

/-- the operations of some numbers -/
def pick (l : List Oper) : List Nat → List Oper
  | [] => []
  | i :: r => match l[i]? with
    | some o => o :: pick l r
    | none => pick l r
theorem pick_cons {l : List Oper} {i : Nat} {r : List Nat} {o : Oper} (h : l[i]? = some o) : pick l (i :: r) = o :: pick l r := by
  simp only [pick, h]

/-- each of these may be taken first, one behind the other -/
def preB (md : Region.Mode) (l : List Oper) (z : Nat) : List Nat → Array Bool → Bool
  | [], _ => true
  | i :: r, listed => (Region.ready md l.toArray listed).contains i && (Region.free md l.toArray listed i && (waits md l.toArray z i && (((l[i]?).map plainOp).getD false && preB md l z r (listed.setIfInBounds i true))))
def marked : List Nat → Array Bool → Array Bool
  | [], listed => listed
  | i :: r, listed => marked r (listed.setIfInBounds i true)
/-- these come up in this order alone -/
def tailB (md : Region.Mode) (l : List Oper) : List Nat → Array Bool → Bool
  | [], listed => (Region.ready md l.toArray listed).isEmpty
  | i :: r, listed => (Region.ready md l.toArray listed) == [i] && ((l[i]?).isSome && tailB md l r (listed.setIfInBounds i true))

theorem AnyT.pre {l : List Oper} {n : Nat} {w : World} (hsel : Region.noSelect l.toArray = true) (hQ : ∀ d v c a w, Q (.panic c) (Act.put a d v) w → Q (.panic c) a w) (hC : C w) :
    ∀ (I : List Nat) (listed : Array Bool) (a : Act), preB md l z I listed = true → wpQuiet P l.toArray C (fun a' => AnyT P md l.toArray Q C z n (marked I listed) a' w) (pick l I) a → AnyT P md l.toArray Q C z (n + I.length) listed a w := by
  intro I
  induction I with
  | nil => intro listed a _ h; exact h
  | cons i r ih =>
    intro listed a hB h
    simp only [preB, Bool.and_eq_true] at hB
    obtain ⟨h1, h2, h3, h4, h5⟩ := hB
    cases ho : l[i]? with
    | none => rw [ho] at h4; simp at h4
    | some o =>
      rw [ho] at h4
      simp only [Option.map_some, Option.getD_some] at h4
      rw [pick_cons ho] at h
      have hoa : l.toArray[i]? = some o := by simpa using ho
      unfold wpQuiet at h
      have hgo : ∀ v, YieldsIf P l.toArray C o v a → wpQuiet P l.toArray C (fun a' => AnyT P md l.toArray Q C z n (marked r (listed.setIfInBounds i true)) a' w) (pick l r) (a.put o.dst v) → AnyT P md l.toArray Q C z (n + (i :: r).length) listed a w := fun v hy hr =>
        AnyT.take hoa hsel (fun c a w => hQ _ _ c a w) h3 _ listed a w (Region.free_spec hoa h2) (by simpa using h1) hy hC (ih _ _ h5 hr)
      split at h
      · rename_i hw
        obtain ⟨v, hv, hr⟩ := h
        refine hgo v (.inl ⟨hw, fun w1 hw1 => ?_⟩) hr
        have hq := hv w1 hw1
        unfold Oper.quietAt at hq
        cases hrun : Sem.run P (execOp a.eval o) w1 with
        | ok nx w2 =>
          obtain ⟨u, rfl⟩ := plain_value h4 hrun
          rw [hrun] at hq
          simp only [Oper.quietUpon] at hq
          rw [hq.1, hq.2]
        | halt hh w2 => rw [hrun] at hq; simp only [Oper.quietUpon] at hq
      · rename_i hw
        exact hgo undef (.inr ⟨by simpa using hw, rfl⟩) h

/-- the tail, an operation at a time; C is shown behind each but the last -/
def tailW (P : Program) (ops : Array Oper) (Q : Exit → Act → World → Prop) (C : World → Prop) : List Oper → Act → World → Prop
  | [], a, w => Q .normal a w
  | [o], a, w => wpList P ops Q [o] a w
  | o :: r, a, w => wpList P ops (Exit.then (fun a' w' => C w' ∧ tailW P ops Q C r a' w') Q) [o] a w

theorem wp_then {o : Oper} {a : Act} {w : World} {K : Act → World → Prop} (h : o.wp P a w (wpList P ops (Exit.then K Q) []) (Exit.then K Q)) : o.wp P a w K Q := by
  unfold Oper.wp at h ⊢
  generalize Sem.run P (execOp a.eval o) w = r at h ⊢
  cases r with
  | ok n w' =>
    cases n <;> simp only [Oper.upon] at h ⊢ <;> first | exact h | exact Calls.mono h fun e w'' he => by (cases e <;> exact he)
  | halt x w' => cases x <;> simp only [Oper.upon] at h ⊢ <;> exact h

theorem op_then {i : Nat} {o : Oper} {a : Act} {w : World} {K : Act → World → Prop} (hi : ops[i]? = some o) (h : wpList P ops (Exit.then K Q) [o] a w) : wpOp P ops Q i K a w := by
  unfold wpOp
  unfold wpList at h
  simp only [hi]
  split at h
  · rename_i hw; rw [if_pos hw]; exact h.imp wp_then id
  · rename_i hw; rw [if_neg hw]; exact h

theorem op_last {i : Nat} {o : Oper} {a : Act} {w : World} (hi : ops[i]? = some o) (h : wpList P ops Q [o] a w) : wpOp P ops Q i (Q .normal) a w := by
  unfold wpOp
  unfold wpList at h
  simp only [hi]
  split at h
  · rename_i hw; rw [if_pos hw]; exact h
  · rename_i hw; rw [if_neg hw]; exact h

theorem AnyT.tail {l : List Oper} : ∀ (J : List Nat) (listed : Array Bool) (a : Act) (w : World), tailB md l J listed = true → J.getLast? = some z → tailW P l.toArray Q C (pick l J) a w → AnyT P md l.toArray Q C z J.length listed a w := by
  intro J
  induction J with
  | nil => intro listed a w _ h; cases h
  | cons i r ih =>
    intro listed a w hB hz h
    simp only [tailB, Bool.and_eq_true, beq_iff_eq] at hB
    obtain ⟨h1, h2, h3⟩ := hB
    cases ho : l[i]? with
    | none => rw [ho] at h2; cases h2
    | some o =>
      have hoa : l.toArray[i]? = some o := by simpa using ho
      rw [pick_cons ho] at h
      refine ⟨fun hn => by (rw [h1] at hn; cases hn), fun j hj => ?_⟩
      rw [h1] at hj
      obtain rfl : j = i := by simpa using hj
      cases r with
      | nil =>
        obtain rfl : j = z := by simpa using hz
        simp only [pick, tailW] at h
        simp only [tailB, List.isEmpty_iff] at h3
        exact wpOp_mono (fun a' w' hq => ⟨fun hne => absurd rfl hne, h3, hq⟩) (op_last hoa h)
      | cons k r =>
        have hk : ∃ o2, l[k]? = some o2 := by
          simp only [tailB, Bool.and_eq_true] at h3
          exact Option.isSome_iff_exists.1 h3.2.1
        obtain ⟨o2, ho2⟩ := hk
        rw [pick_cons ho2] at h
        simp only [tailW] at h
        rw [← pick_cons ho2] at h
        exact wpOp_mono (fun a' w' hq => ⟨fun _ => hq.1, ih _ a' w' h3 (by simpa using hz) hq.2⟩) (op_then hoa h)

/-- **A REGION THAT DRAWS: ITS READS FIRST (I), THEN ITS TAIL (J)** -/
theorem wp_region_tail {id : Nat} {a : Act} {w : World} {l : List Oper} (I J : List Nat) (z : Nat) (hm : P.follows .mixedOrders = true)
    (hB : (Region.noSelect l.toArray && (preB .any l z I (Array.replicate l.length false) && (tailB .any l J (marked I (Array.replicate l.length false)) && (J.getLast? == some z && decide (J.length + I.length = l.length))))) = true)
    (hQ : ∀ d v c a w, Q (.panic c) (Act.put a d v) w → Q (.panic c) a w) (hC : C w.drew)
    (h : wpQuiet P l.toArray C (fun a' => tailW P l.toArray Q C (pick l J) a' w.drew) (pick l I) a) : (Code.region id l.toArray true).wp P Q a w := by
  simp only [Bool.and_eq_true, beq_iff_eq, decide_eq_true_eq] at hB
  obtain ⟨h1, h2, h3, h4, h5⟩ := hB
  refine wp_region_any hm (AnyT.sound (C := C) (z := z) _ _ _ _ ?_)
  have := AnyT.pre (n := J.length) h1 hQ hC I _ a h2 (wpQuiet_mono' (fun a' ha => AnyT.tail J _ a' _ h3 h4 ha) _ _ h)
  rw [h5] at this
  simpa using this

end
end Go.Proofs.YtgopfjnpjkpelaaDoor
namespace Go.Proofs.YtgopfjnpjkpelaaDoor
open Go.RowKit

/-- all blocks from B on are kept -/
structure Keep (B : Nat) (w w' : World) : Prop where
  size : w.heap.size ≤ w'.heap.size
  block : ∀ b, B ≤ b → b < w.heap.size → w'.heap[b]? = w.heap[b]?
theorem Keep.refl (B : Nat) (w : World) : Keep B w w := ⟨Nat.le_refl _, fun _ _ _ => rfl⟩
theorem Keep.trans {B : Nat} {a b c : World} (h : Keep B a b) (k : Keep B b c) : Keep B a c :=
  ⟨Nat.le_trans h.size k.size, fun i h1 h2 => (k.block i h1 (Nat.lt_of_lt_of_le h2 h.size)).trans (h.block i h1 h2)⟩
theorem Keep.below {B : Nat} {w w' : World} (h : Below w.heap.size w w') : Keep B w w' := ⟨h.size, fun b _ hb => h.block b hb⟩
theorem Keep.but {B D : Nat} {w w' : World} (h : But w D w') (hD : D < B) : Keep B w w' := ⟨h.size, fun b h1 h2 => h.block b h2 (by omega)⟩
theorem Keep.set {B : Nat} (w : World) {a : Addr} (ha : a.block < B) (v : Value) : Keep B w (w.setCell a v) := ⟨by simp, fun b h1 _ => Below.heap_setCell _ _ _ _ (by omega)⟩
theorem Keep.alloc {B : Nat} (w : World) (o : Obj) : Keep B w (w.alloc o) := Keep.below (below_alloc w o)
theorem Keep.drewN {B : Nat} (w : World) (n : Nat) : Keep B w (w.drewN n) := ⟨Nat.le_refl _, fun _ _ _ => rfl⟩
theorem Keep.drew {B : Nat} (w : World) : Keep B w w.drew := ⟨Nat.le_refl _, fun _ _ _ => rfl⟩

theorem cell_three_new (w : World) (x y z : Value) (t : TypeId) : ∀ j u, [x, y, z][j]? = some u → (w.alloc (.cells #[x, y, z] t)).cell? ((⟨w.heap.size, 0, none⟩ : Addr).add j) = some u := by
  intro j u hj
  match j, hj with
  | 0, hj => simp at hj; subst hj; simp [Addr.add]
  | 1, hj => simp at hj; subst hj; simp [Addr.add]
  | 2, hj => simp at hj; subst hj; simp [Addr.add]

theorem box3_set2 {w : World} {B : Nat} {a b c : Value} (h : Box3 w B a b c) (v : Value) : Box3 (w.setCell ⟨B, 2, none⟩ v) B a b v :=
  ⟨by simpa using h.1, by rw [World.cell?_setCell_other _ _ _ _ (by simp)]; exact h.2.1, by rw [World.cell?_setCell_other _ _ _ _ (by simp)]; exact h.2.2.1, World.cell?_setCell_same _ _ _ h.2.2.2.1,
    by simpa using h.2.2.2.2.1, by simpa using h.2.2.2.2.2.1, by simpa using h.2.2.2.2.2.2⟩
theorem box3_set0 {w : World} {B : Nat} {a b c : Value} (h : Box3 w B a b c) (v : Value) : Box3 (w.setCell ⟨B, 0, none⟩ v) B v b c :=
  ⟨by simpa using h.1, World.cell?_setCell_same _ _ _ h.2.1, by rw [World.cell?_setCell_other _ _ _ _ (by simp)]; exact h.2.2.1, by rw [World.cell?_setCell_other _ _ _ _ (by simp)]; exact h.2.2.2.1,
    by simpa using h.2.2.2.2.1, by simpa using h.2.2.2.2.2.1, by simpa using h.2.2.2.2.2.2⟩
theorem box3_set1 {w : World} {B : Nat} {a b c : Value} (h : Box3 w B a b c) (v : Value) : Box3 (w.setCell ⟨B, 1, none⟩ v) B a v c :=
  ⟨by simpa using h.1, by rw [World.cell?_setCell_other _ _ _ _ (by simp)]; exact h.2.1, World.cell?_setCell_same _ _ _ h.2.2.1, by rw [World.cell?_setCell_other _ _ _ _ (by simp)]; exact h.2.2.2.1,
    by simpa using h.2.2.2.2.1, by simpa using h.2.2.2.2.2.1, by simpa using h.2.2.2.2.2.2⟩

theorem Keep.setHi {B : Nat} {w w' : World} (h : Keep B w w') {a : Addr} (ha : w.heap.size ≤ a.block) (v : Value) : Keep B w (w'.setCell a v) :=
  ⟨by simpa using h.size, fun b h1 h2 => by rw [Below.heap_setCell _ _ _ _ (by omega)]; exact h.block b h1 h2⟩
theorem But.setNew {w W : World} {R : Nat} (h : But w R W) {a : Addr} (ha : w.heap.size ≤ a.block) (v : Value) : But w R (W.setCell a v) :=
  ⟨h.os, h.tape, h.output, by simpa using h.size, fun k hk hd => by rw [Below.heap_setCell _ _ _ _ (by omega)]; exact h.block k hk hd⟩

/-- v is a row of one's own, of nodes l, each in blocks of its own; all from B on -/
def OwnRow (B : Nat) (e : TypeId) (v : Value) (l : List Tr) (w : World) : Prop :=
  ∃ xs bs, w.ownsRow B e 3 v l.length xs ∧ TrsOwn w (fun i => xs.getD i undef) l 0 bs ∧ ∀ b, b ∈ bs → B ≤ b ∧ some b ≠ v.ownBlock

theorem OwnRow.nil (B : Nat) (e : TypeId) (w : World) : OwnRow B e (.slice none 0 0) [] w := ⟨[], [], World.ownsRow_nil .., (TrsOwn_nil ..).2 rfl, by simp⟩

theorem ownsRow_keep {B : Nat} {e : TypeId} {sz : Nat} {v : Value} {n : Nat} {xs : List Value} {w w' : World} (h1 : w.ownsRow B e sz v n xs) (hk : Keep B w w') : w'.ownsRow B e sz v n xs := by
  refine ⟨h1.1, ?_⟩
  rcases h1.2 with hn | ⟨g, cap, cur, rfl, hb, hgg, rest⟩
  · exact .inl hn
  · refine .inr ⟨g, cap, cur, rfl, hb, ?_, rest⟩
    rw [hk.block g hb (Array.getElem?_eq_some_iff.1 hgg).1]
    exact hgg

theorem OwnRow.keep {B : Nat} {e : TypeId} {v : Value} {l : List Tr} {w w' : World} (h : OwnRow B e v l w) (hk : Keep B w w') : OwnRow B e v l w' := by
  obtain ⟨xs, bs, h1, h2, h3⟩ := h
  refine ⟨xs, bs, ⟨h1.1, ?_⟩, (TrOwn_frame hk.size).2 _ _ _ _ h2 fun b hb => hk.block b (h3 b hb).1 (TrOwn_lt.2 _ _ _ _ h2 b hb), h3⟩
  rcases h1.2 with hn | ⟨g, cap, cur, rfl, hb, hgg, rest⟩
  · exact .inl hn
  · refine .inr ⟨g, cap, cur, rfl, hb, ?_, rest⟩
    rw [hk.block g hb (Array.getElem?_eq_some_iff.1 hgg).1]
    exact hgg

theorem box3_at {w : World} {B : Nat} {a b c : Value} {t : TypeId} (h : B = w.heap.size) : Box3 (w.alloc (.cells #[a, b, c] t)) B a b c := by subst h; exact box3_new ..
theorem box1_at {w : World} {B : Nat} {a : Value} {t : TypeId} (h : B = w.heap.size) : Box1 (w.alloc (.cells #[a] t)) B a := by subst h; exact box1_new ..

/-- the row's shape -/
theorem OwnRow.shape {B : Nat} {e : TypeId} {v : Value} {l : List Tr} {w : World} (h : OwnRow B e v l w) : ∃ a c, v = .slice a l.length c ∧ l.length ≤ c ∧ c ≤ maxLen := by
  obtain ⟨xs, bs, h1, h2, h3⟩ := h
  rcases h1.2 with ⟨rfl, h⟩ | ⟨g, cap, cur, rfl, hb, hgg, h4, h5, _⟩
  · exact ⟨none, 0, by rw [h], by omega, by simp⟩
  · exact ⟨_, _, rfl, h4, h5⟩

/-- **append(row, node)**: the node made meanwhile, in new blocks -/
theorem OwnRow.snocX {B Nn : Nat} {e : TypeId} {v v' : Value} {l : List Tr} {t : Tr} {w w1 w2 w' : World} {x y z : Value} {xs bs}
    (h1 : w.ownsRow B e 3 v l.length xs) (h2 : TrsOwn w (fun i => xs.getD i undef) l 0 bs) (h3 : ∀ b, b ∈ bs → B ≤ b ∧ some b ≠ v.ownBlock) (hB : B ≤ w.heap.size) (hk : Keep B w w1) (hN : w.heap.size ≤ Nn) (hn : NewTr Nn t (.agg #[x, y, z]) w1) (hk2 : Below w1.heap.size w1 w2)
    (h' : w'.ownsRow B e 3 v' (l.length + 1) (xs ++ [x, y, z])) (hg : w2.grownBy w' v.ownBlock) (hat : v'.ownBlock = v.ownBlock ∨ v'.ownBlock = some w2.heap.size) : ∃ xs' bs', w'.ownsRow B e 3 v' (l ++ [t]).length xs' ∧ TrsOwn w' (fun i => xs'.getD i undef) (l ++ [t]) 0 bs' ∧ (∀ b, b ∈ bs' → B ≤ b ∧ some b ≠ v'.ownBlock) ∧ (∀ b, b ∈ bs' → b < w.heap.size ∨ Nn ≤ b) ∧ (∀ k, v'.ownBlock = some k → k < w.heap.size ∨ k = w2.heap.size) := by
  obtain ⟨cs, hcs, hnew⟩ := hn
  have hv : ∀ k, v.ownBlock = some k → k < w.heap.size := fun k hk => (h1.lt k hk).2
  have hxl := h1.1
  have lb := TrOwn_lt.2 _ _ _ _ h2
  have lc := TrOwn_lt.1 _ _ _ hcs
  have s1 := hk.size
  have s2 := hk2.size
  have nc : ∀ b, b ∈ cs → some b ≠ v.ownBlock := fun b hb e => by
    have := hv b e.symm; have := hnew b hb; omega
  refine ⟨xs ++ [x, y, z], bs ++ cs, by simpa using h', TrsOwn_snoc ?_ ?_ ?_, ?_, fun b hb => ?_, fun k hk => ?_⟩
  · refine (TrOwn_frame (w := w) (by have := hg.size; omega)).2 _ _ _ _ (TrsOwn_congr h2 fun i _ hi => ?_) fun b hb => ?_
    · simp only [List.getD_eq_getElem?_getD]
      rw [List.getElem?_append_left (by omega)]
    · rw [hg.block b (by have := lb b hb; omega) (h3 b hb).2, hk2.block b (by have := lb b hb; omega), hk.block b (h3 b hb).1 (lb b hb)]
  · have e0 : (xs ++ [x, y, z]).getD (0 + l.length * 3) undef = x := by
      simp only [List.getD_eq_getElem?_getD]; rw [List.getElem?_append_right (by omega), show 0 + l.length * 3 - xs.length = 0 by omega]; rfl
    have e1 : (xs ++ [x, y, z]).getD (0 + l.length * 3 + 1) undef = y := by
      simp only [List.getD_eq_getElem?_getD]; rw [List.getElem?_append_right (by omega), show 0 + l.length * 3 + 1 - xs.length = 1 by omega]; rfl
    have e2 : (xs ++ [x, y, z]).getD (0 + l.length * 3 + 2) undef = z := by
      simp only [List.getD_eq_getElem?_getD]; rw [List.getElem?_append_right (by omega), show 0 + l.length * 3 + 2 - xs.length = 2 by omega]; rfl
    rw [e0, e1, e2]
    refine (TrOwn_frame (w := w1) (by have := hg.size; omega)).1 _ _ _ hcs fun b hb => ?_
    rw [hg.block b (by have := lc b hb; omega) (nc b hb), hk2.block b (lc b hb)]
  · intro b hb hc
    have := lb b hb; have := hnew b hc; omega
  · intro b hb
    have hne : ∀ k, k < w2.heap.size → some k ≠ v.ownBlock → some k ≠ v'.ownBlock := fun k hk hne e => by
      rcases hat with h | h
      · exact hne (e.trans h)
      · rw [h] at e; cases e; omega
    rcases List.mem_append.1 hb with hb | hb
    · exact ⟨(h3 b hb).1, hne b (by have := lb b hb; omega) (h3 b hb).2⟩
    · exact ⟨by have := hnew b hb; omega, hne b (by have := lc b hb; omega) (nc b hb)⟩
  · rcases List.mem_append.1 hb with hb | hb
    · exact .inl (lb b hb)
    · exact .inr (hnew b hb)
  · rcases hat with h | h
    · exact .inl (hv k (h ▸ hk))
    · rw [h] at hk; cases hk; exact .inr rfl
theorem OwnRow.avoid {B O o : Nat} {e : TypeId} {v u : Value} {l : List Tr} {w : World} {xs bs} (h1 : w.ownsRow B e 3 v l.length xs) (h2 : TrsOwn w (fun i => xs.getD i undef) l 0 bs) (h3 : ∀ b, b ∈ bs → B ≤ b ∧ some b ≠ v.ownBlock) (h4 : O ∉ bs) (h5 : v.ownBlock ≠ some O) :
    OwnRow B e v l (w.setCell ⟨O, o, none⟩ u) :=
  ⟨xs, bs, h1.kept (row := some O) ⟨rfl, rfl, rfl, by simp, fun k _ hne => Below.heap_setCell _ _ _ _ (fun e => hne (by rw [e]))⟩ (.inr h5), TrsOwn_set h2 h4 _, h3⟩

/-- the node above the row -/
theorem OwnRow.node {B : Nat} {e : TypeId} {u : Value} {k v : Int} {l : List Tr} {w : World} (h : OwnRow B e u l w) (hk : i64 k) (hv : i64 v) : NewTr B (.mk k v l) (.agg #[.int .i64 k, .int .i64 v, u]) w := by
  obtain ⟨xs, bs, h1, h2, h3⟩ := h
  rcases h1.2 with ⟨rfl, h⟩ | ⟨g, cap, cur, rfl, hb, hgg, h4, h5, h6, h7⟩
  · have : l = [] := List.eq_nil_of_length_eq_zero h
    subst this
    exact ⟨[], TrOwn_leaf hk hv (by simp), by simp⟩
  · have hc := h1.cells (g := g) rfl
    obtain ⟨bs', g1, g2⟩ := TrOwn_new (w := w) (R := g) (c := cap) hk hv h4 h5 (f := fun i => xs.getD i undef) (bs := bs)
      ⟨(Array.getElem?_eq_some_iff.1 hgg).1, fun i hi => by
        have hx : xs[i]? = some (xs.getD i undef) := by
          simp only [List.getD_eq_getElem?_getD]
          rw [List.getElem?_eq_getElem (by rw [h1.1]; exact hi)]; rfl
        have := hc i _ hx
        rw [show (⟨g, 0, none⟩ : Addr).add i = ⟨g, i, none⟩ by cases i <;> simp [Addr.add]] at this
        exact this, fun i => by
        simp [World.frozen?, hgg]⟩ h2 (fun e => by have := (h3 g e).2; simp [Value.ownBlock] at this)
    exact ⟨bs', g1, fun b hb' => by rcases g2 b hb' with rfl | h8; exact hb; exact (h3 b h8).1⟩

theorem OwnRow.mono {B B' : Nat} {e : TypeId} {v : Value} {l : List Tr} {w : World} (h : OwnRow B e v l w) (hB : B' ≤ B) : OwnRow B' e v l w := by
  obtain ⟨xs, bs, h1, h2, h3⟩ := h
  refine ⟨xs, bs, ⟨h1.1, ?_⟩, h2, fun b hb => ⟨Nat.le_trans hB (h3 b hb).1, (h3 b hb).2⟩⟩
  rcases h1.2 with hn | ⟨g, cap, cur, rfl, hb, rest⟩
  · exact .inl hn
  · exact .inr ⟨g, cap, cur, rfl, Nat.le_trans hB hb, rest⟩

/-- a node of one's own whose row may grow -/
def OwnN (B : Nat) (e : TypeId) (t : Tr) (x : Value) (w : World) : Prop := ∃ u, x = .agg #[.int .i64 t.kind, .int .i64 t.val, u] ∧ i64 t.kind ∧ i64 t.val ∧ OwnRow B e u t.kids w
theorem OwnN.new {B : Nat} {e : TypeId} {t : Tr} {x : Value} {w : World} (h : OwnN B e t x w) : NewTr B t x w := by
  obtain ⟨u, rfl, h1, h2, h3⟩ := h
  cases t with
  | mk k v l => exact h3.node h1 h2

theorem ButX.ofB {B R : Nat} {w w' : World} (h : Below B w w') : ButX B R w w' := ⟨h.os, h.tape, h.output, h.size, fun k hk _ => h.block k hk⟩

/-- **append(row, node)**, at the operation: the node made meanwhile, in new blocks, and laid in a block of its own -/
theorem wp_append_node {P : Program} {ops : Array Oper} {rest : List Oper} {o : Oper} {a : Act} {Q : Exit → Act → World → Prop} {wr w1 : World} {B Nn : Nat} {l : List Tr} {t' : Tr} {u x y z : Value} {ty : TypeId} (hgd : o.guard = none) (s xx : Operand) (t : TypeId)
    (ho : o.op = .call { callee := .builtin .append, args := #[s, xx], argTypes := #[t, t] }) (e : TypeId) (ht : P.underlying t = some (.slice e))
    (hinf : (P.info? e).map (fun i => (i.zero, i.size, i.bytes)) = some (some (.agg #[.int .i64 0, .int .i64 0, .slice none 0 0]), 3, 40))
    (hs : a.eval s = u) (hx : a.eval xx = .slice (some ⟨w1.heap.size, 0, none⟩) 1 1) (h1 : ∀ v ∈ [x, y, z], v.oneCell' = true)
    (hown : OwnRow B e u l wr) (hB : B ≤ wr.heap.size) (hk : Keep B wr w1) (hN : wr.heap.size ≤ Nn) (hn : NewTr Nn t' (.agg #[x, y, z]) w1) (hl : l.length ≤ 1048576)
    (h : ∀ a2 n2 c2 w', OwnRow B e (.slice a2 n2 c2) (l ++ [t']) w' → Below B w1 w' → (∀ D, (∀ k, u.ownBlock = some k → k = D) → But w1 D w') → (∀ O o v, wr.heap.size ≤ O → O < Nn → O < w1.heap.size → OwnRow B e (.slice a2 n2 c2) (l ++ [t']) (w'.setCell ⟨O, o, none⟩ v)) → wpList P ops Q rest (a.put o.dst (.slice a2 n2 c2)) w') : wpList P ops Q (o :: rest) a (w1.alloc (.cells #[x, y, z] ty)) := by
  obtain ⟨xs, bs, o1, o2, o3⟩ := hown
  obtain ⟨ri, hi, hz, hs1, hs2⟩ := info_parts hinf
  have s1 := hk.size
  refine wpList_append_own_at _ hgd s xx t ho B e ri _ 3 40 ht hi hz hs1 hs2 rfl (by omega) u l.length xs hs ((ownsRow_keep o1 hk).alloc _) ⟨w1.heap.size, 0, none⟩ 1 1 [x, y, z] hx rfl (cell_three_new _ _ _ _ _) h1
    (by simp only [maxLen]; omega) (by omega) (by simp; omega) ?_
  intro v2 w3 hown hgrow _ hat
  obtain ⟨xs', bs', z1, z2, z3, z4, z5⟩ := OwnRow.snocX o1 o2 o3 hB hk hN hn (below_alloc _ _) hown hgrow (by simpa using hat)
  have hsn : OwnRow B e v2 (l ++ [t']) w3 := ⟨xs', bs', z1, z2, z3⟩
  obtain ⟨a2, c2, rfl, _⟩ := hsn.shape
  refine h _ _ _ _ hsn ⟨hgrow.os, hgrow.tape, hgrow.output, by have := hgrow.size; simp at this; omega, fun k hk' => ?_⟩ (fun D hD => ⟨hgrow.os, hgrow.tape, hgrow.output, by have := hgrow.size; simp at this; omega, fun k hk' hkD => ?_⟩) (fun O o v h1 h2 h3 => OwnRow.avoid z1 z2 z3 (fun hb => by rcases z4 O hb with h | h <;> omega) (fun hb => by rcases z5 O hb with h | h; omega; simp at h; omega))
  · rw [hgrow.block k (by simp; omega) (fun e => by have := (o1.lt k e.symm).1; omega), (below_alloc w1 _).block k (by omega)]
  · rw [hgrow.block k (by simp; omega) (fun e => hkD (hD k e.symm)), (below_alloc w1 _).block k hk']

theorem leaf_new (B : Nat) (w : World) {k v : Int} (hk : i64 k) (hv : i64 v) : NewTr B (.mk k v []) (.agg #[.int .i64 k, .int .i64 v, .slice none 0 0]) w := ⟨[], TrOwn_leaf hk hv (by simp), by simp⟩
/-- a node above one leaf, just made -/
theorem new_one (w : World) {k v k' v' : Int} (hk : i64 k) (hv : i64 v) (hk' : i64 k') (hv' : i64 v') (e : TypeId) (b : Nat) (hb : b = w.heap.size) :
    NewTr w.heap.size (.mk k v [.mk k' v' []]) (.agg #[.int .i64 k, .int .i64 v, .slice (some ⟨b, 0, none⟩) 1 1]) (w.alloc (.cells #[.int .i64 k', .int .i64 v', .slice none 0 0] e)) := by
  subst hb
  obtain ⟨bs, h1, h2⟩ := TrOwn_new (w := w.alloc (.cells #[.int .i64 k', .int .i64 v', .slice none 0 0] e)) (R := w.heap.size) (c := 1) (kids := [.mk k' v' []]) (bs := []) (f := fun i => #[Value.int .i64 k', .int .i64 v', .slice none 0 0].getD i undef) hk hv (by simp) (by simp [maxLen])
    ⟨by simp, fun i hi => by
      rw [World.cell?_alloc_new]
      rcases (by simp at hi; omega : i = 0 ∨ i = 1 ∨ i = 2) with rfl | rfl | rfl <;> rfl, fun i => by simp⟩
    ((TrsOwn_cons ..).2 ⟨[], [], rfl, by simp, TrOwn_leaf hk' hv' (by simp), (TrsOwn_nil ..).2 rfl⟩) (by simp)
  exact ⟨bs, h1, fun b hb => by rcases h2 b hb with rfl | h; exact Nat.le_refl _; cases h⟩
theorem NewTr.keep {B : Nat} {t : Tr} {v : Value} {w w' : World} (h : NewTr B t v w) (hk : Keep B w w') : NewTr B t v w' := by
  obtain ⟨bs, h1, h2⟩ := h
  exact ⟨bs, (TrOwn_frame hk.size).1 _ _ _ h1 fun b hb => hk.block b (h2 b hb) (TrOwn_lt.1 _ _ _ h1 b hb), h2⟩

end Go.Proofs.YtgopfjnpjkpelaaDoor
namespace Go.Proofs.YtgopfjnpjkpelaaDoor
open Go.RowKit

/-- an edge -/
structure Ed where
  src : Int
  dst : Int
  guard : Tr
  var : Int
  val : Tr
  sync : Int
/-- the ten cells of an edge -/
def Ed.cells (e : Ed) (a : Option Addr) (c : Nat) (a' : Option Addr) (c' : Nat) : List Value :=
  [.int .i64 e.src, .int .i64 e.dst, .int .i64 e.guard.kind, .int .i64 e.guard.val, .slice a e.guard.kids.length c, .int .i64 e.var, .int .i64 e.val.kind, .int .i64 e.val.val, .slice a' e.val.kids.length c', .int .i64 e.sync]
/-- AN EDGE IN MEMORY -/
def EdIn (p : Nat → Prop) (w : World) (e : Ed) (x : Value) : Prop := ∃ a c a' c', x = .agg #[.int .i64 e.src, .int .i64 e.dst, .int .i64 e.guard.kind, .int .i64 e.guard.val, .slice a e.guard.kids.length c, .int .i64 e.var, .int .i64 e.val.kind, .int .i64 e.val.val, .slice a' e.val.kids.length c', .int .i64 e.sync] ∧
  i64 e.src ∧ i64 e.dst ∧ i64 e.var ∧ i64 e.sync ∧ TrIn p w e.guard (.agg #[.int .i64 e.guard.kind, .int .i64 e.guard.val, .slice a e.guard.kids.length c]) ∧ TrIn p w e.val (.agg #[.int .i64 e.val.kind, .int .i64 e.val.val, .slice a' e.val.kids.length c'])
theorem EdIn_below {p : Nat → Prop} {w w' : World} {e : Ed} {x : Value} (hb : Below w.heap.size w w') (h : EdIn p w e x) : EdIn p w' e x := by
  obtain ⟨a, c, a', c', h0, h1, h2, h3, h4, h5, h6⟩ := h
  exact ⟨a, c, a', c', h0, h1, h2, h3, h4, TrIn_below hb h5, TrIn_below hb h6⟩

/-! ### variables of ten cells -/
def Box10 (w : World) (B : Nat) (a0 a1 a2 a3 a4 a5 a6 a7 a8 a9 : Value) : Prop := B < w.heap.size ∧
  (w.cell? ⟨B, 0, none⟩ = some a0 ∧ w.cell? ⟨B, 1, none⟩ = some a1 ∧ w.cell? ⟨B, 2, none⟩ = some a2 ∧ w.cell? ⟨B, 3, none⟩ = some a3 ∧ w.cell? ⟨B, 4, none⟩ = some a4 ∧ w.cell? ⟨B, 5, none⟩ = some a5 ∧ w.cell? ⟨B, 6, none⟩ = some a6 ∧ w.cell? ⟨B, 7, none⟩ = some a7 ∧ w.cell? ⟨B, 8, none⟩ = some a8 ∧ w.cell? ⟨B, 9, none⟩ = some a9) ∧
  (w.frozen? ⟨B, 0, none⟩ = false ∧ w.frozen? ⟨B, 1, none⟩ = false ∧ w.frozen? ⟨B, 2, none⟩ = false ∧ w.frozen? ⟨B, 3, none⟩ = false ∧ w.frozen? ⟨B, 4, none⟩ = false ∧ w.frozen? ⟨B, 5, none⟩ = false ∧ w.frozen? ⟨B, 6, none⟩ = false ∧ w.frozen? ⟨B, 7, none⟩ = false ∧ w.frozen? ⟨B, 8, none⟩ = false ∧ w.frozen? ⟨B, 9, none⟩ = false)
theorem box10_block {w w' : World} {B : Nat} {a0 a1 a2 a3 a4 a5 a6 a7 a8 a9 : Value} (h : w'.heap[B]? = w.heap[B]?) (hs : w.heap.size ≤ w'.heap.size) (hb : Box10 w B a0 a1 a2 a3 a4 a5 a6 a7 a8 a9) : Box10 w' B a0 a1 a2 a3 a4 a5 a6 a7 a8 a9 := by
  obtain ⟨h0, hc, hf⟩ := hb
  have ec : ∀ i, w'.cell? ⟨B, i, none⟩ = w.cell? ⟨B, i, none⟩ := fun i => World.cell?_of_block (w := w) (a := ⟨B, i, none⟩) h
  have ef : ∀ i, w'.frozen? ⟨B, i, none⟩ = w.frozen? ⟨B, i, none⟩ := fun i => World.frozen?_of_block (w := w) (a := ⟨B, i, none⟩) h
  refine ⟨Nat.lt_of_lt_of_le h0 hs, ?_, ?_⟩
  · simp only [ec]; exact hc
  · simp only [ef]; exact hf
theorem box10_next {w w' : World} (h : Below w.heap.size w w') {B : Nat} {a0 a1 a2 a3 a4 a5 a6 a7 a8 a9 : Value} (hb : Box10 w B a0 a1 a2 a3 a4 a5 a6 a7 a8 a9) : Box10 w' B a0 a1 a2 a3 a4 a5 a6 a7 a8 a9 :=
  box10_block (h.block B hb.1) h.size hb
theorem box10_new (w : World) (a0 a1 a2 a3 a4 a5 a6 a7 a8 a9 : Value) (t : TypeId) : Box10 (w.alloc (.cells #[a0, a1, a2, a3, a4, a5, a6, a7, a8, a9] t)) w.heap.size a0 a1 a2 a3 a4 a5 a6 a7 a8 a9 :=
  ⟨by simp, by simp, by simp⟩
theorem box10_at {w : World} {B : Nat} (hB : B = w.heap.size) (a0 a1 a2 a3 a4 a5 a6 a7 a8 a9 : Value) (t : TypeId) : Box10 (w.alloc (.cells #[a0, a1, a2, a3, a4, a5, a6, a7, a8, a9] t)) B a0 a1 a2 a3 a4 a5 a6 a7 a8 a9 := by subst hB; exact box10_new ..

theorem box10_but {w w' : World} {D : Nat} (h : But w D w') {B : Nat} {a0 a1 a2 a3 a4 a5 a6 a7 a8 a9 : Value} (hd : B ≠ D) (hb : Box10 w B a0 a1 a2 a3 a4 a5 a6 a7 a8 a9) : Box10 w' B a0 a1 a2 a3 a4 a5 a6 a7 a8 a9 :=
  box10_block (h.block B hb.1 hd) h.size hb
theorem box10_set0 {w : World} {B : Nat} {a0 a1 a2 a3 a4 a5 a6 a7 a8 a9 : Value} (h : Box10 w B a0 a1 a2 a3 a4 a5 a6 a7 a8 a9) (v : Value) : Box10 (w.setCell ⟨B, 0, none⟩ v) B v a1 a2 a3 a4 a5 a6 a7 a8 a9 := by
  obtain ⟨h0, ⟨c0, c1, c2, c3, c4, c5, c6, c7, c8, c9⟩, hf⟩ := h
  exact ⟨by simpa using h0, ⟨World.cell?_setCell_same _ _ _ c0, by rw [World.cell?_setCell_other _ _ _ _ (by simp)]; exact c1, by rw [World.cell?_setCell_other _ _ _ _ (by simp)]; exact c2, by rw [World.cell?_setCell_other _ _ _ _ (by simp)]; exact c3, by rw [World.cell?_setCell_other _ _ _ _ (by simp)]; exact c4, by rw [World.cell?_setCell_other _ _ _ _ (by simp)]; exact c5, by rw [World.cell?_setCell_other _ _ _ _ (by simp)]; exact c6, by rw [World.cell?_setCell_other _ _ _ _ (by simp)]; exact c7, by rw [World.cell?_setCell_other _ _ _ _ (by simp)]; exact c8, by rw [World.cell?_setCell_other _ _ _ _ (by simp)]; exact c9⟩, by simpa using hf⟩
theorem box10_set1 {w : World} {B : Nat} {a0 a1 a2 a3 a4 a5 a6 a7 a8 a9 : Value} (h : Box10 w B a0 a1 a2 a3 a4 a5 a6 a7 a8 a9) (v : Value) : Box10 (w.setCell ⟨B, 1, none⟩ v) B a0 v a2 a3 a4 a5 a6 a7 a8 a9 := by
  obtain ⟨h0, ⟨c0, c1, c2, c3, c4, c5, c6, c7, c8, c9⟩, hf⟩ := h
  exact ⟨by simpa using h0, ⟨by rw [World.cell?_setCell_other _ _ _ _ (by simp)]; exact c0, World.cell?_setCell_same _ _ _ c1, by rw [World.cell?_setCell_other _ _ _ _ (by simp)]; exact c2, by rw [World.cell?_setCell_other _ _ _ _ (by simp)]; exact c3, by rw [World.cell?_setCell_other _ _ _ _ (by simp)]; exact c4, by rw [World.cell?_setCell_other _ _ _ _ (by simp)]; exact c5, by rw [World.cell?_setCell_other _ _ _ _ (by simp)]; exact c6, by rw [World.cell?_setCell_other _ _ _ _ (by simp)]; exact c7, by rw [World.cell?_setCell_other _ _ _ _ (by simp)]; exact c8, by rw [World.cell?_setCell_other _ _ _ _ (by simp)]; exact c9⟩, by simpa using hf⟩
theorem box10_set2 {w : World} {B : Nat} {a0 a1 a2 a3 a4 a5 a6 a7 a8 a9 : Value} (h : Box10 w B a0 a1 a2 a3 a4 a5 a6 a7 a8 a9) (v : Value) : Box10 (w.setCell ⟨B, 2, none⟩ v) B a0 a1 v a3 a4 a5 a6 a7 a8 a9 := by
  obtain ⟨h0, ⟨c0, c1, c2, c3, c4, c5, c6, c7, c8, c9⟩, hf⟩ := h
  exact ⟨by simpa using h0, ⟨by rw [World.cell?_setCell_other _ _ _ _ (by simp)]; exact c0, by rw [World.cell?_setCell_other _ _ _ _ (by simp)]; exact c1, World.cell?_setCell_same _ _ _ c2, by rw [World.cell?_setCell_other _ _ _ _ (by simp)]; exact c3, by rw [World.cell?_setCell_other _ _ _ _ (by simp)]; exact c4, by rw [World.cell?_setCell_other _ _ _ _ (by simp)]; exact c5, by rw [World.cell?_setCell_other _ _ _ _ (by simp)]; exact c6, by rw [World.cell?_setCell_other _ _ _ _ (by simp)]; exact c7, by rw [World.cell?_setCell_other _ _ _ _ (by simp)]; exact c8, by rw [World.cell?_setCell_other _ _ _ _ (by simp)]; exact c9⟩, by simpa using hf⟩
theorem box10_set3 {w : World} {B : Nat} {a0 a1 a2 a3 a4 a5 a6 a7 a8 a9 : Value} (h : Box10 w B a0 a1 a2 a3 a4 a5 a6 a7 a8 a9) (v : Value) : Box10 (w.setCell ⟨B, 3, none⟩ v) B a0 a1 a2 v a4 a5 a6 a7 a8 a9 := by
  obtain ⟨h0, ⟨c0, c1, c2, c3, c4, c5, c6, c7, c8, c9⟩, hf⟩ := h
  exact ⟨by simpa using h0, ⟨by rw [World.cell?_setCell_other _ _ _ _ (by simp)]; exact c0, by rw [World.cell?_setCell_other _ _ _ _ (by simp)]; exact c1, by rw [World.cell?_setCell_other _ _ _ _ (by simp)]; exact c2, World.cell?_setCell_same _ _ _ c3, by rw [World.cell?_setCell_other _ _ _ _ (by simp)]; exact c4, by rw [World.cell?_setCell_other _ _ _ _ (by simp)]; exact c5, by rw [World.cell?_setCell_other _ _ _ _ (by simp)]; exact c6, by rw [World.cell?_setCell_other _ _ _ _ (by simp)]; exact c7, by rw [World.cell?_setCell_other _ _ _ _ (by simp)]; exact c8, by rw [World.cell?_setCell_other _ _ _ _ (by simp)]; exact c9⟩, by simpa using hf⟩
theorem box10_set4 {w : World} {B : Nat} {a0 a1 a2 a3 a4 a5 a6 a7 a8 a9 : Value} (h : Box10 w B a0 a1 a2 a3 a4 a5 a6 a7 a8 a9) (v : Value) : Box10 (w.setCell ⟨B, 4, none⟩ v) B a0 a1 a2 a3 v a5 a6 a7 a8 a9 := by
  obtain ⟨h0, ⟨c0, c1, c2, c3, c4, c5, c6, c7, c8, c9⟩, hf⟩ := h
  exact ⟨by simpa using h0, ⟨by rw [World.cell?_setCell_other _ _ _ _ (by simp)]; exact c0, by rw [World.cell?_setCell_other _ _ _ _ (by simp)]; exact c1, by rw [World.cell?_setCell_other _ _ _ _ (by simp)]; exact c2, by rw [World.cell?_setCell_other _ _ _ _ (by simp)]; exact c3, World.cell?_setCell_same _ _ _ c4, by rw [World.cell?_setCell_other _ _ _ _ (by simp)]; exact c5, by rw [World.cell?_setCell_other _ _ _ _ (by simp)]; exact c6, by rw [World.cell?_setCell_other _ _ _ _ (by simp)]; exact c7, by rw [World.cell?_setCell_other _ _ _ _ (by simp)]; exact c8, by rw [World.cell?_setCell_other _ _ _ _ (by simp)]; exact c9⟩, by simpa using hf⟩
theorem box10_set5 {w : World} {B : Nat} {a0 a1 a2 a3 a4 a5 a6 a7 a8 a9 : Value} (h : Box10 w B a0 a1 a2 a3 a4 a5 a6 a7 a8 a9) (v : Value) : Box10 (w.setCell ⟨B, 5, none⟩ v) B a0 a1 a2 a3 a4 v a6 a7 a8 a9 := by
  obtain ⟨h0, ⟨c0, c1, c2, c3, c4, c5, c6, c7, c8, c9⟩, hf⟩ := h
  exact ⟨by simpa using h0, ⟨by rw [World.cell?_setCell_other _ _ _ _ (by simp)]; exact c0, by rw [World.cell?_setCell_other _ _ _ _ (by simp)]; exact c1, by rw [World.cell?_setCell_other _ _ _ _ (by simp)]; exact c2, by rw [World.cell?_setCell_other _ _ _ _ (by simp)]; exact c3, by rw [World.cell?_setCell_other _ _ _ _ (by simp)]; exact c4, World.cell?_setCell_same _ _ _ c5, by rw [World.cell?_setCell_other _ _ _ _ (by simp)]; exact c6, by rw [World.cell?_setCell_other _ _ _ _ (by simp)]; exact c7, by rw [World.cell?_setCell_other _ _ _ _ (by simp)]; exact c8, by rw [World.cell?_setCell_other _ _ _ _ (by simp)]; exact c9⟩, by simpa using hf⟩
theorem box10_set6 {w : World} {B : Nat} {a0 a1 a2 a3 a4 a5 a6 a7 a8 a9 : Value} (h : Box10 w B a0 a1 a2 a3 a4 a5 a6 a7 a8 a9) (v : Value) : Box10 (w.setCell ⟨B, 6, none⟩ v) B a0 a1 a2 a3 a4 a5 v a7 a8 a9 := by
  obtain ⟨h0, ⟨c0, c1, c2, c3, c4, c5, c6, c7, c8, c9⟩, hf⟩ := h
  exact ⟨by simpa using h0, ⟨by rw [World.cell?_setCell_other _ _ _ _ (by simp)]; exact c0, by rw [World.cell?_setCell_other _ _ _ _ (by simp)]; exact c1, by rw [World.cell?_setCell_other _ _ _ _ (by simp)]; exact c2, by rw [World.cell?_setCell_other _ _ _ _ (by simp)]; exact c3, by rw [World.cell?_setCell_other _ _ _ _ (by simp)]; exact c4, by rw [World.cell?_setCell_other _ _ _ _ (by simp)]; exact c5, World.cell?_setCell_same _ _ _ c6, by rw [World.cell?_setCell_other _ _ _ _ (by simp)]; exact c7, by rw [World.cell?_setCell_other _ _ _ _ (by simp)]; exact c8, by rw [World.cell?_setCell_other _ _ _ _ (by simp)]; exact c9⟩, by simpa using hf⟩
theorem box10_set7 {w : World} {B : Nat} {a0 a1 a2 a3 a4 a5 a6 a7 a8 a9 : Value} (h : Box10 w B a0 a1 a2 a3 a4 a5 a6 a7 a8 a9) (v : Value) : Box10 (w.setCell ⟨B, 7, none⟩ v) B a0 a1 a2 a3 a4 a5 a6 v a8 a9 := by
  obtain ⟨h0, ⟨c0, c1, c2, c3, c4, c5, c6, c7, c8, c9⟩, hf⟩ := h
  exact ⟨by simpa using h0, ⟨by rw [World.cell?_setCell_other _ _ _ _ (by simp)]; exact c0, by rw [World.cell?_setCell_other _ _ _ _ (by simp)]; exact c1, by rw [World.cell?_setCell_other _ _ _ _ (by simp)]; exact c2, by rw [World.cell?_setCell_other _ _ _ _ (by simp)]; exact c3, by rw [World.cell?_setCell_other _ _ _ _ (by simp)]; exact c4, by rw [World.cell?_setCell_other _ _ _ _ (by simp)]; exact c5, by rw [World.cell?_setCell_other _ _ _ _ (by simp)]; exact c6, World.cell?_setCell_same _ _ _ c7, by rw [World.cell?_setCell_other _ _ _ _ (by simp)]; exact c8, by rw [World.cell?_setCell_other _ _ _ _ (by simp)]; exact c9⟩, by simpa using hf⟩
theorem box10_set8 {w : World} {B : Nat} {a0 a1 a2 a3 a4 a5 a6 a7 a8 a9 : Value} (h : Box10 w B a0 a1 a2 a3 a4 a5 a6 a7 a8 a9) (v : Value) : Box10 (w.setCell ⟨B, 8, none⟩ v) B a0 a1 a2 a3 a4 a5 a6 a7 v a9 := by
  obtain ⟨h0, ⟨c0, c1, c2, c3, c4, c5, c6, c7, c8, c9⟩, hf⟩ := h
  exact ⟨by simpa using h0, ⟨by rw [World.cell?_setCell_other _ _ _ _ (by simp)]; exact c0, by rw [World.cell?_setCell_other _ _ _ _ (by simp)]; exact c1, by rw [World.cell?_setCell_other _ _ _ _ (by simp)]; exact c2, by rw [World.cell?_setCell_other _ _ _ _ (by simp)]; exact c3, by rw [World.cell?_setCell_other _ _ _ _ (by simp)]; exact c4, by rw [World.cell?_setCell_other _ _ _ _ (by simp)]; exact c5, by rw [World.cell?_setCell_other _ _ _ _ (by simp)]; exact c6, by rw [World.cell?_setCell_other _ _ _ _ (by simp)]; exact c7, World.cell?_setCell_same _ _ _ c8, by rw [World.cell?_setCell_other _ _ _ _ (by simp)]; exact c9⟩, by simpa using hf⟩
theorem box10_set9 {w : World} {B : Nat} {a0 a1 a2 a3 a4 a5 a6 a7 a8 a9 : Value} (h : Box10 w B a0 a1 a2 a3 a4 a5 a6 a7 a8 a9) (v : Value) : Box10 (w.setCell ⟨B, 9, none⟩ v) B a0 a1 a2 a3 a4 a5 a6 a7 a8 v := by
  obtain ⟨h0, ⟨c0, c1, c2, c3, c4, c5, c6, c7, c8, c9⟩, hf⟩ := h
  exact ⟨by simpa using h0, ⟨by rw [World.cell?_setCell_other _ _ _ _ (by simp)]; exact c0, by rw [World.cell?_setCell_other _ _ _ _ (by simp)]; exact c1, by rw [World.cell?_setCell_other _ _ _ _ (by simp)]; exact c2, by rw [World.cell?_setCell_other _ _ _ _ (by simp)]; exact c3, by rw [World.cell?_setCell_other _ _ _ _ (by simp)]; exact c4, by rw [World.cell?_setCell_other _ _ _ _ (by simp)]; exact c5, by rw [World.cell?_setCell_other _ _ _ _ (by simp)]; exact c6, by rw [World.cell?_setCell_other _ _ _ _ (by simp)]; exact c7, by rw [World.cell?_setCell_other _ _ _ _ (by simp)]; exact c8, World.cell?_setCell_same _ _ _ c9⟩, by simpa using hf⟩

/-- an edge all of whose memory lies from B on -/
def NewEd (B : Nat) (e : Ed) (x : Value) (w : World) : Prop := ∃ a c a' c', x = .agg #[.int .i64 e.src, .int .i64 e.dst, .int .i64 e.guard.kind, .int .i64 e.guard.val, .slice a e.guard.kids.length c, .int .i64 e.var, .int .i64 e.val.kind, .int .i64 e.val.val, .slice a' e.val.kids.length c', .int .i64 e.sync] ∧
  i64 e.src ∧ i64 e.dst ∧ i64 e.var ∧ i64 e.sync ∧ NewTr B e.guard (.agg #[.int .i64 e.guard.kind, .int .i64 e.guard.val, .slice a e.guard.kids.length c]) w ∧ NewTr B e.val (.agg #[.int .i64 e.val.kind, .int .i64 e.val.val, .slice a' e.val.kids.length c']) w
theorem NewEd.any {B : Nat} {e : Ed} {x : Value} {w : World} (h : NewEd B e x w) : EdIn Any w e x := by
  obtain ⟨a, c, a', c', h0, h1, h2, h3, h4, h5, h6⟩ := h
  exact ⟨a, c, a', c', h0, h1, h2, h3, h4, h5.any, h6.any⟩
theorem NewEd.below {B : Nat} {e : Ed} {x : Value} {w w' : World} (h : NewEd B e x w) (hb : Below w.heap.size w w') : NewEd B e x w' := by
  obtain ⟨a, c, a', c', h0, h1, h2, h3, h4, h5, h6⟩ := h
  exact ⟨a, c, a', c', h0, h1, h2, h3, h4, h5.below hb, h6.below hb⟩
theorem NewEd.mono {B B' : Nat} {e : Ed} {x : Value} {w : World} (h : NewEd B e x w) (hB : B' ≤ B) : NewEd B' e x w := by
  obtain ⟨a, c, a', c', h0, h1, h2, h3, h4, h5, h6⟩ := h
  exact ⟨a, c, a', c', h0, h1, h2, h3, h4, h5.mono hB, h6.mono hB⟩

theorem below_set10 {B P : Nat} {w W : World} (h : Below B w W) (hP : B ≤ P) (u0 u1 u2 u3 u4 u5 u6 u7 u8 u9 : Value) : Below B w ((((((((((W.setCell ⟨P, 0, none⟩ u0).setCell ⟨P, 1, none⟩ u1).setCell ⟨P, 2, none⟩ u2).setCell ⟨P, 3, none⟩ u3).setCell ⟨P, 4, none⟩ u4).setCell ⟨P, 5, none⟩ u5).setCell ⟨P, 6, none⟩ u6).setCell ⟨P, 7, none⟩ u7).setCell ⟨P, 8, none⟩ u8).setCell ⟨P, 9, none⟩ u9) := ((((((((((h.setCell hP _).setCell hP _).setCell hP _).setCell hP _).setCell hP _).setCell hP _).setCell hP _).setCell hP _).setCell hP _).setCell hP _)
theorem keep_set10 {B P : Nat} {w W : World} (h : Keep B w W) (hP : P < B) (u0 u1 u2 u3 u4 u5 u6 u7 u8 u9 : Value) : Keep B w ((((((((((W.setCell ⟨P, 0, none⟩ u0).setCell ⟨P, 1, none⟩ u1).setCell ⟨P, 2, none⟩ u2).setCell ⟨P, 3, none⟩ u3).setCell ⟨P, 4, none⟩ u4).setCell ⟨P, 5, none⟩ u5).setCell ⟨P, 6, none⟩ u6).setCell ⟨P, 7, none⟩ u7).setCell ⟨P, 8, none⟩ u8).setCell ⟨P, 9, none⟩ u9) := ((((((((((h.trans (Keep.set _ hP _)).trans (Keep.set _ hP _)).trans (Keep.set _ hP _)).trans (Keep.set _ hP _)).trans (Keep.set _ hP _)).trans (Keep.set _ hP _)).trans (Keep.set _ hP _)).trans (Keep.set _ hP _)).trans (Keep.set _ hP _)).trans (Keep.set _ hP _))
theorem box10_fill {W : World} {P : Nat} {a0 a1 a2 a3 a4 a5 a6 a7 a8 a9 : Value} (h : Box10 W P a0 a1 a2 a3 a4 a5 a6 a7 a8 a9) (u0 u1 u2 u3 u4 u5 u6 u7 u8 u9 : Value) : Box10 ((((((((((W.setCell ⟨P, 0, none⟩ u0).setCell ⟨P, 1, none⟩ u1).setCell ⟨P, 2, none⟩ u2).setCell ⟨P, 3, none⟩ u3).setCell ⟨P, 4, none⟩ u4).setCell ⟨P, 5, none⟩ u5).setCell ⟨P, 6, none⟩ u6).setCell ⟨P, 7, none⟩ u7).setCell ⟨P, 8, none⟩ u8).setCell ⟨P, 9, none⟩ u9) P u0 u1 u2 u3 u4 u5 u6 u7 u8 u9 := (box10_set9 (box10_set8 (box10_set7 (box10_set6 (box10_set5 (box10_set4 (box10_set3 (box10_set2 (box10_set1 (box10_set0 h u0) u1) u2) u3) u4) u5) u6) u7) u8) u9)

end Go.Proofs.YtgopfjnpjkpelaaDoor
