/- What the program's fix comes to; rows of truth values. Conditions: none. -/
import Derived.Test.YtbeljjalfhogdaaHoldsI
namespace Go.Proofs.Ytbeljjalfhogdaa
open Go.RowKit
namespace Lasso

theorem brow_upd {w : World} {R n k : Nat} {f : Nat → Bool} (h : BRow w R n f) (hk : k < n) (v : Bool) : BRow (w.setCell ⟨R, k, none⟩ (.bool v)) R n (upd f k v) :=
  (Row.set h hk (.bool v)).congr fun i _ => by
    unfold upd
    split <;> rfl
theorem But.pbox {w w' : World} {D : Nat} (h : But w D w') {B : Nat} {a b : Value} (hd : B ≠ D) (hb : PBox w B a b) : PBox w' B a b := pbox_but h hd hb
theorem But.box1 {w w' : World} {D : Nat} (h : But w D w') {B : Nat} {a : Value} (hd : B ≠ D) (hb : Box1 w B a) : Box1 w' B a :=
  ⟨Nat.lt_of_lt_of_le hb.1 h.size, by rw [h.cell hb.1 hd]; exact hb.2.1, by rw [h.frozen hb.1 hd]; exact hb.2.2⟩
/-- the truth values that lie in a block -/
def outOf (w : World) (R : Nat) : Nat → Bool := fun i => match w.cell? ⟨R, i, none⟩ with | some (.bool b) => b | _ => false
theorem outOf_row {w : World} {R n : Nat} {f : Nat → Bool} (h : BRow w R n f) {i : Nat} (hi : i < n) : outOf w R i = f i := by
  unfold outOf; rw [h.2.1 i hi]
theorem cntB_congr {v : Bool} {f g : Nat → Bool} {n : Nat} (h : ∀ k, k < n → f k = g k) : cntB v f n = cntB v g n :=
  Nat.le_antisymm (cntB_mono fun k hk e => by rw [← h k hk]; exact e) (cntB_mono fun k hk e => by rw [h k hk]; exact e)
def isT : Value → Bool | .bool true => true | _ => false
/-- what fix comes to -/
def FixPost (R n : Nat) (F : Nat → Bool) (w : World) (e : Ending) (w' : World) : Prop := e = .returned (.tuple #[]) ∧ But w R w' ∧ BRow w' R n F

end Lasso
end Go.Proofs.Ytbeljjalfhogdaa
