/- The laws' toBoolS: a copy of a slice of truths. Conditions: those of the contract. -/
import Derived.Test.YtfemikebklmlpaaRows
import Derived.Test.YtfemikebklmlpaaRowsMade
import Derived.Test.YtfemikebklmlpaaCellsOwn
import Derived.WalkSpells
import Derived.WalkLawsBesides
namespace Go.Proofs.Ytfemikebklmlpaa
open Go.RowKit

/-- what a copy comes to -/
def NewBools (l : List Bool) (B : Nat) (v : Value) (w' : World) : Prop := v = .slice (some ⟨B, 0, none⟩) l.length l.length ∧ OwnV (l.map Value.bool) (some ⟨B, 0, none⟩) [B] w'
theorem OwnV.boolsIn {l : List Bool} {a : Option Addr} {bs : List Nat} {w : World} (h : OwnV (l.map Value.bool) a bs w) : BoolsIn Any w a l := h.any
set_option maxHeartbeats 400000 in
theorem toBoolS_any (l : List Bool) (w : World) (a : Option Addr) (c : Nat) (h : BoolsIn Any w a l) (hlen : l.length ≤ 1048576) (hc : l.length ≤ c) (hc2 : c ≤ maxLen) :
    Calls Try.prog 15 #[.slice a l.length c] w (RetP (NewBools l w.heap.size) w) := by
  have hmk := make_bools l.length hlen
  unfold maxLen at hc2
  go_enter Try.func15, Try.ntmps15
  go_wp2_with fail
  go_loopw [4] (fun i wr => ∃ (k : Nat) (g : Nat → Value), k ≤ l.length ∧ i = .int .i64 k ∧ Below w.heap.size w wr ∧ Row wr w.heap.size l.length g ∧ Hid (∀ j, j < k → g j = .bool (l.getD j false))) (fun i _ => l.length - (intOf i).toNat)
  case atStart => exact ⟨0, _, Nat.zero_le _, rfl, below_alloc _ _, row_new (by rw [zerosB, size_madeCells]) _, hid (by omega)⟩
  case round =>
    obtain ⟨k, g, hk, rfl, B, hrow, hg⟩ := hrel
    by_cases hlt : k < l.length
    · obtain ⟨b, o, rfl, hb, _, g0⟩ := bools_at h B hlt
      have r0 := hrow.2.1 k hlt
      have rz := hrow.2.2
      have rl := hrow.1
      have hstep := hid (hrow.set hlt (.bool l[k]))
      clear hrow
      have hlt2 : (k : Int) < (l.length : Int) := by omega
      go_wp2_with fail
      go_roundw
      case rel =>
        refine ⟨k + 1, _, by omega, by go_num, B.setCell (by simp) _, hstep.out, hid fun j hj => ?_⟩
        by_cases e : j = k
        · subst e; simp [List.getD_eq_getElem?_getD, List.getElem?_eq_getElem hlt]
        · rw [if_neg e]; exact hg.out j (by omega)
      case measure => simp [intOf]; omega
    · have hr2 : Row wr w.heap.size (l.map Value.bool).length (fun i => (l.map Value.bool).getD i undef) := by
        rw [List.length_map]
        exact hrow.congr fun i hi => by
          rw [hg.out i (by omega)]; simp [List.getD_eq_getElem?_getD, hi]
      have hfin := hid (show OwnV (l.map Value.bool) (some ⟨w.heap.size, 0, none⟩) [w.heap.size] wr from .inr ⟨_, rfl, rfl, hr2⟩)
      have hlt2 : ¬ ((k : Int) < (l.length : Int)) := by omega
      clear hrow hr2
      go_wp2_with fail
      go_ret
      exact RetP.mk ⟨rfl, hfin.out⟩ B
end Go.Proofs.Ytfemikebklmlpaa
