/- The laws' markIntS, heldIntS: what each comes to. Conditions: those of each contract. -/
import Derived.Test.YtfemikebklmlpaaRows
import Derived.Test.YtfemikebklmlpaaCellsOwn
import Derived.WalkSpells
import Derived.WalkLawsBesides
namespace Go.Proofs.Ytfemikebklmlpaa
open Go.RowKit
namespace IntS

def MarkPost (n : Nat) (k : Int) (a : Option Addr) (bs : List Nat) (w : World) (e : Ending) (w' : World) : Prop := e = .returned (.int .i64 (k + n)) ∧ OwnV (markV mkI n k) a bs w' ∧ Only bs w w'
set_option maxHeartbeats 1000000 in
theorem mark_any (l : List Value) (w : World) (a : Option Addr) (c : Nat) (k : Int) (bs : List Nat) (hr : OwnV l a bs w) (hc : l.length ≤ c) (hc2 : c ≤ maxLen) (hk : 0 ≤ k) (hk2 : k + l.length ≤ 4611686018427387904) :
    Calls Try.prog 21 #[.slice a l.length c, .int .i64 k] w (MarkPost l.length k a bs w) := by
  unfold maxLen at hc2
  rcases hr with ⟨rfl, rfl⟩ | ⟨R, rfl, rfl, hrow⟩
  · go_enter Try.func21, Try.ntmps21
    go_wp2_with fail
    go_loopw [1, 5] (fun q i wr => wr = w ∧ q = .int .i64 k ∧ i = .int .i64 0) (fun _ _ _ => 0)
    case atStart => exact ⟨rfl, rfl, rfl⟩
    case round =>
      obtain ⟨rfl, rfl, rfl⟩ := hrel
      go_wp2_with fail
      go_ret
      exact ⟨by simp, .inl ⟨by simp [markV], rfl⟩, Only.refl _ _⟩
  · go_enter Try.func21, Try.ntmps21
    go_wp2_with fail
    go_loopw [1, 5] (fun q i wr => ∃ (j : Nat) (g : Nat → Value), j ≤ l.length ∧ q = .int .i64 (k + j) ∧ i = .int .i64 j ∧ Row wr R l.length g ∧ Hid (∀ i, i < j → g i = mkI (k + i)) ∧ Only [R] w wr) (fun _ i _ => l.length - (intOf i).toNat)
    case atStart => exact ⟨0, _, Nat.zero_le _, by simp, rfl, hrow, hid (by omega), Only.refl _ _⟩
    case round =>
      obtain ⟨j, g, hj, rfl, rfl, hrow', hg, ho⟩ := hrel
      by_cases hlt : j < l.length
      · have r0 := hrow'.2.1 j hlt
        have rz := hrow'.2.2
        have rl := hrow'.1
        have hstep := hid (show Row (wr.setCell ⟨R, j, none⟩ (mkI (k + j))) R l.length (fun i => if i = j then mkI (k + j) else g i) ∧ Hid (∀ i, i < j + 1 → (fun i => if i = j then mkI (k + j) else g i) i = mkI (k + i)) ∧ Only [R] w (wr.setCell ⟨R, j, none⟩ (mkI (k + j))) from
          ⟨hrow'.set hlt _, hid (fun i hi => by
            by_cases e : i = j
            · subst e; simp
            · simp [e]; exact hg.out i (by omega)), ho.set (by simp) _⟩)
        clear hrow' ho
        have hlt2 : (j : Int) < (l.length : Int) := by omega
        go_wp2_with fail
        go_roundw
        case rel => exact ⟨j + 1, _, by omega, by go_num, by go_num, hstep.out⟩
        case measure => simp [intOf]; omega
      · have hlt2 : ¬ ((j : Int) < (l.length : Int)) := by omega
        have hfin := hid (show OwnV (markV mkI l.length k) (some ⟨R, 0, none⟩) [R] wr ∧ Only [R] w wr from ⟨.inr ⟨R, rfl, rfl, by rw [markV_len]; exact hrow'.congr fun i hi => by rw [hg.out i (by omega), List.getD_eq_getElem?_getD, markV_at _ _ hi]; rfl⟩, ho⟩)
        have hjl : j = l.length := by omega
        clear hrow' ho
        go_wp2_with fail
        go_ret
        exact ⟨by first | rfl | rw [hjl], hfin.out⟩

set_option maxHeartbeats 1000000 in
theorem held_any (n : Nat) (w : World) (a : Option Addr) (c : Nat) (k : Int) (hr : RowIn Any w a (markV mkI n k)) (hc : n ≤ c) (hc2 : c ≤ maxLen) (hk : 0 ≤ k) (hk2 : k + n ≤ 4611686018427387904) :
    Calls Try.prog 22 #[.slice a n c, .int .i64 k] w (Ret (.int .i64 (k + n)) w) := by
  unfold maxLen at hc2
  go_enter Try.func22, Try.ntmps22
  go_wp2_with fail
  go_loopw [1, 5] (fun q i wr => ∃ j : Nat, j ≤ n ∧ q = .int .i64 (k + j) ∧ i = .int .i64 j ∧ Below w.heap.size w wr) (fun _ i _ => n - (intOf i).toNat)
  case atStart => exact ⟨0, Nat.zero_le _, by simp, rfl, Below.refl _ _⟩
  case round =>
    obtain ⟨j, hj, rfl, rfl, B⟩ := hrel
    by_cases hlt : j < n
    · obtain ⟨b, o, rfl, hb, _, g0⟩ := hr.at B (markV_at _ _ hlt)
      have hlt2 : (j : Int) < (n : Int) := by omega
      unfold mkI at g0
      skip
      go_wp2_with fail
      go_roundw
      case rel => exact ⟨j + 1, by omega, by go_num, by go_num, B⟩
      case measure => simp [intOf]; omega
    · have hlt2 : ¬ ((j : Int) < (n : Int)) := by omega
      have hjl : j = n := by omega
      go_wp2_with fail
      go_ret
      exact Ret.mk (by first | rfl | rw [hjl]) B

end IntS
end Go.Proofs.Ytfemikebklmlpaa
