/- The program's clone of a row of numbers. Conditions: those of each contract. -/
import Derived.Test.YtfemikebklmlpaaConcatI
import Derived.Maps.AppendAt
namespace Go.Proofs.Ytfemikebklmlpaa
open Go.RowKit
set_option linter.unusedVariables false

theorem OwnI.row {B : Nat} {v : Value} {l : List Int} {w : World} (h : OwnI B v l w) : (l = [] ∧ v = .slice none 0 0) ∨ ∃ g c, v = .slice (some ⟨g, 0, none⟩) l.length c ∧ B ≤ g ∧ l.length ≤ c ∧ c ≤ maxLen ∧ Row w g l.length (fun i => (l.map (Value.int .i64)).getD i undef) := by
  have h0 := h
  obtain ⟨k1, k2⟩ := h
  rcases k2 with ⟨rfl, hz⟩ | ⟨g, cap, cur, rfl, e2, e3, e4, e5, e6, e7⟩
  · exact .inl ⟨by simpa using hz, rfl⟩
  · have hg := (Array.getElem?_eq_some_iff.1 e3).1
    refine .inr ⟨g, cap, rfl, e2, e4, e5, hg, fun i hi => ?_, fun i => ?_⟩
    · have hi2 : (l.map (Value.int .i64))[i]? = some ((l.map (Value.int .i64)).getD i undef) := by rw [List.getD_eq_getElem?_getD, List.getElem?_eq_getElem (by simpa using hi)]; rfl
      have := World.ownsRow.cells h0 (g := g) rfl i _ hi2
      have e : Addr.add ⟨g, 0, none⟩ i = ⟨g, i, none⟩ := by unfold Addr.add; split <;> simp_all
      rw [e] at this
      exact this
    · simp [World.frozen?, e3]
/-- a row of numbers of one's own, as it is handed back: nil, or as long as it is wide -/
theorem OwnI.clip {B : Nat} {v : Value} {l : List Int} {w : World} (h : OwnI B v l w) (hl : l.length ≤ 1000000) : (l = [] ∧ v = .slice none 0 0) ∨ ∃ g c, v = .slice (some ⟨g, 0, none⟩) l.length c ∧ l.length ≤ c ∧ c ≤ maxLen ∧ NewV B (l.map (Value.int .i64)) (.slice (some ⟨g, 0, none⟩) l.length l.length) w := by
  rcases h.row with h | ⟨g, c, h1, h2, h3, h4, h5⟩
  · exact .inl h
  · have hlm : (l.map (Value.int .i64)).length = l.length := by simp
    exact .inr ⟨g, c, h1, h3, h4, _, l.length, [g], by rw [hlm], by rw [hlm]; exact Nat.le_refl _, by unfold maxLen; omega, .inr ⟨g, rfl, rfl, by rw [hlm]; exact h5⟩, by simpa using h2⟩

theorem OwnI.made (w : World) : OwnI w.heap.size (.slice (some ⟨w.heap.size, 0, none⟩) 0 0) [] (w.alloc (.cells #[] 3)) :=
  World.ownsRow_made (e := 3) (size := 1) (base := w.heap.size) w #[] 0 (Nat.le_refl _) (by simp) (by simp)

set_option maxHeartbeats 1000000 in
theorem sclone_any (l : List Int) (w : World) (a : Option Addr) (c : Nat) (hl : IntsIn Any w a l) (hlen : l.length ≤ 1000000) (hn : a = none → c = 0) : Calls Try.prog 83 #[.slice a l.length c] w (ConPost l w) := by
  cases a with
  | none =>
    obtain rfl : c = 0 := hn rfl
    obtain rfl : l = [] := by
      rcases hl.1 with h | ⟨b, o, h, _⟩
      · simpa using h
      · cases h
    clear hl hn
    have HE := fun (W : World) => Lib.run_eql_slice_nil (P := Try.prog) W 30 3 none 0 0 0 0 Try.underlying30
    go_enter Try.func83, Try.ntmps83
    go_wp2_with fail
    go_ret
    exact ⟨_, rfl, World.ownsRow_nil .., Below.refl _ _⟩
  | some ad =>
    have HL := hid hl
    have HN := hid hn
    clear hl hn
    have HE := fun (W : World) => Lib.run_eql_slice_nil (P := Try.prog) W 30 3 (some ad) l.length c 0 0 Try.underlying30
    go_enter Try.func83, Try.ntmps83
    go_wp2_with (at_builtin; refine wp_app_own rfl _ _ rfl _ _ [] l (some ad) c rfl rfl (fun h => by cases h) (OwnI.made _) (by simp) (HL.out.below (below_alloc _ _)) (by simp) hlen ?_; intro v' w' hv' hg)
    have HB := hid (show Below w.heap.size w w' from below_grown (below_alloc _ _) (OwnI.made w) hg)
    have HV := hid (show OwnI w.heap.size v' l w' from hv')
    clear hv' hg
    go_wp2_with fail
    go_ret
    exact ⟨_, rfl, HV.out, HB.out⟩

set_option maxHeartbeats 1000000 in
theorem sclip_any (l : List Int) (w : World) (v : Value) (hv : OwnI w.heap.size v l w → True) (B : Nat) (h : OwnI B v l w) (hlen : l.length ≤ 1000000) : Calls Try.prog 71 #[v] w (RetP (NewV B (l.map (Value.int .i64))) w) := by
  rcases h.clip hlen with ⟨rfl, rfl⟩ | ⟨g, c, rfl, h1, h2, h3⟩
  · go_enter Try.func71, Try.ntmps71
    go_wp2_with fail
    go_ret
    exact RetP.mk (NewV.nil _ _ _ (by simp) _) (Below.refl _ _)
  · have HV := hid h3
    unfold maxLen at h2
    have hl2 : (l.length : Int) ≤ (c : Int) := by omega
    clear h h3 hv
    go_enter Try.func71, Try.ntmps71
    go_wp2_with fail
    go_ret
    exact RetP.mk HV.out (Below.refl _ _)

set_option maxHeartbeats 1000000 in
theorem clone_any (l : List Int) (w : World) (a : Option Addr) (c : Nat) (hl : IntsIn Any w a l) (hlen : l.length ≤ 1000000) (hn : a = none → c = 0) : Calls Try.prog 58 #[.slice a l.length c] w (RetP (NewV w.heap.size (l.map (Value.int .i64))) w) := by
  have HC := hid (sclone_any l w a c hl hlen hn)
  go_enter Try.func58, Try.ntmps58
  go_wp2_with fail
  refine HC.out.mono ?_
  rintro e w1 ⟨v, rfl, hv, hb⟩
  have HV := hid hv
  have HB := hid hb
  clear hv hb
  go_wp2_with fail
  refine (sclip_any l w1 v (fun _ => trivial) w.heap.size HV.out hlen).mono ?_
  rintro e w2 ⟨u, rfl, hu, hb⟩
  have HU := hid hu
  have HB2 := hid (below_next HB.out hb)
  clear hu hb
  go_wp2_with fail
  go_ret
  exact RetP.mk HU.out HB2.out
end Go.Proofs.Ytfemikebklmlpaa
