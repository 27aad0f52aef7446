/- The program's Graph.some, Graph.fix, as WitnessAlways calls them. Conditions: those of each contract. -/
import Derived.Test.YtfemikebklmlpaaWuP
import Derived.Test.YtfemikebklmlpaaGfpP
namespace Go.Proofs.Ytfemikebklmlpaa
open Go.RowKit
set_option linter.unusedVariables false
set_option linter.unusedSimpArgs false
namespace Alw
open Gr Bfs Gfp

/-- the first number of a set, from place k on; -1: none -/
def fstI (p : Nat → Bool) : List Int → Int → Int
  | [], _ => -1
  | x :: t, k => if p x.toNat = true then k else fstI p t (k + 1)
theorem fst_any (p : Nat → Bool) : ∀ (l : List Int) (k : Int), 0 ≤ k → decide (0 ≤ fstI p l k) = (l.map Int.toNat).any p
  | [], k, h => by simp [fstI]
  | x :: t, k, h => by
    rw [fstI, List.map_cons, List.any_cons]
    split
    · rename_i e; rw [e]; simp [h]
    · rename_i e
      rw [fst_any p t (k + 1) (by omega)]
      have : p x.toNat = false := by cases h2 : p x.toNat with
        | false => rfl
        | true => exact absurd h2 e
      rw [this, Bool.false_or]
theorem fst_at (p : Nat → Bool) : ∀ (l : List Int) (k : Int) (m : Nat), (l.map Int.toNat).find? p = some m → ∃ (j : Nat) (x : Int), fstI p l k = k + j ∧ l[j]? = some x ∧ x.toNat = m
  | [], k, m, h => by cases h
  | x :: t, k, m, h => by
    rw [List.map_cons, List.find?_cons] at h
    rw [fstI]
    cases e : p x.toNat with
    | true =>
      rw [e] at h
      exact ⟨0, x, by simp, rfl, by simpa using h⟩
    | false =>
      rw [e] at h
      obtain ⟨j, y, h1, h2, h3⟩ := fst_at p t (k + 1) m h
      refine ⟨j + 1, y, ?_, h2, h3⟩
      rw [if_neg (by simp), h1]; omega
theorem fst_ge (p : Nat → Bool) : ∀ (l : List Int) (k : Int), 0 ≤ k → k + l.length ≤ 9223372036854775807 → -1 ≤ fstI p l k ∧ fstI p l k ≤ 9223372036854775807
  | [], k, h, h2 => by simp [fstI]
  | x :: t, k, h, h2 => by
    rw [fstI]
    rw [List.length_cons] at h2
    split
    · omega
    · exact fst_ge p t (k + 1) (by omega) (by omega)
theorem goal_at {S : List Bool} {n : Nat} (h : n < S.length) : S[n] = goalOf S n := by simp [goalOf, List.getD_eq_getElem?_getD, h]
theorem row_bools {w : World} {R N : Nat} {f : Nat → Bool} (h : Row w R N (fun j => .bool (f j))) : BoolsIn Any w (some ⟨R, 0, none⟩) ((List.range N).map f) :=
  .inr ⟨R, 0, rfl, trivial, h.1, fun i v hv => by
    have hi : i < N := by have := (List.getElem?_eq_some_iff.1 hv).1; simpa using this
    rw [Nat.zero_add, h.2.1 i hi]
    simpa [hi] using hv⟩
theorem goal_range {N : Nat} {f : Nat → Bool} {n : Nat} (h : n < N) : goalOf ((List.range N).map f) n = f n := by simp [goalOf, List.getD_eq_getElem?_getD, h]
theorem some1_congr {adj : Nat → List Nat} {f g : Nat → Bool} {j : Nat} (h : ∀ m, m ∈ adj j → f m = g m) : some1 adj f j = some1 adj g j := by
  unfold some1
  generalize adj j = l at *
  induction l with
  | nil => rfl
  | cons a l ih => rw [List.any_cons, List.any_cons, h a (by simp), ih fun m hm => h m (by simp [hm])]
theorem nowF_congr {adj : Nat → List Nat} {thr f g : Nat → Bool} {j : Nat} (h : ∀ m, m ∈ adj j → f m = g m) : nowF adj thr f j = nowF adj thr g j := by unfold nowF; rw [some1_congr h]
set_option maxRecDepth 100000 in
theorem some1_clo (S : List Bool) (N n : Nat) (hSN : S.length = N) (hn : n < N) (w : World) (O td : Nat) (ts : Option Addr) (htd : N ≤ td) (htd2 : td ≤ maxLen) (hO : w.cell? ⟨O, 0, none⟩ = some (.slice ts N td)) (hg : BoolsIn Any w ts S) :
    Calls Try.prog 82 #[.int .i64 n, .pointer (some ⟨O, 0, none⟩)] w (Ret (.bool (goalOf S n)) w) := by
  obtain ⟨bg, og, rfl, hbg, _, gg⟩ := bools_at hg (Below.refl _ _) (show n < S.length by omega)
  rw [goal_at] at gg
  generalize goalOf S n = r at *
  have hO2 := blt hO
  have h1 : (n : Int) < (N : Int) := by omega
  unfold maxLen at htd2
  clear hg
  go_enter Try.func82, Try.ntmps82
  go_wp2_with fail
  go_ret
  exact Ret.mk rfl (Below.refl _ _)
set_option maxRecDepth 100000 in
theorem alw2_clo (S : List Bool) (N n : Nat) (hSN : S.length = N) (hn : n < N) (w : World) (O td : Nat) (ts : Option Addr) (htd : N ≤ td) (htd2 : td ≤ maxLen) (hO : w.cell? ⟨O, 0, none⟩ = some (.slice ts N td)) (hg : BoolsIn Any w ts S) :
    Calls Try.prog 60 #[.int .i64 n, .pointer (some ⟨O, 0, none⟩)] w (Ret (.bool (goalOf S n)) w) := by
  obtain ⟨bg, og, rfl, hbg, _, gg⟩ := bools_at hg (Below.refl _ _) (show n < S.length by omega)
  rw [goal_at] at gg
  generalize goalOf S n = r at *
  have hO2 := blt hO
  have h1 : (n : Int) < (N : Int) := by omega
  unfold maxLen at htd2
  clear hg
  go_enter Try.func60, Try.ntmps60
  go_wp2_with fail
  go_ret
  exact Ret.mk rfl (Below.refl _ _)
set_option maxHeartbeats 1000000 in
theorem ixS_any (l : List Int) (S : List Bool) (N : Nat) (hSN : S.length = N) (w : World) (a ts : Option Addr) (c O td : Nat) (hl : IntsIn Any w a l) (hc : l.length ≤ c) (hc2 : c ≤ maxLen) (hr : ∀ x, x ∈ l → 0 ≤ x ∧ x < N) (htd : N ≤ td) (htd2 : td ≤ maxLen) (hO : w.cell? ⟨O, 0, none⟩ = some (.slice ts N td)) (hg : BoolsIn Any w ts S) :
    Calls Try.prog 59 #[.slice a l.length c, .func (.func 82) #[] #[.pointer (some ⟨O, 0, none⟩)]] w (Ret (.int .i64 (fstI (goalOf S) l 0)) w) := by
  have HC := hid (fun (W : World) (M : Below w.heap.size w W) (n : Nat) (hn : n < N) => some1_clo S N n hSN hn W O td ts htd htd2 (by rw [M.cell (p := ⟨O, 0, none⟩) (blt hO)]; exact hO) (hg.below M))
  have HR := hid hr
  unfold maxLen at hc2
  clear hO hg hr htd htd2
  go_enter Try.func59, Try.ntmps59
  go_wp2_with fail
  go_loopw [5, 8] (fun _ i wr => ∃ j : Nat, j ≤ l.length ∧ i = .int .i64 j ∧ Below w.heap.size w wr ∧ Hid (fstI (goalOf S) (l.drop j) j = fstI (goalOf S) l 0)) (fun _ i _ => l.length - (intOf i).toNat)
  case atStart => exact ⟨0, Nat.zero_le _, rfl, Below.refl _ _, hid rfl⟩
  case round =>
    obtain ⟨j, hj, rfl, B, hrr⟩ := hrel
    by_cases hlt : j < l.length
    · obtain ⟨b, o, rfl, hb, _, g0, _⟩ := ints_at (hl.below B) (Below.refl _ _) hlt
      obtain ⟨x0, x1⟩ := HR.out l[j] (List.getElem_mem hlt)
      obtain ⟨n, hn⟩ : ∃ n : Nat, l[j] = (n : Int) := ⟨l[j].toNat, by omega⟩
      have HR2 := hrr.out
      rw [List.drop_eq_getElem_cons hlt, fstI, hn, Int.toNat_natCast] at HR2
      have HRR := hid HR2; clear HR2 hrr
      have hlt2 : (j : Int) < (l.length : Int) := by omega
      rw [hn] at g0 x1
      have hnN : n < N := by omega
      clear hn x0 x1
      go_wp2_with fail
      refine (HC.out _ B n hnN).mono ?_
      rintro e w2 ⟨rfl, hb2⟩
      replace B := below_next B hb2
      clear hb2
      cases hq : goalOf S n with
      | false =>
        have HR3 := HRR.out
        rw [hq, if_neg (by simp)] at HR3
        have HR4 := hid HR3; clear HR3 hq
        go_wp2_with fail
        go_roundw
        case rel => exact ⟨j + 1, by omega, by go_num, B, hid (by rw [← HR4.out]; rfl)⟩
        case measure => simp [intOf]; omega
      | true =>
        have HR3 := HRR.out
        rw [hq, if_pos rfl] at HR3
        have HR4 := hid HR3; clear HR3 hq
        go_wp2_with fail
        go_ret
        exact ⟨by rw [← HR4.out]; rfl, B⟩
    · have HR2 := hrr.out
      rw [List.drop_of_length_le (by omega)] at HR2
      have HR := hid HR2; clear HR2
      have hlt2 : ¬ ((j : Int) < (l.length : Int)) := by omega
      go_wp2_with fail
      go_ret
      exact ⟨by rw [← HR.out]; rfl, B⟩
set_option maxHeartbeats 1000000 in
theorem ixA_any (l : List Int) (S : List Bool) (N : Nat) (hSN : S.length = N) (w : World) (a ts : Option Addr) (c O td : Nat) (hl : IntsIn Any w a l) (hc : l.length ≤ c) (hc2 : c ≤ maxLen) (hr : ∀ x, x ∈ l → 0 ≤ x ∧ x < N) (htd : N ≤ td) (htd2 : td ≤ maxLen) (hO : w.cell? ⟨O, 0, none⟩ = some (.slice ts N td)) (hg : BoolsIn Any w ts S) :
    Calls Try.prog 59 #[.slice a l.length c, .func (.func 60) #[] #[.pointer (some ⟨O, 0, none⟩)]] w (Ret (.int .i64 (fstI (goalOf S) l 0)) w) := by
  have HC := hid (fun (W : World) (M : Below w.heap.size w W) (n : Nat) (hn : n < N) => alw2_clo S N n hSN hn W O td ts htd htd2 (by rw [M.cell (p := ⟨O, 0, none⟩) (blt hO)]; exact hO) (hg.below M))
  have HR := hid hr
  unfold maxLen at hc2
  clear hO hg hr htd htd2
  go_enter Try.func59, Try.ntmps59
  go_wp2_with fail
  go_loopw [5, 8] (fun _ i wr => ∃ j : Nat, j ≤ l.length ∧ i = .int .i64 j ∧ Below w.heap.size w wr ∧ Hid (fstI (goalOf S) (l.drop j) j = fstI (goalOf S) l 0)) (fun _ i _ => l.length - (intOf i).toNat)
  case atStart => exact ⟨0, Nat.zero_le _, rfl, Below.refl _ _, hid rfl⟩
  case round =>
    obtain ⟨j, hj, rfl, B, hrr⟩ := hrel
    by_cases hlt : j < l.length
    · obtain ⟨b, o, rfl, hb, _, g0, _⟩ := ints_at (hl.below B) (Below.refl _ _) hlt
      obtain ⟨x0, x1⟩ := HR.out l[j] (List.getElem_mem hlt)
      obtain ⟨n, hn⟩ : ∃ n : Nat, l[j] = (n : Int) := ⟨l[j].toNat, by omega⟩
      have HR2 := hrr.out
      rw [List.drop_eq_getElem_cons hlt, fstI, hn, Int.toNat_natCast] at HR2
      have HRR := hid HR2; clear HR2 hrr
      have hlt2 : (j : Int) < (l.length : Int) := by omega
      rw [hn] at g0 x1
      have hnN : n < N := by omega
      clear hn x0 x1
      go_wp2_with fail
      refine (HC.out _ B n hnN).mono ?_
      rintro e w2 ⟨rfl, hb2⟩
      replace B := below_next B hb2
      clear hb2
      cases hq : goalOf S n with
      | false =>
        have HR3 := HRR.out
        rw [hq, if_neg (by simp)] at HR3
        have HR4 := hid HR3; clear HR3 hq
        go_wp2_with fail
        go_roundw
        case rel => exact ⟨j + 1, by omega, by go_num, B, hid (by rw [← HR4.out]; rfl)⟩
        case measure => simp [intOf]; omega
      | true =>
        have HR3 := HRR.out
        rw [hq, if_pos rfl] at HR3
        have HR4 := hid HR3; clear HR3 hq
        go_wp2_with fail
        go_ret
        exact ⟨by rw [← HR4.out]; rfl, B⟩
    · have HR2 := hrr.out
      rw [List.drop_of_length_le (by omega)] at HR2
      have HR := hid HR2; clear HR2
      have hlt2 : ¬ ((j : Int) < (l.length : Int)) := by omega
      go_wp2_with fail
      go_ret
      exact ⟨by rw [← HR.out]; rfl, B⟩
theorem containsS_any (l : List Int) (S : List Bool) (N : Nat) (hSN : S.length = N) (w : World) (a ts : Option Addr) (c O td : Nat) (hl : IntsIn Any w a l) (hc : l.length ≤ c) (hc2 : c ≤ maxLen) (hr : ∀ x, x ∈ l → 0 ≤ x ∧ x < N) (htd : N ≤ td) (htd2 : td ≤ maxLen) (hO : w.cell? ⟨O, 0, none⟩ = some (.slice ts N td)) (hg : BoolsIn Any w ts S) :
    Calls Try.prog 81 #[.slice a l.length c, .func (.func 82) #[] #[.pointer (some ⟨O, 0, none⟩)]] w (Ret (.bool ((l.map Int.toNat).any (goalOf S))) w) := by
  have HC := hid (ixS_any l S N hSN w a ts c O td hl hc hc2 hr htd htd2 hO hg)
  have HA := hid (fst_any (goalOf S) l 0 (by omega))
  generalize (l.map Int.toNat).any (goalOf S) = r at *
  generalize fstI (goalOf S) l 0 = f at *
  clear hl hg hO
  go_enter Try.func81, Try.ntmps81
  go_wp2_with fail
  refine HC.out.mono ?_
  rintro e w2 ⟨rfl, hb⟩
  go_wp2_with fail
  go_ret
  exact Ret.mk (bool_val (by rw [← HA.out])) hb
end Alw
end Go.Proofs.Ytfemikebklmlpaa
