/- The reference's reader of formulas. Conditions: those of each contract. -/
import Derived.Test.YthdbkknbbppfnaaDoorParseP
import Derived.Test.YthdbkknbbppfnaaDoorBox
import Derived.Test.YthdbkknbbppfnaaDoorOwnTwo
import Derived.Test.YthdbkknbbppfnaaDoorNormPlain
import Derived.Deep.RegionHeld3
namespace Go.Proofs.YthdbkknbbppfnaaDoor
open Go.RowKit
namespace Formula

/-- at place 'at' of a text: the tree that is read there, and the place behind it; -1 if there is none -/
def PsPost (rd : List UInt8 → Option (Tr × List UInt8)) (S : List UInt8) (i : Nat) (w : World) (e : Ending) (w' : World) : Prop :=
  ∃ v t nx, e = .returned (.tuple #[v, .int .i64 nx]) ∧ NewTr w.heap.size t v w' ∧ Below w.heap.size w w' ∧ ((rd (S.drop i) = none ∧ nx = -1) ∨ ∃ k : Nat, rd (S.drop i) = some (t, S.drop k) ∧ nx = k ∧ k ≤ S.length)
def PsT (n : Nat) : Prop := ∀ (w : World) (S : List UInt8) (i : Nat) (d : Int), i ≤ S.length → S.length ≤ 1048576 → d = n → Calls Tryd.prog 24 #[.string (bs S), .int .i64 i, .int .i64 d] w (PsPost (rdF n) S i w)

theorem ps_end {rd : List UInt8 → Option (Tr × List UInt8)} {S : List UInt8} {i : Nat} {w W : World} {t : Tr} {x : Value} {nx : Int} (hn : NewTr (w.heap.size + 1) t x W) (hb : Below w.heap.size w W) (hE : (rd (S.drop i) = none ∧ nx = -1) ∨ ∃ k : Nat, rd (S.drop i) = some (t, S.drop k) ∧ nx = k ∧ k ≤ S.length) (u0 u1 u2 : Value) :
    PsPost rd S i w (.returned (.tuple #[x, .int .i64 nx])) (((W.setCell ⟨w.heap.size, 0, none⟩ u0).setCell ⟨w.heap.size, 1, none⟩ u1).setCell ⟨w.heap.size, 2, none⟩ u2) :=
  ⟨x, t, nx, rfl, (newTr_set3 hn (by omega) _ _ _).mono (by omega), below_set3 hb (by omega) _ _ _, hE⟩

set_option maxRecDepth 100000 in
set_option maxHeartbeats 1000000 in
theorem ps_none (n : Nat) (S : List UInt8) (i : Nat) (d : Int) (w : World) (hd : d < 1 ∨ S.length ≤ i) (hi : i ≤ 1048576) (hl : S.length ≤ 1048576) (hE : rdF n (S.drop i) = none) : Calls Tryd.prog 24 #[.string (bs S), .int .i64 i, .int .i64 d] w (PsPost (rdF n) S i w) := by
  have hsz : (bs S).size = S.length := bs_size S
  have E := hid hE
  by_cases h1 : d < 1
  · go_enter Tryd.func24, Tryd.ntmps24
    go_wp2_with fail
    refine bodyPost_ret (v := .tuple #[.agg #[.int .i64 0, .int .i64 0, .slice none 0 0], .int .i64 (-1)]) (by simp [results, Tryd.results24, go_sem]) rfl ?_
    exact ⟨_, zeroT, _, rfl, zero_new _ _, below_alloc _ _, .inl ⟨E.out, rfl⟩⟩
  · have h2 : (S.length : Int) ≤ (i : Int) := by omega
    go_enter Tryd.func24, Tryd.ntmps24
    go_wp2_with fail
    refine bodyPost_ret (v := .tuple #[.agg #[.int .i64 0, .int .i64 0, .slice none 0 0], .int .i64 (-1)]) (by simp [results, Tryd.results24, go_sem]) rfl ?_
    exact ⟨_, zeroT, _, rfl, zero_new _ _, below_alloc _ _, .inl ⟨E.out, rfl⟩⟩

set_option maxRecDepth 100000 in
set_option maxHeartbeats 1000000 in
theorem ps_true (n : Nat) (S : List UInt8) (i : Nat) (d : Int) (w : World) (hd : 1 ≤ d) (hl : S.length ≤ 1048576) (hc : S[i]? = some 84) : Calls Tryd.prog 24 #[.string (bs S), .int .i64 i, .int .i64 d] w (PsPost (rdF (n + 1)) S i w) := by
  have hsz : (bs S).size = S.length := bs_size S
  have hi : i < S.length := (List.getElem?_eq_some_iff.1 hc).1
  have hg := bs_at hc
  have E := hid (show rdF (n + 1) (S.drop i) = some (.mk 1 0 [], S.drop (i + 1)) by rw [drop_at hc]; simp [rdF])
  have h1 : ¬ (d < 1) := by omega
  have h2 : ¬ ((S.length : Int) ≤ (i : Int)) := by omega
  have h3 : (i : Int) < (S.length : Int) := by omega
  clear hc
  go_enter Tryd.func24, Tryd.ntmps24
  go_wp2_with fail
  refine bodyPost_ret (v := .tuple #[.agg #[.int .i64 1, .int .i64 0, .slice none 0 0], .int .i64 ((i : Int) + 1)]) (by simp [results, Tryd.results24, go_sem]) rfl ?_
  exact ⟨_, _, _, rfl, leaf_new _ _ (by unfold i64; omega) (by unfold i64; omega), below_alloc _ _, .inr ⟨i + 1, E.out, by omega, by omega⟩⟩

set_option maxRecDepth 100000 in
set_option maxHeartbeats 1000000 in
theorem ps_atom (n : Nat) (c : UInt8) (a : Int) (hca : (c = 112 ∧ a = 0) ∨ (c = 113 ∧ a = 1) ∨ (c = 114 ∧ a = 2)) (S : List UInt8) (i : Nat) (d : Int) (w : World) (hd : 1 ≤ d) (hl : S.length ≤ 1048576) (hc : S[i]? = some c) : Calls Tryd.prog 24 #[.string (bs S), .int .i64 i, .int .i64 d] w (PsPost (rdF (n + 1)) S i w) := by
  have hsz : (bs S).size = S.length := bs_size S
  have hi : i < S.length := (List.getElem?_eq_some_iff.1 hc).1
  have hg := bs_at hc
  have E := hid (show rdF (n + 1) (S.drop i) = some (.mk 2 a [], S.drop (i + 1)) by rw [drop_at hc]; rcases hca with ⟨rfl, rfl⟩ | ⟨rfl, rfl⟩ | ⟨rfl, rfl⟩ <;> simp [rdF])
  have h1 : ¬ (d < 1) := by omega
  have h2 : ¬ ((S.length : Int) ≤ (i : Int)) := by omega
  have h3 : (i : Int) < (S.length : Int) := by omega
  clear hc
  rcases hca with ⟨rfl, rfl⟩ | ⟨rfl, rfl⟩ | ⟨rfl, rfl⟩
  · go_enter Tryd.func24, Tryd.ntmps24
    go_wp2_with fail
    refine bodyPost_ret (v := .tuple #[.agg #[.int .i64 2, .int .i64 0, .slice none 0 0], .int .i64 ((i : Int) + 1)]) (by simp [results, Tryd.results24, go_sem]) rfl ?_
    exact ⟨_, _, _, rfl, leaf_new _ _ (by unfold i64; omega) (by unfold i64; omega), below_alloc _ _, .inr ⟨i + 1, E.out, by omega, by omega⟩⟩
  · go_enter Tryd.func24, Tryd.ntmps24
    go_wp2_with fail
    refine bodyPost_ret (v := .tuple #[.agg #[.int .i64 2, .int .i64 1, .slice none 0 0], .int .i64 ((i : Int) + 1)]) (by simp [results, Tryd.results24, go_sem]) rfl ?_
    exact ⟨_, _, _, rfl, leaf_new _ _ (by unfold i64; omega) (by unfold i64; omega), below_alloc _ _, .inr ⟨i + 1, E.out, by omega, by omega⟩⟩
  · go_enter Tryd.func24, Tryd.ntmps24
    go_wp2_with fail
    refine bodyPost_ret (v := .tuple #[.agg #[.int .i64 2, .int .i64 2, .slice none 0 0], .int .i64 ((i : Int) + 1)]) (by simp [results, Tryd.results24, go_sem]) rfl ?_
    exact ⟨_, _, _, rfl, leaf_new _ _ (by unfold i64; omega) (by unfold i64; omega), below_alloc _ _, .inr ⟨i + 1, E.out, by omega, by omega⟩⟩

set_option maxRecDepth 100000 in
set_option maxHeartbeats 1000000 in
theorem ps_else (n : Nat) (c : UInt8) (S : List UInt8) (i : Nat) (d : Int) (w : World) (hd : 1 ≤ d) (hl : S.length ≤ 1048576) (hc : S[i]? = some c) (n1 : c ≠ 84) (n2 : ¬ (112 ≤ c ∧ c ≤ 114)) (n3 : formUn c = none) (n4 : c ≠ 40) : Calls Tryd.prog 24 #[.string (bs S), .int .i64 i, .int .i64 d] w (PsPost (rdF (n + 1)) S i w) := by
  have hsz : (bs S).size = S.length := bs_size S
  have hi : i < S.length := (List.getElem?_eq_some_iff.1 hc).1
  have hg := bs_at hc
  have E := hid (show rdF (n + 1) (S.drop i) = none by rw [drop_at hc]; simp only [rdF]; rw [if_neg n1, if_neg n2, n3]; simp [n4])
  have h1 : ¬ (d < 1) := by omega
  have h2 : ¬ ((S.length : Int) ≤ (i : Int)) := by omega
  have h3 : (i : Int) < (S.length : Int) := by omega
  have e1 : ((c.toNat : Int) == 84) = false := u8_ne n1
  have e2 : ((c.toNat : Int) == 40) = false := u8_ne n4
  have e4 : unK c = 0 := by simp [unK, n3]
  have HU := hid (fun w => un_any c w)
  rw [e4] at HU
  have e3 : ¬ (112 ≤ (c.toNat : Int)) ∨ (112 ≤ (c.toNat : Int) ∧ ¬ ((c.toNat : Int) ≤ 114)) := by
    rw [UInt8.le_iff_toNat_le, UInt8.le_iff_toNat_le] at n2
    have e1 : (112 : UInt8).toNat = 112 := rfl
    have e2 : (114 : UInt8).toNat = 114 := rfl
    omega
  clear hc n1 n2 n3 n4 e4
  rcases e3 with e3 | ⟨e3, e5⟩
  · go_enter Tryd.func24, Tryd.ntmps24
    go_wp2_with fail
    refine (HU.out _).mono ?_
    rintro e w1 ⟨rfl, rfl⟩
    go_wp2_with fail
    refine bodyPost_ret (v := .tuple #[.agg #[.int .i64 0, .int .i64 0, .slice none 0 0], .int .i64 (-1)]) (by simp [results, Tryd.results24, go_sem]) rfl ?_
    exact ⟨_, zeroT, _, rfl, zero_new _ _, below_alloc _ _, .inl ⟨E.out, rfl⟩⟩
  · go_enter Tryd.func24, Tryd.ntmps24
    go_wp2_with fail
    refine (HU.out _).mono ?_
    rintro e w1 ⟨rfl, rfl⟩
    go_wp2_with fail
    refine bodyPost_ret (v := .tuple #[.agg #[.int .i64 0, .int .i64 0, .slice none 0 0], .int .i64 (-1)]) (by simp [results, Tryd.results24, go_sem]) rfl ?_
    exact ⟨_, zeroT, _, rfl, zero_new _ _, below_alloc _ _, .inl ⟨E.out, rfl⟩⟩
end Formula
end Go.Proofs.YthdbkknbbppfnaaDoor
