/- Joined texts (BranchingSpecV, DrawsPlain, BranchingRandom, BranchingSpecVB, BranchingDraws): contracts and plain laws. Conditions: those of each theorem. -/
import Derived.Test.YthjhokifonjeaaaRows
import Derived.Test.YthjhokifonjeaaaJB0
import Derived.Test.YthjhokifonjeaaaJB1
import Derived.WalkSpells
import Derived.WalkLawsBesides
import Derived.Deep.DeepCutAuto
import Derived.Deep.CutBlock
set_option linter.unusedVariables false
set_option linter.unusedSimpArgs false
namespace Go.Proofs.Ythjhokifonjeaaa
open Go.RowKit
namespace Branching

def arityV (k : Int) : Int := if k = 1 ∨ k = 2 then 0 else if k = 3 ∨ k = 6 ∨ k = 8 ∨ k = 9 ∨ k = 11 then 1 else if k = 4 ∨ k = 5 ∨ k = 7 ∨ k = 10 then 2 else -1
theorem arityV_ok {k v : Int} {n : Nat} : branL.okB k v n = (decide ((n : Int) = arityV k) && decide (0 ≤ v ∧ v ≤ branL.most k)) := by
  rw [Bool.eq_iff_iff, Lang.okB_iff, Bool.and_eq_true, decide_eq_true_eq, decide_eq_true_eq, branL_K, branL_ar]
  unfold arityV
  by_cases h1 : k = 1 ∨ k = 2
  · rw [if_pos h1, if_pos h1]; constructor
    · rintro ⟨_, a, b⟩; exact ⟨b, a⟩
    · rintro ⟨a, b⟩; exact ⟨by omega, b, a⟩
  by_cases h2 : k = 3 ∨ k = 6 ∨ k = 8 ∨ k = 9 ∨ k = 11
  · rw [if_neg h1, if_neg h1, if_neg (by omega), if_pos h2]; constructor
    · rintro ⟨_, a, b⟩; exact ⟨b, a⟩
    · rintro ⟨a, b⟩; exact ⟨by omega, b, a⟩
  by_cases h3 : k = 4 ∨ k = 5 ∨ k = 7 ∨ k = 10
  · rw [if_neg h1, if_neg h1, if_pos h3, if_neg h2, if_pos h3]; constructor
    · rintro ⟨_, a, b⟩; exact ⟨b, a⟩
    · rintro ⟨a, b⟩; exact ⟨by omega, b, a⟩
  · rw [if_neg h1, if_neg h1, if_neg h3, if_neg h2, if_neg h3]
    constructor
    · rintro ⟨a, _⟩; omega
    · rintro ⟨a, _⟩; omega

set_option maxHeartbeats 1000000 in
theorem arity_any (k : Int) (w : World) : Calls Try.prog 95 #[.int .i64 k] w (Ret (.int .i64 (arityV k)) w) := by
  by_cases h1 : k = 1
  · subst h1
    go_enter Try.func95, Try.ntmps95
    go_wp2_with fail
    go_ret
    exact Ret.mk rfl (Below.refl _ _)
  by_cases h2 : k = 2
  · subst h2
    go_enter Try.func95, Try.ntmps95
    go_wp2_with fail
    go_ret
    exact Ret.mk rfl (Below.refl _ _)
  by_cases h3 : k = 3
  · subst h3
    go_enter Try.func95, Try.ntmps95
    go_wp2_with fail
    go_ret
    exact Ret.mk rfl (Below.refl _ _)
  by_cases h4 : k = 4
  · subst h4
    go_enter Try.func95, Try.ntmps95
    go_wp2_with fail
    go_ret
    exact Ret.mk rfl (Below.refl _ _)
  by_cases h5 : k = 5
  · subst h5
    go_enter Try.func95, Try.ntmps95
    go_wp2_with fail
    go_ret
    exact Ret.mk rfl (Below.refl _ _)
  by_cases h6 : k = 6
  · subst h6
    go_enter Try.func95, Try.ntmps95
    go_wp2_with fail
    go_ret
    exact Ret.mk rfl (Below.refl _ _)
  by_cases h7 : k = 7
  · subst h7
    go_enter Try.func95, Try.ntmps95
    go_wp2_with fail
    go_ret
    exact Ret.mk rfl (Below.refl _ _)
  by_cases h8 : k = 8
  · subst h8
    go_enter Try.func95, Try.ntmps95
    go_wp2_with fail
    go_ret
    exact Ret.mk rfl (Below.refl _ _)
  by_cases h9 : k = 9
  · subst h9
    go_enter Try.func95, Try.ntmps95
    go_wp2_with fail
    go_ret
    exact Ret.mk rfl (Below.refl _ _)
  by_cases h10 : k = 10
  · subst h10
    go_enter Try.func95, Try.ntmps95
    go_wp2_with fail
    go_ret
    exact Ret.mk rfl (Below.refl _ _)
  by_cases h11 : k = 11
  · subst h11
    go_enter Try.func95, Try.ntmps95
    go_wp2_with fail
    go_ret
    exact Ret.mk rfl (Below.refl _ _)
  have e1 : (k == 1) = false := by simpa using h1
  have e2 : (k == 2) = false := by simpa using h2
  have e3 : (k == 3) = false := by simpa using h3
  have e4 : (k == 4) = false := by simpa using h4
  have e5 : (k == 5) = false := by simpa using h5
  have e6 : (k == 6) = false := by simpa using h6
  have e7 : (k == 7) = false := by simpa using h7
  have e8 : (k == 8) = false := by simpa using h8
  have e9 : (k == 9) = false := by simpa using h9
  have e10 : (k == 10) = false := by simpa using h10
  have e11 : (k == 11) = false := by simpa using h11
  have E := hid (show arityV k = -1 by unfold arityV; rw [if_neg (by omega), if_neg (by omega), if_neg (by omega)])
  clear h1 h2 h3 h4 h5 h6 h7 h8 h9 h10 h11
  go_enter Try.func95, Try.ntmps95
  go_wp2_with fail
  go_ret
  exact Ret.mk (int_val E.out.symm) (Below.refl _ _)

def ShT (t : Tr) : Prop := ∀ (w : World) (x : Value) (d : Int), TrIn Any w t x → -1 ≤ d → d ≤ 6 → Calls Try.prog 66 #[x, .int .i64 d] w (Ret (.bool (branL.shape t d)) w)

/-- the test of a node's number, as the text has it -/
theorem most_cases (k v : Int) : (v < 0 ∨ 3 ≤ v ∨ (k ≠ 2 ∧ v ≠ 0)) ↔ ¬(0 ≤ v ∧ v ≤ branL.most k) := by
  rw [ branL_most ]
  by_cases h : k = 2
  · rw [if_pos h]; omega
  · rw [if_neg h]; omega

set_option maxHeartbeats 1000000 in
theorem shT_of (k v : Int) (kids : List Tr) (h : ∀ t, t ∈ kids → ShT t) : ShT (.mk k v kids) := by
  intro w x d hx hd1 hd2
  rw [TrIn_mk] at hx
  obtain ⟨a, n, c, rfl, hk, hv, rfl, hc, hc2, hks⟩ := hx
  by_cases hd : d < 1
  · have E := hid (show branL.shape (.mk k v kids) d = false by simp only [Lang.shape]; rw [decide_eq_false (by omega), Bool.false_and])
    have hd' : decide (d < 1) = true := by simpa using hd
    go_enter Try.func66, Try.ntmps66
    go_wp2_with fail
    refine wp_region_below (by kernel_rfl) (by kernel_rfl) ?_; (repeat (go_big_quiet_step ((fail)))); refine wpQuiet_nil ?_
    intro w1 hb
    go_wp2_with fail
    go_ret
    exact Ret.mk (bool_val E.out.symm) (below_next (below_alloc _ _) hb)
  have E0 := hid (show branL.shape (.mk k v kids) d = (branL.okB k v kids.length && branL.shapeL kids (d - 1)) by simp only [Lang.shape]; rw [decide_eq_true (by omega), Bool.true_and])
  have hd' : decide (d < 1) = false := by simpa using hd
  by_cases hn : (kids.length : Int) = arityV k
  · have hn1 : ((kids.length : Int) != arityV k) = false := by simpa using hn
    have HN := hid hn; clear hn
    have hno : v < 0 ∨ 3 ≤ v ∨ (k ≠ 2 ∧ v ≠ 0) → branL.shape (.mk k v kids) d = false := fun hh => by
      rw [E0.out, arityV_ok, decide_eq_false ((most_cases k v).1 hh)]; simp
    have HNO := hid hno; clear hno
    go_enter Try.func66, Try.ntmps66
    go_wp2_with fail
    refine wp_region_below (by kernel_rfl) (by kernel_rfl) ?_; (repeat (go_big_quiet_step ((go_at_call 95; exact Calls.over (arity_any _ _))))); refine wpQuiet_nil ?_
    intro w1 hb
    have b1 := box3_next hb (box3_new ..)
    have B := below_next (below_alloc ..) hb
    clear hb
    by_cases hv0 : v < 0
    · have E := hid (HNO.out (.inl hv0)); clear HNO
      go_wp2_with fail
      go_ret
      exact Ret.mk (bool_val E.out.symm) B
    by_cases hv1 : 3 ≤ v
    · have E := hid (HNO.out (.inr (.inl hv1))); clear HNO
      go_wp2_with fail
      go_ret
      exact Ret.mk (bool_val E.out.symm) B
    by_cases hv2 : k ≠ 2 ∧ v ≠ 0
    · have E := hid (HNO.out (.inr (.inr hv2))); clear HNO
      have e1 : (k != 2) = true := by simpa using hv2.1
      have e2 : (v != 0) = true := by simpa using hv2.2
      clear hv2
      go_wp2_with fail
      go_ret
      exact Ret.mk (bool_val E.out.symm) B
    have E := hid (show branL.shape (.mk k v kids) d = branL.shapeL kids (d - 1) by
      rw [E0.out, arityV_ok, decide_eq_true HN.out, decide_eq_true]
      · simp
      · apply Decidable.byContradiction
        intro hh
        rcases (most_cases k v).2 hh with h1 | h1 | h1
        · exact hv0 h1
        · exact hv1 h1
        · exact hv2 h1)
    have hv3 : ((k != 2) && (v != 0)) = false := by
      cases h1 : (k != 2) with
      | false => rfl
      | true =>
        cases h2 : (v != 0) with
        | false => rfl
        | true => exact absurd ⟨by simpa using h1, by simpa using h2⟩ hv2
    clear hv2 HNO
    unfold maxLen at hc2
    cases h1 : (k != 2) with
    | false =>
      clear hv3
      go_wp2_with fail
      go_loopw [5] (fun i wr => ∃ j : Nat, j ≤ kids.length ∧ i = .int .i64 j ∧ Below w.heap.size w wr ∧ Box3 wr w.heap.size (.int .i64 k) (.int .i64 v) (.slice a kids.length c) ∧ Hid (branL.shapeL (kids.drop j) (d - 1) = branL.shapeL kids (d - 1)))
        (fun i _ => kids.length - (intOf i).toNat)
      case atStart => exact ⟨0, Nat.zero_le _, rfl, B, b1, hid rfl⟩
      case round =>
        clear B b1
        obtain ⟨j, hj, rfl, B, b1, hr⟩ := hrel
        by_cases hlt : j < kids.length
        · obtain ⟨b, o, c0, c1, c2, t, rfl, gb, g0, g1, g2, hT⟩ := TrsIn_round hks B hlt
          have HR2 := hr.out
          rw [hT.out.2.2.1] at HR2
          simp only [Lang.shapeL] at HR2
          have HR := hid HR2; clear HR2
          go_wp2_with fail
          refine (h t hT.out.2.1 _ _ (d - 1) hT.out.1 (by omega) (by omega)).mono ?_
          rintro e w2 ⟨rfl, hb⟩
          replace b1 := box3_next hb b1
          replace B := below_next B hb
          clear hb
          cases hq : branL.shape t (d - 1) with
          | true =>
            have HR3 := HR.out
            rw [hq, Bool.true_and] at HR3
            have HR4 := hid HR3; clear HR3 hq
            go_wp2_with fail
            go_roundw
            case rel => exact ⟨j + 1, by omega, by go_num, B, b1, HR4⟩
            case measure => simp [intOf]; omega
          | false =>
            have HR3 := HR.out
            rw [hq, Bool.false_and] at HR3
            have HR4 := hid HR3; clear HR3 hq
            go_wp2_with fail
            go_ret
            exact Ret.mk (bool_val (HR4.out.trans E.out.symm)) B
        · have HR2 := hr.out
          rw [List.drop_of_length_le (by omega)] at HR2
          have HR := hid HR2; clear HR2
          go_wp2_with fail
          go_ret
          exact Ret.mk (bool_val (HR.out.trans E.out.symm)) B
    | true =>
      rw [h1, Bool.true_and] at hv3
      go_wp2_with fail
      go_loopw [5] (fun i wr => ∃ j : Nat, j ≤ kids.length ∧ i = .int .i64 j ∧ Below w.heap.size w wr ∧ Box3 wr w.heap.size (.int .i64 k) (.int .i64 v) (.slice a kids.length c) ∧ Hid (branL.shapeL (kids.drop j) (d - 1) = branL.shapeL kids (d - 1)))
        (fun i _ => kids.length - (intOf i).toNat)
      case atStart => exact ⟨0, Nat.zero_le _, rfl, B, b1, hid rfl⟩
      case round =>
        clear B b1
        obtain ⟨j, hj, rfl, B, b1, hr⟩ := hrel
        by_cases hlt : j < kids.length
        · obtain ⟨b, o, c0, c1, c2, t, rfl, gb, g0, g1, g2, hT⟩ := TrsIn_round hks B hlt
          have HR2 := hr.out
          rw [hT.out.2.2.1] at HR2
          simp only [Lang.shapeL] at HR2
          have HR := hid HR2; clear HR2
          go_wp2_with fail
          refine (h t hT.out.2.1 _ _ (d - 1) hT.out.1 (by omega) (by omega)).mono ?_
          rintro e w2 ⟨rfl, hb⟩
          replace b1 := box3_next hb b1
          replace B := below_next B hb
          clear hb
          cases hq : branL.shape t (d - 1) with
          | true =>
            have HR3 := HR.out
            rw [hq, Bool.true_and] at HR3
            have HR4 := hid HR3; clear HR3 hq
            go_wp2_with fail
            go_roundw
            case rel => exact ⟨j + 1, by omega, by go_num, B, b1, HR4⟩
            case measure => simp [intOf]; omega
          | false =>
            have HR3 := HR.out
            rw [hq, Bool.false_and] at HR3
            have HR4 := hid HR3; clear HR3 hq
            go_wp2_with fail
            go_ret
            exact Ret.mk (bool_val (HR4.out.trans E.out.symm)) B
        · have HR2 := hr.out
          rw [List.drop_of_length_le (by omega)] at HR2
          have HR := hid HR2; clear HR2
          go_wp2_with fail
          go_ret
          exact Ret.mk (bool_val (HR.out.trans E.out.symm)) B
  · have hn1 : ((kids.length : Int) != arityV k) = true := by simpa using hn
    have E := hid (show branL.shape (.mk k v kids) d = false by rw [E0.out, arityV_ok, decide_eq_false hn]; simp)
    clear hn
    go_enter Try.func66, Try.ntmps66
    go_wp2_with fail
    refine wp_region_below (by kernel_rfl) (by kernel_rfl) ?_; (repeat (go_big_quiet_step ((go_at_call 95; exact Calls.over (arity_any _ _))))); refine wpQuiet_nil ?_
    intro w1 hb
    go_wp2_with fail
    go_ret
    exact Ret.mk (bool_val E.out.symm) (below_next (below_alloc _ _) hb)

theorem shape_any : ∀ t, ShT t := fun t => Tr.ind (fun k v kids ih => shT_of k v kids ih) t

end Branching
end Go.Proofs.Ythjhokifonjeaaa
namespace Go.Proofs.Ythjhokifonjeaaa
open Go.RowKit

/-- what a drawing call comes to: a new tree of at most M nodes; at most K picks -/
def DrawPost (B K : Nat) (M : Int) (R p : Nat) (w : World) (e : Ending) (w' : World) : Prop :=
  ∃ v t p', e = .returned v ∧ NewTr w.heap.size t v w' ∧ nodes t ≤ M ∧ But w R w' ∧ Rd B w' R p' ∧ p' ≤ p + K

theorem DrawPost.ret {B K : Nat} {M : Int} {R p p' N : Nat} {w W : World} {t : Tr} {x : Value} (hn : NewTr N t x W) (hN : w.heap.size < N) (hM : nodes t ≤ M) (hb : But w R W) (hr : Rd B W R p') (hp : p' ≤ p + K) (hB : B ≤ w.heap.size) (u0 u1 u2 : Value) :
    DrawPost B K M R p w (.returned x) (((W.setCell ⟨w.heap.size, 0, none⟩ u0).setCell ⟨w.heap.size, 1, none⟩ u1).setCell ⟨w.heap.size, 2, none⟩ u2) :=
  ⟨x, t, p', rfl, (hn.keep (((Keep.set _ hN _).trans (Keep.set _ hN _)).trans (Keep.set _ hN _))).mono (Nat.le_of_lt hN), hM, But.setNew (But.setNew (But.setNew hb (Nat.le_refl _) _) (Nat.le_refl _) _) (Nat.le_refl _) _,
    ((hr.set hB _).set hB _).set hB _, hp⟩

theorem nodesL_snoc : ∀ (l : List Tr) (t : Tr), nodesL (l ++ [t]) = nodesL l + nodes t
  | [], t => by simp [nodesL]
  | u :: us, t => by rw [List.cons_append]; simp only [nodesL]; rw [nodesL_snoc us t]; omega

theorem DrawPost.at {B K : Nat} {M : Int} {R p p' N b : Nat} {w W : World} {t : Tr} {x : Value} (hn : NewTr N t x W) (hN : b < N) (hbw : w.heap.size ≤ b) (hM : nodes t ≤ M) (hb : But w R W) (hr : Rd B W R p') (hp : p' ≤ p + K) (hB : B ≤ w.heap.size) (u0 u1 u2 : Value) :
    DrawPost B K M R p w (.returned x) (((W.setCell ⟨b, 0, none⟩ u0).setCell ⟨b, 1, none⟩ u1).setCell ⟨b, 2, none⟩ u2) :=
  ⟨x, t, p', rfl, (hn.keep (((Keep.set _ hN _).trans (Keep.set _ hN _)).trans (Keep.set _ hN _))).mono (by omega), hM, But.setNew (But.setNew (But.setNew hb hbw _) hbw _) hbw _,
    ((hr.set (Nat.le_trans hB hbw) _).set (Nat.le_trans hB hbw) _).set (Nat.le_trans hB hbw) _, hp⟩
theorem nodes_kids (t : Tr) : nodes t = 1 + nodesL t.kids := by cases t; rfl
mutual
theorem small_nodes : ∀ t : Tr, nodes t ≤ 1048576 → Small t
  | .mk _ _ kids, h => by
    simp only [nodes] at h
    have hl := len_nodes kids
    exact ⟨by omega, smallL_nodes kids (by omega)⟩
theorem smallL_nodes : ∀ l : List Tr, nodesL l ≤ 1048576 → SmallL l
  | [], _ => trivial
  | t :: ts, h => by
    simp only [nodesL] at h
    have h1 := nodesL_pos ts
    have h2 := nodes_pos t
    exact ⟨small_nodes t (by omega), smallL_nodes ts (by omega)⟩
theorem len_nodes : ∀ l : List Tr, (l.length : Int) ≤ nodesL l
  | [] => by simp [nodesL]
  | t :: ts => by
    simp only [nodesL, List.length_cons]
    have h1 := len_nodes ts
    have h2 := nodes_pos t
    omega
end

end Go.Proofs.Ythjhokifonjeaaa
namespace Go.Proofs.Ythjhokifonjeaaa
open Go.RowKit
namespace Branching

def RandT (d : Nat) (K : Nat) (M : Int) : Prop := ∀ (w : World) (R B p : Nat), Rd B w R p → p + K ≤ 1000000 → Calls Try.prog 86 #[.pointer (some ⟨R, 0, none⟩), .int .i64 d] w (DrawPost B K M R p w)

set_option maxRecDepth 100000 in
set_option maxHeartbeats 1000000 in
theorem rand1 : RandT 1 3 1 := by
  intro w R B p hr hp
  have hB := hr.lt
  go_enter Try.func86, Try.ntmps86
  go_wp2_with fail
  refine (pick_any B _ _ R p (hr.next (below_alloc _ _)) (by omega) (by omega) (by omega)).mono ?_
  rintro e w1 ⟨i, rfl, _, hb1, hr1⟩
  have c4 := box3_butx (ButX.but (B := w.heap.size + 1) hb1 (by simp)) (by omega) (by omega) (box3_new w (.int .i64 0) (.int .i64 0) (.slice none 0 0) 39)
  have c4l : w.heap.size < w1.heap.size := c4.1
  have B1 : But w R w1 := (But.of (below_alloc w _)).trans hb1
  clear hb1
  by_cases hi : i = 0
  · subst hi
    have hf := hid (fun u0 u1 u2 => DrawPost.ret (w := w) (K := 3) (M := 1) (leaf_new (w.heap.size + 1) w1 (k := 1) (v := 0) (by unfold i64; omega) (by unfold i64; omega)) (by omega) (by simp [nodes, nodesL]) B1 hr1 (p := p) (by omega) hB.2 u0 u1 u2)
    clear hr1 B1
    go_wp2_with fail
    refine bodyPost_ret (v := .agg #[.int .i64 1, .int .i64 0, .slice none 0 0]) (by simp [results, Try.results86, go_sem, c4]) rfl ?_
    exact hf.out _ _ _
  · have hi2 : (i == 0) = false := by simpa using hi
    go_wp2_with fail
    refine (num_new [0, 1, 0, 2] 0 2 (by simp) (by decide) (by decide) B w1 _ R (p + 1) hr1 (by omega)).mono ?_
    rintro e w2 ⟨n, rfl, ⟨hn1, hn2⟩, hb2, hr2⟩
    have c4 := box3_but hb2 (by omega) (box3_next (below_alloc _ _) c4)
    have B2 := (B1.next (below_alloc _ _)).trans hb2
    have hf := hid (fun u0 u1 u2 => DrawPost.ret (w := w) (K := 3) (M := 1) (leaf_new (w.heap.size + 1) w2 (k := 2) (v := n) (by unfold i64; omega) (by unfold i64; omega)) (by omega) (by simp [nodes, nodesL]) B2 hr2 (p := p) (by omega) hB.2 u0 u1 u2)
    clear hr2 B2 hb2 hr1 B1
    go_wp2_with fail
    refine bodyPost_ret (v := .agg #[.int .i64 2, .int .i64 n, .slice none 0 0]) (by simp [results, Try.results86, go_sem, c4]) rfl ?_
    exact hf.out _ _ _

set_option maxRecDepth 100000 in
set_option maxHeartbeats 4000000 in
theorem randS (d K : Nat) (M : Int) (h : RandT d K M) (hM : 1 ≤ M) (hd : 1 ≤ d) (hd3 : d ≤ 10) : RandT (d + 1) (2 * K + 3) (2 * M + 1) := by
  intro w R B p hr hp
  have hB := hr.lt
  have hd2 : ¬ (((d + 1 : Nat) : Int) < 2) := by omega
  go_enter Try.func86, Try.ntmps86
  go_wp2_with fail
  refine (pick_any B _ _ R p (hr.next (below_alloc _ _)) (by omega) (by omega) (by omega)).mono ?_
  rintro e w1 ⟨i, rfl, _, hb1, hr1⟩
  have c4 := box3_butx ((ButX.but (B := w.heap.size + 1) hb1 (by simp))) (by omega) (by omega) (box3_new w (.int .i64 0) (.int .i64 0) (.slice none 0 0) 39)
  have c4l : w.heap.size < w1.heap.size := c4.1
  have B1 : But w R w1 := (But.of (below_alloc w _)).trans hb1
  clear hb1
  by_cases hi : i = 0
  · subst hi
    go_wp2_with fail
    refine (pick_any B _ _ R (p + 1) hr1 (by omega) (by omega) (by omega)).mono ?_
    rintro e w1' ⟨i', rfl, _, hb1, hr2'⟩
    replace c4 := box3_but hb1 (by omega) c4
    have c4l' : w.heap.size < w1'.heap.size := c4.1
    have B1' : But w R w1' := B1.trans hb1
    clear hb1 hr1 B1
    by_cases hi' : i' = 0
    · subst hi'
      have hf := hid (fun u0 u1 u2 => DrawPost.ret (w := w) (K := 2 * K + 3) (M := 2 * M + 1) (leaf_new (w.heap.size + 1) w1' (k := 1) (v := 0) (by unfold i64; omega) (by unfold i64; omega)) (by omega) (by simp only [nodes, nodesL]; omega) B1' hr2' (p := p) (by omega) hB.2 u0 u1 u2)
      clear hr2' B1'
      go_wp2_with fail
      refine bodyPost_ret (v := .agg #[.int .i64 1, .int .i64 0, .slice none 0 0]) (by simp [results, Try.results86, go_sem, c4]) rfl ?_
      exact hf.out _ _ _
    · have hi2 : (i' == 0) = false := by simpa using hi'
      go_wp2_with fail
      refine (num_new [0, 1, 0, 2] 0 2 (by simp) (by decide) (by decide) B w1' _ R (p + 1 + 1) hr2' (by omega)).mono ?_
      rintro e w2 ⟨n, rfl, ⟨hn1, hn2⟩, hb2, hr2⟩
      have c4 := box3_but hb2 (by omega) (box3_next (below_alloc _ _) c4)
      have B2 := (B1'.next (below_alloc _ _)).trans hb2
      have hf := hid (fun u0 u1 u2 => DrawPost.ret (w := w) (K := 2 * K + 3) (M := 2 * M + 1) (leaf_new (w.heap.size + 1) w2 (k := 2) (v := n) (by unfold i64; omega) (by unfold i64; omega)) (by omega) (by simp only [nodes, nodesL]; omega) B2 hr2 (p := p) (by omega) hB.2 u0 u1 u2)
      clear hr2 B2 hb2 hr2' B1'
      go_wp2_with fail
      refine bodyPost_ret (v := .agg #[.int .i64 2, .int .i64 n, .slice none 0 0]) (by simp [results, Try.results86, go_sem, c4]) rfl ?_
      exact hf.out _ _ _

  · have hi2 : (i == 0) = false := by simpa using hi
    go_wp2_with fail
    refine (num_new [7, 10, 8, 11, 6, 9, 3, 4, 5] 3 11 (by simp) (by decide) (by decide) B w1 _ R (p + 1) hr1 (by omega)).mono ?_
    rintro e w2 ⟨k, rfl, ⟨hk1, hk2⟩, hb2, hr2⟩
    replace c4 := box3_but hb2 (by omega) (box3_next (below_alloc _ _) c4)
    have B2 := (B1.next (below_alloc _ _)).trans hb2
    have c4l2 : w.heap.size < w2.heap.size := c4.1
    clear hb2 hr1 B1
    go_wp2_with fail
    have cF : Box3 (w2.alloc (.cells #[.int .i64 k, .int .i64 0, .slice none 0 0] 39)) w2.heap.size (.int .i64 k) (.int .i64 0) (.slice none 0 0) := box3_new ..
    have hA : 1 ≤ arityV k ∧ arityV k ≤ 2 := by unfold arityV; split; omega; split; omega; split; omega; omega
    refine (arity_any k _).mono ?_
    rintro e w3 ⟨rfl, hb3⟩
    replace cF := box3_next hb3 cF
    replace c4 := box3_next hb3 (box3_next (below_alloc _ _) c4)
    replace B2 := (B2.next (below_alloc _ _)).next hb3
    replace hr2 := (hr2.next (below_alloc _ _)).next hb3
    clear hb3
    generalize arityV k = A at *
    go_wp2_with fail
    go_loopw [6] (fun i wr => ∃ (j : Nat) (u : Value) (l : List Tr) (p1 : Nat), i = .int .i64 (A - j) ∧ l.length = j ∧ ((j = 0 ∧ nodesL l ≤ 0 ∧ p1 ≤ p + 2) ∨ (j = 1 ∧ nodesL l ≤ M ∧ p1 ≤ p + 2 + K) ∨ (j = 2 ∧ nodesL l ≤ 2 * M ∧ p1 ≤ p + 2 + 2 * K)) ∧ (j : Int) ≤ A ∧
      But w R wr ∧ Box3 wr w.heap.size (.int .i64 0) (.int .i64 0) (.slice none 0 0) ∧ Box3 wr w2.heap.size (.int .i64 k) (.int .i64 0) u ∧ OwnRow (w2.heap.size + 1) 39 u l wr ∧ Rd B wr R p1) (fun i _ => (intOf i).toNat)
    case atStart => exact ⟨0, .slice none 0 0, [], p + 2, by simp, rfl, .inl ⟨rfl, by simp [nodesL], by omega⟩, by omega, B2, c4, cF, OwnRow.nil _ _ _, hr2⟩
    case round =>
      clear B2 c4 cF hr2
      obtain ⟨j, u, l, p1, rfl, hl, hbd, hjA, B2, c4, cF, ho, hr2⟩ := hrel
      by_cases hlt : (j : Int) < A
      · have hgt : A - (j : Int) > 0 := by omega
        have cF' := cF
        obtain ⟨q0, q1, q2, q3, q4, q5, q6⟩ := cF'
        have f0 : ∀ x, (wr.overX (w2.heap.size + 1) R x).cell? ⟨w2.heap.size, 2, none⟩ = some u := fun x => by rw [overX_cell _ _ _ _ _ _ (by omega) (by omega)]; exact q3
        go_wp2_with fail
        refine wp_region_tail (C := fun wZ => ∃ xZ, wZ = World.overX _ (w2.heap.size + 1) (R) xZ) [0,1,2,3,4] [5,6,7,8,9] (9) (by kernel_rfl) (by kernel_rfl) (fun d _ _ _ _ h => by cases d <;> exact h) (ButX.refl _ _ _).drew.ex ?_; simp only [pick, List.getElem?_cons_succ, List.getElem?_cons_zero]; (repeat (go_big_quiet_step (fail))); refine wpQuiet_nil ?_; simp only [tailW]
        go_wp2_with fail
        refine (h wr.drew R B p1 (hr2.next (below_d (Below.refl _ _))) (by omega)).mono ?_
        rintro e w4 ⟨v, t, p2, rfl, hn, hnt, hb4, hr4, hp2⟩
        obtain ⟨a1, n1, rfl⟩ := TrIn_shape hn.any
        have x4 : ButX (w2.heap.size + 1) R wr w4 := (ButX.refl _ _ wr).drew.trans (ButX.but hb4 q0)
        go_wp2_with fail
        refine ⟨x4.ex, ?_⟩
        go_wp2_with fail
        have s4 := x4.size
        refine ⟨(x4.next (below_alloc _ _) (by omega)).ex, ?_⟩
        refine wp_append_node rfl (.tmp 34) (.tmp 39) 37 rfl 39 Try.underlying37 rowInfo (by rfl) (by rfl) (by intro x hx; simp at hx; rcases hx with rfl | rfl | rfl <;> rfl) ho q0
          ((Keep.drew wr).trans (Keep.but hb4 (by omega))) (Nat.le_refl _) hn (by omega) ?_
        intro a2 n2 m2 w5 ho5 hb5 _ _
        have x5 : ButX (w2.heap.size + 1) R wr w5 := x4.trans (ButX.ofB hb5)
        have c4' := box3_butx x5 (by omega) (by omega) c4
        have cF' := box3_butx x5 (by omega) (by omega) cF
        have hr5 : Rd B w5 R p2 := hr4.keep hb5.size fun b hb => hb5.block b (by omega)
        have B5 : But w R w5 := ⟨x5.os.trans B2.os, x5.tape.trans B2.tape, x5.output.trans B2.output, Nat.le_trans B2.size x5.size, fun k hk hd => (x5.block k (by omega) hd).trans (B2.block k hk hd)⟩
        have HO := hid ho5
        have hl5 : (l ++ [t]).length = j + 1 := by simp [hl]
        have hn5 : nodesL (l ++ [t]) ≤ nodesL l + M := by rw [nodesL_snoc]; omega
        have hxx := x5.ex
        clear ho ho5 hn hb4 hb5 x4 x5 f0 q0 q1 q2 q3 q4 q5 q6 hr4 hr2 B2 c4 cF
        have cF := cF'
        obtain ⟨q0, q1, q2, q3, q4, q5, q6⟩ := cF'
        refine ⟨hxx, ?_⟩
        go_wp2_with fail
        refine ⟨hxx, ?_⟩
        go_wp2_with fail
        go_roundw
        case rel => exact ⟨j + 1, .slice a2 n2 m2, l ++ [t], p2, by go_num, hl5, by omega, by omega, But.setNew B5 (by simp; omega) _, box3_but (But.set w5 w2.heap.size 2 _) (by omega) c4', box3_set2 cF _, HO.out.keep (Keep.set _ (by simp) _), hr5.set (by simp; omega) _⟩
        case measure => simp [intOf]; omega
      · obtain ⟨a2, n2, m2, rfl⟩ : ∃ a2 n2 m2, u = .slice a2 n2 m2 := by obtain ⟨a2, m2, h2, _⟩ := ho.shape; exact ⟨_, _, _, h2⟩
        have hgt : ¬ (A - (j : Int) > 0) := by omega
        have hf := hid (fun u0 u1 u2 => DrawPost.ret (w := w) (K := 2 * K + 3) (M := 2 * M + 1) (ho.node (k := k) (v := 0) (by unfold i64; omega) (by unfold i64; omega)) (by omega) (by simp only [nodes]; omega) B2 hr2 (p := p) (by omega) hB.2 u0 u1 u2)
        clear hr2 B2 ho
        go_wp2_with fail
        refine bodyPost_ret (v := .agg #[.int .i64 k, .int .i64 0, .slice a2 n2 m2]) (by simp [results, Try.results86, go_sem, c4]) rfl ?_
        exact hf.out _ _ _

theorem rand_any : RandT 4 45 31 := by
  have h2 := randS 1 3 1 rand1 (by omega) (by omega) (by omega)
  have h3 := randS 2 _ _ h2 (by omega) (by omega) (by omega)
  have h4 := randS 3 _ _ h3 (by omega) (by omega) (by omega)
  intro w R B p hr hp
  refine (h4 w R B p hr (by omega)).mono ?_
  rintro e w' ⟨v, t, p', rfl, hn, hm, hb, hr', hp'⟩
  exact ⟨v, t, p', rfl, hn, by omega, hb, hr', by omega⟩
theorem rand_le (d : Int) (h1 : 2 ≤ d) (h2 : d ≤ 4) (w : World) (R B p : Nat) (hr : Rd B w R p) (hp : p + 45 ≤ 1000000) : Calls Try.prog 86 #[.pointer (some ⟨R, 0, none⟩), .int .i64 d] w (DrawPost B 45 31 R p w) := by
  have h2' := randS 1 3 1 rand1 (by omega) (by omega) (by omega)
  have h3' := randS 2 _ _ h2' (by omega) (by omega) (by omega)
  have hw : ∀ {K M w' e}, K ≤ 45 → M ≤ 31 → DrawPost B K M R p w e w' → DrawPost B 45 31 R p w e w' := by
    rintro K M w' e hK hM ⟨v, t, p', rfl, hn, hm, hb, hr', hp'⟩
    exact ⟨v, t, p', rfl, hn, by omega, hb, hr', by omega⟩
  rcases (by omega : d = 2 ∨ d = 3 ∨ d = 4) with rfl | rfl | rfl
  · exact (h2' w R B p hr (by omega)).mono fun e w' h => hw (by omega) (by omega) h
  · exact (h3' w R B p hr (by omega)).mono fun e w' h => hw (by omega) (by omega) h
  · exact rand_any w R B p hr hp

end Branching
end Go.Proofs.Ythjhokifonjeaaa
namespace Go.Proofs.Ythjhokifonjeaaa
open Go.RowKit
namespace Branching

def CntT (t : Tr) : Prop := ∀ (w : World) (x : Value) (d : Int), TrIn Any w t x → 0 ≤ d → d ≤ 6 → nodes t ≤ 1000 → Calls Try.prog 67 #[x, .int .i64 d] w (Ret (.int .i64 (cnt t d)) w)

set_option maxHeartbeats 1000000 in
theorem cntT_of (k v : Int) (kids : List Tr) (h : ∀ t, t ∈ kids → CntT t) : CntT (.mk k v kids) := by
  intro w x d hx hd1 hd2 hn
  rw [TrIn_mk] at hx
  obtain ⟨a, n, c, rfl, hk, hv, rfl, hc, hc2, hks⟩ := hx
  unfold maxLen at hc2
  have hbnd := cnt_le_nodesL kids (d - 1)
  simp only [nodes] at hn
  have E := hid (show cnt (.mk k v kids) d = 1 + if 0 < d then cntL kids (d - 1) else 0 by simp only [cnt])
  by_cases hd : 0 < d
  · go_enter Try.func67, Try.ntmps67
    go_wp2_with fail
    go_loopw [5, 6] (fun s i wr => ∃ (j : Nat) (m : Int), j ≤ kids.length ∧ s = .int .i64 m ∧ i = .int .i64 j ∧ 1 ≤ m ∧ m ≤ 1001 ∧ Below w.heap.size w wr ∧ w.heap.size < wr.heap.size ∧ wr.cell? ⟨w.heap.size, 2, none⟩ = some (.slice a kids.length c) ∧ Hid (m + cntL (kids.drop j) (d - 1) = 1 + cntL kids (d - 1)))
      (fun _ i _ => kids.length - (intOf i).toNat)
    case atStart => exact ⟨0, 1, Nat.zero_le _, rfl, rfl, by omega, by omega, (by repeat (first | exact Below.refl _ _ | assumption | refine below_a ?_ _ | refine below_o ?_ _ | refine below_d ?_ | refine below_n ?_ _ | refine below_s ?_ (by first | (simp; done) | (simp; omega) | omega) _)), by simp, by simp [go_sem], hid rfl⟩
    case round =>
      obtain ⟨j, m, hj, rfl, rfl, hm1, hm2, hb, hsz, q2, hr⟩ := hrel
      by_cases hlt : j < kids.length
      · obtain ⟨b, o, c0, c1, c2, t, rfl, gb, g0, g1, g2, hT⟩ := TrsIn_round hks hb hlt
        have HR2 := hr.out
        rw [hT.out.2.2.1] at HR2
        simp only [cntL] at HR2
        have hp := cntL_pos (kids.drop (j + 1)) (d - 1)
        have hp2 := cnt_pos t (d - 1)
        have hm3 : m + cnt t (d - 1) ≤ 1001 := by omega
        have HR := hid (show m + cnt t (d - 1) + cntL (kids.drop (j + 1)) (d - 1) = 1 + cntL kids (d - 1) by omega); clear HR2
        have htn : nodes t ≤ 1000 := by have := nodes_mem hT.out.2.1; omega
        clear hp
        go_wp2_with fail
        refine (h t hT.out.2.1 _ _ (d - 1) hT.out.1 (by omega) (by omega) htn).mono ?_
        rintro e w2 ⟨rfl, hby⟩
        obtain ⟨y, rfl⟩ := bex hby
        clear hby
        go_wp2_with fail
        go_roundw
        case rel => exact ⟨j + 1, m + cnt t (d - 1), by omega, rfl, by go_num, by omega, hm3, (by repeat (first | exact Below.refl _ _ | assumption | refine below_a ?_ _ | refine below_o ?_ _ | refine below_d ?_ | refine below_n ?_ _ | refine below_s ?_ (by first | (simp; done) | (simp; omega) | omega) _)), by simp [go_sem, hsz], by simp [go_sem, hsz, q2], HR⟩
        case measure => simp [intOf]; omega
      · have HR2 := hr.out
        rw [List.drop_of_length_le (by omega)] at HR2
        simp only [cntL] at HR2
        have HR := hid (show m = cnt (.mk k v kids) d by rw [E.out, if_pos hd]; omega); clear HR2
        go_wp2_with fail
        go_ret
        exact Ret.mk (int_val HR.out) hb
  · have E2 := hid (show cnt (.mk k v kids) d = 1 by rw [E.out, if_neg hd]; omega)
    go_enter Try.func67, Try.ntmps67
    go_wp2_with fail
    go_loopw [5, 6] (fun s i wr => s = .int .i64 1 ∧ i = .int .i64 0 ∧ Below w.heap.size w wr ∧ w.heap.size < wr.heap.size ∧ wr.cell? ⟨w.heap.size, 2, none⟩ = some (.slice a kids.length c)) (fun _ _ _ => 0)
    case atStart => exact ⟨rfl, rfl, (by repeat (first | exact Below.refl _ _ | assumption | refine below_a ?_ _ | refine below_o ?_ _ | refine below_d ?_ | refine below_n ?_ _ | refine below_s ?_ (by first | (simp; done) | (simp; omega) | omega) _)), by simp, by simp [go_sem]⟩
    case round =>
      obtain ⟨rfl, rfl, hb, hsz, q2⟩ := hrel
      by_cases hlt : 0 < kids.length
      all_goals
        go_wp2_with fail
        go_ret
        exact Ret.mk (int_val E2.out.symm) hb

theorem cnt_any : ∀ t, CntT t := fun t => Tr.ind (fun k v kids ih => cntT_of k v kids ih) t

set_option maxHeartbeats 400000 in
/-- the reference's BranchingValid -/
theorem specValid_any (t : Tr) (w : World) (x : Value) (hx : TrIn Any w t x) : Calls Try.prog 38 #[x] w (Ret (.bool (branL.valid t)) w) := by
  have hx0 := hx
  obtain ⟨a, c, rfl⟩ := TrIn_shape hx
  have E := hid (branL.valid_cnt t)
  cases hs : branL.shape t 6 with
  | false =>
    have E2 := E.out
    rw [hs, Bool.false_and] at E2
    have E3 := hid E2; clear E2
    go_enter Try.func38, Try.ntmps38
    go_wp2_with fail
    refine (shape_any t _ _ 6 (TrIn_alloc hx _) (by omega) (by omega)).mono ?_
    rintro e w2 ⟨rfl, hby⟩
    obtain ⟨y, rfl⟩ := bex hby
    clear hby
    rw [hs]
    clear hs
    go_wp2_with fail
    go_ret
    exact Ret.mk (bool_val E3.out.symm) (by repeat (first | exact Below.refl _ _ | assumption | refine below_a ?_ _ | refine below_o ?_ _ | refine below_d ?_ | refine below_n ?_ _ | refine below_s ?_ (by first | (simp; done) | (simp; omega) | omega) _))
  | true =>
    have E2 := E.out
    rw [hs, Bool.true_and] at E2
    have E3 := hid E2; clear E2
    have hn : nodes t ≤ 1000 := by have := Lang.nodes_cap branL branL_two t 6 hs; rw [Lang.cap6] at this; omega
    go_enter Try.func38, Try.ntmps38
    go_wp2_with fail
    refine (shape_any t _ _ 6 (TrIn_alloc hx _) (by omega) (by omega)).mono ?_
    rintro e w2 ⟨rfl, hby⟩
    obtain ⟨y, rfl⟩ := bex hby
    clear hby
    rw [hs]
    clear hs
    go_wp2_with fail
    refine (cnt_any t _ _ 6 (TrIn_over (TrIn_alloc hx _) _) (by omega) (by omega) hn).mono ?_
    rintro e w3 ⟨rfl, hby⟩
    obtain ⟨y2, rfl⟩ := bex hby
    clear hby
    go_wp2_with fail
    all_goals go_ret
    all_goals refine Ret.mk (bool_val ?_) (by repeat (first | exact Below.refl _ _ | assumption | refine below_a ?_ _ | refine below_o ?_ _ | refine below_d ?_ | refine below_n ?_ _ | refine below_s ?_ (by first | (simp; done) | (simp; omega) | omega) _))
    all_goals rw [E3.out]
    all_goals rfl

end Branching
end Go.Proofs.Ythjhokifonjeaaa
namespace Go.Proofs.Ythjhokifonjeaaa
open Go.RowKit
namespace Branching

/-- what a call of l11Formula comes to: a new, valid tree -/
def FormPost (B : Nat) (R p : Nat) (w : World) (e : Ending) (w' : World) : Prop :=
  ∃ v t p', e = .returned v ∧ NewTr w.heap.size t v w' ∧ nodes t ≤ 31 ∧ branL.valid t = true ∧ But w R w' ∧ Rd B w' R p' ∧ p' ≤ p + 46
theorem FormPost.ret {B : Nat} {R p p' N : Nat} {w W : World} {t : Tr} {x : Value} (hn : NewTr N t x W) (hN : w.heap.size < N) (hM : nodes t ≤ 31) (hv : branL.valid t = true) (hb : But w R W) (hr : Rd B W R p') (hp : p' ≤ p + 46) (hB : B ≤ w.heap.size) (u0 u1 u2 : Value) :
    FormPost B R p w (.returned x) (((W.setCell ⟨w.heap.size, 0, none⟩ u0).setCell ⟨w.heap.size, 1, none⟩ u1).setCell ⟨w.heap.size, 2, none⟩ u2) :=
  ⟨x, t, p', rfl, (hn.keep (((Keep.set _ hN _).trans (Keep.set _ hN _)).trans (Keep.set _ hN _))).mono (Nat.le_of_lt hN), hM, hv, But.setNew (But.setNew (But.setNew hb (Nat.le_refl _) _) (Nat.le_refl _) _) (Nat.le_refl _) _,
    ((hr.set hB _).set hB _).set hB _, hp⟩

set_option maxRecDepth 100000 in
set_option maxHeartbeats 1000000 in
theorem form_any (w : World) (R B p : Nat) (hr : Rd B w R p) (hp : p + 46 ≤ 1000000) : Calls Try.prog 57 #[.pointer (some ⟨R, 0, none⟩)] w (FormPost B R p w) := by
  have hB := hr.lt
  go_enter Try.func57, Try.ntmps57
  go_wp2_with fail
  refine (num_at [3, 2, 4, 3] 2 4 (by simp) (by decide) (by decide) B _ _ _ R p (by simp) (hr.next (below_alloc _ _)) (by omega)).mono ?_
  rintro e w1 ⟨d, rfl, ⟨hd1, hd2⟩, hb1, hr1⟩
  have c4 := box3_but hb1 (by omega) (box3_next (below_alloc _ _) (box3_new w (.int .i64 0) (.int .i64 0) (.slice none 0 0) 39))
  have B1 := ((But.of (D := R) (below_alloc w _)).next (below_alloc _ _)).trans hb1
  clear hb1
  go_wp2_with fail
  refine (rand_le d hd1 hd2 _ R B (p + 1) hr1 (by omega)).mono ?_
  rintro e w2 ⟨v, t, p2, rfl, hn, hnt, hb2, hr2, hp2⟩
  have hN : w.heap.size < w1.heap.size := c4.1
  replace c4 := box3_but hb2 (by omega) c4
  replace B1 := B1.trans hb2
  obtain ⟨a1, n1, rfl⟩ := TrIn_shape hn.any
  clear hb2 hr1
  go_wp2_with fail
  refine (specValid_any t _ _ (hn.below (below_alloc _ _)).any).mono ?_
  rintro e w3 ⟨rfl, hb3⟩
  replace hn := (hn.below (below_alloc _ _)).below hb3
  replace c4 := box3_next hb3 (box3_next (below_alloc _ _) c4)
  have cf := box3_next hb3 (box3_at (t := 39) (a := .int .i64 t.kind) (b := .int .i64 t.val) (c := .slice a1 t.kids.length n1) (w := w2) rfl)
  replace B1 := (B1.next (below_alloc _ _)).next hb3
  replace hr2 := (hr2.next (below_alloc _ _)).next hb3
  clear hb3
  cases hv : branL.valid t with
  | true =>
    have hf := hid (fun u0 u1 u2 => FormPost.ret (w := w) hn hN hnt hv B1 hr2 (p := p) (by omega) hB.2 u0 u1 u2)
    clear hr2 B1 hn hv
    go_wp2_with fail
    refine bodyPost_ret (v := .agg #[.int .i64 t.kind, .int .i64 t.val, .slice a1 t.kids.length n1]) (by simp [results, Try.results57, go_sem, c4]) rfl ?_
    exact hf.out _ _ _
  | false =>
    clear hv
    go_wp2_with fail
    refine bodyPost_ret (v := .agg #[.int .i64 8, .int .i64 0, .slice (some ⟨w3.heap.size, 0, none⟩) 1 1]) (by simp [results, Try.results57, go_sem, c4]) rfl ?_
    have hs := c4.1
    refine ⟨_, .mk 8 0 [.mk 2 0 []], p2, rfl, (new_one _ (by unfold i64; omega) (by unfold i64; omega) (by unfold i64; omega) (by unfold i64; omega) _ _ (by simp)).mono (by simp; omega), by simp [nodes, nodesL], by kernel_rfl,
      (But.setNew (But.setNew (But.setNew B1 (Nat.le_refl _) _) (Nat.le_refl _) _) (Nat.le_refl _) _).next (below_alloc _ _), (((hr2.set hB.2 _).set hB.2 _).set hB.2 _).next (below_alloc _ _), by omega⟩

set_option maxRecDepth 100000 in
set_option maxHeartbeats 2000000 in
theorem mut_any (w : World) (R B p : Nat) (t : Tr) (x : Value) (hx : TrIn Any w t x) (hm : nodes t ≤ 1000) (hr : Rd B w R p) (hp : p + 2 ≤ 1000000) : Calls Try.prog 59 #[.pointer (some ⟨R, 0, none⟩), x] w (DrawPost B 2 (nodes t + 1) R p w) := by
  have hB := hr.lt
  have hx0 := hx
  obtain ⟨a, c, rfl⟩ := TrIn_shape hx
  go_enter Try.func59, Try.ntmps59
  go_wp2_with fail
  refine (copy_any t _ _ (TrIn_alloc (TrIn_alloc hx0 _) _) (small_nodes t (by omega))).mono ?_
  rintro e w1 ⟨v, rfl, ⟨u, rfl, hi1, hi2, ho⟩, hb1⟩
  obtain ⟨a2, n2, m2, rfl⟩ : ∃ a2 n2 m2, u = .slice a2 n2 m2 := by obtain ⟨a2, m2, h2, _⟩ := ho.shape; exact ⟨_, _, _, h2⟩
  have B1 := ((But.of (D := R) (below_alloc w _)).next (below_alloc _ _)).next hb1
  have hr1 := ((hr.next (below_alloc _ _)).next (below_alloc _ _)).next hb1
  have c4 := box3_next hb1 (box3_at (w := w.alloc _) (B := w.heap.size + 1) (a := .int .i64 0) (b := .int .i64 0) (c := .slice none 0 0) (t := 39) (by simp))
  clear hb1
  go_wp2_with fail
  refine (pick_any B _ _ R p (hr1.next (below_alloc _ _)) (by omega) (by omega) (by omega)).mono ?_
  rintro e w2 ⟨i, rfl, _, hb2, hr2⟩
  have hsz := c4.1
  replace c4 := box3_but hb2 (by omega) (box3_next (below_alloc _ _) c4)
  have cf := box3_but hb2 (by omega) (box3_at (t := 39) (a := .int .i64 t.kind) (b := .int .i64 t.val) (c := .slice a2 n2 m2) (w := w1) rfl)
  simp only [World.size_alloc] at ho
  have K2 : Keep (w.heap.size + 1 + 1) w1 w2 := (Keep.alloc w1 _).trans (Keep.but hb2 (by omega))
  replace B1 := (B1.next (below_alloc _ _)).trans hb2
  clear hb2 hr1
  have hw1 : w1.heap.size < w2.heap.size := cf.1
  by_cases i0 : i = 0
  · subst i0
    go_wp2_with fail
    refine (num_new [0, 12, -1, 2, 3, 4] (-1) 12 (by simp) (by decide) (by decide) B w2 _ R (p + 1) hr2 (by omega)).mono ?_
    rintro e w3 ⟨k, rfl, ⟨hk1, hk2⟩, hb3, hr3⟩
    replace c4 := box3_but hb3 (by omega) (box3_next (below_alloc _ _) c4)
    replace cf := box3_but hb3 (by omega) (box3_next (below_alloc _ _) cf)
    replace B1 := (B1.next (below_alloc _ _)).trans hb3
    have K3 : Keep (w.heap.size + 1 + 1) w1 w3 := (K2.trans (Keep.alloc w2 _)).trans (Keep.but hb3 (by omega))
    have hn := fun v => (ho.keep (K3.setHi (a := ⟨w1.heap.size, 0, none⟩) (Nat.le_refl _) v)).node (k := k) (v := t.val) (by unfold i64; omega) hi2
    have hf := hid (fun v u0 u1 u2 => DrawPost.at (w := w) (K := 2) (M := nodes t + 1) (b := w.heap.size + 1) (hn v) (by omega) (by omega) (by rw [nodes_kids t]; simp only [nodes]; omega) (B1.setNew (a := ⟨w1.heap.size, 0, none⟩) (by simp; omega) v) (hr3.set (a := ⟨w1.heap.size, 0, none⟩) (by simp; omega) v) (p := p) (by omega) hB.2 u0 u1 u2)
    clear hr2 hr3 B1 ho hb3 K2 K3 hn
    go_wp2_with fail
    refine bodyPost_ret (v := .agg #[.int .i64 k, .int .i64 t.val, .slice a2 n2 m2]) (by simp [results, Try.results59, go_sem, c4]) rfl ?_
    exact hf.out _ _ _ _
  have e0 : (i == 0) = false := by simpa using i0
  by_cases i1 : i = 1
  · subst i1
    go_wp2_with fail
    refine (num_new [-1, 3, 2, 9223372036854775807] (-1) 9223372036854775807 (by simp) (by decide) (by decide) B w2 _ R (p + 1) hr2 (by omega)).mono ?_
    rintro e w3 ⟨k, rfl, ⟨hk1, hk2⟩, hb3, hr3⟩
    replace c4 := box3_but hb3 (by omega) (box3_next (below_alloc _ _) c4)
    replace cf := box3_but hb3 (by omega) (box3_next (below_alloc _ _) cf)
    replace B1 := (B1.next (below_alloc _ _)).trans hb3
    have K3 : Keep (w.heap.size + 1 + 1) w1 w3 := (K2.trans (Keep.alloc w2 _)).trans (Keep.but hb3 (by omega))
    have hn := fun v => (ho.keep (K3.setHi (a := ⟨w1.heap.size, 1, none⟩) (Nat.le_refl _) v)).node (k := t.kind) (v := k) hi1 (by unfold i64; omega)
    have hf := hid (fun v u0 u1 u2 => DrawPost.at (w := w) (K := 2) (M := nodes t + 1) (b := w.heap.size + 1) (hn v) (by omega) (by omega) (by rw [nodes_kids t]; simp only [nodes]; omega) (B1.setNew (a := ⟨w1.heap.size, 1, none⟩) (by simp; omega) v) (hr3.set (a := ⟨w1.heap.size, 1, none⟩) (by simp; omega) v) (p := p) (by omega) hB.2 u0 u1 u2)
    clear hr2 hr3 B1 ho hb3 K2 K3 hn
    go_wp2_with fail
    refine bodyPost_ret (v := .agg #[.int .i64 t.kind, .int .i64 k, .slice a2 n2 m2]) (by simp [results, Try.results59, go_sem, c4]) rfl ?_
    exact hf.out _ _ _ _
  have e1 : (i == 1) = false := by simpa using i1
  by_cases i2 : i = 2
  · subst i2
    obtain ⟨D, hD1, hD2, hD3⟩ : ∃ D, D ≠ w1.heap.size ∧ w.heap.size + 1 + 1 ≤ D ∧ ∀ k, (Value.slice a2 n2 m2).ownBlock = some k → k = D := by
      cases hu : (Value.slice a2 n2 m2).ownBlock with
      | none => exact ⟨w2.heap.size, by omega, by omega, by simp⟩
      | some k =>
        obtain ⟨xs, bs, o1, _⟩ := ho
        have := o1.lt k hu
        exact ⟨k, by omega, this.1, by simp⟩
    have hl : t.kids.length ≤ 1048576 := by have := nodes_kids t; have := len_nodes t.kids; omega
    have hleaf := leaf_new w2.heap.size w2 (k := 1) (v := 0) (by unfold i64; omega) (by unfold i64; omega)
    have cf' := cf
    obtain ⟨q0, q1, q2, q3, q4, q5, q6⟩ := cf'
    go_wp2_with (refine wp_append_node rfl (.tmp 25) (.tmp 27) 37 rfl 39 Try.underlying37 rowInfo (by rfl) (by rfl) (by intro x hx; simp at hx; rcases hx with rfl | rfl | rfl <;> rfl) ho (by omega) K2 (Nat.le_of_lt hw1) hleaf hl ?_)
    intro a5 n5 m5 w5 ho5 hb5 hbD hav
    have B52 := hbD D hD3
    have c4' := box3_but B52 (by omega) c4
    have cf' := box3_but B52 (by omega) cf
    have hr5 : Rd B w5 R (p + 1) := hr2.keep hb5.size fun b hb => hb5.block b (by omega)
    have B5 : But w R w5 := ⟨B52.os.trans B1.os, B52.tape.trans B1.tape, B52.output.trans B1.output, Nat.le_trans B1.size B52.size, fun k hk hd => (B52.block k (by have := B1.size; omega) (by omega)).trans (B1.block k hk hd)⟩
    have hs5 := hb5.size
    have hn := fun v => (hav w1.heap.size 2 v (Nat.le_refl _) hw1).node hi1 hi2
    have hf := hid (fun v u0 u1 u2 => DrawPost.at (w := w) (K := 2) (M := nodes t + 1) (b := w.heap.size + 1) (hn v) (by omega) (by omega) (by rw [nodes_kids t]; simp only [nodes, nodesL_snoc, nodesL]; omega) (B5.setNew (a := ⟨w1.heap.size, 2, none⟩) (by simp; omega) v) (hr5.set (a := ⟨w1.heap.size, 2, none⟩) (by simp; omega) v) (p := p) (by omega) hB.2 u0 u1 u2)
    clear hr2 hr5 B1 B5 ho ho5 hb5 hbD hav K2 B52 hn c4 cf q0 q1 q2 q3 q4 q5 q6
    have cf := cf'
    have c4 := c4'
    obtain ⟨q0, q1, q2, q3, q4, q5, q6⟩ := cf'
    go_wp2_with fail
    refine bodyPost_ret (v := .agg #[.int .i64 t.kind, .int .i64 t.val, .slice a5 n5 m5]) (by simp [results, Try.results59, go_sem, c4]) rfl ?_
    exact hf.out _ _ _ _
  have e2 : (i == 2) = false := by simpa using i2
  by_cases i3 : i = 3
  · subst i3
    have hf := hid (fun u0 u1 u2 => DrawPost.at (w := w) (K := 2) (M := nodes t + 1) (b := w.heap.size + 1) (leaf_new (w.heap.size + 1 + 1) w2 (k := 0) (v := 0) (by unfold i64; omega) (by unfold i64; omega)) (by omega) (by omega) (by have := nodes_pos t; simp only [nodes, nodesL]; omega) B1 hr2 (p := p) (by omega) hB.2 u0 u1 u2)
    clear hr2 B1 ho K2
    go_wp2_with fail
    refine bodyPost_ret (v := .agg #[.int .i64 0, .int .i64 0, .slice none 0 0]) (by simp [results, Try.results59, go_sem, c4]) rfl ?_
    exact hf.out _ _ _
  have e3 : (i == 3) = false := by simpa using i3
  have hn := (ho.keep K2).node hi1 hi2
  have hf := hid (fun u0 u1 u2 => DrawPost.at (w := w) (K := 2) (M := nodes t + 1) (b := w.heap.size + 1) hn (by omega) (by omega) (by rw [nodes_kids t]; simp only [nodes]; omega) B1 hr2 (p := p) (by omega) hB.2 u0 u1 u2)
  clear hr2 B1 ho K2 hn
  go_wp2_with fail
  refine bodyPost_ret (v := .agg #[.int .i64 t.kind, .int .i64 t.val, .slice a2 n2 m2]) (by simp [results, Try.results59, go_sem, c4]) rfl ?_
  exact hf.out _ _ _

/-- what the law's argument comes to -/
def Drawn (w : World) (v : Value) (w' : World) : Prop := ∃ t, NewTr w.heap.size t v w' ∧ nodes t ≤ 32

set_option maxRecDepth 100000 in
set_option maxHeartbeats 1000000 in
theorem drawValid_any (w : World) (a : Option Addr) (len cap : Nat) (hb : ByteArg w a len cap) : Calls Try.prog 62 #[.slice a len cap] w (RetP (Drawn w) w) := by
  go_enter Try.func62, Try.ntmps62
  go_wp2_with fail
  refine (open_any _ a len cap (hb.next (below_alloc _ _))).mono ?_
  rintro e w1 ⟨v, rfl, ⟨R, B, rfl, hR, hr⟩, hb1⟩
  have c2 := box3_next hb1 (box3_new w (.int .i64 0) (.int .i64 0) (.slice none 0 0) 39)
  have B1 := below_next (below_alloc w _) hb1
  simp at hR
  clear hb1
  go_wp2_with fail
  refine (form_any w1 R B 0 hr (by omega)).mono ?_
  rintro e w2 ⟨v, t, p2, rfl, hn, hnt, _, hb2, hr2, hp2⟩
  obtain ⟨a1, n1, rfl⟩ := TrIn_shape hn.any
  replace c2 := box3_but hb2 (by omega) c2
  replace B1 := hb2.new B1 (by omega)
  clear hb2 hr
  go_wp2_with fail
  refine (mut_any w2 R B p2 t _ hn.any (by omega) hr2 (by omega)).mono ?_
  rintro e w3 ⟨v, t', p3, rfl, hn', hnt', hb3, hr3, hp3⟩
  obtain ⟨a2, n2, hv⟩ := TrIn_shape hn'.any
  have hl := c2.1
  replace c2 := box3_but hb3 (by omega) c2
  replace B1 := hb3.new B1 (by omega)
  generalize t'.kids.length = m2 at hv
  generalize hk : t'.kind = k at hv
  generalize hw : t'.val = u at hv
  subst hv
  have HN := hid hn'
  clear hb3 hr2 hr3 hn hn'
  go_wp2_with fail
  refine bodyPost_ret (v := .agg #[.int .i64 k, .int .i64 u, .slice a2 m2 n2]) (by simp [results, Try.results62, go_sem, c2]) rfl ?_
  exact RetP.mk ⟨t', (HN.out.keep (((Keep.set _ (by exact hl) _).trans (Keep.set _ (by exact hl) _)).trans (Keep.set _ (by exact hl) _))).mono (by omega), by omega⟩ (by repeat (first | exact Below.refl _ _ | assumption | refine below_a ?_ _ | refine below_o ?_ _ | refine below_d ?_ | refine below_n ?_ _ | refine below_s ?_ (by first | (simp; done) | (simp; omega) | omega) _))

end Branching
end Go.Proofs.Ythjhokifonjeaaa
