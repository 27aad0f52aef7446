/- slices.Reverse of a row of one's own. Conditions: those of the contract. -/
import Derived.Test.YtfemikebklmlpaaSeaS
import Derived.Test.YtfemikebklmlpaaRegOrd
namespace Go.Proofs.Ytfemikebklmlpaa
open Go.RowKit
set_option linter.unusedVariables false
set_option linter.unusedSimpArgs false
namespace Bfs

/-- the first i and the last i have changed places -/
def midL (l : List Int) (i : Nat) : List Int := (List.range l.length).map fun p => if p < i ∨ l.length ≤ p + i then l.getD (l.length - 1 - p) 0 else l.getD p 0
theorem midL_len (l : List Int) (i : Nat) : (midL l i).length = l.length := by simp [midL]
theorem midL_at (l : List Int) (i p : Nat) : (midL l i)[p]? = if p < l.length then some (if p < i ∨ l.length ≤ p + i then l.getD (l.length - 1 - p) 0 else l.getD p 0) else none := by
  unfold midL
  rw [List.getElem?_map]
  by_cases h : p < l.length
  · rw [if_pos h, List.getElem?_range h]; rfl
  · rw [if_neg h, List.getElem?_eq_none (by simpa using h)]; rfl
theorem getD_at (l : List Int) (p : Nat) (h : p < l.length) : l[p]? = some (l.getD p 0) := by rw [List.getD_eq_getElem?_getD, List.getElem?_eq_getElem h]; rfl
theorem mid_zero (l : List Int) : midL l 0 = l := by
  apply List.ext_getElem?
  intro p
  rw [midL_at]
  split
  · rename_i h
    rw [if_neg (by omega), getD_at l p h]
  · rename_i h
    rw [List.getElem?_eq_none (by omega)]
theorem mid_step {l : List Int} {i j : Nat} (h : 2 * i + 1 < l.length) (hj : j = l.length - 1 - i) : ((midL l i).set i (l.getD j 0)).set j (l.getD i 0) = midL l (i + 1) := by
  subst hj
  apply List.ext_getElem?
  intro p
  rw [List.getElem?_set, List.getElem?_set, midL_at, midL_at, List.length_set, midL_len]
  by_cases hp : p < l.length
  · rw [if_pos hp, if_pos hp]
    by_cases e1 : l.length - 1 - i = p
    · rw [if_pos e1, if_pos (by omega), if_pos (by omega), show l.length - 1 - p = i by omega]
    · rw [if_neg e1]
      by_cases e2 : i = p
      · rw [if_pos e2, if_pos (by omega), if_pos (by omega), e2]
      · rw [if_neg e2]
        congr 1
        by_cases e3 : p < i ∨ l.length ≤ p + i
        · rw [if_pos e3, if_pos (by omega)]
        · rw [if_neg e3, if_neg (by omega)]
  · rw [if_neg hp, if_neg hp, if_neg (by omega), if_neg (by omega)]
theorem mid_end {l : List Int} {i : Nat} (h : l.length ≤ 2 * i + 1) : midL l i = l.reverse := by
  apply List.ext_getElem?
  intro p
  rw [midL_at]
  by_cases hp : p < l.length
  · rw [if_pos hp, List.getElem?_reverse hp, getD_at l _ (by omega)]
    congr 1
    by_cases e : p < i ∨ l.length ≤ p + i
    · rw [if_pos e]
    · rw [if_neg e, show l.length - 1 - p = p by omega]
  · rw [if_neg hp, List.getElem?_eq_none (by simpa using hp)]
theorem OwnI.put {B g c : Nat} {l : List Int} {w : World} (h : OwnI B (.slice (some ⟨g, 0, none⟩) l.length c) l w) (j : Nat) (x : Int) : OwnI B (.slice (some ⟨g, 0, none⟩) l.length c) (l.set j x) (w.setCell ⟨g, j, none⟩ (.int .i64 x)) := by
  have := (World.ownsRow.stored h j (.int .i64 x)).1
  unfold OwnI
  rw [List.length_set, List.map_set]
  exact this
/-- the row is turned in its place -/
def RevPost (B g c : Nat) (l : List Int) (w : World) (e : Ending) (w' : World) : Prop := e = .returned (.tuple #[]) ∧ OwnI B (.slice (some ⟨g, 0, none⟩) l.length c) l.reverse w' ∧ But w g w'
set_option maxRecDepth 100000 in
set_option maxHeartbeats 4000000 in
theorem reverse_any (l : List Int) (w : World) (B g c : Nat) (h : OwnI B (.slice (some ⟨g, 0, none⟩) l.length c) l w) : Calls Try.prog 70 #[.slice (some ⟨g, 0, none⟩) l.length c] w (RevPost B g c l w) := by
  have H := hid h
  obtain ⟨n, hn⟩ : ∃ n, n = l.length := ⟨_, rfl⟩
  have hcap : n ≤ c ∧ c ≤ maxLen := by
    rcases h.row with ⟨e, e2⟩ | ⟨g', c', e, h1, h2, h3, h4⟩
    · cases e2
    · simp at e; obtain ⟨rfl, rfl⟩ := e; exact ⟨by omega, h3⟩
  have HRV := hid (show ∀ W, OwnI B (.slice (some ⟨g, 0, none⟩) n c) l.reverse W → But w g W → RevPost B g c l w (.returned (.tuple #[])) W from fun W h1 h2 => ⟨rfl, by rw [← hn]; exact h1, h2⟩)
  have HLN := hid hn
  rw [← hn] at H ⊢
  obtain ⟨hc, hc2⟩ := hcap
  unfold maxLen at hc2
  clear h hn
  go_enter Try.func70, Try.ntmps70
  go_wp2_with fail
  go_loopw [2, 3] (fun vi vj wr => ∃ i : Nat, vi = .int .i64 i ∧ vj = .int .i64 ((n : Int) - 1 - i) ∧ Hid (OwnI B (.slice (some ⟨g, 0, none⟩) n c) (midL l i) wr) ∧ Hid (But w g wr)) (fun vi _ _ => n - (intOf vi).toNat)
  case atStart => exact ⟨0, rfl, by go_num, hid (by rw [mid_zero]; exact H.out), hid (But.refl _ _)⟩
  case round =>
    obtain ⟨i, rfl, rfl, HO, HB⟩ := hrel
    obtain ⟨wq, rfl⟩ : ∃ wq : World, wq = wr := ⟨_, rfl⟩
    by_cases hlt : 2 * i + 1 < n
    · obtain ⟨j, hj⟩ : ∃ j : Nat, (n : Int) - 1 - i = j := ⟨n - 1 - i, by omega⟩
      have hjl : j = l.length - 1 - i := by have := HLN.out; omega
      have hij : i ≠ j := by omega
      have hij2 : (i : Int) < (j : Int) := by omega
      have hjn : (j : Int) < (n : Int) := by omega
      have hin : (i : Int) < (n : Int) := by omega
      rw [hj]
      obtain ⟨wo, hwo⟩ : ∃ wo, wo = wq.drew := ⟨_, rfl⟩
      replace HO := hid (show OwnI B (.slice (some ⟨g, 0, none⟩) n c) (midL l i) wo by rw [hwo]; exact HO.out.next (below_d (Below.refl _ _)))
      replace HB := hid (show But w g wo by rw [hwo]; exact HB.out.drew)
      have hcell : ∀ p x, (midL l i)[p]? = some x → wo.cell? ⟨g, p, none⟩ = some (.int .i64 x) := fun p x hp => by
        have h := World.ownsRow.cells HO.out (g := g) rfl p (.int .i64 x) (by rw [List.getElem?_map, hp]; rfl)
        by_cases h0 : p = 0
        · subst h0; simpa [Addr.add] using h
        · simpa [Addr.add, h0] using h
      have hl := HLN.out
      have c1 := hcell i (l.getD i 0) (by rw [midL_at, if_pos (by omega), if_neg (by omega)])
      have c2 := hcell j (l.getD j 0) (by rw [midL_at, if_pos (by omega), if_neg (by omega)])
      have f1 : wo.frozen? ⟨g, i, none⟩ = false := World.ownsRow.frozenAt (n := n) (by have := HO.out; unfold OwnI at this; rw [midL_len, ← hl] at this; exact this) i
      have f2 : wo.frozen? ⟨g, j, none⟩ = false := World.ownsRow.frozenAt (n := n) (by have := HO.out; unfold OwnI at this; rw [midL_len, ← hl] at this; exact this) j
      have HN := hid (show OwnI B (.slice (some ⟨g, 0, none⟩) n c) (midL l (i + 1)) ((wo.setCell ⟨g, i, none⟩ (.int .i64 (l.getD j 0))).setCell ⟨g, j, none⟩ (.int .i64 (l.getD i 0))) from by
        have hm := midL_len l i
        have k1 := OwnI.put (c := c) (by rw [hm, ← hl]; exact HO.out) i (l.getD j 0)
        have k2 := OwnI.put (c := c) (by rw [List.length_set]; exact k1) j (l.getD i 0)
        rw [mid_step (by omega) hjl] at k2
        rw [List.length_set, hm, ← hl] at k2
        exact k2)
      have HBN := hid (show But w g ((wo.setCell ⟨g, i, none⟩ (.int .i64 (l.getD j 0))).setCell ⟨g, j, none⟩ (.int .i64 (l.getD i 0))) from (HB.out.trans (But.set _ _ _ _)).trans (But.set _ _ _ _))
      have c3 : (wo.setCell ⟨g, i, none⟩ (.int .i64 (l.getD j 0))).cell? ⟨g, j, none⟩ = some (.int .i64 (l.getD j 0)) := by
        rw [World.cell?_setCell_other _ _ _ _ (by intro h; have := congrArg Addr.off h; simp at this; omega)]; exact c2
      have f3 : (wo.setCell ⟨g, i, none⟩ (.int .i64 (l.getD j 0))).frozen? ⟨g, j, none⟩ = false := by simpa using f2
      generalize l.getD i 0 = xi at *
      generalize l.getD j 0 = xj at *
      have HJ := hid hj
      clear hcell hj hjl hl HO HB
      go_wp2_with fail
      refine wp_region_ord (C := fun _ => True) [0,1,2,3,4,5,6,8,9,10] (.two 7 11 (.one 11 (.one 12 (.one 13 (.one 14 (.one 15 .done))))) (.one 7 (.one 12 (.one 13 (.one 14 (.one 15 .done)))))) [] (by kernel_rfl) (by kernel_rfl) (fun d _ _ _ _ h => by cases d <;> exact h) trivial ?_; simp only [pick, List.getElem?_cons_succ, List.getElem?_cons_zero]; (repeat (go_big_quiet_step (fail))); refine wpQuiet_nil ?_; simp only [ordW, pick, List.getElem?_cons_succ, List.getElem?_cons_zero]
      rw [← hwo]
      clear hwo
      constructor
      all_goals
        go_wp2_with fail
        refine ⟨trivial, ?_⟩
        go_wp2_with fail
        refine ⟨trivial, ?_⟩
        go_wp2_with fail
        refine ⟨trivial, ?_⟩
        go_wp2_with fail
        refine ⟨trivial, ?_⟩
        go_wp2_with fail
        refine ⟨trivial, ?_⟩
        go_wp2_with fail
        refine ⟨trivial, ?_⟩
        go_wp2_with fail
        go_roundw
        case rel => exact ⟨i + 1, by go_num, by have := HJ.out; go_num, HN, HBN⟩
        case measure => simp [intOf]; omega
    · have HF := hid (HRV.out wq (by rw [← mid_end (l := l) (i := i) (by have := HLN.out; omega)]; exact HO.out) HB.out)
      have hij2 : ¬ ((i : Int) < (n : Int) - 1 - i) := by omega
      clear HO HB
      go_wp2_with fail
      refine bodyPost_ret (v := .tuple #[]) (by simp [results, Try.results70]) rfl ?_
      exact HF.out
end Bfs
end Go.Proofs.Ytfemikebklmlpaa
