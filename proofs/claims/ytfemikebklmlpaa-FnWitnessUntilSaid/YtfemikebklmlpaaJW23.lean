/- Joined texts (RevI, ShortI, WuI): contracts and plain laws. Conditions: those of each theorem. -/
import Derived.Test.YtfemikebklmlpaaJW14
import Derived.Test.YtfemikebklmlpaaJW2
import Derived.Test.YtfemikebklmlpaaJW21
set_option linter.unusedVariables false
set_option linter.unusedSimpArgs false
namespace Go.Proofs.Ytfemikebklmlpaa
open Go.RowKit
set_option linter.unusedVariables false
set_option linter.unusedSimpArgs false
namespace Bfs

/-- the first i and the last i have changed places -/
def midL (l : List Int) (i : Nat) : List Int := (List.range l.length).map fun p => if p < i ∨ l.length ≤ p + i then l.getD (l.length - 1 - p) 0 else l.getD p 0
theorem midL_len (l : List Int) (i : Nat) : (midL l i).length = l.length := by simp [midL]
theorem midL_at (l : List Int) (i p : Nat) : (midL l i)[p]? = if p < l.length then some (if p < i ∨ l.length ≤ p + i then l.getD (l.length - 1 - p) 0 else l.getD p 0) else none := by
  unfold midL
  rw [List.getElem?_map]
  by_cases h : p < l.length
  · rw [if_pos h, List.getElem?_range h]; rfl
  · rw [if_neg h, List.getElem?_eq_none (by simpa using h)]; rfl
theorem getD_at (l : List Int) (p : Nat) (h : p < l.length) : l[p]? = some (l.getD p 0) := by rw [List.getD_eq_getElem?_getD, List.getElem?_eq_getElem h]; rfl
theorem mid_zero (l : List Int) : midL l 0 = l := by
  apply List.ext_getElem?
  intro p
  rw [midL_at]
  split
  · rename_i h
    rw [if_neg (by omega), getD_at l p h]
  · rename_i h
    rw [List.getElem?_eq_none (by omega)]
theorem mid_step {l : List Int} {i j : Nat} (h : 2 * i + 1 < l.length) (hj : j = l.length - 1 - i) : ((midL l i).set i (l.getD j 0)).set j (l.getD i 0) = midL l (i + 1) := by
  subst hj
  apply List.ext_getElem?
  intro p
  rw [List.getElem?_set, List.getElem?_set, midL_at, midL_at, List.length_set, midL_len]
  by_cases hp : p < l.length
  · rw [if_pos hp, if_pos hp]
    by_cases e1 : l.length - 1 - i = p
    · rw [if_pos e1, if_pos (by omega), if_pos (by omega), show l.length - 1 - p = i by omega]
    · rw [if_neg e1]
      by_cases e2 : i = p
      · rw [if_pos e2, if_pos (by omega), if_pos (by omega), e2]
      · rw [if_neg e2]
        congr 1
        by_cases e3 : p < i ∨ l.length ≤ p + i
        · rw [if_pos e3, if_pos (by omega)]
        · rw [if_neg e3, if_neg (by omega)]
  · rw [if_neg hp, if_neg hp, if_neg (by omega), if_neg (by omega)]
theorem mid_end {l : List Int} {i : Nat} (h : l.length ≤ 2 * i + 1) : midL l i = l.reverse := by
  apply List.ext_getElem?
  intro p
  rw [midL_at]
  by_cases hp : p < l.length
  · rw [if_pos hp, List.getElem?_reverse hp, getD_at l _ (by omega)]
    congr 1
    by_cases e : p < i ∨ l.length ≤ p + i
    · rw [if_pos e]
    · rw [if_neg e, show l.length - 1 - p = p by omega]
  · rw [if_neg hp, List.getElem?_eq_none (by simpa using hp)]
theorem OwnI.put {B g c : Nat} {l : List Int} {w : World} (h : OwnI B (.slice (some ⟨g, 0, none⟩) l.length c) l w) (j : Nat) (x : Int) : OwnI B (.slice (some ⟨g, 0, none⟩) l.length c) (l.set j x) (w.setCell ⟨g, j, none⟩ (.int .i64 x)) := by
  have := (World.ownsRow.stored h j (.int .i64 x)).1
  unfold OwnI
  rw [List.length_set, List.map_set]
  exact this
/-- the row is turned in its place -/
def RevPost (B g c : Nat) (l : List Int) (w : World) (e : Ending) (w' : World) : Prop := e = .returned (.tuple #[]) ∧ OwnI B (.slice (some ⟨g, 0, none⟩) l.length c) l.reverse w' ∧ But w g w'
set_option maxRecDepth 100000 in
set_option maxHeartbeats 4000000 in
theorem reverse_any (l : List Int) (w : World) (B g c : Nat) (h : OwnI B (.slice (some ⟨g, 0, none⟩) l.length c) l w) : Calls Try.prog 70 #[.slice (some ⟨g, 0, none⟩) l.length c] w (RevPost B g c l w) := by
  have H := hid h
  obtain ⟨n, hn⟩ : ∃ n, n = l.length := ⟨_, rfl⟩
  have hcap : n ≤ c ∧ c ≤ maxLen := by
    rcases h.row with ⟨e, e2⟩ | ⟨g', c', e, h1, h2, h3, h4⟩
    · cases e2
    · simp at e; obtain ⟨rfl, rfl⟩ := e; exact ⟨by omega, h3⟩
  have HRV := hid (show ∀ W, OwnI B (.slice (some ⟨g, 0, none⟩) n c) l.reverse W → But w g W → RevPost B g c l w (.returned (.tuple #[])) W from fun W h1 h2 => ⟨rfl, by rw [← hn]; exact h1, h2⟩)
  have HLN := hid hn
  rw [← hn] at H ⊢
  obtain ⟨hc, hc2⟩ := hcap
  unfold maxLen at hc2
  clear h hn
  go_enter Try.func70, Try.ntmps70
  go_wp2_with fail
  go_loopw [2, 3] (fun vi vj wr => ∃ i : Nat, vi = .int .i64 i ∧ vj = .int .i64 ((n : Int) - 1 - i) ∧ Hid (OwnI B (.slice (some ⟨g, 0, none⟩) n c) (midL l i) wr) ∧ Hid (But w g wr)) (fun vi _ _ => n - (intOf vi).toNat)
  case atStart => exact ⟨0, rfl, by go_num, hid (by rw [mid_zero]; exact H.out), hid (But.refl _ _)⟩
  case round =>
    obtain ⟨i, rfl, rfl, HO, HB⟩ := hrel
    obtain ⟨wq, rfl⟩ : ∃ wq : World, wq = wr := ⟨_, rfl⟩
    by_cases hlt : 2 * i + 1 < n
    · obtain ⟨j, hj⟩ : ∃ j : Nat, (n : Int) - 1 - i = j := ⟨n - 1 - i, by omega⟩
      have hjl : j = l.length - 1 - i := by have := HLN.out; omega
      have hij : i ≠ j := by omega
      have hij2 : (i : Int) < (j : Int) := by omega
      have hjn : (j : Int) < (n : Int) := by omega
      have hin : (i : Int) < (n : Int) := by omega
      rw [hj]
      obtain ⟨wo, hwo⟩ : ∃ wo, wo = wq.drew := ⟨_, rfl⟩
      replace HO := hid (show OwnI B (.slice (some ⟨g, 0, none⟩) n c) (midL l i) wo by rw [hwo]; exact HO.out.next (below_d (Below.refl _ _)))
      replace HB := hid (show But w g wo by rw [hwo]; exact HB.out.drew)
      have hcell : ∀ p x, (midL l i)[p]? = some x → wo.cell? ⟨g, p, none⟩ = some (.int .i64 x) := fun p x hp => by
        have h := World.ownsRow.cells HO.out (g := g) rfl p (.int .i64 x) (by rw [List.getElem?_map, hp]; rfl)
        by_cases h0 : p = 0
        · subst h0; simpa [Addr.add] using h
        · simpa [Addr.add, h0] using h
      have hl := HLN.out
      have c1 := hcell i (l.getD i 0) (by rw [midL_at, if_pos (by omega), if_neg (by omega)])
      have c2 := hcell j (l.getD j 0) (by rw [midL_at, if_pos (by omega), if_neg (by omega)])
      have f1 : wo.frozen? ⟨g, i, none⟩ = false := World.ownsRow.frozenAt (n := n) (by have := HO.out; unfold OwnI at this; rw [midL_len, ← hl] at this; exact this) i
      have f2 : wo.frozen? ⟨g, j, none⟩ = false := World.ownsRow.frozenAt (n := n) (by have := HO.out; unfold OwnI at this; rw [midL_len, ← hl] at this; exact this) j
      have HN := hid (show OwnI B (.slice (some ⟨g, 0, none⟩) n c) (midL l (i + 1)) ((wo.setCell ⟨g, i, none⟩ (.int .i64 (l.getD j 0))).setCell ⟨g, j, none⟩ (.int .i64 (l.getD i 0))) from by
        have hm := midL_len l i
        have k1 := OwnI.put (c := c) (by rw [hm, ← hl]; exact HO.out) i (l.getD j 0)
        have k2 := OwnI.put (c := c) (by rw [List.length_set]; exact k1) j (l.getD i 0)
        rw [mid_step (by omega) hjl] at k2
        rw [List.length_set, hm, ← hl] at k2
        exact k2)
      have HBN := hid (show But w g ((wo.setCell ⟨g, i, none⟩ (.int .i64 (l.getD j 0))).setCell ⟨g, j, none⟩ (.int .i64 (l.getD i 0))) from (HB.out.trans (But.set _ _ _ _)).trans (But.set _ _ _ _))
      have c3 : (wo.setCell ⟨g, i, none⟩ (.int .i64 (l.getD j 0))).cell? ⟨g, j, none⟩ = some (.int .i64 (l.getD j 0)) := by
        rw [World.cell?_setCell_other _ _ _ _ (by intro h; have := congrArg Addr.off h; simp at this; omega)]; exact c2
      have f3 : (wo.setCell ⟨g, i, none⟩ (.int .i64 (l.getD j 0))).frozen? ⟨g, j, none⟩ = false := by simpa using f2
      generalize l.getD i 0 = xi at *
      generalize l.getD j 0 = xj at *
      have HJ := hid hj
      clear hcell hj hjl hl HO HB
      go_wp2_with fail
      refine wp_region_ord (C := fun _ => True) [0,1,2,3,4,5,6,8,9,10] (.two 7 11 (.one 11 (.one 12 (.one 13 (.one 14 (.one 15 .done))))) (.one 7 (.one 12 (.one 13 (.one 14 (.one 15 .done)))))) [] (by kernel_rfl) (by kernel_rfl) (fun d _ _ _ _ h => by cases d <;> exact h) trivial ?_; simp only [pick, List.getElem?_cons_succ, List.getElem?_cons_zero]; (repeat (go_big_quiet_step (fail))); refine wpQuiet_nil ?_; simp only [ordW, pick, List.getElem?_cons_succ, List.getElem?_cons_zero]
      rw [← hwo]
      clear hwo
      constructor
      all_goals
        go_wp2_with fail
        refine ⟨trivial, ?_⟩
        go_wp2_with fail
        refine ⟨trivial, ?_⟩
        go_wp2_with fail
        refine ⟨trivial, ?_⟩
        go_wp2_with fail
        refine ⟨trivial, ?_⟩
        go_wp2_with fail
        refine ⟨trivial, ?_⟩
        go_wp2_with fail
        refine ⟨trivial, ?_⟩
        go_wp2_with fail
        go_roundw
        case rel => exact ⟨i + 1, by go_num, by have := HJ.out; go_num, HN, HBN⟩
        case measure => simp [intOf]; omega
    · have HF := hid (HRV.out wq (by rw [← mid_end (l := l) (i := i) (by have := HLN.out; omega)]; exact HO.out) HB.out)
      have hij2 : ¬ ((i : Int) < (n : Int) - 1 - i) := by omega
      clear HO HB
      go_wp2_with fail
      refine bodyPost_ret (v := .tuple #[]) (by simp [results, Try.results70]) rfl ?_
      exact HF.out
end Bfs
end Go.Proofs.Ytfemikebklmlpaa
namespace Go.Proofs.Ytfemikebklmlpaa
open Go.RowKit
set_option linter.unusedVariables false
set_option linter.unusedSimpArgs false
namespace Bfs
open Gr

set_option maxRecDepth 100000 in
theorem goal_any (goal : List Bool) (n : Nat) (hn : n < goal.length) (w : World) (O td : Nat) (tb : Option Addr) (htd : goal.length ≤ td) (htd2 : td ≤ maxLen) (hO : w.cell? ⟨O, 0, none⟩ = some (.slice tb goal.length td)) (hg : BoolsIn Any w tb goal) :
    Calls Try.prog 38 #[.int .i64 n, .pointer (some ⟨O, 0, none⟩)] w (Ret (.bool (goalOf goal n)) w) := by
  obtain ⟨bg, og, rfl, hbg, _, gg⟩ := bools_at hg (Below.refl _ _) hn
  have hgo : goal[n] = goalOf goal n := by simp [goalOf, List.getD_eq_getElem?_getD, hn]
  rw [hgo] at gg
  generalize goalOf goal n = r at *
  have hO2 := blt hO
  have h1 : (n : Int) < (goal.length : Int) := by omega
  unfold maxLen at htd2
  clear hgo hg
  go_enter Try.func38, Try.ntmps38
  go_wp2_with fail
  go_ret
  exact Ret.mk rfl (Below.refl _ _)
/-- in the program's search: the first new block holds the predecessors, vq is the queue -/
structure ShAt (w : World) (N : Nat) (vq : Value) (par : Nat → Int) (q : List Nat) (wr : World) : Prop where
  below : Below w.heap.size w wr
  rpar : Row wr w.heap.size N (fun m => .int .i64 (par m))
  own : OwnI (w.heap.size + 1) vq (ints q) wr
theorem ShAt.next {w : World} {N : Nat} {vq : Value} {par : Nat → Int} {q : List Nat} {wr w' : World} (h : ShAt w N vq par q wr) (hb : Below wr.heap.size wr w') : ShAt w N vq par q w' :=
  ⟨below_next h.below hb, h.rpar.below hb, h.own.next hb⟩
theorem ShAt.mark {w : World} {N : Nat} {vq : Value} {par par' : Nat → Int} {q : List Nat} {wr : World} {n : Nat} {u : Int} (h : ShAt w N vq par q wr) (hn : n < N) (hp : ∀ m, par' m = if m = n then u else par m) : ShAt w N vq par' q (wr.setCell ⟨w.heap.size, n, none⟩ (.int .i64 u)) where
  below := h.below.setCell (Nat.le_refl _) _
  rpar := (h.rpar.set hn _).congr fun i hi => by
    rw [hp]
    by_cases e : i = n
    · rw [if_pos e, if_pos e]
    · rw [if_neg e, if_neg e]
  own := h.own.set (fun g _ h2 => by show g ≠ w.heap.size; omega) _
theorem ShAt.app {w : World} {N : Nat} {vq v' : Value} {par : Nat → Int} {q : List Nat} {wr w' : World} {n : Nat} (h : ShAt w N vq par q wr) (hv : OwnI (w.heap.size + 1) v' (ints q ++ [(n : Int)]) w') (hg : wr.grownBy w' vq.ownBlock) : ShAt w N v' par (q ++ [n]) w' where
  below := below_own h.below (h.own.mono (Nat.le_succ _)) (Nat.le_refl _) hg
  rpar := h.rpar.kept hg.size (hg.block _ h.rpar.1 (fun e => by have := (h.own.blk _ e.symm).1; omega))
  own := by rw [show ints (q ++ [n]) = ints q ++ [(n : Int)] by simp [ints]]; exact hv
/-- the way back, under way -/
def Way (par : Nat → Int) (l m : List Nat) (x : Int) : Prop := (x = -1 ∧ m = l.reverse) ∨ ∃ (u : Nat) (l1 : List Nat), x = (u : Int) ∧ Chain par u l1 ∧ l1 ++ m.reverse = l
theorem way_step {par : Nat → Int} {l m : List Nat} {u : Nat} {l1 : List Nat} (h : Chain par u l1) (e : l1 ++ m.reverse = l) : Way par l (m ++ [u]) (par u) := by
  rcases chain_cases h with ⟨h1, h2⟩ | ⟨v, l2, h1, h2, h3⟩
  · left
    refine ⟨h1, ?_⟩
    rw [← e, h2, List.reverse_append, List.reverse_reverse]; simp
  · right
    refine ⟨v, l2, h1, h2, ?_⟩
    rw [← e, h3]; simp
theorem push_q {u : Nat} {S : St} {n : Nat} (h : S.par n = -2) : (push u S n).q = S.q ++ [n] := by rw [push_new h]
set_option maxRecDepth 100000 in
set_option maxHeartbeats 4000000 in
theorem shortest_any (nx : List (List Int)) (s : Nat) (goal : List Bool) (w : World) (a b tb : Option Addr) (c cb td O : Nat) (hl : Gr.RowsIn Any w nx a) (hc : nx.length ≤ c) (hc2 : c ≤ maxLen) (hs : s < nx.length) (hN : nx.length ≤ 60) (hgood : Good nx) (hf : IntsIn Any w b [(s : Int)]) (hcb : 1 ≤ cb) (hcb2 : cb ≤ maxLen)
    (hgl : goal.length = nx.length) (htd : goal.length ≤ td) (htd2 : td ≤ maxLen) (hO : w.cell? ⟨O, 0, none⟩ = some (.slice tb goal.length td)) (hg : BoolsIn Any w tb goal) :
    Calls Try.prog 37 #[.slice a nx.length c, .slice b 1 cb, .func (.func 38) #[] #[.pointer (some ⟨O, 0, none⟩)]] w (RetP (NewV w.heap.size ((ints (wuL (adjOf nx) nx.length s (goalOf goal))).map (Value.int .i64))) w) := by
  have HL := hid hl
  have HGD := hid hgood
  have HAD := hid hgood.adj
  have HF := hid (show ∀ W, Below w.heap.size w W → ∃ bf of, b = some ⟨bf, of, none⟩ ∧ bf < W.heap.size ∧ W.cell? ⟨bf, of, none⟩ = some (.int .i64 s) from fun W M => by
    obtain ⟨bf, of, e, h1, _, h2, _⟩ := ints_at (hf.below M) (Below.refl _ _) (k := 0) (by simp)
    exact ⟨bf, of, e, h1, by simpa using h2⟩)
  have HCLO := hid (show ∀ W, Below w.heap.size w W → ∀ n, n < nx.length → Calls Try.prog 38 #[.int .i64 n, .pointer (some ⟨O, 0, none⟩)] W (Ret (.bool (goalOf goal n)) W) from fun W M n hn =>
    goal_any goal n (by omega) W O td tb htd htd2 (by rw [M.cell (p := ⟨O, 0, none⟩) (blt hO)]; exact hO) (hg.below M))
  have HINV := hid (fun (i : Nat) (h : i ≤ (bfs (adjOf nx) s i).q.length) => bfs_inv hs HAD.out i h)
  have HRES1 := hid (fun (j n : Nat) (l : List Nat) (h1 : j ≤ (bfs (adjOf nx) s j).q.length) (h2 : (bfs (adjOf nx) s j).q[j]? = some n) (h3 : goalOf goal n = true) (h4 : ∀ k m, k < j → (bfs (adjOf nx) s j).q[k]? = some m → goalOf goal m = false) (h5 : Chain (bfs (adjOf nx) s j).par n l) => wu_at hs HAD.out h1 h2 h3 h4 h5)
  have HPATH := hid (fun (j n : Nat) (h1 : j ≤ (bfs (adjOf nx) s j).q.length) (h2 : (bfs (adjOf nx) s j).q[j]? = some n) => wu_path hs HAD.out hN h1 h2)
  have HRES2 := hid (fun (k : Nat) (h1 : (bfs (adjOf nx) s k).q.length = k) (h2 : ∀ i m, (bfs (adjOf nx) s k).q[i]? = some m → goalOf goal m = false) => wu_none hs HAD.out h1 h2)
  generalize wuL (adjOf nx) nx.length s (goalOf goal) = res at *
  have hmk := make_ints nx.length (by omega)
  have hs2 : (s : Int) < (nx.length : Int) := by omega
  unfold maxLen at hc2 hcb2
  clear hl hgood hf hO hg hgl htd htd2
  go_enter Try.func37, Try.ntmps37
  go_wp2_with fail
  have D0 := hid (below_alloc w (.cells (zerosI nx.length) 3))
  have R0 := hid (show Row (w.alloc (.cells (zerosI nx.length) 3)) w.heap.size nx.length (fun i => .int .i64 (if i < 0 then -2 else 0)) from by
    have h := row_new (w := w) (cs := zerosI nx.length) (n := nx.length) (by rw [zerosI, size_madeCells]) 3
    exact h.congr fun i hi => by simp [zerosI, madeCells, hi, Nat.mod_one, Array.getD])
  go_loopw [8, 22] (fun _ i wr => ∃ k : Nat, k ≤ nx.length ∧ i = .int .i64 k ∧ Hid (Row wr w.heap.size nx.length (fun i => .int .i64 (if i < k then -2 else 0))) ∧ Hid (Below w.heap.size w wr)) (fun _ i _ => nx.length - (intOf i).toNat)
  case atStart => exact ⟨0, Nat.zero_le _, rfl, R0, D0⟩
  case round =>
    obtain ⟨k, hk, rfl, HR, HB⟩ := hrel
    obtain ⟨wo, rfl⟩ : ∃ wo : World, wo = wr := ⟨_, rfl⟩
    clear R0 D0
    by_cases hlt : k < nx.length
    · have hlt2 : (k : Int) < (nx.length : Int) := by omega
      have r1 := HR.out.2.1 k hlt
      have r2 := HR.out.2.2 k
      have r3 := HR.out.1
      have HR2 := hid ((HR.out.set hlt (.int .i64 (-2))).congr (g := fun i => .int .i64 (if i < k + 1 then -2 else 0)) fun i hi => by
        by_cases e : i = k
        · rw [if_pos e, if_pos (by omega)]
        · rw [if_neg e]
          by_cases e2 : i < k
          · rw [if_pos e2, if_pos (by omega)]
          · rw [if_neg e2, if_neg (by omega)])
      have HB2 := hid (HB.out.setCell (p := ⟨w.heap.size, k, none⟩) (Nat.le_refl _) (.int .i64 (-2)))
      go_wp2_with fail
      go_roundw
      case rel => exact ⟨k + 1, by omega, by go_num, HR2, HB2⟩
      case measure => simp [intOf]; omega
    · obtain rfl : k = nx.length := by omega
      have SA0 := hid (show ShAt w nx.length (.slice none 0 0) (fun _ => -2) [] wo from ⟨HB.out, HR.out.congr fun i hi => by rw [if_pos hi], World.ownsRow_nil ..⟩)
      clear HR HB
      go_wp2_with fail
      go_loopw [9, 11, 31] (fun vq _ i wr => ∃ v, v = vq ∧ ((i = .int .i64 0 ∧ v = .slice none 0 0 ∧ Hid (ShAt w nx.length (.slice none 0 0) (fun _ => -2) [] wr)) ∨ (i = .int .i64 1 ∧ Hid (ShAt w nx.length v (bfs (adjOf nx) s 0).par (bfs (adjOf nx) s 0).q wr)))) (fun _ _ i _ => 1 - (intOf i).toNat)
      case atStart => exact ⟨_, rfl, .inl ⟨rfl, rfl, SA0⟩⟩
      case round =>
        obtain ⟨vq, rfl, h⟩ := hrel
        obtain ⟨wi, rfl⟩ : ∃ wi : World, wi = wr := ⟨_, rfl⟩
        clear SA0
        rcases h with ⟨rfl, rfl, HS⟩ | ⟨rfl, HS⟩
        · obtain ⟨bf, of, rfl, hbf, gf⟩ := HF.out _ HS.out.below
          have r1 := HS.out.rpar.2.1 s hs
          have r2 := HS.out.rpar.2.2 s
          have r3 := HS.out.rpar.1
          have HM := hid (HS.out.mark (par' := (bfs (adjOf nx) s 0).par) (u := -1) hs (fun m => rfl))
          clear HS
          go_upto_region 12 with fail
          refine wp_gen (fun W => ShAt w nx.length (.slice none 0 0) (bfs (adjOf nx) s 0).par [] W) HM.out ?_
          clear HM r1 r2 r3 gf hbf
          rintro W1 HM1
          have h0 := below_alloc W1 (.cells #[.int .i64 s] 3)
          have HI := hid (row_one W1 s (by unfold i64; omega))
          have HM2 := hid (HM1.next h0)
          have hz2 := HM1.below.size
          have hz3 : w.heap.size < W1.heap.size := HM1.rpar.1
          clear HM1 h0
          go_wp2_with (at_builtin; refine wp_app_own2 rfl _ _ rfl (w.heap.size + 1) (.slice none 0 0) ([] : List Int) [(s : Int)] (some ⟨W1.heap.size, 0, none⟩) 1 rfl rfl (fun h => by cases h) HM2.out.own (by simp; omega) HI.out (by simp) (by simp) ?_; intro v' w' hv hg hor)
          have HF2 := hid (show ShAt w nx.length v' (bfs (adjOf nx) s 0).par (bfs (adjOf nx) s 0).q w' from HM2.out.app (n := s) hv hg)
          clear hv hg hor HI HM2
          go_wp2_with fail
          go_roundw
          case rel => exact ⟨_, rfl, .inr ⟨by go_num, HF2⟩⟩
          case measure => simp [intOf]
        · have HS0 := HS
          clear HS
          go_wp2_with fail
          go_loopw [9, 12] (fun vq i wr => ∃ (k : Nat) (v : Value), v = vq ∧ i = .int .i64 k ∧ Hid (k ≤ (bfs (adjOf nx) s k).q.length) ∧ Hid (ShAt w nx.length v (bfs (adjOf nx) s k).par (bfs (adjOf nx) s k).q wr) ∧ Hid (∀ (j m : Nat), j < k → (bfs (adjOf nx) s k).q[j]? = some m → goalOf goal m = false)) (fun _ i _ => nx.length - (intOf i).toNat)
          case atStart => exact ⟨0, _, rfl, rfl, hid (Nat.zero_le _), HS0, hid (fun j m h => by omega)⟩
          case round =>
            obtain ⟨k, vq, rfl, rfl, HK, HS, HNG⟩ := hrel
            obtain ⟨wi, rfl⟩ : ∃ wi : World, wi = wr := ⟨_, rfl⟩
            clear HS0
            obtain ⟨S, hS⟩ : ∃ S, Hid (bfs (adjOf nx) s k = S) := ⟨_, hid rfl⟩
            have HI := hid (HINV.out k HK.out)
            have HR1 := hid (HRES1.out k)
            have HR2 := hid (HRES2.out k)
            have HPT := hid (HPATH.out k)
            have hlen := HI.out.len
            rw [hS.out] at HK HS HI hlen HNG HR1 HR2 HPT
            by_cases hkq : k < S.q.length
            · obtain ⟨u, hu⟩ : ∃ u, S.q[k]? = some u := ⟨_, List.getElem?_eq_getElem hkq⟩
              have HU := hid hu
              have huN : u < nx.length := HI.out.lt u (q_at hu)
              have hkN : k < nx.length := by omega
              obtain ⟨gq, nq, cq, rfl, z1, z2, z3, z4, z5, z6⟩ : ∃ gq nq cq, vq = .slice (some ⟨gq, 0, none⟩) nq cq ∧ w.heap.size + 1 ≤ gq ∧ gq < wi.heap.size ∧ nq = S.q.length ∧ nq ≤ cq ∧ cq ≤ maxLen ∧ wi.cell? ⟨gq, k, none⟩ = some (.int .i64 u) := by
                obtain ⟨aq, cq, e, _⟩ := HS.out.own.shape
                subst e
                obtain ⟨g, e, h1, h2, h3, h4, h5, h6⟩ := own_at HS.out.own hu
                subst e
                exact ⟨g, _, cq, rfl, h1, h2, h3, h4, h5, h6⟩
              have hkn : (k : Int) < (nq : Int) := by omega
              have hu2 : (u : Int) < (nx.length : Int) := by omega
              have hNQ := hid z3
              have z6' := hid z6
              unfold maxLen at z5
              clear z3 hlen
              go_wp2_with fail
              refine (HCLO.out wi HS.out.below u huN).mono ?_
              rintro e w1 ⟨rfl, hb⟩
              have HS1 := hid (HS.out.next hb)
              have z7 : w1.cell? ⟨gq, k, none⟩ = some (.int .i64 u) := by rw [hb.cell (p := ⟨gq, k, none⟩) z2]; exact z6
              have z8 : gq < w1.heap.size := Nat.lt_of_lt_of_le z2 hb.size
              clear hb HS z6 z2
              generalize hw1 : w1 = wk at *
              clear hw1 z6'
              cases hgv : goalOf goal u with
              | true =>
                obtain ⟨l, c1, c2, c3⟩ := HPT.out u HK.out hu
                obtain rfl := HR1.out u l HK.out hu hgv HNG.out c1
                have C1 := hid c1
                have C2 := hid c2
                have C3 := hid c3
                obtain ⟨par, hpar⟩ : ∃ par, Hid (S.par = par) := ⟨_, hid rfl⟩
                rw [hpar.out] at C1 C2
                have RP := hid (show Row wk w.heap.size nx.length (fun m => .int .i64 (par m)) by rw [← hpar.out]; exact HS1.out.rpar)
                have BB := hid HS1.out.below
                clear c1 c2 c3 hgv hu HR1 HR2 HPT HI hS HU
                go_wp2_with fail
                go_loopw [13, 14] (fun x vp wr => ∃ (y : Int) (v : Value) (m : List Nat), v = vp ∧ x = .int .i64 y ∧ Hid (Way par res m y) ∧ Hid (OwnI (w.heap.size + 1) v (ints m) wr) ∧ Hid (Below w.heap.size w wr) ∧ Hid (Row wr w.heap.size nx.length (fun m => .int .i64 (par m)))) (fun _ v _ => 101 - lenV v)
                case atStart => exact ⟨u, _, [], rfl, rfl, hid (.inr ⟨u, res, rfl, C1.out, by simp⟩), hid (World.ownsRow_nil ..), BB, RP⟩
                case round =>
                  obtain ⟨y, vp, m, rfl, rfl, HW, HO, HB, HR⟩ := hrel
                  obtain ⟨wo, rfl⟩ : ∃ wo : World, wo = wr := ⟨_, rfl⟩
                  clear RP BB HS1 z7 z8
                  rcases HW.out with ⟨rfl, hm⟩ | ⟨v, l1, rfl, h1, h2⟩
                  · have hne : 0 < m.length := by rw [hm, List.length_reverse]; exact C1.out.pos
                    obtain ⟨gm, cm, rfl, _⟩ : ∃ gm cm, vp = .slice (some ⟨gm, 0, none⟩) (ints m).length cm ∧ w.heap.size + 1 ≤ gm := by
                      rcases HO.out.row with ⟨e, _⟩ | ⟨g, c', e, h1, _⟩
                      · have := congrArg List.length e; rw [ints_len, List.length_nil] at this; omega
                      · exact ⟨g, c', e, h1⟩
                    have hgm := (HO.out.blk gm rfl).1
                    have HRE := hid (reverse_any (ints m) wo (w.heap.size + 1) gm cm HO.out)
                    have HEQ := hid (show (ints m).reverse = ints res by rw [hm]; simp [ints])
                    clear HW hm
                    go_wp2_with fail
                    refine HRE.out.mono ?_
                    rintro e w2 ⟨rfl, ho2, hb2⟩
                    have HO2 := hid ho2
                    have HB2 := hid (hb2.new HB.out (by omega))
                    rw [HEQ.out] at HO2
                    have hlm : (ints m).length = (ints res).length := by rw [← HEQ.out, List.length_reverse]
                    rw [hlm] at HO2
                    have HLM := hid hlm
                    clear ho2 hb2 HRE HO HB HR hlm
                    go_wp2_with fail
                    rw [HLM.out]
                    refine (sclip_any (ints res) w2 _ (fun _ => trivial) (w.heap.size + 1) HO2.out (by rw [ints_len]; have := C2.out.small; omega)).mono ?_
                    rintro e w3 ⟨v, rfl, hv, hb⟩
                    have HV := hid hv
                    have HB3 := hid (below_next HB2.out hb)
                    clear hv hb
                    go_wp2_with fail
                    go_ret
                    exact RetP.mk (by obtain ⟨a, c, bs, h1, h2, h3, h4, h5⟩ := HV.out; exact ⟨a, c, bs, h1, h2, h3, h4, fun b hb => by have := h5 b hb; omega⟩) HB3.out
                  · have hvN : v < nx.length := C2.out.lt v (by
                      rw [← h2]
                      exact List.mem_append.2 (.inl (by rcases chain_cases h1 with ⟨_, e⟩ | ⟨_, _, _, _, e⟩ <;> simp [e])))
                    have HW2 := hid (way_step h1 h2)
                    have hml : m.length ≤ 100 := by
                      have := C2.out.small
                      have h3 := congrArg List.length h2
                      rw [List.length_append, List.length_reverse] at h3
                      omega
                    have r1 := HR.out.2.1 v hvN
                    have r3 := HR.out.1
                    have hv2 : (v : Int) < (nx.length : Int) := by omega
                    obtain ⟨am, cm, rfl, m1, m2, _⟩ := HO.out.shape
                    have h0 := below_alloc wo (.cells #[.int .i64 v] 3)
                    have HI := hid (row_one wo v (by unfold i64; omega))
                    have HO1 := hid (HO.out.next h0)
                    have HB1 := hid (below_next HB.out h0)
                    have HR1 := hid (HR.out.below h0)
                    have hz2 := HB.out.size
                    clear HW h1 h2
                    go_wp2_with (at_builtin; refine wp_app_own2 rfl _ _ rfl (w.heap.size + 1) (.slice am (ints m).length cm) (ints m) [(v : Int)] (some ⟨wo.heap.size, 0, none⟩) 1 rfl rfl (fun h => by cases h) HO1.out (by simp; omega) HI.out (by rw [ints_len]; omega) (by simp) ?_; intro v' w' hv hg hor; (have HOF := hid (show OwnI (w.heap.size + 1) v' (ints (m ++ [v])) w' by rw [show ints (m ++ [v]) = ints m ++ [(v : Int)] by simp [ints]]; exact hv)); (have HBF := hid (below_own HB1.out (HO1.out.mono (Nat.le_succ _)) (Nat.le_refl _) hg)); (have HRF := hid (HR1.out.kept hg.size (hg.block _ HR1.out.1 (fun e => by have := (HO1.out.blk _ e.symm).1; omega)))); (have q1 := HRF.out.2.1 v hvN); (have q3 := HRF.out.1); (have HLV := hid (show lenV v' = (ints m).length + 1 by obtain ⟨aq, cq, e, _⟩ := hv.shape; rw [e]; show (ints m ++ [(v : Int)]).length = _; simp)); clear hv hg hor)
                    go_roundw
                    case rel => exact ⟨_, _, m ++ [v], rfl, rfl, HW2, HOF, HBF, HRF⟩
                    case measure => rw [HLV.out]; simp only [lenV]; rw [ints_len]; omega
              | false =>
                have HNG2 := hid (show ∀ (j m : Nat), j < k + 1 → (bfs (adjOf nx) s (k + 1)).q[j]? = some m → goalOf goal m = false from fun j m hj hm => by
                  have hE := bfs_ext hs HAD.out k 1
                  rw [hS.out] at hE
                  have hjl : j < S.q.length := by omega
                  have h3 := hE.at (List.getElem?_eq_getElem hjl)
                  rw [h3] at hm
                  obtain rfl := Option.some.inj hm
                  by_cases e : j = k
                  · subst e
                    rw [List.getElem?_eq_getElem hjl] at hu
                    obtain rfl := Option.some.inj hu
                    exact hgv
                  · exact HNG.out j _ (by omega) (List.getElem?_eq_getElem hjl))
                obtain ⟨r, hr⟩ : ∃ r, Hid (nx[u] = r) := ⟨_, hid rfl⟩
                have HADJ := hid (show adjOf nx u = r.map Int.toNat by rw [adj_at huN, hr.out])
                have HRG := hid (show ∀ x, x ∈ r → 0 ≤ x ∧ x < nx.length from fun x hx => HGD.out r (by rw [← hr.out]; exact List.getElem_mem huN) x hx)
                have HPU := hid (show ∀ m, Inv nx.length (adjOf nx) s (pushes u S ((r.map Int.toNat).take m)) k ([] ++ (r.map Int.toNat).take m) ∧ (pushes u S ((r.map Int.toNat).take m)).q[k]? = some u from fun m =>
                  Inv.pushes _ [] S HI.out hu fun n hn => ⟨by rw [HADJ.out]; exact List.mem_of_mem_take hn, HAD.out u huN n (by rw [HADJ.out]; exact List.mem_of_mem_take hn)⟩)
                have HFIN := hid (show pushes u S ((r.map Int.toNat).take r.length) = bfs (adjOf nx) s (k + 1) by
                  rw [bfs, hS.out, opn_eq hu, HADJ.out, List.take_of_length_le (by simp)])
                obtain ⟨b0, o0, a1, c1, rfl, hb0, _, g0, k1, k2, hrow⟩ := rows_at HL.out huN
                rw [hr.out] at g0 k1 hrow
                have HRI := hid (show ∀ W, Below w.heap.size w W → IntsIn Any W a1 r from fun W M => hrow.below M)
                replace g0 : wk.cell? ⟨b0, o0 + u, none⟩ = some (.slice a1 r.length c1) := by rw [HS1.out.below.cell (p := ⟨b0, o0 + u, none⟩) hb0]; exact g0
                replace hb0 : b0 < wk.heap.size := Nat.lt_of_lt_of_le hb0 HS1.out.below.size
                have HSS0 := hid (show ShAt w nx.length (.slice (some ⟨gq, 0, none⟩) nq cq) (pushes u S ((r.map Int.toNat).take 0)).par (pushes u S ((r.map Int.toNat).take 0)).q wk from HS1.out)
                unfold maxLen at k2
                clear hrow hu HI hS HR1 HR2 HPT HNG hgv
                go_wp2_with fail
                go_loopw [9, 16, 78] (fun vq _ i wr => ∃ (m : Nat) (v : Value), v = vq ∧ i = .int .i64 m ∧ m ≤ r.length ∧ Hid (ShAt w nx.length v (pushes u S ((r.map Int.toNat).take m)).par (pushes u S ((r.map Int.toNat).take m)).q wr)) (fun _ _ i _ => r.length - (intOf i).toNat)
                case atStart => exact ⟨0, _, rfl, rfl, Nat.zero_le _, HSS0⟩
                case round =>
                  obtain ⟨m, vq, rfl, rfl, hm, HS⟩ := hrel
                  obtain ⟨wj, rfl⟩ : ∃ wj : World, wj = wr := ⟨_, rfl⟩
                  obtain ⟨T, hT⟩ : ∃ T, Hid (pushes u S ((r.map Int.toNat).take m) = T) := ⟨_, hid rfl⟩
                  obtain ⟨hiT, hqT⟩ := HPU.out m
                  rw [hT.out] at HS hiT hqT
                  have HIT := hid hiT
                  have hTlen := hiT.len
                  have HROW := hid (HRI.out wj HS.out.below)
                  clear hiT HSS0 HS1 z7 z8 g0 hb0
                  obtain ⟨gq, nq, cq, rfl, z1, z2, z3, z4, z5, z6⟩ : ∃ gq nq cq, vq = .slice (some ⟨gq, 0, none⟩) nq cq ∧ w.heap.size + 1 ≤ gq ∧ gq < wj.heap.size ∧ nq = T.q.length ∧ nq ≤ cq ∧ cq ≤ maxLen ∧ wj.cell? ⟨gq, k, none⟩ = some (.int .i64 u) := by
                    obtain ⟨aq, cq, e, _⟩ := HS.out.own.shape
                    subst e
                    obtain ⟨g, e, h1, h2, h3, h4, h5, h6⟩ := own_at HS.out.own hqT
                    subst e
                    exact ⟨g, _, cq, rfl, h1, h2, h3, h4, h5, h6⟩
                  have hkn2 : (k : Int) < (nq : Int) := by have := (List.getElem?_eq_some_iff.1 hqT).1; omega
                  have hNQ2 := hid z3
                  unfold maxLen at z5
                  clear z3
                  by_cases hmr : m < r.length
                  · have hmr2 : (m : Int) < (r.length : Int) := by omega
                    obtain ⟨b5, o5, rfl, hb5, _, g5, _⟩ := ints_at HROW.out (Below.refl _ _) hmr
                    obtain ⟨hx0, hxN⟩ := HRG.out r[m] (List.getElem_mem hmr)
                    obtain ⟨n, hn⟩ : ∃ n : Nat, r[m] = (n : Int) := ⟨r[m].toNat, by omega⟩
                    have hnm : (r.map Int.toNat)[m]? = some n := by rw [List.getElem?_map, List.getElem?_eq_getElem hmr, hn]; rfl
                    have HT1 := hid (show pushes u S ((r.map Int.toNat).take (m + 1)) = push u T n by rw [pushes_succ hnm, hT.out])
                    rw [hn] at g5 hx0 hxN
                    have hnN : n < nx.length := by omega
                    have p1 : wj.cell? ⟨w.heap.size, n, none⟩ = some (.int .i64 (T.par n)) := HS.out.rpar.2.1 n hnN
                    have p2 := HS.out.rpar.2.2 n
                    have p3 := HS.out.rpar.1
                    clear hn hnm hqT hT
                    by_cases hse : T.par n = -2
                    · rw [hse] at p1
                      have hpn := push_new (u := u) hse
                      rw [hpn] at HT1
                      have HM := hid (HS.out.mark (par' := fun m => if m = n then (u : Int) else T.par m) hnN (fun m => rfl))
                      clear hse hpn
                      go_upto_region 30 with fail
                      refine wp_gen (fun W => ShAt w nx.length (.slice (some ⟨gq, 0, none⟩) nq cq) (fun m => if m = n then (u : Int) else T.par m) T.q W) HM.out ?_
                      clear HM p1 p2 p3 g5 hb5 z6 z2 HS HROW
                      rintro W1 HM1
                      have h0 := below_alloc W1 (.cells #[.int .i64 n] 3)
                      have HI := hid (row_one W1 n (by unfold i64; omega))
                      have HM2 := hid (HM1.next h0)
                      have hz2 := HM1.below.size
                      have hz3 : w.heap.size < W1.heap.size := HM1.rpar.1
                      clear HM1 h0
                      go_wp2_with (at_builtin; refine wp_app_own2 rfl _ _ rfl (w.heap.size + 1) (.slice (some ⟨gq, 0, none⟩) nq cq) (ints T.q) [(n : Int)] (some ⟨W1.heap.size, 0, none⟩) 1 rfl rfl (fun h => by cases h) HM2.out.own (by simp; omega) HI.out (by rw [ints_len]; omega) (by simp) ?_; intro v' w' hv hg hor)
                      have HF2 := hid (HM2.out.app hv hg)
                      clear hv hg hor HI HM2
                      go_wp2_with fail
                      go_roundw
                      case rel => exact ⟨m + 1, _, rfl, by go_num, by omega, hid (by rw [HT1.out]; exact HF2.out)⟩
                      case measure => simp [intOf]; omega
                    · have e1 : (T.par n == -2) = false := by simpa using hse
                      have HT2 := hid (show pushes u S ((r.map Int.toNat).take (m + 1)) = T by rw [HT1.out, push_old hse])
                      clear hse HT1
                      generalize T.par n = pn at *
                      go_wp2_with fail
                      go_roundw
                      case rel => exact ⟨m + 1, _, rfl, by go_num, by omega, hid (by rw [HT2.out]; exact HS.out)⟩
                      case measure => simp [intOf]; omega
                  · obtain rfl : m = r.length := by omega
                    have hml : ¬ ((r.length : Int) < (r.length : Int)) := by omega
                    have HS2 := hid (show ShAt w nx.length (.slice (some ⟨gq, 0, none⟩) nq cq) (bfs (adjOf nx) s (k + 1)).par (bfs (adjOf nx) s (k + 1)).q wj by rw [← HFIN.out, hT.out]; exact HS.out)
                    have HK2 := hid (show k + 1 ≤ (bfs (adjOf nx) s (k + 1)).q.length by
                      rw [← HFIN.out, hT.out]
                      have := (List.getElem?_eq_some_iff.1 hqT).1; omega)
                    clear HS hT hqT
                    go_wp2_with fail
                    go_roundw
                    case rel => exact ⟨k + 1, _, rfl, by go_num, HK2, HS2, HNG2⟩
                    case measure => simp [intOf]; omega
            · have hkk : k = S.q.length := by have := HK.out; omega
              have HN := hid (show res = [] from HR2.out hkk.symm (fun i m hm => HNG.out i m (by have := (List.getElem?_eq_some_iff.1 hm).1; omega) hm))
              obtain rfl := HN.out
              obtain ⟨aq, cq, rfl, e1, e2, e3⟩ := HS.out.own.shape
              obtain ⟨L, hL⟩ : ∃ L, Hid ((ints S.q).length = L) := ⟨_, hid rfl⟩
              have hkL : ¬ ((k : Int) < (L : Int)) := by have := hL.out; rw [ints_len] at this; omega
              have HB := hid HS.out.below
              rw [hL.out]
              clear HS HI HK HR1 HR2 HPT HNG hS hkk hkq
              go_wp2_with fail
              go_ret
              exact RetP.mk ⟨none, 0, [], rfl, Nat.le_refl _, by simp, .inl ⟨rfl, rfl⟩, by simp⟩ HB.out
end Bfs
end Go.Proofs.Ytfemikebklmlpaa
namespace Go.Proofs.Ytfemikebklmlpaa
open Go.RowKit
set_option linter.unusedVariables false
set_option linter.unusedSimpArgs false
namespace Bfs
open Gr

/-- rows of a table: those below k are laid, the others are empty; they lie in old memory -/
def TabAt (w : World) (R : Nat) (L : List (List Int)) (k : Nat) (wr : World) : Prop := Below w.heap.size w wr ∧ w.heap.size ≤ R ∧ ∃ f : Nat → Value, Row wr R L.length f ∧ ∀ j t, L[j]? = some t → RIn Any w (if j < k then t else []) (f j)
theorem TabAt.next {w : World} {R : Nat} {L : List (List Int)} {k : Nat} {wr w' : World} (h : TabAt w R L k wr) (hb : Below wr.heap.size wr w') : TabAt w R L k w' := by
  obtain ⟨h1, h2, f, h3, h4⟩ := h
  exact ⟨below_next h1 hb, h2, f, h3.below hb, h4⟩
theorem TabAt.skip {w : World} {R : Nat} {L : List (List Int)} {k : Nat} {wr : World} (h : TabAt w R L k wr) (hk : L[k]? = some []) : TabAt w R L (k + 1) wr := by
  obtain ⟨h1, h2, f, h3, h4⟩ := h
  refine ⟨h1, h2, f, h3, fun j t hj => ?_⟩
  have := h4 j t hj
  by_cases e : j < k
  · rw [if_pos e] at this; rw [if_pos (by omega)]; exact this
  · rw [if_neg e] at this
    by_cases e2 : j = k
    · subst e2
      rw [hk] at hj
      obtain rfl := Option.some.inj hj
      rw [if_pos (by omega)]; exact this
    · rw [if_neg (by omega)]; exact this
theorem TabAt.set {w : World} {R : Nat} {L : List (List Int)} {k : Nat} {wr : World} {r : List Int} {v : Value} (h : TabAt w R L k wr) (hk : L[k]? = some r) (hr : RIn Any w r v) : TabAt w R L (k + 1) (wr.setCell ⟨R, k, none⟩ v) := by
  obtain ⟨h1, h2, f, h3, h4⟩ := h
  have hkl : k < L.length := (List.getElem?_eq_some_iff.1 hk).1
  refine ⟨h1.setCell h2 _, h2, _, h3.set hkl v, fun j t hj => ?_⟩
  by_cases e : j = k
  · subst e
    rw [hk] at hj
    obtain rfl := Option.some.inj hj
    rw [if_pos (by omega), if_pos rfl]; exact hr
  · rw [if_neg e]
    have := h4 j t hj
    by_cases e2 : j < k
    · rw [if_pos e2] at this; rw [if_pos (by omega)]; exact this
    · rw [if_neg e2] at this; rw [if_neg (by omega)]; exact this
theorem TabAt.done {w : World} {R : Nat} {L : List (List Int)} {wr : World} (h : TabAt w R L L.length wr) : Gr.RowsIn Any wr L (some ⟨R, 0, none⟩) := by
  obtain ⟨h1, h2, f, h3, h4⟩ := h
  refine .inr ⟨R, 0, rfl, trivial, h3.1, fun i t hi => ?_⟩
  have hil := (List.getElem?_eq_some_iff.1 hi).1
  have := h4 i t hi
  rw [if_pos hil] at this
  obtain ⟨a, c, e, k1, k2, k3⟩ := this
  rw [Nat.zero_add, Nat.mul_one]
  refine ⟨a, c, ?_, a, c, rfl, k1, k2, k3.below h1⟩
  rw [h3.2.1 i hil, e]
/-- a new row and whether it holds something -/
def WuN (B : Nat) (l : List Nat) (v : Value) (w : World) : Prop := ∃ u, v = .tuple #[u, .bool (!l.isEmpty)] ∧ NewV B ((ints l).map (Value.int .i64)) u w
set_option maxRecDepth 100000 in
set_option maxHeartbeats 4000000 in
theorem implWu_any (g : G2) (thr goal : List Bool) (s : Int) (w : World) (x : Value) (ta tb : Option Addr) (tc td : Nat) (hx : GrIn Any w g x) (ht : BoolsIn Any w ta thr) (htc : thr.length ≤ tc) (htc2 : tc ≤ maxLen) (hg : BoolsIn Any w tb goal) (htd : goal.length ≤ td) (htd2 : td ≤ maxLen) (hs : i64 s) (hsn : g.states.length ≤ 1048576) :
    Calls Try.prog 8 #[x, .slice ta thr.length tc, .slice tb goal.length td, .int .i64 s] w (RetP (WuN w.heap.size (wuT g thr goal s)) w) := by
  obtain ⟨a, c, b, d, rfl, hc, hc2, hi, hd, hd2, hp⟩ := hx
  have HGR := hid (show GrIn Any w g (.agg #[.slice a g.states.length c, .slice b g.next.length d]) from ⟨a, c, b, d, rfl, hc, hc2, hi, hd, hd2, hp⟩)
  have HP := hid hp
  have HT := hid ht
  have HG := hid hg
  have HE := hid (show ∀ h : okG g = true, _ from fun h => okG_len h)
  have HV := hid (show ∀ W, GrIn Any W g (.agg #[.slice a g.states.length c, .slice b g.next.length d]) → Calls Try.prog 35 #[.agg #[.slice a g.states.length c, .slice b g.next.length d]] W (Ret (.bool (okG g)) W) from fun W h => valid_any g W _ h)
  have HW := hid (show wuT g thr goal s = if okG g = true ∧ thr.length = g.states.length ∧ goal.length = g.states.length ∧ 0 ≤ s ∧ s < g.states.length then wuL (adjOf (subL g.next thr)) g.states.length s.toNat (goalOf goal) else [] from rfl)
  have HSM := hid (wuT_small g thr goal s).1
  generalize wuT g thr goal s = res at *
  have HNO := hid (show ¬(okG g = true ∧ thr.length = g.states.length ∧ goal.length = g.states.length ∧ 0 ≤ s ∧ s < g.states.length) → res = [] from fun h => by rw [HW.out, if_neg h])
  have HYES := hid (show (okG g = true ∧ thr.length = g.states.length ∧ goal.length = g.states.length ∧ 0 ≤ s ∧ s < g.states.length) → res = wuL (adjOf (subL g.next thr)) g.states.length s.toNat (goalOf goal) from fun h => by rw [HW.out, if_pos h])
  obtain ⟨ok, hok⟩ : ∃ ok, ok = okG g := ⟨_, rfl⟩
  rw [← hok] at HV HNO HYES HE
  obtain ⟨sn, hsn2⟩ : ∃ sn, sn = g.states.length := ⟨_, rfl⟩
  obtain ⟨nx, hnx⟩ : ∃ nx, nx = g.next := ⟨_, rfl⟩
  rw [← hsn2] at HGR HV HNO HYES HE hc hsn
  rw [← hnx] at HGR HV HYES HE hd HP
  rw [← hsn2, ← hnx]
  unfold maxLen at hc2 hd2 htc2 htd2
  clear HW hok hsn2 hnx hi hp ht hg
  go_enter Try.func8, Try.ntmps8
  go_wp2_with fail
  have B0 := hid (below_next (below_alloc w (.cells #[.slice a sn c, .slice b nx.length d] 26)) (below_alloc _ (.cells #[.slice tb goal.length td] 27)))
  have P0 := hid (boxp_next (below_alloc _ (.cells #[.slice tb goal.length td] 27)) (boxp_at (w := w) (a := .slice a sn c) (b := .slice b nx.length d) (t := 26) rfl))
  have G0 := hid (show ((w.alloc (.cells #[.slice a sn c, .slice b nx.length d] 26)).alloc (.cells #[.slice tb goal.length td] 27)).cell? ⟨w.heap.size + 1, 0, none⟩ = some (.slice tb goal.length td) by
    simp)
  generalize (w.alloc (.cells #[.slice a sn c, .slice b nx.length d] 26)).alloc (.cells #[.slice tb goal.length td] 27) = wA at *
  obtain ⟨p0, p1, p2, p3, p4⟩ := P0.out
  go_wp2_with fail
  refine (HV.out wA (HGR.out.below B0.out)).mono ?_
  rintro e w1 ⟨rfl, hb⟩
  have G1 := hid (show w1.cell? ⟨w.heap.size + 1, 0, none⟩ = some (.slice tb goal.length td) by rw [hb.cell (p := ⟨w.heap.size + 1, 0, none⟩) (blt G0.out)]; exact G0.out)
  replace B0 := hid (below_next B0.out hb)
  replace P0 := hid (boxp_next hb P0.out)
  clear p0 p1 p2 p3 p4 hb G0
  generalize hw1 : w1 = wB at *
  clear hw1 HV
  obtain ⟨p0, p1, p2, p3, p4⟩ := P0.out
  have g1 := G1.out
  have g2 := blt g1
  cases ok with
  | false =>
    obtain rfl := HNO.out (by simp)
    clear HNO HYES HE
    go_wp2_with fail
    go_ret2
    exact RetP.mk ⟨_, rfl, NewV.nil _ none 0 (by unfold maxLen; omega) _⟩ B0.out
  | true =>
    obtain ⟨⟨e1, e2⟩, e3, e4, e5⟩ := HE.out rfl
    have HGD := hid e4
    have HLN := hid e5
    have e6 : nx.length ≤ sn := by omega
    have e7 : sn ≤ nx.length := by omega
    have HEQ := hid e3
    clear e3 e4 e5 HE
    by_cases hA1 : thr.length = sn ∧ goal.length = sn
    · have b1 : ((thr.length : Int) != (sn : Int)) = false := by rw [bne_eq_false_iff_eq]; omega
      have b2 : ((goal.length : Int) != (sn : Int)) = false := by rw [bne_eq_false_iff_eq]; omega
      go_wp2_with fail
      refine (in_any s 0 ((sn : Int) - 1) _).mono ?_
      rintro e wB ⟨rfl, rfl⟩
      by_cases hA2 : 0 ≤ s ∧ s < sn
      · have b3 : inB s 0 ((sn : Int) - 1) = true := by simp [inB]; omega
        rw [b3]
        have R := hid (HYES.out (by first | exact ⟨rfl, hA1.1, hA1.2, hA2.1, hA2.2⟩ | exact ⟨trivial, hA1.1, hA1.2, hA2.1, hA2.2⟩))
        obtain ⟨sN, rfl⟩ : ∃ m : Nat, s = m := ⟨s.toNat, by omega⟩
        rw [Int.toNat_natCast] at R
        have hsN : sN < sn := by omega
        obtain ⟨L, hL⟩ : ∃ L, Hid (L = subL nx thr) := ⟨_, hid rfl⟩
        rw [← hL.out] at R
        have HLL := hid (show L.length = sn by rw [hL.out, subL_len (by have := HEQ.out; omega)]; exact HEQ.out)
        have HGL := hid (show Good L by rw [hL.out]; exact subL_good (by have := HEQ.out; omega) HGD.out)
        have HAT := hid (show ∀ k (h1 : k < nx.length) (h2 : k < thr.length), L[k]? = some (if thr[k] = true then nx[k] else []) from fun k h1 h2 => by rw [hL.out]; exact subL_at h1 h2)
        have HSH := hid (fun (W : World) (M : Below w.heap.size w W) (ar b0 : Option Addr) (h1 : Gr.RowsIn Any W L ar) (h2 : IntsIn Any W b0 [(sN : Int)]) (h3 : W.cell? ⟨w.heap.size + 1, 0, none⟩ = some (.slice tb goal.length td)) => shortest_any L sN goal W ar b0 tb L.length 1 td (w.heap.size + 1) h1 (Nat.le_refl _) (by have := HLL.out; unfold maxLen; omega) (by have := HLL.out; omega) (by have := HLL.out; omega) HGL.out h2 (Nat.le_refl _) (by unfold maxLen; omega) (by have := HLL.out; omega) htd htd2 h3 (HG.out.below M))
        rw [HLL.out, ← R.out] at HSH
        have hmk := make_ros sn (by omega)
        have hthr := hA1.1
        have hlt1 : thr.length ≤ sn := by omega
        have hlt2 : sn ≤ thr.length := by omega
        clear HYES HNO HGD HLN HEQ HGL hL R b3 hA1 hA2
        go_wp2_with fail
        have h0 := below_alloc wB (.cells (zerosRo sn) 30)
        have hwB := B0.out.size
        have T0 := hid (show TabAt w wB.heap.size L 0 (wB.alloc (.cells (zerosRo sn) 30)) from by
          have hr := row_new (w := wB) (cs := zerosRo sn) (n := L.length) (by rw [zerosRo, size_madeCells, HLL.out]) 30
          refine ⟨below_next B0.out h0, hwB, _, hr, fun j t hj => ?_⟩
          have hjl : j < sn := by rw [← HLL.out]; exact (List.getElem?_eq_some_iff.1 hj).1
          rw [if_neg (by omega)]
          have : (zerosRo sn).getD j undef = .slice none 0 0 := by simp [zerosRo, madeCells, hjl, Nat.mod_one, Array.getD]
          rw [this]
          exact ⟨none, 0, rfl, Nat.le_refl _, by unfold maxLen; omega, .inl rfl, by simp⟩)
        replace P0 := hid (boxp_next h0 P0.out)
        have G2 := hid (show (wB.alloc (.cells (zerosRo sn) 30)).cell? ⟨w.heap.size + 1, 0, none⟩ = some (.slice tb goal.length td) by rw [h0.cell (p := ⟨w.heap.size + 1, 0, none⟩) (blt G1.out)]; exact G1.out)
        have hRB : w.heap.size + 1 < wB.heap.size := blt G1.out
        obtain ⟨R, hR⟩ : ∃ R, R = wB.heap.size := ⟨_, rfl⟩
        rw [← hR] at T0 hRB ⊢
        clear h0 hR hwB G1 g1 g2 p0 p1 p2 p3 p4 B0
        go_loopw [12, 43] (fun _ i wr => ∃ k : Nat, k ≤ sn ∧ i = .int .i64 k ∧ Hid (TabAt w R L k wr) ∧ Hid (BoxP wr w.heap.size (.slice a sn c) (.slice b nx.length d)) ∧ Hid (wr.cell? ⟨w.heap.size + 1, 0, none⟩ = some (.slice tb goal.length td))) (fun _ i _ => sn - (intOf i).toNat)
        case atStart => exact ⟨0, Nat.zero_le _, rfl, T0, P0, G2⟩
        case round =>
          obtain ⟨k, hk, rfl, HTA, PB, GB⟩ := hrel
          obtain ⟨wo, rfl⟩ : ∃ wo : World, wo = wr := ⟨_, rfl⟩
          obtain ⟨p0, p1, p2, p3, p4⟩ := PB.out
          clear T0 P0 G2
          by_cases hkl : k < sn
          · have hkl2 : (k : Int) < (sn : Int) := by omega
            have hkn : k < nx.length := by omega
            have hkn2 : (k : Int) < (nx.length : Int) := by omega
            have hkt : k < thr.length := by omega
            have hkt2 : (k : Int) < (thr.length : Int) := by omega
            obtain ⟨b2, o2, rfl, hb2, _, g2⟩ := bools_at HT.out HTA.out.1 hkt
            have HA := hid (HAT.out k hkn hkt)
            cases htk : thr[k] with
            | false =>
              rw [htk] at g2 HA
              have HT2 := hid (HTA.out.skip (by simpa using HA.out))
              clear htk
              go_wp2_with fail
              go_roundw
              case rel => exact ⟨k + 1, by omega, by go_num, HT2, PB, GB⟩
              case measure => simp [intOf]; omega
            | true =>
              rw [htk] at g2 HA
              obtain ⟨b1, o1, a1, c1, rfl, hb1, _, g0, k1, k2, hrow⟩ := rows_at HP.out hkn
              have g0' : wo.cell? ⟨b1, o1 + k, none⟩ = some (.slice a1 nx[k].length c1) := by rw [HTA.out.1.cell (p := ⟨b1, o1 + k, none⟩) hb1]; exact g0
              have hb1' : b1 < wo.heap.size := Nat.lt_of_lt_of_le hb1 HTA.out.1.size
              have HT2 := hid (HTA.out.set (show L[k]? = some nx[k] by simpa using HA.out) (v := .slice a1 nx[k].length c1) ⟨a1, c1, rfl, k1, k2, hrow⟩)
              obtain ⟨cR, hcR, fR, hRl⟩ : ∃ cR, wo.cell? ⟨R, k, none⟩ = some cR ∧ wo.frozen? ⟨R, k, none⟩ = false ∧ R < wo.heap.size := by
                obtain ⟨_, _, f, h3, _⟩ := HTA.out
                exact ⟨_, h3.2.1 k (by rw [HLL.out]; exact hkl), h3.2.2 k, h3.1⟩
              have PB2 := hid (boxp_set PB.out (p := ⟨R, k, none⟩) (by show w.heap.size ≠ R; omega) (.slice a1 nx[k].length c1))
              have GB2 := hid (show (wo.setCell ⟨R, k, none⟩ (.slice a1 nx[k].length c1)).cell? ⟨w.heap.size + 1, 0, none⟩ = some (.slice tb goal.length td) by
                rw [World.cell?_setCell_other _ _ _ _ (by intro h; have := congrArg Addr.block h; simp at this; omega)]; exact GB.out)
              unfold maxLen at k2
              generalize nx[k] = r at *
              clear htk HA g0 hb1 hrow HTA
              go_wp2_with fail
              go_roundw
              case rel => exact ⟨k + 1, by omega, by go_num, HT2, PB2, GB2⟩
              case measure => simp [intOf]; omega
          · obtain rfl : k = sn := by omega
            have HRO := hid (show Gr.RowsIn Any wo L (some ⟨R, 0, none⟩) from (by have h := HTA.out; rw [← HLL.out] at h; exact h.done))
            have HB := hid HTA.out.1
            have h0 := below_alloc wo (.cells #[.int .i64 sN] 3)
            have HI := hid (row_one wo sN (by unfold i64; omega))
            have HCALL := hid (HSH.out (wo.alloc (.cells #[.int .i64 sN] 3)) (below_next HB.out h0) (some ⟨R, 0, none⟩) (some ⟨wo.heap.size, 0, none⟩) (HRO.out.below h0) HI.out (by rw [h0.cell (p := ⟨w.heap.size + 1, 0, none⟩) (blt GB.out)]; exact GB.out))
            have HB1 := hid (below_next HB.out h0)
            have hkk : ¬ ((k : Int) < (k : Int)) := by omega
            clear HTA h0 HI HRO HSH p0 p1 p2 p3 p4 PB GB HB
            go_wp2_with fail
            refine HCALL.out.mono ?_
            rintro e w2 ⟨v, rfl, hv, hb⟩
            have HB2 := hid (below_next HB1.out hb)
            have HV := hid (show NewV w.heap.size ((ints res).map (Value.int .i64)) v w2 by
              obtain ⟨a, c, bs, h1, h2, h3, h4, h5⟩ := hv
              exact ⟨a, c, bs, h1, h2, h3, h4, fun b hb => by have := h5 b hb; have := HB1.out.size; omega⟩)
            obtain ⟨av, cv, _, rfl, _⟩ := hv
            have hl0 : ((ints res).map (Value.int .i64)).length = res.length := by rw [List.length_map, ints_len]
            rw [hl0] at HV
            have HL0 := hid hl0
            clear hb HCALL HB1 hl0
            rw [HL0.out]
            cases hres : res with
            | nil =>
              have HF := hid (show WuN w.heap.size [] (.tuple #[.slice av 0 cv, .bool false]) w2 by rw [hres] at HV; exact ⟨_, rfl, HV.out⟩)
              subst hres
              go_wp2_with fail
              go_ret2
              exact RetP.mk HF.out HB2.out
            | cons x t =>
              have HF := hid (show WuN w.heap.size (x :: t) (.tuple #[.slice av (x :: t).length cv, .bool true]) w2 by rw [hres] at HV; exact ⟨_, rfl, HV.out⟩)
              subst hres
              have hpos : ((t.length : Int) + 1) > 0 := by omega
              go_wp2_with fail
              go_ret2
              exact RetP.mk HF.out HB2.out
      · have b3 : inB s 0 ((sn : Int) - 1) = false := by
          cases h : inB s 0 ((sn : Int) - 1) with
          | false => rfl
          | true => simp [inB] at h; omega
        rw [b3]
        obtain rfl := HNO.out (fun h => hA2 ⟨h.2.2.2.1, h.2.2.2.2⟩)
        clear HNO HYES HGD HLN HEQ b3
        go_wp2_with fail
        go_ret2
        exact RetP.mk ⟨_, rfl, NewV.nil _ none 0 (by unfold maxLen; omega) _⟩ B0.out
    · obtain rfl := HNO.out (fun h => hA1 ⟨h.2.1, h.2.2.1⟩)
      clear HNO HYES HGD HLN HEQ
      by_cases a1 : thr.length = sn
      · have a2 : goal.length ≠ sn := fun h => hA1 ⟨a1, h⟩
        have b1 : ((thr.length : Int) != (sn : Int)) = false := by rw [bne_eq_false_iff_eq]; omega
        have b2 : ((goal.length : Int) != (sn : Int)) = true := by rw [bne_iff_ne]; omega
        clear hA1 a1 a2
        go_wp2_with fail
        go_ret2
        exact RetP.mk ⟨_, rfl, NewV.nil _ none 0 (by unfold maxLen; omega) _⟩ B0.out
      · have b1 : ((thr.length : Int) != (sn : Int)) = true := by rw [bne_iff_ne]; omega
        clear hA1 a1
        go_wp2_with fail
        go_ret2
        exact RetP.mk ⟨_, rfl, NewV.nil _ none 0 (by unfold maxLen; omega) _⟩ B0.out
end Bfs
end Go.Proofs.Ytfemikebklmlpaa
