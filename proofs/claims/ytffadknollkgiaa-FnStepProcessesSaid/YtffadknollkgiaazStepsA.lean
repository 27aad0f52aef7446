/- Rows of steps; the enabled steps of a state, plainly. Conditions: those of each contract. -/
import Derived.Test.YtffadknollkgiaazReadyV
import Derived.Test.YtffadknollkgiaaJS2
import Derived.Test.YtffadknollkgiaaJS3
import Derived.Test.YtffadknollkgiaaJS1
import Derived.Maps.AppendAt
set_option linter.unusedVariables false
set_option linter.unusedSimpArgs false
namespace Go.Proofs.Ytffadknollkgiaa
open Go.RowKit
set_option linter.unusedVariables false
set_option linter.unusedSimpArgs false
namespace Sys

theorem cell_below {w w' : World} (h : Below w.heap.size w w') {b o : Nat} {v : Value} (hb : b < w.heap.size) (hc : w.cell? ⟨b, o, none⟩ = some v) : w'.cell? ⟨b, o, none⟩ = some v := (World.cell?_of_block (w := w) (a := ⟨b, o, none⟩) (h.block b hb)).trans hc
theorem ownsRow_low {w : World} {base base' : Nat} {e : TypeId} {size : Nat} {v : Value} {n : Nat} {xs : List Value} (h : w.ownsRow base e size v n xs) (hb : base' ≤ base) : w.ownsRow base' e size v n xs :=
  ⟨h.1, h.2.imp id fun ⟨g, cap, cur, h1, h2, h3⟩ => ⟨g, cap, cur, h1, Nat.le_trans hb h2, h3⟩⟩
structure Stp where
  p : Int
  e : Int
  q : Int
  f : Int
def Stp.cells (t : Stp) : List Value := [.int .i64 t.p, .int .i64 t.e, .int .i64 t.q, .int .i64 t.f]
def stCells : List Stp → List Value
  | [] => []
  | t :: ts => t.cells ++ stCells ts
theorem stCells_append : ∀ l m : List Stp, stCells (l ++ m) = stCells l ++ stCells m
  | [], m => rfl
  | t :: ts, m => by simp [stCells, stCells_append ts m]
theorem stCells_len : ∀ l : List Stp, (stCells l).length = l.length * 4
  | [] => rfl
  | t :: ts => by simp [stCells, Stp.cells, stCells_len ts]; omega
theorem stCells_one : ∀ (l : List Stp) (u : Value), u ∈ stCells l → u.oneCell' = true
  | [], u, h => by cases h
  | t :: ts, u, h => by
    rw [stCells] at h
    rcases List.mem_append.1 h with h | h
    · simp [Stp.cells] at h
      rcases h with rfl | rfl | rfl | rfl <;> rfl
    · exact stCells_one ts u h
theorem step_info : (Try.prog.info? 56).map (fun i => (i.zero, i.size, i.bytes)) = some (some (.agg #[.int .i64 0, .int .i64 0, .int .i64 0, .int .i64 0]), 4, 32) := by kernel_rfl
/-- a row of steps of one's own -/
def OwnS (B : Nat) (v : Value) (l : List Stp) (w : World) : Prop := w.ownsRow B 56 4 v l.length (stCells l)
theorem OwnS.nil (B : Nat) (w : World) : OwnS B (.slice none 0 0) [] w := World.ownsRow_nil ..
theorem OwnS.made (w : World) : OwnS w.heap.size (.slice (some ⟨w.heap.size, 0, none⟩) 0 0) [] (w.alloc (.cells #[] 56)) :=
  World.ownsRow_made (e := 56) (size := 4) (base := w.heap.size) w #[] 0 (Nat.le_refl _) (by simp) (by simp)
theorem OwnS.shape {B : Nat} {v : Value} {l : List Stp} {w : World} (h : OwnS B v l w) : (v = .slice none 0 0 ∧ l = []) ∨ ∃ g c, v = .slice (some ⟨g, 0, none⟩) l.length c ∧ B ≤ g ∧ g < w.heap.size ∧ l.length ≤ c ∧ c ≤ maxLen := by
  rcases h.2 with ⟨rfl, hz⟩ | ⟨g, cap, cur, rfl, e2, e3, e4, e5, e6, e7⟩
  · exact .inl ⟨rfl, List.eq_nil_of_length_eq_zero hz⟩
  · exact .inr ⟨g, cap, rfl, e2, (Array.getElem?_eq_some_iff.1 e3).1, e4, e5⟩
/-- append of a row of steps in memory, at the operation -/
theorem wp_app_steps {ops : Array Oper} {rest : List Oper} {o : Oper} {a : Act} {Q : Exit → Act → World → Prop} {w : World} (hgd : o.guard = none) (s x : Operand)
    (ho : o.op = .call { callee := .builtin .append, args := #[s, x], argTypes := #[62, 62] }) (B : Nat) (v : Value) (acc l : List Stp) (g c : Nat) (hs : a.eval s = v) (hx : a.eval x = .slice (some ⟨g, 0, none⟩) l.length c)
    (hv : OwnS B v acc w) (hB : B ≤ w.heap.size) (hl : ∀ j u, (stCells l)[j]? = some u → w.cell? ⟨g, j, none⟩ = some u) (h1 : acc.length ≤ 100000) (h2 : l.length ≤ 100000)
    (h : ∀ v' w', OwnS B v' (acc ++ l) w' → w.grownBy w' v.ownBlock → (v' = .slice none 0 0 → v = .slice none 0 0 ∧ l.length = 0) → wpList Try.prog ops Q rest (a.put o.dst v') w') :
    wpList Try.prog ops Q (o :: rest) a w := by
  obtain ⟨ri, hi, hz, hs1, hs2⟩ := info_parts step_info
  refine wpList_append_own_at _ hgd s x 62 ho B 56 ri _ 4 32 Try.underlying62 hi hz hs1 hs2 rfl (by omega) v acc.length _ hs hv ⟨g, 0, none⟩ l.length c (stCells l) hx (stCells_len l) (fun j u hj => ?_) (stCells_one l) (by simp only [maxLen]; omega) (by omega) hB ?_
  · have e : Addr.add ⟨g, 0, none⟩ j = ⟨g, j, none⟩ := by unfold Addr.add; split <;> simp_all
    rw [e]
    exact hl j u hj
  · intro v2 w3 hown hgrow hnil _
    exact h v2 w3 (by unfold OwnS; rw [List.length_append, stCells_append]; exact hown) hgrow (fun e => (hnil.1 e))
theorem OwnS.below {B : Nat} {v : Value} {l : List Stp} {w w' : World} (h : OwnS B v l w) (hb : Below w.heap.size w w') : OwnS B v l w' :=
  World.ownsRow.kept (row := none) h ⟨hb.os, hb.tape, hb.output, hb.size, fun k hk _ => hb.block k hk⟩ (by cases v.ownBlock <;> simp)
theorem OwnS.grown {B : Nat} {v : Value} {l : List Stp} {w0 w w' : World} (h : OwnS B v l w) (hb : Below w0.heap.size w0 w) (hg : w.grownBy w' v.ownBlock) (hB : w0.heap.size ≤ B) : Below w0.heap.size w0 w' :=
  ⟨hg.os.trans hb.os, hg.tape.trans hb.tape, hg.output.trans hb.output, Nat.le_trans hb.size hg.size, fun k hk => by
    rw [hg.block k (Nat.lt_of_lt_of_le hk hb.size) (fun e => by have := (World.ownsRow.lt h k e.symm).1; omega), hb.block k hk]⟩
/-- append of one new step, at the operation -/
theorem wp_app_step {ops : Array Oper} {rest : List Oper} {o : Oper} {a : Act} {Q : Exit → Act → World → Prop} {w : World} (hgd : o.guard = none) (s x : Operand)
    (ho : o.op = .call { callee := .builtin .append, args := #[s, x], argTypes := #[62, 62] }) (B : Nat) (v : Value) (acc : List Stp) (t : Stp) (c : Nat) (hs : a.eval s = v) (hx : a.eval x = .slice (some ⟨w.heap.size, 0, none⟩) 1 c)
    (hv : OwnS B v acc w) (hB : B ≤ w.heap.size) (h1 : acc.length ≤ 100000)
    (h : ∀ v' w', OwnS B v' (acc ++ [t]) w' → (w.alloc (.cells #[.int .i64 t.p, .int .i64 t.e, .int .i64 t.q, .int .i64 t.f] 56)).grownBy w' v.ownBlock → v' ≠ .slice none 0 0 → wpList Try.prog ops Q rest (a.put o.dst v') w') :
    wpList Try.prog ops Q (o :: rest) a (w.alloc (.cells #[.int .i64 t.p, .int .i64 t.e, .int .i64 t.q, .int .i64 t.f] 56)) := by
  refine wp_app_steps hgd s x ho B v acc [t] w.heap.size c hs hx (hv.below (below_alloc _ _)) (by simp; omega) (fun j u hj => ?_) h1 (by simp) (fun v' w' h1 h2 h3 => h v' w' h1 h2 (fun e => by have := (h3 e).2; simp at this))
  rw [World.cell?_alloc_new]
  match j, hj with
  | 0, hj => simpa [stCells, Stp.cells] using hj
  | 1, hj => simpa [stCells, Stp.cells] using hj
  | 2, hj => simpa [stCells, Stp.cells] using hj
  | 3, hj => simpa [stCells, Stp.cells] using hj
  | (n + 4), hj => simp [stCells, Stp.cells] at hj
def fm (f : Nat → List Stp) : Nat → List Stp
  | 0 => []
  | n + 1 => fm f n ++ f n
theorem fm_len {f : Nat → List Stp} {b : Nat} (h : ∀ x, (f x).length ≤ b) : ∀ n, (fm f n).length ≤ n * b
  | 0 => by simp [fm]
  | n + 1 => by
    rw [fm, List.length_append, Nat.succ_mul]
    have := fm_len h n
    have := h n
    omega
def edge? (s : Sy) (j m : Nat) : Option Ed := (s.procs[j]?).bind fun q => q.edges[m]?
theorem edge?_some {s : Sy} {j m : Nat} (hj : j < s.procs.length) (hm : m < s.procs[j].edges.length) : edge? s j m = some s.procs[j].edges[m] := by simp [edge?, hj, hm]
def lenE (s : Sy) (j : Nat) : Nat := ((s.procs[j]?).map fun q => q.edges.length).getD 0
theorem lenE_at {s : Sy} {j : Nat} (hj : j < s.procs.length) : lenE s j = s.procs[j].edges.length := by simp [lenE, hj]
/-- a step with a partner -/
def candE (ls vs : List Int) (i k : Nat) (c : Int) (j m : Nat) (e : Ed) : List Stp := if j ≠ i ∧ e.sync = -c ∧ rdy ls vs j e = true then [⟨i, k, j, m⟩] else []
def cand (s : Sy) (ls vs : List Int) (i k : Nat) (c : Int) (j m : Nat) : List Stp := match edge? s j m with
  | some e => candE ls vs i k c j m e
  | none => []
def par (s : Sy) (ls vs : List Int) (i k : Nat) (c : Int) (n : Nat) : List Stp := fm (fun j => fm (cand s ls vs i k c j) (lenE s j)) n
def oneE (s : Sy) (ls vs : List Int) (i k : Nat) (e : Ed) : List Stp := if e.sync < 0 ∨ rdy ls vs i e = false then [] else if e.sync = 0 then [⟨i, k, -1, -1⟩] else par s ls vs i k e.sync s.procs.length
def one (s : Sy) (ls vs : List Int) (i k : Nat) : List Stp := match edge? s i k with
  | some e => oneE s ls vs i k e
  | none => []
def steps (s : Sy) (ls vs : List Int) (n : Nat) : List Stp := fm (fun i => fm (one s ls vs i) (lenE s i)) n
theorem cand_len (s : Sy) (ls vs : List Int) (i k : Nat) (c : Int) (j m : Nat) : (cand s ls vs i k c j m).length ≤ 1 := by
  unfold cand candE
  split
  · split <;> simp
  · simp
theorem lenE_le {s : Sy} (h : okSy s = true) (j : Nat) : lenE s j ≤ 6 := by
  by_cases hj : j < s.procs.length
  · rw [lenE_at hj]
    exact (okP_locs ((okSy_procs h).2 _ (List.getElem_mem hj))).2.2.1
  · simp [lenE, hj]
theorem parJ_len (s : Sy) (ls vs : List Int) (i k : Nat) (c : Int) (j n : Nat) : (fm (cand s ls vs i k c j) n).length ≤ n := by
  have := fm_len (fun m => cand_len s ls vs i k c j m) n
  omega
theorem par_len {s : Sy} (h : okSy s = true) (ls vs : List Int) (i k : Nat) (c : Int) (n : Nat) : (par s ls vs i k c n).length ≤ n * 6 :=
  fm_len (fun j => Nat.le_trans (parJ_len s ls vs i k c j _) (lenE_le h j)) n
theorem one_len {s : Sy} (h : okSy s = true) (ls vs : List Int) (i k : Nat) : (one s ls vs i k).length ≤ 18 := by
  unfold one oneE
  split
  · split
    · simp
    · split
      · simp
      · rename_i e _ _ _
        have := par_len h ls vs i k e.sync s.procs.length
        have := (okSy_procs h).1
        omega
  · simp
theorem stE_len {s : Sy} (h : okSy s = true) (ls vs : List Int) (i m : Nat) : (fm (one s ls vs i) m).length ≤ m * 18 := fm_len (fun k => one_len h ls vs i k) m
theorem steps_len {s : Sy} (h : okSy s = true) (ls vs : List Int) (n : Nat) : (steps s ls vs n).length ≤ n * 108 :=
  fm_len (fun i => by have := stE_len h ls vs i (lenE s i); have := lenE_le h i; omega) n
end Sys
end Go.Proofs.Ytffadknollkgiaa
