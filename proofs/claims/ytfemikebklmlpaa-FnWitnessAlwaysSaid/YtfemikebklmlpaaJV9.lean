/- Joined texts (StepsA, StepsB): contracts and plain laws. Conditions: those of each theorem. -/
import Derived.Test.YtfemikebklmlpaaJV7
import Derived.Test.YtfemikebklmlpaaJV2
import Derived.Test.YtfemikebklmlpaaJV3
import Derived.Test.YtfemikebklmlpaaJV1
import Derived.Maps.AppendAt
set_option linter.unusedVariables false
set_option linter.unusedSimpArgs false
namespace Go.Proofs.Ytfemikebklmlpaa
open Go.RowKit
set_option linter.unusedVariables false
set_option linter.unusedSimpArgs false
namespace Sys

theorem cell_below {w w' : World} (h : Below w.heap.size w w') {b o : Nat} {v : Value} (hb : b < w.heap.size) (hc : w.cell? ⟨b, o, none⟩ = some v) : w'.cell? ⟨b, o, none⟩ = some v := (World.cell?_of_block (w := w) (a := ⟨b, o, none⟩) (h.block b hb)).trans hc
theorem ownsRow_low {w : World} {base base' : Nat} {e : TypeId} {size : Nat} {v : Value} {n : Nat} {xs : List Value} (h : w.ownsRow base e size v n xs) (hb : base' ≤ base) : w.ownsRow base' e size v n xs :=
  ⟨h.1, h.2.imp id fun ⟨g, cap, cur, h1, h2, h3⟩ => ⟨g, cap, cur, h1, Nat.le_trans hb h2, h3⟩⟩
structure Stp where
  p : Int
  e : Int
  q : Int
  f : Int
def Stp.cells (t : Stp) : List Value := [.int .i64 t.p, .int .i64 t.e, .int .i64 t.q, .int .i64 t.f]
def stCells : List Stp → List Value
  | [] => []
  | t :: ts => t.cells ++ stCells ts
theorem stCells_append : ∀ l m : List Stp, stCells (l ++ m) = stCells l ++ stCells m
  | [], m => rfl
  | t :: ts, m => by simp [stCells, stCells_append ts m]
theorem stCells_len : ∀ l : List Stp, (stCells l).length = l.length * 4
  | [] => rfl
  | t :: ts => by simp [stCells, Stp.cells, stCells_len ts]; omega
theorem stCells_one : ∀ (l : List Stp) (u : Value), u ∈ stCells l → u.oneCell' = true
  | [], u, h => by cases h
  | t :: ts, u, h => by
    rw [stCells] at h
    rcases List.mem_append.1 h with h | h
    · simp [Stp.cells] at h
      rcases h with rfl | rfl | rfl | rfl <;> rfl
    · exact stCells_one ts u h
theorem step_info : (Try.prog.info? 116).map (fun i => (i.zero, i.size, i.bytes)) = some (some (.agg #[.int .i64 0, .int .i64 0, .int .i64 0, .int .i64 0]), 4, 32) := by kernel_rfl
/-- a row of steps of one's own -/
def OwnS (B : Nat) (v : Value) (l : List Stp) (w : World) : Prop := w.ownsRow B 116 4 v l.length (stCells l)
theorem OwnS.nil (B : Nat) (w : World) : OwnS B (.slice none 0 0) [] w := World.ownsRow_nil ..
theorem OwnS.made (w : World) : OwnS w.heap.size (.slice (some ⟨w.heap.size, 0, none⟩) 0 0) [] (w.alloc (.cells #[] 116)) :=
  World.ownsRow_made (e := 116) (size := 4) (base := w.heap.size) w #[] 0 (Nat.le_refl _) (by simp) (by simp)
theorem OwnS.shape {B : Nat} {v : Value} {l : List Stp} {w : World} (h : OwnS B v l w) : (v = .slice none 0 0 ∧ l = []) ∨ ∃ g c, v = .slice (some ⟨g, 0, none⟩) l.length c ∧ B ≤ g ∧ g < w.heap.size ∧ l.length ≤ c ∧ c ≤ maxLen := by
  rcases h.2 with ⟨rfl, hz⟩ | ⟨g, cap, cur, rfl, e2, e3, e4, e5, e6, e7⟩
  · exact .inl ⟨rfl, List.eq_nil_of_length_eq_zero hz⟩
  · exact .inr ⟨g, cap, rfl, e2, (Array.getElem?_eq_some_iff.1 e3).1, e4, e5⟩
/-- append of a row of steps in memory, at the operation -/
theorem wp_app_steps {ops : Array Oper} {rest : List Oper} {o : Oper} {a : Act} {Q : Exit → Act → World → Prop} {w : World} (hgd : o.guard = none) (s x : Operand)
    (ho : o.op = .call { callee := .builtin .append, args := #[s, x], argTypes := #[112, 112] }) (B : Nat) (v : Value) (acc l : List Stp) (g c : Nat) (hs : a.eval s = v) (hx : a.eval x = .slice (some ⟨g, 0, none⟩) l.length c)
    (hv : OwnS B v acc w) (hB : B ≤ w.heap.size) (hl : ∀ j u, (stCells l)[j]? = some u → w.cell? ⟨g, j, none⟩ = some u) (h1 : acc.length ≤ 100000) (h2 : l.length ≤ 100000)
    (h : ∀ v' w', OwnS B v' (acc ++ l) w' → w.grownBy w' v.ownBlock → (v' = .slice none 0 0 → v = .slice none 0 0 ∧ l.length = 0) → wpList Try.prog ops Q rest (a.put o.dst v') w') :
    wpList Try.prog ops Q (o :: rest) a w := by
  obtain ⟨ri, hi, hz, hs1, hs2⟩ := info_parts step_info
  refine wpList_append_own_at _ hgd s x 112 ho B 116 ri _ 4 32 Try.underlying112 hi hz hs1 hs2 rfl (by omega) v acc.length _ hs hv ⟨g, 0, none⟩ l.length c (stCells l) hx (stCells_len l) (fun j u hj => ?_) (stCells_one l) (by simp only [maxLen]; omega) (by omega) hB ?_
  · have e : Addr.add ⟨g, 0, none⟩ j = ⟨g, j, none⟩ := by unfold Addr.add; split <;> simp_all
    rw [e]
    exact hl j u hj
  · intro v2 w3 hown hgrow hnil _
    exact h v2 w3 (by unfold OwnS; rw [List.length_append, stCells_append]; exact hown) hgrow (fun e => (hnil.1 e))
theorem OwnS.below {B : Nat} {v : Value} {l : List Stp} {w w' : World} (h : OwnS B v l w) (hb : Below w.heap.size w w') : OwnS B v l w' :=
  World.ownsRow.kept (row := none) h ⟨hb.os, hb.tape, hb.output, hb.size, fun k hk _ => hb.block k hk⟩ (by cases v.ownBlock <;> simp)
theorem OwnS.grown {B : Nat} {v : Value} {l : List Stp} {w0 w w' : World} (h : OwnS B v l w) (hb : Below w0.heap.size w0 w) (hg : w.grownBy w' v.ownBlock) (hB : w0.heap.size ≤ B) : Below w0.heap.size w0 w' :=
  ⟨hg.os.trans hb.os, hg.tape.trans hb.tape, hg.output.trans hb.output, Nat.le_trans hb.size hg.size, fun k hk => by
    rw [hg.block k (Nat.lt_of_lt_of_le hk hb.size) (fun e => by have := (World.ownsRow.lt h k e.symm).1; omega), hb.block k hk]⟩
/-- append of one new step, at the operation -/
theorem wp_app_step {ops : Array Oper} {rest : List Oper} {o : Oper} {a : Act} {Q : Exit → Act → World → Prop} {w : World} (hgd : o.guard = none) (s x : Operand)
    (ho : o.op = .call { callee := .builtin .append, args := #[s, x], argTypes := #[112, 112] }) (B : Nat) (v : Value) (acc : List Stp) (t : Stp) (c : Nat) (hs : a.eval s = v) (hx : a.eval x = .slice (some ⟨w.heap.size, 0, none⟩) 1 c)
    (hv : OwnS B v acc w) (hB : B ≤ w.heap.size) (h1 : acc.length ≤ 100000)
    (h : ∀ v' w', OwnS B v' (acc ++ [t]) w' → (w.alloc (.cells #[.int .i64 t.p, .int .i64 t.e, .int .i64 t.q, .int .i64 t.f] 116)).grownBy w' v.ownBlock → v' ≠ .slice none 0 0 → wpList Try.prog ops Q rest (a.put o.dst v') w') :
    wpList Try.prog ops Q (o :: rest) a (w.alloc (.cells #[.int .i64 t.p, .int .i64 t.e, .int .i64 t.q, .int .i64 t.f] 116)) := by
  refine wp_app_steps hgd s x ho B v acc [t] w.heap.size c hs hx (hv.below (below_alloc _ _)) (by simp; omega) (fun j u hj => ?_) h1 (by simp) (fun v' w' h1 h2 h3 => h v' w' h1 h2 (fun e => by have := (h3 e).2; simp at this))
  rw [World.cell?_alloc_new]
  match j, hj with
  | 0, hj => simpa [stCells, Stp.cells] using hj
  | 1, hj => simpa [stCells, Stp.cells] using hj
  | 2, hj => simpa [stCells, Stp.cells] using hj
  | 3, hj => simpa [stCells, Stp.cells] using hj
  | (n + 4), hj => simp [stCells, Stp.cells] at hj
def fm (f : Nat → List Stp) : Nat → List Stp
  | 0 => []
  | n + 1 => fm f n ++ f n
theorem fm_len {f : Nat → List Stp} {b : Nat} (h : ∀ x, (f x).length ≤ b) : ∀ n, (fm f n).length ≤ n * b
  | 0 => by simp [fm]
  | n + 1 => by
    rw [fm, List.length_append, Nat.succ_mul]
    have := fm_len h n
    have := h n
    omega
def edge? (s : Sy) (j m : Nat) : Option Ed := (s.procs[j]?).bind fun q => q.edges[m]?
theorem edge?_some {s : Sy} {j m : Nat} (hj : j < s.procs.length) (hm : m < s.procs[j].edges.length) : edge? s j m = some s.procs[j].edges[m] := by simp [edge?, hj, hm]
def lenE (s : Sy) (j : Nat) : Nat := ((s.procs[j]?).map fun q => q.edges.length).getD 0
theorem lenE_at {s : Sy} {j : Nat} (hj : j < s.procs.length) : lenE s j = s.procs[j].edges.length := by simp [lenE, hj]
/-- a step with a partner -/
def candE (ls vs : List Int) (i k : Nat) (c : Int) (j m : Nat) (e : Ed) : List Stp := if j ≠ i ∧ e.sync = -c ∧ rdy ls vs j e = true then [⟨i, k, j, m⟩] else []
def cand (s : Sy) (ls vs : List Int) (i k : Nat) (c : Int) (j m : Nat) : List Stp := match edge? s j m with
  | some e => candE ls vs i k c j m e
  | none => []
def par (s : Sy) (ls vs : List Int) (i k : Nat) (c : Int) (n : Nat) : List Stp := fm (fun j => fm (cand s ls vs i k c j) (lenE s j)) n
def oneE (s : Sy) (ls vs : List Int) (i k : Nat) (e : Ed) : List Stp := if e.sync < 0 ∨ rdy ls vs i e = false then [] else if e.sync = 0 then [⟨i, k, -1, -1⟩] else par s ls vs i k e.sync s.procs.length
def one (s : Sy) (ls vs : List Int) (i k : Nat) : List Stp := match edge? s i k with
  | some e => oneE s ls vs i k e
  | none => []
def steps (s : Sy) (ls vs : List Int) (n : Nat) : List Stp := fm (fun i => fm (one s ls vs i) (lenE s i)) n
theorem cand_len (s : Sy) (ls vs : List Int) (i k : Nat) (c : Int) (j m : Nat) : (cand s ls vs i k c j m).length ≤ 1 := by
  unfold cand candE
  split
  · split <;> simp
  · simp
theorem lenE_le {s : Sy} (h : okSy s = true) (j : Nat) : lenE s j ≤ 6 := by
  by_cases hj : j < s.procs.length
  · rw [lenE_at hj]
    exact (okP_locs ((okSy_procs h).2 _ (List.getElem_mem hj))).2.2.1
  · simp [lenE, hj]
theorem parJ_len (s : Sy) (ls vs : List Int) (i k : Nat) (c : Int) (j n : Nat) : (fm (cand s ls vs i k c j) n).length ≤ n := by
  have := fm_len (fun m => cand_len s ls vs i k c j m) n
  omega
theorem par_len {s : Sy} (h : okSy s = true) (ls vs : List Int) (i k : Nat) (c : Int) (n : Nat) : (par s ls vs i k c n).length ≤ n * 6 :=
  fm_len (fun j => Nat.le_trans (parJ_len s ls vs i k c j _) (lenE_le h j)) n
theorem one_len {s : Sy} (h : okSy s = true) (ls vs : List Int) (i k : Nat) : (one s ls vs i k).length ≤ 18 := by
  unfold one oneE
  split
  · split
    · simp
    · split
      · simp
      · rename_i e _ _ _
        have := par_len h ls vs i k e.sync s.procs.length
        have := (okSy_procs h).1
        omega
  · simp
theorem stE_len {s : Sy} (h : okSy s = true) (ls vs : List Int) (i m : Nat) : (fm (one s ls vs i) m).length ≤ m * 18 := fm_len (fun k => one_len h ls vs i k) m
theorem steps_len {s : Sy} (h : okSy s = true) (ls vs : List Int) (n : Nat) : (steps s ls vs n).length ≤ n * 108 :=
  fm_len (fun i => by have := stE_len h ls vs i (lenE s i); have := lenE_le h i; omega) n
end Sys
end Go.Proofs.Ytfemikebklmlpaa
namespace Go.Proofs.Ytfemikebklmlpaa
open Go.RowKit
set_option linter.unusedVariables false
set_option linter.unusedSimpArgs false
namespace Sys

/-- new steps, not nil -/
def StepsPost (l : List Stp) (w : World) (e : Ending) (w' : World) : Prop := ∃ g c, e = .returned (.slice (some ⟨g, 0, none⟩) l.length c) ∧ OwnS w.heap.size (.slice (some ⟨g, 0, none⟩) l.length c) l w' ∧ Below w.heap.size w w'

theorem OwnS.at {g : Nat} {W : World} (h : g = W.heap.size) : OwnS g (.slice (some ⟨g, 0, none⟩) 0 0) [] (W.alloc (.cells #[] 116)) := by subst h; exact OwnS.made W
theorem box2_grown {w w' : World} {C base : Nat} {a b v : Value} {l : List Stp} (h : Box2 w C a b) (ho : OwnS base v l w) (hC : C < base) (hg : w.grownBy w' v.ownBlock) : Box2 w' C a b :=
  box2_block hg.size (hg.block _ h.1 fun e => by have := (World.ownsRow.lt ho C e.symm).1; omega) h
theorem OwnS.some {B : Nat} {v : Value} {l : List Stp} {w : World} (h : OwnS B v l w) (hne : v ≠ .slice none 0 0) : ∃ g c, v = .slice (some ⟨g, 0, none⟩) l.length c := by
  rcases h.shape with ⟨h1, _⟩ | ⟨g, c, h1, _⟩
  · exact absurd h1 hne
  · exact ⟨g, c, h1⟩
theorem par_next (s : Sy) (ls vs : List Int) (i k : Nat) (c : Int) (n : Nat) : par s ls vs i k c (n + 1) = par s ls vs i k c n ++ fm (cand s ls vs i k c n) (lenE s n) := rfl

set_option maxRecDepth 100000 in
set_option maxHeartbeats 8000000 in
theorem specPart_any (s : Sy) (ls vs : List Int) (i k : Nat) (hok : State.okSt s ls vs = true) (hi : i < s.procs.length) (hk : k < s.procs[i].edges.length) (w : World) (x y : Value) (hx : SyIn Any w s x) (hy : State.PairIn Any w ls vs y) :
    Calls Try.prog 96 #[x, y, .int .i64 i, .int .i64 k] w (StepsPost (par s ls vs i k s.procs[i].edges[k].sync s.procs.length) w) := by
  obtain ⟨o1, o2, o3⟩ := okSt_facts hok
  obtain ⟨-, hs1, hs2⟩ := guard_ok ((okSy_procs o1).2 _ (List.getElem_mem hi)) (List.getElem_mem hk)
  have hn3 := (okSy_procs o1).1
  have HPL := hid (fun c n => par_len o1 ls vs i k c n)
  have HJL := hid (fun c j n => parJ_len s ls vs i k c j n)
  have HLE := hid (fun j => lenE_le o1 j)
  have HRD := hid (fun (j m : Nat) (hj : j < s.procs.length) (hm : m < s.procs[j].edges.length) (W : World) (M : Below w.heap.size w W) => specReady_any s ls vs j m hok hj hm W x y (hx.below M) (hy.below M))
  obtain ⟨a, c, b, d, rfl, hc, hc2, hin, hd, hd2, hp⟩ := hx
  obtain ⟨a', b', c', d', rfl, hls, hvs, hc', hc2', hd', hd2'⟩ := hy
  have HP := hid hp
  obtain ⟨bb, ob, rfl, _, hb3, ac, cc, ⟨e0, e1⟩, hpr⟩ := SeqIn.at hp hi
  have hiq : i < s.procs.length := hi
  generalize hq : s.procs[i] = q at *
  obtain ⟨_, _, e5, _, hc5, hc6, he5⟩ := hpr
  cases e5
  obtain ⟨be, oe, rfl, _, hbe, a1, c1, a2, c2, ⟨g0, g1, g2, g3, g4, g5, g6, g7, g8, g9⟩, hed⟩ := SeqIn.at he5 hk
  have hk2 : (k : Int) < (q.edges.length : Int) := by omega
  have hi2 : (i : Int) < (s.procs.length : Int) := by omega
  generalize q.edges[k].sync = ch at *
  have hneg : IntKind.i64.wrap (-ch) = -ch := IntWalk.i64_in _ (by omega)
  unfold maxLen at hc6 hd2 hc2' hd2' hc2
  clear hp hls hvs he5 hin hed hq g0 g1 g2 g3 g4 g5 g6 g7 g8 o1 o2 o3 hok
  have hb31 : bb < w.heap.size + 1 := by omega
  have hb32 : bb < w.heap.size + 1 + 1 := by omega
  have hbe1 : be < w.heap.size + 1 := by omega
  have hbe2 : be < w.heap.size + 1 + 1 := by omega
  go_enter Try.func96, Try.ntmps96
  go_wp2_with fail
  clear hb31 hb32 hbe1 hbe2
  have BW := hid (show Below w.heap.size w (((w.alloc (.cells #[.slice a s.init.length c, .slice (some ⟨bb, ob, none⟩) s.procs.length d] 96)).alloc (.cells #[.slice a' ls.length c', .slice b' vs.length d'] 91)).alloc (.cells #[] 116)) from (by repeat (first | exact Below.refl _ _ | assumption | refine below_a ?_ _ | refine below_o ?_ _ | refine below_d ?_ | refine below_n ?_ _ | refine below_s ?_ (by first | (simp; done) | (simp; omega) | omega) _)))
  have X0 := hid (box2_next (below_alloc _ (.cells #[] 116)) (box2_next (below_alloc _ (.cells #[.slice a' ls.length c', .slice b' vs.length d'] 91)) (box2_at (w := w) (a := .slice a s.init.length c) (b := .slice (some ⟨bb, ob, none⟩) s.procs.length d) (t := 96) rfl)))
  have Y0 := hid (box2_next (below_alloc _ (.cells #[] 116)) (box2_at (w := w.alloc (.cells #[.slice a s.init.length c, .slice (some ⟨bb, ob, none⟩) s.procs.length d] 96)) (B := w.heap.size + 1) (a := .slice a' ls.length c') (b := .slice b' vs.length d') (t := 91) (by simp)))
  have O0 := hid (OwnS.at (g := w.heap.size + 1 + 1) (W := ((w.alloc (.cells #[.slice a s.init.length c, .slice (some ⟨bb, ob, none⟩) s.procs.length d] 96)).alloc (.cells #[.slice a' ls.length c', .slice b' vs.length d'] 91))) (by simp))
  go_loopw [11, 9] (fun j v wr => ∃ (n g cp : Nat), n ≤ s.procs.length ∧ j = .int .i64 n ∧ v = .slice (some ⟨g, 0, none⟩) (par s ls vs i k ch n).length cp ∧ Hid (Below w.heap.size w wr) ∧ Box2 wr w.heap.size (.slice a s.init.length c) (.slice (some ⟨bb, ob, none⟩) s.procs.length d) ∧ Box2 wr (w.heap.size + 1) (.slice a' ls.length c') (.slice b' vs.length d') ∧ Hid (OwnS (w.heap.size + 1 + 1) v (par s ls vs i k ch n) wr)) (fun j _ _ => s.procs.length - (intOf j).toNat)
  case atStart => exact ⟨0, w.heap.size + 1 + 1, 0, Nat.zero_le _, rfl, rfl, BW, X0.out, Y0.out, O0⟩
  case round =>
    obtain ⟨n, g, cp, hn, rfl, rfl, B, bx, yx, HO⟩ := hrel
    obtain ⟨wo, rfl⟩ : ∃ wo : World, wo = wr := ⟨_, rfl⟩
    have BX := hid bx
    have BY := hid yx
    obtain ⟨p0, p1, p2, p3, p4⟩ := bx
    obtain ⟨y0, y1, y2, y3, y4⟩ := yx
    by_cases hlr : n < s.procs.length
    · have hlr2 : (n : Int) < (s.procs.length : Int) := by omega
      obtain ⟨_, _, e7, _, _, ac2, cc2, ⟨f0, f1⟩, hpr2⟩ := SeqIn.at HP.out hlr
      cases e7
      have HL := hid (lenE_at hlr)
      have HC := hid (fun (m : Nat) hm => edge?_some (m := m) hlr hm)
      have HR2 := hid (fun (m : Nat) hm W M => HRD.out n m hlr hm W M)
      generalize s.procs[n] = q2 at *
      obtain ⟨_, _, e8, _, hc7, hc8, he7⟩ := hpr2
      cases e8
      have HES := hid he7
      have E1 := hid f1
      have f2 := cell_below B.out hb3 E1.out
      unfold maxLen at hc8
      clear he7 f0 f1
      go_wp2_with fail
      go_loopw [12, 9] (fun j v wr => ∃ (m g cp : Nat) (l : List Stp), Hid (l = par s ls vs i k ch n ++ fm (cand s ls vs i k ch n) m) ∧ m ≤ q2.edges.length ∧ j = .int .i64 m ∧ v = .slice (some ⟨g, 0, none⟩) l.length cp ∧ Hid (Below w.heap.size w wr) ∧ Box2 wr w.heap.size (.slice a s.init.length c) (.slice (some ⟨bb, ob, none⟩) s.procs.length d) ∧ Box2 wr (w.heap.size + 1) (.slice a' ls.length c') (.slice b' vs.length d') ∧ Hid (OwnS (w.heap.size + 1 + 1) v l wr)) (fun j _ _ => q2.edges.length - (intOf j).toNat)
      case atStart => exact ⟨0, g, cp, par s ls vs i k ch n, hid (by simp [fm]), Nat.zero_le _, rfl, rfl, B, BX.out, BY.out, HO⟩
      case round =>
        clear p0 p1 p2 p3 p4 y0 y1 y2 y3 y4 f2 HO BX BY B
        obtain ⟨m, g, cp, l, HQ, hm, rfl, rfl, B, bx, yx, HO⟩ := hrel
        have BX := hid bx
        have BY := hid yx
        obtain ⟨p0, p1, p2, p3, p4⟩ := bx
        obtain ⟨y0, y1, y2, y3, y4⟩ := yx
        have f2 := cell_below B.out hb3 E1.out
        by_cases hlt : m < q2.edges.length
        · have hlt2 : (m : Int) < (q2.edges.length : Int) := by omega
          obtain ⟨be2, oe2, rfl, _, hbe2, _, _, _, _, ⟨_, _, _, _, _, _, _, _, _, h9⟩, _⟩ := SeqIn.at HES.out hlt
          have f9 := cell_below B.out hbe2 h9
          have HRm := hid (HR2.out m hlt)
          have hcd : fm (cand s ls vs i k ch n) (m + 1) = fm (cand s ls vs i k ch n) m ++ candE ls vs i k ch n m q2.edges[m] := by rw [fm, cand, HC.out m hlt]
          have HLEN := hid (show l.length ≤ 100000 by
            rw [HQ.out]
            have h1 := HPL.out ch n
            have h2 := HJL.out ch n m
            have h3 := HLE.out n
            rw [HL.out] at h3
            rw [List.length_append]
            omega)
          generalize q2.edges[m] = e at *
          clear h9
          by_cases k1 : n = i
          · have HCD := hid (show fm (cand s ls vs i k ch n) (m + 1) = fm (cand s ls vs i k ch n) m by rw [hcd, candE, if_neg (fun h => h.1 k1), List.append_nil])
            have d1 : ((n : Int) != (i : Int)) = false := by rw [bne_eq_false_iff_eq]; omega
            have BF := hid B.out
            have XF := hid BX.out
            have YF := hid BY.out
            have OF := hid HO.out
            clear hcd k1
            go_wp2_with fail
            go_roundw
            case rel => exact ⟨m + 1, g, cp, l, hid (by rw [HCD.out]; exact HQ.out), by omega, by go_num, rfl, BF, XF.out, YF.out, OF⟩
            case measure => simp [intOf]; omega
          · have d1 : ((n : Int) != (i : Int)) = true := by rw [bne_iff_ne]; omega
            by_cases k2 : e.sync = -ch
            · have d2 : (e.sync == -ch) = true := by simpa using k2
              have HE2 := hid (show candE ls vs i k ch n m e = if rdy ls vs n e = true then [⟨i, k, n, m⟩] else [] by rw [candE]; simp [k1, k2])
              generalize rdy ls vs n e = r at *
              cases r with
              | false =>
                have HCD := hid (show fm (cand s ls vs i k ch n) (m + 1) = fm (cand s ls vs i k ch n) m by rw [hcd, HE2.out]; simp)
                clear hcd k1 k2
                go_wp2_with fail
                refine (HRm.out _ B.out).mono ?_
                rintro _ w2 ⟨rfl, hb⟩
                have BF := hid (below_then B.out hb B.out.size)
                have XF := hid (box2_next hb BX.out)
                have YF := hid (box2_next hb BY.out)
                have OF := hid (HO.out.below hb)
                have sF := hb.size
                clear hb
                go_wp2_with fail
                go_roundw
                case rel => exact ⟨m + 1, g, cp, l, hid (by rw [HCD.out]; exact HQ.out), by omega, by go_num, rfl, BF, XF.out, YF.out, OF⟩
                case measure => simp [intOf]; omega
              | true =>
                have HCD := hid (show fm (cand s ls vs i k ch n) (m + 1) = fm (cand s ls vs i k ch n) m ++ [⟨i, k, n, m⟩] by rw [hcd, HE2.out, if_pos rfl])
                clear hcd k1 k2
                go_wp2_with fail
                refine (HRm.out _ B.out).mono ?_
                rintro _ w2 ⟨rfl, hb⟩
                have BF := hid (below_then B.out hb B.out.size)
                have XF := hid (box2_next hb BX.out)
                have YF := hid (box2_next hb BY.out)
                have OF := hid (HO.out.below hb)
                have sF := hb.size
                clear hb
                go_wp2_with (at_builtin; refine wp_app_step rfl _ _ rfl (w.heap.size + 1 + 1) (.slice (some ⟨g, 0, none⟩) l.length cp) l ⟨i, k, n, m⟩ 1 rfl rfl OF.out (by have := XF.out.1; have := YF.out.1; omega) HLEN.out ?_; intro v' w3 hv' hg hne)
                have OA := hid (OF.out.below (below_alloc w2 (.cells #[.int .i64 i, .int .i64 k, .int .i64 n, .int .i64 m] 116)))
                have B3 := hid (OwnS.grown OA.out (below_then BF.out (below_alloc w2 (.cells #[.int .i64 i, .int .i64 k, .int .i64 n, .int .i64 m] 116)) BF.out.size) hg (by omega))
                have X3 := hid (box2_grown (box2_next (below_alloc w2 (.cells #[.int .i64 i, .int .i64 k, .int .i64 n, .int .i64 m] 116)) XF.out) OA.out (by omega) hg)
                have Y3 := hid (box2_grown (box2_next (below_alloc w2 (.cells #[.int .i64 i, .int .i64 k, .int .i64 n, .int .i64 m] 116)) YF.out) OA.out (by omega) hg)
                obtain ⟨l3, hl3⟩ : ∃ l3, Hid (l3 = l ++ [⟨i, k, n, m⟩]) := ⟨_, hid rfl⟩
                rw [← hl3.out] at hv'
                obtain ⟨g3, cp3, rfl⟩ := hv'.some hne
                have O3 := hid hv'
                clear hv' hg hne
                go_wp2_with fail
                go_roundw
                case rel => exact ⟨m + 1, g3, cp3, l3, hid (by rw [hl3.out, HQ.out, HCD.out, List.append_assoc]), by omega, by go_num, rfl, B3, X3.out, Y3.out, O3⟩
                case measure => simp [intOf]; omega
            · have HCD := hid (show fm (cand s ls vs i k ch n) (m + 1) = fm (cand s ls vs i k ch n) m by rw [hcd, candE, if_neg (fun h => k2 h.2.1), List.append_nil])
              have d2 : (e.sync == -ch) = false := by simpa using k2
              have BF := hid B.out
              have XF := hid BX.out
              have YF := hid BY.out
              have OF := hid HO.out
              clear hcd k1 k2
              go_wp2_with fail
              go_roundw
              case rel => exact ⟨m + 1, g, cp, l, hid (by rw [HCD.out]; exact HQ.out), by omega, by go_num, rfl, BF, XF.out, YF.out, OF⟩
              case measure => simp [intOf]; omega
        · have e : m = q2.edges.length := by omega
          subst e
          have hlt2 : ¬ ((q2.edges.length : Int) < (q2.edges.length : Int)) := by omega
          have HF := hid (show par s ls vs i k ch n ++ fm (cand s ls vs i k ch n) q2.edges.length = par s ls vs i k ch (n + 1) by rw [par_next, HL.out])
          obtain rfl : l = par s ls vs i k ch (n + 1) := HQ.out.trans HF.out
          go_wp2_with fail
          go_roundw
          case rel => exact ⟨n + 1, g, cp, by omega, by go_num, rfl, B, BX.out, BY.out, HO⟩
          case measure => simp [intOf]; omega
    · have e : n = s.procs.length := by omega
      subst e
      have hlr2 : ¬ ((s.procs.length : Int) < (s.procs.length : Int)) := by omega
      go_wp2_with fail
      go_ret
      exact ⟨g, cp, rfl, ownsRow_low HO.out (by omega), B.out⟩
theorem own_cell {B g c : Nat} {l : List Stp} {w : World} (h : OwnS B (.slice (some ⟨g, 0, none⟩) l.length c) l w) {j : Nat} {u : Value} (hj : (stCells l)[j]? = some u) : w.cell? ⟨g, j, none⟩ = some u := by
  have := World.ownsRow.cells h (g := g) rfl j u hj
  have e : Addr.add ⟨g, 0, none⟩ j = ⟨g, j, none⟩ := by unfold Addr.add; split <;> simp_all
  rwa [e] at this
theorem steps_next (s : Sy) (ls vs : List Int) (n : Nat) : steps s ls vs (n + 1) = steps s ls vs n ++ fm (one s ls vs n) (lenE s n) := rfl

set_option maxRecDepth 100000 in
set_option maxHeartbeats 8000000 in
theorem specSteps_any (s : Sy) (ls vs : List Int) (hok : State.okSt s ls vs = true) (hne0 : 0 < s.procs.length) (w : World) (x y : Value) (hx : SyIn Any w s x) (hy : State.PairIn Any w ls vs y) :
    Calls Try.prog 87 #[x, y] w (StepsPost (steps s ls vs s.procs.length) w) := by
  obtain ⟨o1, o2, o3⟩ := okSt_facts hok
  have hn3 := (okSy_procs o1).1
  have HPAR := hid (fun i k c => par_len o1 ls vs i k c s.procs.length)
  have HSL := hid (fun n => steps_len o1 ls vs n)
  have HJL := hid (fun n m => stE_len o1 ls vs n m)
  have HLE := hid (fun j => lenE_le o1 j)
  have HRD := hid (fun (j m : Nat) (hj : j < s.procs.length) (hm : m < s.procs[j].edges.length) (W : World) (M : Below w.heap.size w W) => specReady_any s ls vs j m hok hj hm W x y (hx.below M) (hy.below M))
  have HPT := hid (fun (j m : Nat) (hj : j < s.procs.length) (hm : m < s.procs[j].edges.length) (W : World) (M : Below w.heap.size w W) => specPart_any s ls vs j m hok hj hm W x y (hx.below M) (hy.below M))
  obtain ⟨a, c, b, d, rfl, hc, hc2, hin, hd, hd2, hp⟩ := hx
  obtain ⟨a', b', c', d', rfl, hls, hvs, hc', hc2', hd', hd2'⟩ := hy
  have HP := hid hp
  obtain ⟨bb, ob, rfl, _, hb3, -⟩ := SeqIn.at hp hne0
  unfold maxLen at hd2 hc2' hd2' hc2
  clear hp hls hvs hin o1 o2 o3 hok
  go_enter Try.func87, Try.ntmps87
  go_wp2_with fail
  have BW := hid (show Below w.heap.size w (((w.alloc (.cells #[.slice a s.init.length c, .slice (some ⟨bb, ob, none⟩) s.procs.length d] 96)).alloc (.cells #[.slice a' ls.length c', .slice b' vs.length d'] 91)).alloc (.cells #[] 116)) from (by repeat (first | exact Below.refl _ _ | assumption | refine below_a ?_ _ | refine below_o ?_ _ | refine below_d ?_ | refine below_n ?_ _ | refine below_s ?_ (by first | (simp; done) | (simp; omega) | omega) _)))
  have X0 := hid (box2_next (below_alloc _ (.cells #[] 116)) (box2_next (below_alloc _ (.cells #[.slice a' ls.length c', .slice b' vs.length d'] 91)) (box2_at (w := w) (a := .slice a s.init.length c) (b := .slice (some ⟨bb, ob, none⟩) s.procs.length d) (t := 96) rfl)))
  have Y0 := hid (box2_next (below_alloc _ (.cells #[] 116)) (box2_at (w := (w.alloc (.cells #[.slice a s.init.length c, .slice (some ⟨bb, ob, none⟩) s.procs.length d] 96))) (B := w.heap.size + 1) (a := .slice a' ls.length c') (b := .slice b' vs.length d') (t := 91) (by simp)))
  have O0 := hid (OwnS.at (g := w.heap.size + 1 + 1) (W := ((w.alloc (.cells #[.slice a s.init.length c, .slice (some ⟨bb, ob, none⟩) s.procs.length d] 96)).alloc (.cells #[.slice a' ls.length c', .slice b' vs.length d'] 91))) (by simp))
  go_loopw [6, 5] (fun j v wr => ∃ (n g cp : Nat), n ≤ s.procs.length ∧ j = .int .i64 n ∧ v = .slice (some ⟨g, 0, none⟩) (steps s ls vs n).length cp ∧ Hid (Below w.heap.size w wr) ∧ Box2 wr w.heap.size (.slice a s.init.length c) (.slice (some ⟨bb, ob, none⟩) s.procs.length d) ∧ Box2 wr (w.heap.size + 1) (.slice a' ls.length c') (.slice b' vs.length d') ∧ Hid (OwnS (w.heap.size + 1 + 1) v (steps s ls vs n) wr)) (fun j _ _ => s.procs.length - (intOf j).toNat)
  case atStart => exact ⟨0, w.heap.size + 1 + 1, 0, Nat.zero_le _, rfl, rfl, BW, X0.out, Y0.out, O0⟩
  case round =>
    obtain ⟨n, g, cp, hn, rfl, rfl, B, bx, yx, HO⟩ := hrel
    obtain ⟨wo, rfl⟩ : ∃ wo : World, wo = wr := ⟨_, rfl⟩
    have BX := hid bx
    have BY := hid yx
    obtain ⟨p0, p1, p2, p3, p4⟩ := bx
    obtain ⟨y0, y1, y2, y3, y4⟩ := yx
    by_cases hlr : n < s.procs.length
    · have hlr2 : (n : Int) < (s.procs.length : Int) := by omega
      obtain ⟨_, _, e7, _, _, ac2, cc2, ⟨f0, f1⟩, hpr2⟩ := SeqIn.at HP.out hlr
      cases e7
      have HL := hid (lenE_at hlr)
      have HC := hid (fun (m : Nat) hm => edge?_some (m := m) hlr hm)
      have HR2 := hid (fun (m : Nat) hm W M => HRD.out n m hlr hm W M)
      have HP2 := hid (fun (m : Nat) hm W M => HPT.out n m hlr hm W M)
      generalize s.procs[n] = q2 at *
      obtain ⟨_, _, e8, _, hc7, hc8, he7⟩ := hpr2
      cases e8
      have HES := hid he7
      have E1 := hid f1
      have f2 := cell_below B.out hb3 E1.out
      unfold maxLen at hc8
      clear he7 f0 f1
      go_wp2_with fail
      go_loopw [7, 5] (fun j v wr => ∃ (m g cp : Nat) (l : List Stp), Hid (l = steps s ls vs n ++ fm (one s ls vs n) m) ∧ m ≤ q2.edges.length ∧ j = .int .i64 m ∧ v = .slice (some ⟨g, 0, none⟩) l.length cp ∧ Hid (Below w.heap.size w wr) ∧ Box2 wr w.heap.size (.slice a s.init.length c) (.slice (some ⟨bb, ob, none⟩) s.procs.length d) ∧ Box2 wr (w.heap.size + 1) (.slice a' ls.length c') (.slice b' vs.length d') ∧ Hid (OwnS (w.heap.size + 1 + 1) v (l) wr)) (fun j _ _ => q2.edges.length - (intOf j).toNat)
      case atStart => exact ⟨0, g, cp, steps s ls vs n, hid (by simp [fm]), Nat.zero_le _, rfl, rfl, B, BX.out, BY.out, HO⟩
      case round =>
        clear p0 p1 p2 p3 p4 y0 y1 y2 y3 y4 f2 HO BX BY B
        obtain ⟨m, g, cp, l, HQ, hm, rfl, rfl, B, bx, yx, HO⟩ := hrel
        have BX := hid bx
        have BY := hid yx
        obtain ⟨p0, p1, p2, p3, p4⟩ := bx
        obtain ⟨y0, y1, y2, y3, y4⟩ := yx
        have f2 := cell_below B.out hb3 E1.out
        by_cases hlt : m < q2.edges.length
        · have hlt2 : (m : Int) < (q2.edges.length : Int) := by omega
          obtain ⟨be2, oe2, rfl, _, hbe2, _, _, _, _, ⟨_, _, _, _, _, _, _, _, _, h9⟩, _⟩ := SeqIn.at HES.out hlt
          have H9 := hid h9
          have f9 := cell_below B.out hbe2 h9
          have HRm := hid (HR2.out m hlt)
          have HPA := hid (HP2.out m hlt)
          have hcd : fm (one s ls vs n) (m + 1) = fm (one s ls vs n) m ++ oneE s ls vs n m q2.edges[m] := by rw [fm, one, HC.out m hlt]
          have HLEN := hid (show l.length ≤ 100000 by
            rw [HQ.out]
            have h1 := HSL.out n
            have h2 := HJL.out n m
            have h3 := HLE.out n
            rw [HL.out] at h3
            rw [List.length_append]
            omega)
          generalize q2.edges[m] = e at *
          have HPL := hid (fun (m : Nat) => (show (par s ls vs n m e.sync s.procs.length).length ≤ 100000 by have := HPAR.out n m e.sync; omega))
          clear h9
          by_cases k1 : e.sync < 0
          · have HCD := hid (show fm (one s ls vs n) (m + 1) = fm (one s ls vs n) m by rw [hcd, oneE, if_pos (.inl k1), List.append_nil])
            have BF := hid B.out
            have XF := hid BX.out
            have YF := hid BY.out
            have OF := hid HO.out
            clear hcd
            go_wp2_with fail
            go_roundw
            case rel => exact ⟨m + 1, g, cp, l, hid (by rw [HCD.out]; exact HQ.out), by omega, by go_num, rfl, BF, XF.out, YF.out, OF⟩
            case measure => simp [intOf]; omega
          · generalize hr : rdy ls vs n e = r at *
            cases r with
            | false =>
              have HCD := hid (show fm (one s ls vs n) (m + 1) = fm (one s ls vs n) m by rw [hcd, oneE, if_pos (.inr hr), List.append_nil])
              clear hr hcd
              go_wp2_with fail
              refine (HRm.out _ B.out).mono ?_
              rintro _ w2 ⟨rfl, hb⟩
              have BF := hid (below_then B.out hb B.out.size)
              have XF := hid (box2_next hb BX.out)
              have YF := hid (box2_next hb BY.out)
              have OF := hid (HO.out.below hb)
              have sF := hb.size
              have f3 := cell_below BF.out hb3 E1.out
              have f8 := cell_below BF.out hbe2 H9.out
              obtain ⟨x0, x1, x2, x3, x4⟩ := id XF.out
              obtain ⟨z0, z1, z2, z3, z4⟩ := id YF.out
              clear hb
              go_wp2_with fail
              go_roundw
              case rel => exact ⟨m + 1, g, cp, l, hid (by rw [HCD.out]; exact HQ.out), by omega, by go_num, rfl, BF, XF.out, YF.out, OF⟩
              case measure => simp [intOf]; omega
            | true =>
              by_cases k2 : e.sync = 0
              · have HCD := hid (show fm (one s ls vs n) (m + 1) = fm (one s ls vs n) m ++ [⟨n, m, -1, -1⟩] by rw [hcd, oneE, if_neg (by rw [hr]; simp [k1]), if_pos k2])
                have d2 : (e.sync == 0) = true := by simpa using k2
                clear hr hcd k2
                go_wp2_with fail
                refine (HRm.out _ B.out).mono ?_
                rintro _ w2 ⟨rfl, hb⟩
                have BF := hid (below_then B.out hb B.out.size)
                have XF := hid (box2_next hb BX.out)
                have YF := hid (box2_next hb BY.out)
                have OF := hid (HO.out.below hb)
                have sF := hb.size
                have f3 := cell_below BF.out hb3 E1.out
                have f8 := cell_below BF.out hbe2 H9.out
                obtain ⟨x0, x1, x2, x3, x4⟩ := id XF.out
                obtain ⟨z0, z1, z2, z3, z4⟩ := id YF.out
                clear hb
                go_wp2_with (at_builtin; refine wp_app_step rfl _ _ rfl (w.heap.size + 1 + 1) (.slice (some ⟨g, 0, none⟩) l.length cp) l ⟨n, m, -1, -1⟩ 1 rfl rfl OF.out (by have := XF.out.1; have := YF.out.1; omega) HLEN.out ?_; intro v' w3 hv' hg hne)
                have OA := hid (OF.out.below (below_alloc w2 (.cells #[.int .i64 n, .int .i64 m, .int .i64 (-1), .int .i64 (-1)] 116)))
                have B3 := hid (OwnS.grown OA.out (below_then BF.out (below_alloc w2 (.cells #[.int .i64 n, .int .i64 m, .int .i64 (-1), .int .i64 (-1)] 116)) BF.out.size) hg (by omega))
                have X3 := hid (box2_grown (box2_next (below_alloc w2 (.cells #[.int .i64 n, .int .i64 m, .int .i64 (-1), .int .i64 (-1)] 116)) XF.out) OA.out (by omega) hg)
                have Y3 := hid (box2_grown (box2_next (below_alloc w2 (.cells #[.int .i64 n, .int .i64 m, .int .i64 (-1), .int .i64 (-1)] 116)) YF.out) OA.out (by omega) hg)
                obtain ⟨l3, hl3⟩ : ∃ l3, Hid (l3 = l ++ [⟨n, m, -1, -1⟩]) := ⟨_, hid rfl⟩
                rw [← hl3.out] at hv'
                obtain ⟨g3, cp3, rfl⟩ := hv'.some hne
                have O3 := hid hv'
                clear hv' hg hne
                go_wp2_with fail
                go_roundw
                case rel => exact ⟨m + 1, g3, cp3, l3, hid (by rw [hl3.out, HQ.out, HCD.out, List.append_assoc]), by omega, by go_num, rfl, B3, X3.out, Y3.out, O3⟩
                case measure => simp [intOf]; omega
              · have HCD := hid (show fm (one s ls vs n) (m + 1) = fm (one s ls vs n) m ++ par s ls vs n m e.sync s.procs.length by rw [hcd, oneE, if_neg (by rw [hr]; simp [k1]), if_neg k2])
                have d2 : (e.sync == 0) = false := by simpa using k2
                clear hr hcd k2
                go_wp2_with fail
                refine (HRm.out _ B.out).mono ?_
                rintro _ w2 ⟨rfl, hb⟩
                have BF := hid (below_then B.out hb B.out.size)
                have XF := hid (box2_next hb BX.out)
                have YF := hid (box2_next hb BY.out)
                have OF := hid (HO.out.below hb)
                have sF := hb.size
                have f3 := cell_below BF.out hb3 E1.out
                have f8 := cell_below BF.out hbe2 H9.out
                obtain ⟨x0, x1, x2, x3, x4⟩ := id XF.out
                obtain ⟨z0, z1, z2, z3, z4⟩ := id YF.out
                clear hb
                go_wp2_with fail
                refine (HPA.out _ BF.out).mono ?_
                rintro _ w4 ⟨g4, c4, rfl, hw4, hb⟩
                have B4 := hid (below_then BF.out hb BF.out.size)
                have X4 := hid (box2_next hb XF.out)
                have Y4 := hid (box2_next hb YF.out)
                have OA := hid (OF.out.below hb)
                have HPR := hid hw4
                have HLEN2 := hid (HPL.out m)
                have s4 := hb.size
                clear hb hw4
                generalize par s ls vs n m e.sync s.procs.length = pl at *
                go_wp2_with (at_builtin; refine wp_app_steps rfl _ _ rfl (w.heap.size + 1 + 1) (.slice (some ⟨g, 0, none⟩) l.length cp) l pl g4 c4 rfl rfl OA.out (by have := XF.out.1; have := YF.out.1; omega) (fun j u hj => own_cell HPR.out hj) HLEN.out HLEN2.out ?_; intro v' w3 hv' hg hnil)
                have hne : v' ≠ .slice none 0 0 := fun h => by have := (hnil h).1; simp at this
                have B3 := hid (OwnS.grown OA.out B4.out hg (by omega))
                have X3 := hid (box2_grown X4.out OA.out (by omega) hg)
                have Y3 := hid (box2_grown Y4.out OA.out (by omega) hg)
                clear hnil
                obtain ⟨l3, hl3⟩ : ∃ l3, Hid (l3 = l ++ pl) := ⟨_, hid rfl⟩
                rw [← hl3.out] at hv'
                obtain ⟨g3, cp3, rfl⟩ := hv'.some hne
                have O3 := hid hv'
                clear hv' hg hne
                go_wp2_with fail
                go_roundw
                case rel => exact ⟨m + 1, g3, cp3, l3, hid (by rw [hl3.out, HQ.out, HCD.out, List.append_assoc]), by omega, by go_num, rfl, B3, X3.out, Y3.out, O3⟩
                case measure => simp [intOf]; omega
        · have e : m = q2.edges.length := by omega
          subst e
          have hlt2 : ¬ ((q2.edges.length : Int) < (q2.edges.length : Int)) := by omega
          have HF := hid (show steps s ls vs n ++ fm (one s ls vs n) q2.edges.length = steps s ls vs (n + 1) by rw [steps_next, HL.out])
          obtain rfl : l = steps s ls vs (n + 1) := HQ.out.trans HF.out
          go_wp2_with fail
          go_roundw
          case rel => exact ⟨n + 1, g, cp, by omega, by go_num, rfl, B, BX.out, BY.out, HO⟩
          case measure => simp [intOf]; omega
    · have e : n = s.procs.length := by omega
      subst e
      have hlr2 : ¬ ((s.procs.length : Int) < (s.procs.length : Int)) := by omega
      go_wp2_with fail
      go_ret
      exact ⟨g, cp, rfl, ownsRow_low HO.out (by omega), B.out⟩
/-- append of one new step, at the operation; and where the result may lie -/
theorem wp_app_stepAt {ops : Array Oper} {rest : List Oper} {o : Oper} {a : Act} {Q : Exit → Act → World → Prop} {w : World} (hgd : o.guard = none) (s x : Operand)
    (ho : o.op = .call { callee := .builtin .append, args := #[s, x], argTypes := #[112, 112] }) (B : Nat) (v : Value) (acc : List Stp) (t : Stp) (c : Nat) (hs : a.eval s = v) (hx : a.eval x = .slice (some ⟨w.heap.size, 0, none⟩) 1 c)
    (hv : OwnS B v acc w) (hB : B ≤ w.heap.size) (h1 : acc.length ≤ 100000)
    (h : ∀ v' w', OwnS B v' (acc ++ [t]) w' → (w.alloc (.cells #[.int .i64 t.p, .int .i64 t.e, .int .i64 t.q, .int .i64 t.f] 116)).grownBy w' v.ownBlock → (v'.ownBlock = v.ownBlock ∨ v'.ownBlock = some (w.heap.size + 1)) → wpList Try.prog ops Q rest (a.put o.dst v') w') :
    wpList Try.prog ops Q (o :: rest) a (w.alloc (.cells #[.int .i64 t.p, .int .i64 t.e, .int .i64 t.q, .int .i64 t.f] 116)) := by
  obtain ⟨ri, hi, hz, hs1, hs2⟩ := info_parts step_info
  refine wpList_append_own_at _ hgd s x 112 ho B 116 ri _ 4 32 Try.underlying112 hi hz hs1 hs2 rfl (by omega) v acc.length _ hs (hv.below (below_alloc _ _)) ⟨w.heap.size, 0, none⟩ 1 c (stCells [t]) hx rfl (fun j u hj => ?_) (stCells_one [t]) (by simp only [maxLen]; omega) (by omega) (by simp; omega) ?_
  · have e : Addr.add ⟨w.heap.size, 0, none⟩ j = ⟨w.heap.size, j, none⟩ := by unfold Addr.add; split <;> simp_all
    rw [e, World.cell?_alloc_new]
    match j, hj with
    | 0, hj => simpa [stCells, Stp.cells] using hj
    | 1, hj => simpa [stCells, Stp.cells] using hj
    | 2, hj => simpa [stCells, Stp.cells] using hj
    | 3, hj => simpa [stCells, Stp.cells] using hj
    | (n + 4), hj => simp [stCells, Stp.cells] at hj
  · intro v2 w3 hown hgrow _ hat
    exact h v2 w3 (by unfold OwnS; rw [List.length_append, stCells_append]; exact hown) hgrow (by simpa using hat)
/-- new steps, as they are handed back: nil, or as long as wide -/
def NewS (B : Nat) (l : List Stp) (v : Value) (w : World) : Prop := (l = [] ∧ v = .slice none 0 0) ∨ ∃ g, v = .slice (some ⟨g, 0, none⟩) l.length l.length ∧ B ≤ g ∧ g < w.heap.size ∧ (∀ j u, (stCells l)[j]? = some u → w.cell? ⟨g, j, none⟩ = some u) ∧ ∀ j, w.frozen? ⟨g, j, none⟩ = false
theorem box10_grown {w w' : World} {C : Nat} {row : Option Nat} {a0 a1 a2 a3 a4 a5 a6 a7 a8 a9 : Value} (h : Box10 w C a0 a1 a2 a3 a4 a5 a6 a7 a8 a9) (hn : row ≠ some C) (hg : w.grownBy w' row) : Box10 w' C a0 a1 a2 a3 a4 a5 a6 a7 a8 a9 :=
  box10_block (hg.block _ h.1 (fun e => hn e.symm)) hg.size h

def deadB (s : Sy) (ls vs : List Int) : Bool := State.okSt s ls vs && decide ((steps s ls vs s.procs.length).length = 0)
theorem okSy_one {s : Sy} (h : okSy s = true) : 0 < s.procs.length := by
  rw [okSy] at h
  simp only [Bool.and_eq_true, decide_eq_true_eq] at h
  exact h.2.2.1

end Sys
end Go.Proofs.Ytfemikebklmlpaa
