/- The reader's 'take'. Conditions: those of each contract. -/
import Derived.Test.YtplmjliaochepaaDoorRows
import Derived.Test.YtplmjliaochepaaDoorReg
import Derived.Test.YtplmjliaochepaaDoorTxtPlain
import Derived.Laws.Externs
import Derived.WalkSpells
import Derived.WalkLawsBesides
import Derived.Laws.Concat
namespace Go.Proofs.YtplmjliaochepaaDoor
open Go.RowKit

/-- the place of a byte in a list, from k on; -1 if it isn't there -/
def idxI : List UInt8 → UInt8 → Int → Int
  | [], _, _ => -1
  | h :: t, c, k => if h = c then k else idxI t c (k + 1)

theorem bs_get (l : List UInt8) (i : Nat) : (bs l)[i]! = l[i]! := by
  rcases Nat.lt_or_ge i l.length with h | h
  · have h1 : i < (bs l).size := by rw [bs_size]; exact h
    rw [getElem!_pos (bs l) i h1, getElem!_pos l i h]
    rfl
  · have h1 : ¬ i < (bs l).size := by rw [bs_size]; omega
    rw [getElem!_neg (bs l) i h1, getElem!_neg l i (by omega)]
theorem idx_find (c : UInt8) : ∀ (l pre : List UInt8), (match (List.range' pre.length l.length).find? (fun i => (bs (pre ++ l))[i]! == c) with | some i => (i : Int) | none => -1) = idxI l c pre.length
  | [], pre => by simp [idxI]
  | h :: t, pre => by
    have e : (bs (pre ++ h :: t))[pre.length]! = h := by rw [bs_get]; simp
    rw [List.length_cons, List.range'_succ, List.find?_cons, e]
    simp only [idxI]
    by_cases hc : h = c
    · rw [if_pos hc]; simp [hc]
    · rw [if_neg hc]
      have hc2 : (h == c) = false := by simpa using hc
      rw [hc2]
      have := idx_find c t (pre ++ [h])
      simpa using this
theorem firstIdx_bs (l : List UInt8) (c : UInt8) : firstIdx (bs l) c = idxI l c 0 := by
  have := idx_find c l []
  simp only [List.length_nil, List.nil_append] at this
  unfold firstIdx
  rw [bs_size, List.range_eq_range']
  exact this

theorem bs_drop (c : UInt8) (s : List UInt8) : (bs (c :: s)).extract 1 (s.length + 1) = bs s := by
  apply ByteArray.ext
  simp [bs, ByteArray.data_extract]
abbrev Box2 (w : World) (B : Nat) (a b : Value) : Prop := B < w.heap.size ∧ w.cell? ⟨B, 0, none⟩ = some a ∧ w.cell? ⟨B, 1, none⟩ = some b ∧ w.frozen? ⟨B, 0, none⟩ = false ∧ w.frozen? ⟨B, 1, none⟩ = false
theorem box2_next {w w' : World} (h : Below w.heap.size w w') {B : Nat} {a b : Value} (hb : Box2 w B a b) : Box2 w' B a b :=
  ⟨Nat.lt_of_lt_of_le hb.1 h.size, by rw [h.cell (p := ⟨B, 0, none⟩) hb.1]; exact hb.2.1, by rw [h.cell (p := ⟨B, 1, none⟩) hb.1]; exact hb.2.2.1,
    by rw [h.frozen (p := ⟨B, 0, none⟩) hb.1]; exact hb.2.2.2.1, by rw [h.frozen (p := ⟨B, 1, none⟩) hb.1]; exact hb.2.2.2.2⟩
theorem box2_set0 {w : World} {B : Nat} {a b : Value} (h : Box2 w B a b) (v : Value) : Box2 (w.setCell ⟨B, 0, none⟩ v) B v b :=
  ⟨by simpa using h.1, World.cell?_setCell_same _ _ _ h.2.1, by rw [World.cell?_setCell_other _ _ _ _ (by simp)]; exact h.2.2.1, by simpa using h.2.2.2.1, by simpa using h.2.2.2.2⟩
theorem box2_set1 {w : World} {B : Nat} {a b : Value} (h : Box2 w B a b) (v : Value) : Box2 (w.setCell ⟨B, 1, none⟩ v) B a v :=
  ⟨by simpa using h.1, by rw [World.cell?_setCell_other _ _ _ _ (by simp)]; exact h.2.1, World.cell?_setCell_same _ _ _ h.2.2.1, by simpa using h.2.2.2.1, by simpa using h.2.2.2.2⟩
theorem box2_but {w w' : World} {D : Nat} (h : But w D w') {B : Nat} {a b : Value} (hd : B ≠ D) (hb : Box2 w B a b) : Box2 w' B a b :=
  ⟨Nat.lt_of_lt_of_le hb.1 h.size, by rw [h.cell hb.1 hd]; exact hb.2.1, by rw [h.cell hb.1 hd]; exact hb.2.2.1, by rw [h.frozen hb.1 hd]; exact hb.2.2.2.1, by rw [h.frozen hb.1 hd]; exact hb.2.2.2.2⟩

/-- what 'take' does: the place, the rest, is it bad -/
def takeB (set : List UInt8) (s : List UInt8) (b : Bool) : Int × List UInt8 × Bool :=
  match b, s with
  | true, s => (-1, s, true)
  | false, [] => (-1, [], true)
  | false, c :: s => if idxI set c 0 < 0 then (-1, c :: s, true) else (idxI set c 0, s, false)

def TakePost (R : Nat) (r : Int × List UInt8 × Bool) (w : World) (e : Ending) (w' : World) : Prop := e = .returned (.int .i64 r.1) ∧ Box2 w' R (.string (bs r.2.1)) (.bool r.2.2) ∧ But w R w'

theorem index2_any (set : List UInt8) (c : UInt8) (w : World) : Calls Tryd.prog 43 #[.string (bs set), .int .u8 c.toNat] w (RetW (.int .i64 (idxI set c 0)) w) := by
  have hib : ∀ (s : ByteArray) (c : Int) (w : World), (callFunc 49 #[.string s, .int .u8 c]).run Tryd.prog w = .ok (.value (.int .i64 (firstIdx s c.toNat.toUInt8))) w := fun s c w => by
    rw [run_callFunc_extern (fn := Tryd.f49) (e := Extern.BytealgIndexByte.indexByte) (by kernel_rfl) (by kernel_rfl) (by kernel_rfl) (by kernel_rfl) (by kernel_rfl), run_indexByte_string]
    rfl
  have E := hid (firstIdx_bs set c)
  go_enter Tryd.func43, Tryd.ntmps43
  go_wp2_with fail
  go_ret
  exact ⟨congrArg (fun x => Ending.returned (Value.int .i64 x)) (by rw [← E.out]), rfl⟩
theorem index_any (set : List UInt8) (c : UInt8) (w : World) : Calls Tryd.prog 38 #[.string (bs set), .int .u8 c.toNat] w (RetW (.int .i64 (idxI set c 0)) w) := by
  go_enter Tryd.func38, Tryd.ntmps38
  go_wp2_with fail
  refine (index2_any set c w).mono ?_
  rintro e w1 ⟨rfl, rfl⟩
  go_wp2_with fail
  go_ret
  exact ⟨rfl, rfl⟩

set_option maxHeartbeats 1000000 in
theorem take_any (set s : List UInt8) (b : Bool) (w : World) (R : Nat) (hR : Box2 w R (.string (bs s)) (.bool b)) (hl : s.length ≤ 1048576) : Calls Tryd.prog 27 #[.pointer (some ⟨R, 0, none⟩), .string (bs set)] w (TakePost R (takeB set s b) w) := by
  have hR0 := hR
  obtain ⟨p0, p1, p2, p3, p4⟩ := hR
  cases b with
  | true =>
    go_enter Tryd.func27, Tryd.ntmps27
    go_wp2_with fail
    go_ret
    exact ⟨rfl, box2_set1 hR0 _, But.set _ _ _ _⟩
  | false =>
    cases s with
    | nil =>
      have e0 : bs [] = (⟨#[]⟩ : ByteArray) := rfl
      rw [e0] at p1 hR0
      go_enter Tryd.func27, Tryd.ntmps27
      go_wp2_with fail
      go_ret
      exact ⟨rfl, box2_set1 hR0 _, But.set _ _ _ _⟩
    | cons c s =>
      have hsz : (bs (c :: s)).size = s.length + 1 := by rw [bs_size]; rfl
      have hne : (bs (c :: s)).toList.isEmpty = false := by rw [Go.ByteArray.toList_eq]; rfl
      have hg : ∀ h : 0 < (bs (c :: s)).size, (bs (c :: s))[0]'h = c := fun h => rfl
      go_enter Tryd.func27, Tryd.ntmps27
      go_wp2_with fail
      refine (index_any set c w).mono ?_
      rintro e w1 ⟨rfl, rfl⟩
      by_cases hi : idxI set c 0 < 0
      · have E := hid (show takeB set (c :: s) false = (-1, c :: s, true) by simp [takeB, hi])
        go_wp2_with fail
        go_ret
        rw [E.out]
        exact ⟨rfl, box2_set1 hR0 _, But.set _ _ _ _⟩
      · have E := hid (show takeB set (c :: s) false = (idxI set c 0, s, false) by simp [takeB, hi])
        go_wp2_with fail
        go_ret
        have hx : (bs (c :: s)).extract 1 (s.length + 1) = bs s := bs_drop c s
        rw [E.out, hx]
        exact ⟨rfl, box2_set0 hR0 _, But.set _ _ _ _⟩

theorem takeB_len (set s : List UInt8) (b : Bool) : (takeB set s b).2.1.length ≤ s.length := by
  cases b with
  | true => cases s <;> simp [takeB]
  | false =>
    cases s with
    | nil => simp [takeB]
    | cons c s =>
      by_cases h : idxI set c 0 < 0
      · simp [takeB, h]
      · simp [takeB, h]
theorem takeB_true (set s : List UInt8) : takeB set s true = (-1, s, true) := by cases s <;> rfl

/-- two operands, a sign between, a bracket behind: read piece by piece -/
theorem pair_read {rd : List UInt8 → Option (Tr × List UInt8)} {op : UInt8 → Option Int} {set : List UInt8} {kOf : Int → Int} (N : Int) (H : ∀ o, (idxI set o 0 < 0 ∧ op o = none) ∨ (0 ≤ idxI set o 0 ∧ idxI set o 0 < N ∧ op o = some (kOf (idxI set o 0))))
    {s r1 r3 : List UInt8} {b1 b3 : Bool} {t1 t2 : Tr} (E1 : rd s = (if b1 = true then none else some (t1, r1))) (E3 : (if (takeB set r1 b1).2.2 = true then none else rd (takeB set r1 b1).2.1) = (if b3 = true then none else some (t2, r3))) :
    pairWith rd op s = (if (takeB [41] r3 b3).2.2 = true then none else some (.mk (kOf (takeB set r1 b1).1) 0 [t1, t2], (takeB [41] r3 b3).2.1)) ∧ ((takeB [41] r3 b3).2.2 = false → 0 ≤ (takeB set r1 b1).1 ∧ (takeB set r1 b1).1 < N) := by
  unfold pairWith
  rw [E1]
  cases b1 with
  | true =>
    rw [takeB_true] at E3 ⊢
    cases b3 with
    | true => rw [takeB_true]; simp
    | false => simp at E3
  | false =>
    cases r1 with
    | nil =>
      cases b3 with
      | true => rw [takeB_true]; simp
      | false => simp [takeB] at E3
    | cons o r1 =>
      rcases H o with ⟨h1, h2⟩ | ⟨h1, h2, h3⟩
      · have e : takeB set (o :: r1) false = (-1, o :: r1, true) := by simp [takeB, h1]
        rw [e] at E3 ⊢
        cases b3 with
        | true => rw [takeB_true]; simp [h2]
        | false => simp at E3
      · have e : takeB set (o :: r1) false = (idxI set o 0, r1, false) := by
          simp only [takeB]; rw [if_neg (by omega)]
        rw [e] at E3 ⊢
        simp only [Bool.false_eq_true, if_false] at E3 ⊢
        simp only [h3, E3]
        cases b3 with
        | true => rw [takeB_true]; simp
        | false =>
          cases r3 with
          | nil => simp [takeB]
          | cons c r3 =>
            by_cases hc : c = 41
            · subst hc
              simp [takeB, idxI, h1, h2]
            · have hc2 : ¬ (41 : UInt8) = c := fun e => hc e.symm
              simp [takeB, idxI, hc, hc2]
end Go.Proofs.YtplmjliaochepaaDoor
