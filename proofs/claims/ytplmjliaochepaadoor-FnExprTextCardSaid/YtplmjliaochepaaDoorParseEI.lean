/- The program's reader of expressions. Conditions: those of each contract. -/
import Derived.Test.YtplmjliaochepaaDoorTakeP
import Derived.Test.YtplmjliaochepaaDoorParseE0
import Derived.Test.YtplmjliaochepaaDoorGrow
namespace Go.Proofs.YtplmjliaochepaaDoor
open Go.RowKit
namespace Expr

def RdPost (rd : List UInt8 → Option (Tr × List UInt8)) (s : List UInt8) (b : Bool) (R : Nat) (w : World) (e : Ending) (w' : World) : Prop :=
  ∃ v t r b', e = .returned v ∧ NewTr w.heap.size t v w' ∧ Box2 w' R (.string (bs r)) (.bool b') ∧ But w R w' ∧ r.length ≤ s.length ∧ (if b = true then none else rd s) = (if b' = true then none else some (t, r))
def RdT (n : Nat) : Prop := ∀ (w : World) (s : List UInt8) (b : Bool) (R : Nat) (d : Int), Box2 w R (.string (bs s)) (.bool b) → s.length ≤ 1048576 → d = 7 - n → Calls Tryd.prog 15 #[.pointer (some ⟨R, 0, none⟩), .int .i64 d] w (RdPost (rdE 51 n) s b R w)

def set1 : List UInt8 := [48, 49, 50, 51, 120, 121, 122, 33, 40]
def set2 : List UInt8 := [38, 124, 61, 60, 43, 45]

theorem u8_dig {c : UInt8} (h : 48 ≤ c ∧ c ≤ 51) : c = 48 ∨ c = 49 ∨ c = 50 ∨ c = 51 := by
  obtain ⟨h1, h2⟩ := h
  rw [UInt8.le_iff_toNat_le] at h1 h2
  have h3 : c.toNat = 48 ∨ c.toNat = 49 ∨ c.toNat = 50 ∨ c.toNat = 51 := by
    have e1 : (48 : UInt8).toNat = 48 := rfl
    have e2 : (51 : UInt8).toNat = 51 := rfl
    omega
  rcases h3 with h | h | h | h
  · exact .inl (UInt8.toNat_inj.1 h)
  · exact .inr (.inl (UInt8.toNat_inj.1 h))
  · exact .inr (.inr (.inl (UInt8.toNat_inj.1 h)))
  · exact .inr (.inr (.inr (UInt8.toNat_inj.1 h)))
theorem u8_xyz {c : UInt8} (h : 120 ≤ c ∧ c ≤ 122) : c = 120 ∨ c = 121 ∨ c = 122 := by
  obtain ⟨h1, h2⟩ := h
  rw [UInt8.le_iff_toNat_le] at h1 h2
  have h3 : c.toNat = 120 ∨ c.toNat = 121 ∨ c.toNat = 122 := by
    have e1 : (120 : UInt8).toNat = 120 := rfl
    have e2 : (122 : UInt8).toNat = 122 := rfl
    omega
  rcases h3 with h | h | h
  · exact .inl (UInt8.toNat_inj.1 h)
  · exact .inr (.inl (UInt8.toNat_inj.1 h))
  · exact .inr (.inr (UInt8.toNat_inj.1 h))

theorem set1_cases (c : UInt8) : idxI set1 c 0 < 0 ∨ (c = 48 ∨ c = 49 ∨ c = 50 ∨ c = 51) ∨ (c = 120 ∨ c = 121 ∨ c = 122) ∨ c = 33 ∨ c = 40 := by
  unfold set1
  simp only [idxI]
  repeat' split
  all_goals (try subst c)
  all_goals simp

/-- nothing is read -/
theorem take1_bad (s : List UInt8) (b : Bool) : (∃ s', takeB set1 s b = (-1, s', true) ∧ s'.length ≤ s.length) ∧ (∀ n, (if b = true then none else rdE 51 n s) = none) ∨ (b = false ∧ ∃ c s1, s = c :: s1 ∧ ((c = 48 ∨ c = 49 ∨ c = 50 ∨ c = 51) ∨ (c = 120 ∨ c = 121 ∨ c = 122) ∨ c = 33 ∨ c = 40)) := by
  cases b with
  | true => exact .inl ⟨⟨s, by cases s <;> rfl, Nat.le_refl _⟩, fun n => rfl⟩
  | false =>
    cases s with
    | nil => exact .inl ⟨⟨[], rfl, Nat.le_refl _⟩, fun n => by cases n <;> rfl⟩
    | cons c s1 =>
      rcases set1_cases c with h | h
      · refine .inl ⟨⟨c :: s1, by simp [takeB, h], Nat.le_refl _⟩, fun n => ?_⟩
        cases n with
        | zero => rfl
        | succ n =>
          have n1 : ¬ (48 ≤ c ∧ c ≤ 51) := fun e => by rcases u8_dig e with e | e | e | e <;> subst e <;> simp [set1, idxI] at h
          have n2 : ¬ (120 ≤ c ∧ c ≤ 122) := fun e => by rcases u8_xyz e with e | e | e <;> subst e <;> simp [set1, idxI] at h
          have n3 : c ≠ 33 := fun e => by subst e; simp [set1, idxI] at h
          have n4 : c ≠ 40 := fun e => by subst e; simp [set1, idxI] at h
          simp only [rdE]
          rw [if_neg n1, if_neg n2]
          simp [n3, n4]
      · exact .inr ⟨rfl, c, s1, rfl, h⟩

theorem rd_end {rd : List UInt8 → Option (Tr × List UInt8)} {s r : List UInt8} {b b' : Bool} {R : Nat} {w W : World} {t : Tr} {x : Value} (hRl : R < w.heap.size) (hn : NewTr (w.heap.size + 1) t x W) (hB : Box2 W R (.string (bs r)) (.bool b')) (hb : But w R W) (hr : r.length ≤ s.length) (hE : (if b = true then none else rd s) = (if b' = true then none else some (t, r))) (u0 u1 u2 : Value) :
    RdPost rd s b R w (.returned x) (((W.setCell ⟨w.heap.size, 0, none⟩ u0).setCell ⟨w.heap.size, 1, none⟩ u1).setCell ⟨w.heap.size, 2, none⟩ u2) := by
  have hne : R ≠ w.heap.size := by omega
  exact ⟨x, t, r, b', rfl, (newTr_set3 hn (by omega) _ _ _).mono (by omega), box2_but (But.set _ w.heap.size 2 _) hne (box2_but (But.set _ w.heap.size 1 _) hne (box2_but (But.set _ w.heap.size 0 _) hne hB)), But.setNew (But.setNew (But.setNew hb (Nat.le_refl _) _) (Nat.le_refl _) _) (Nat.le_refl _) _, hr, hE⟩

theorem rd_fin {rd : List UInt8 → Option (Tr × List UInt8)} {s r : List UInt8} {b b' : Bool} {R : Nat} {w W : World} {t : Tr} {x : Value} {o : Obj} {u0 u1 u2 : Value} (hRl : R < w.heap.size) (hn : NewTr (w.heap.size + 1) t x ((((W.setCell ⟨w.heap.size, 0, none⟩ u0).setCell ⟨w.heap.size, 1, none⟩ u1).setCell ⟨w.heap.size, 2, none⟩ u2).alloc o)) (hB : Box2 W R (.string (bs r)) (.bool b')) (hb : But w R W) (hr : r.length ≤ s.length) (hE : (if b = true then none else rd s) = (if b' = true then none else some (t, r))) :
    RdPost rd s b R w (.returned x) ((((W.setCell ⟨w.heap.size, 0, none⟩ u0).setCell ⟨w.heap.size, 1, none⟩ u1).setCell ⟨w.heap.size, 2, none⟩ u2).alloc o) := by
  have hne : R ≠ w.heap.size := by omega
  exact ⟨x, t, r, b', rfl, hn.mono (by omega), box2_next (below_alloc _ _) (box2_but (But.set _ w.heap.size 2 _) hne (box2_but (But.set _ w.heap.size 1 _) hne (box2_but (But.set _ w.heap.size 0 _) hne hB))), (But.setNew (But.setNew (But.setNew hb (Nat.le_refl _) _) (Nat.le_refl _) _) (Nat.le_refl _) _).next (below_alloc _ _), hr, hE⟩

set_option maxRecDepth 100000 in
set_option maxHeartbeats 1000000 in
theorem rd_bad (n : Nat) (w : World) (s s' : List UInt8) (b : Bool) (R : Nat) (d : Int) (hR : Box2 w R (.string (bs s)) (.bool b)) (hl : s.length ≤ 1048576) (hd : d ≤ 6) (ht : takeB set1 s b = (-1, s', true)) (hs' : s'.length ≤ s.length) (hrd : (if b = true then none else rdE 51 n s) = none) :
    Calls Tryd.prog 15 #[.pointer (some ⟨R, 0, none⟩), .int .i64 d] w (RdPost (rdE 51 n) s b R w) := by
  have HR := hid (show ∀ o, Box2 (w.alloc o) R (.string (bs s)) (.bool b) from fun o => box2_next (below_alloc _ _) hR)
  have hRl := hR.1
  clear hR
  have hd2 : ¬ (d > 6) := by omega
  have HT := hid ht
  have e1 : (⟨#[48, 49, 50, 51, 120, 121, 122, 33, 40]⟩ : ByteArray) = bs set1 := rfl
  go_enter Tryd.func15, Tryd.ntmps15
  go_wp2_with fail
  refine (take_any set1 s b _ R (HR.out _) hl).mono ?_
  rintro e w1 ⟨rfl, hB, hbut⟩
  rw [HT.out] at hB ⊢
  have hb4 := box3_but hbut (by omega) (box3_new w (.int .i64 0) (.int .i64 0) (.slice none 0 0) 25)
  have HB := hid hB
  have hBut := hid ((But.of (below_alloc w (.cells #[.int .i64 0, .int .i64 0, .slice none 0 0] 25))).trans hbut)
  obtain ⟨q0, q1, q2, q3, q4⟩ := hB
  have b4 := hb4
  obtain ⟨z0, z1, z2, z3, z4, z5, z6⟩ := hb4
  clear hbut
  go_wp2_with fail
  obtain ⟨y0, y1, y2, y3, _⟩ := box3_set2 (box3_set1 (box3_set0 b4 (.int .i64 0)) (.int .i64 0)) (.slice none 0 0); refine bodyPost_ret (v := .agg #[.int .i64 0, .int .i64 0, .slice none 0 0]) (by simp [results, Tryd.results15, go_sem, y1, y2, y3]) rfl ?_
  have hne : R ≠ w.heap.size := by omega
  refine ⟨_, zeroP, s', true, rfl, (zeroP_new _ _), box2_but (But.set _ w.heap.size 2 _) hne (box2_but (But.set _ w.heap.size 1 _) hne (box2_but (But.set _ w.heap.size 0 _) hne HB.out)), But.setNew (But.setNew (But.setNew hBut.out (Nat.le_refl _) _) (Nat.le_refl _) _) (Nat.le_refl _) _, hs', by rw [hrd]; rfl⟩

set_option maxRecDepth 100000 in
set_option maxHeartbeats 1000000 in
theorem rd_zero : RdT 0 := by
  intro w s b R d hR hl hd
  have HR := hid (box2_next (below_alloc (w.setCell ⟨R, 1, none⟩ (.bool true)) (.cells #[.int .i64 0, .int .i64 0, .slice none 0 0] 25)) (box2_set1 hR (.bool true)))
  have hRl := hR.1
  obtain ⟨p0, p1, p2, p3, p4⟩ := hR
  obtain rfl : d = 7 := by simpa using hd
  clear hd
  have e1 : (⟨#[48, 49, 50, 51, 120, 121, 122, 33, 40]⟩ : ByteArray) = bs set1 := rfl
  have HT := hid (show takeB set1 s true = (-1, s, true) by cases s <;> rfl)
  go_enter Tryd.func15, Tryd.ntmps15
  go_wp2_with fail
  refine (take_any set1 s true _ R HR.out hl).mono ?_
  rintro e w1 ⟨rfl, hB, hbut⟩
  rw [HT.out] at hB ⊢
  have hb4 := (box3_but hbut (by omega) (box3_at (B := w.heap.size) (w := w.setCell ⟨R, 1, none⟩ (.bool true)) (a := .int .i64 0) (b := .int .i64 0) (c := .slice none 0 0) (t := 25) (by simp)))
  have HB := hid hB
  have hBut := hid (((But.set w R 1 (.bool true)).trans (But.of (below_alloc _ (.cells #[.int .i64 0, .int .i64 0, .slice none 0 0] 25)))).trans hbut)
  obtain ⟨q0, q1, q2, q3, q4⟩ := hB
  have b4 := hb4
  obtain ⟨z0, z1, z2, z3, z4, z5, z6⟩ := hb4
  clear hbut
  go_wp2_with fail
  obtain ⟨y0, y1, y2, y3, _⟩ := box3_set2 (box3_set1 (box3_set0 b4 (.int .i64 0)) (.int .i64 0)) (.slice none 0 0); refine bodyPost_ret (v := .agg #[.int .i64 0, .int .i64 0, .slice none 0 0]) (by simp [results, Tryd.results15, go_sem, y1, y2, y3]) rfl ?_
  exact rd_end hRl (zeroP_new _ _) HB.out hBut.out (Nat.le_refl _) (by cases b <;> rfl) _ _ _

set_option maxRecDepth 100000 in
set_option maxHeartbeats 2000000 in
theorem rd_atom (n : Nat) (c : UInt8) (at' : Int) (hc : (c = 120 ∧ at' = 4) ∨ (c = 121 ∧ at' = 5) ∨ (c = 122 ∧ at' = 6)) (w : World) (s : List UInt8) (R : Nat) (d : Int) (hR : Box2 w R (.string (bs (c :: s))) (.bool false)) (hl : (c :: s : List UInt8).length ≤ 1048576) (hd : d ≤ 6) :
    Calls Tryd.prog 15 #[.pointer (some ⟨R, 0, none⟩), .int .i64 d] w (RdPost (rdE 51 (n + 1)) (c :: s) false R w) := by
  have HR := hid (show ∀ o, Box2 (w.alloc o) R (.string (bs (c :: s))) (.bool false) from fun o => box2_next (below_alloc _ _) hR)
  have hRl := hR.1
  clear hR
  have hd2 : ¬ (d > 6) := by omega
  have HT := hid (show takeB set1 (c :: s) false = (at', s, false) by rcases hc with ⟨rfl, rfl⟩ | ⟨rfl, rfl⟩ | ⟨rfl, rfl⟩ <;> rfl)
  have e1 : (⟨#[48, 49, 50, 51, 120, 121, 122, 33, 40]⟩ : ByteArray) = bs set1 := rfl
  have E := hid (show rdE 51 (n + 1) (c :: s) = some (.mk 2 (at' - 4) [], s) by rcases hc with ⟨rfl, rfl⟩ | ⟨rfl, rfl⟩ | ⟨rfl, rfl⟩ <;> simp [rdE])
  have hat : at' = 4 ∨ at' = 5 ∨ at' = 6 := by omega
  clear hc
  go_enter Tryd.func15, Tryd.ntmps15
  go_wp2_with fail
  refine (take_any set1 (c :: s) false _ R (HR.out _) hl).mono ?_
  rintro e w1 ⟨rfl, hB, hbut⟩
  rw [HT.out] at hB ⊢
  have hb4 := box3_but hbut (by omega) (box3_new w (.int .i64 0) (.int .i64 0) (.slice none 0 0) 25)
  have HB := hid hB
  have hBut := hid ((But.of (below_alloc w (.cells #[.int .i64 0, .int .i64 0, .slice none 0 0] 25))).trans hbut)
  obtain ⟨q0, q1, q2, q3, q4⟩ := hB
  have b4 := hb4
  obtain ⟨z0, z1, z2, z3, z4, z5, z6⟩ := hb4
  clear hbut HT
  rcases hat with rfl | rfl | rfl
  · go_wp2_with fail
    obtain ⟨y0, y1, y2, y3, _⟩ := box3_set2 (box3_set1 (box3_set0 b4 (.int .i64 2)) (.int .i64 0)) (.slice none 0 0); refine bodyPost_ret (v := .agg #[.int .i64 2, .int .i64 0, .slice none 0 0]) (by simp [results, Tryd.results15, go_sem, y1, y2, y3]) rfl ?_
    exact rd_end hRl (leaf_new _ _ (by unfold i64; omega) (by unfold i64; omega)) HB.out hBut.out (by simp) (by simp [E.out]) _ _ _
  · go_wp2_with fail
    obtain ⟨y0, y1, y2, y3, _⟩ := box3_set2 (box3_set1 (box3_set0 b4 (.int .i64 2)) (.int .i64 1)) (.slice none 0 0); refine bodyPost_ret (v := .agg #[.int .i64 2, .int .i64 1, .slice none 0 0]) (by simp [results, Tryd.results15, go_sem, y1, y2, y3]) rfl ?_
    exact rd_end hRl (leaf_new _ _ (by unfold i64; omega) (by unfold i64; omega)) HB.out hBut.out (by simp) (by simp [E.out]) _ _ _
  · go_wp2_with fail
    obtain ⟨y0, y1, y2, y3, _⟩ := box3_set2 (box3_set1 (box3_set0 b4 (.int .i64 2)) (.int .i64 2)) (.slice none 0 0); refine bodyPost_ret (v := .agg #[.int .i64 2, .int .i64 2, .slice none 0 0]) (by simp [results, Tryd.results15, go_sem, y1, y2, y3]) rfl ?_
    exact rd_end hRl (leaf_new _ _ (by unfold i64; omega) (by unfold i64; omega)) HB.out hBut.out (by simp) (by simp [E.out]) _ _ _

set_option maxRecDepth 100000 in
set_option maxHeartbeats 2000000 in
theorem rd_const (n : Nat) (c : UInt8) (at' : Int) (hc : (c = 48 ∧ at' = 0) ∨ (c = 49 ∧ at' = 1) ∨ (c = 50 ∧ at' = 2) ∨ (c = 51 ∧ at' = 3)) (w : World) (s : List UInt8) (R : Nat) (d : Int) (hR : Box2 w R (.string (bs (c :: s))) (.bool false)) (hl : (c :: s : List UInt8).length ≤ 1048576) (hd : d ≤ 6) :
    Calls Tryd.prog 15 #[.pointer (some ⟨R, 0, none⟩), .int .i64 d] w (RdPost (rdE 51 (n + 1)) (c :: s) false R w) := by
  have HR := hid (show ∀ o, Box2 (w.alloc o) R (.string (bs (c :: s))) (.bool false) from fun o => box2_next (below_alloc _ _) hR)
  have hRl := hR.1
  clear hR
  have hd2 : ¬ (d > 6) := by omega
  have HT := hid (show takeB set1 (c :: s) false = (at', s, false) by rcases hc with ⟨rfl, rfl⟩ | ⟨rfl, rfl⟩ | ⟨rfl, rfl⟩ | ⟨rfl, rfl⟩ <;> rfl)
  have e1 : (⟨#[48, 49, 50, 51, 120, 121, 122, 33, 40]⟩ : ByteArray) = bs set1 := rfl
  have E := hid (show rdE 51 (n + 1) (c :: s) = some (.mk 1 at' [], s) by rcases hc with ⟨rfl, rfl⟩ | ⟨rfl, rfl⟩ | ⟨rfl, rfl⟩ | ⟨rfl, rfl⟩ <;> simp [rdE])
  have hat : at' = 0 ∨ at' = 1 ∨ at' = 2 ∨ at' = 3 := by omega
  clear hc
  go_enter Tryd.func15, Tryd.ntmps15
  go_wp2_with fail
  refine (take_any set1 (c :: s) false _ R (HR.out _) hl).mono ?_
  rintro e w1 ⟨rfl, hB, hbut⟩
  rw [HT.out] at hB ⊢
  have hb4 := box3_but hbut (by omega) (box3_new w (.int .i64 0) (.int .i64 0) (.slice none 0 0) 25)
  have HB := hid hB
  have hBut := hid ((But.of (below_alloc w (.cells #[.int .i64 0, .int .i64 0, .slice none 0 0] 25))).trans hbut)
  obtain ⟨q0, q1, q2, q3, q4⟩ := hB
  have b4 := hb4
  obtain ⟨z0, z1, z2, z3, z4, z5, z6⟩ := hb4
  clear hbut HT
  rcases hat with rfl | rfl | rfl | rfl
  · go_wp2_with fail
    obtain ⟨y0, y1, y2, y3, _⟩ := box3_set2 (box3_set1 (box3_set0 b4 (.int .i64 1)) (.int .i64 0)) (.slice none 0 0); refine bodyPost_ret (v := .agg #[.int .i64 1, .int .i64 0, .slice none 0 0]) (by simp [results, Tryd.results15, go_sem, y1, y2, y3]) rfl ?_
    exact rd_end hRl (leaf_new _ _ (by unfold i64; omega) (by unfold i64; omega)) HB.out hBut.out (by simp) (by simp [E.out]) _ _ _
  · go_wp2_with fail
    obtain ⟨y0, y1, y2, y3, _⟩ := box3_set2 (box3_set1 (box3_set0 b4 (.int .i64 1)) (.int .i64 1)) (.slice none 0 0); refine bodyPost_ret (v := .agg #[.int .i64 1, .int .i64 1, .slice none 0 0]) (by simp [results, Tryd.results15, go_sem, y1, y2, y3]) rfl ?_
    exact rd_end hRl (leaf_new _ _ (by unfold i64; omega) (by unfold i64; omega)) HB.out hBut.out (by simp) (by simp [E.out]) _ _ _
  · go_wp2_with fail
    obtain ⟨y0, y1, y2, y3, _⟩ := box3_set2 (box3_set1 (box3_set0 b4 (.int .i64 1)) (.int .i64 2)) (.slice none 0 0); refine bodyPost_ret (v := .agg #[.int .i64 1, .int .i64 2, .slice none 0 0]) (by simp [results, Tryd.results15, go_sem, y1, y2, y3]) rfl ?_
    exact rd_end hRl (leaf_new _ _ (by unfold i64; omega) (by unfold i64; omega)) HB.out hBut.out (by simp) (by simp [E.out]) _ _ _
  · go_wp2_with fail
    obtain ⟨y0, y1, y2, y3, _⟩ := box3_set2 (box3_set1 (box3_set0 b4 (.int .i64 1)) (.int .i64 3)) (.slice none 0 0); refine bodyPost_ret (v := .agg #[.int .i64 1, .int .i64 3, .slice none 0 0]) (by simp [results, Tryd.results15, go_sem, y1, y2, y3]) rfl ?_
    exact rd_end hRl (leaf_new _ _ (by unfold i64; omega) (by unfold i64; omega)) HB.out hBut.out (by simp) (by simp [E.out]) _ _ _

set_option maxRecDepth 100000 in
set_option maxHeartbeats 2000000 in
theorem rd_un (n : Nat) (ih : RdT n) (w : World) (s : List UInt8) (R : Nat) (d : Int) (hR : Box2 w R (.string (bs (33 :: s))) (.bool false)) (hl : (33 :: s : List UInt8).length ≤ 1048576) (hd : d ≤ 6) (hdn : d = 7 - (n + 1 : Nat)) (hd3 : -1000 ≤ d) :
    Calls Tryd.prog 15 #[.pointer (some ⟨R, 0, none⟩), .int .i64 d] w (RdPost (rdE 51 (n + 1)) (33 :: s) false R w) := by
  have HR := hid (show ∀ o, Box2 (w.alloc o) R (.string (bs (33 :: s))) (.bool false) from fun o => box2_next (below_alloc _ _) hR)
  have hRl := hR.1
  clear hR
  have hd2 : ¬ (d > 6) := by omega
  have hdn2 : d + 1 = 7 - (n : Int) := by omega
  have HT := hid (show takeB set1 (33 :: s) false = (7, s, false) from rfl)
  have e1 : (⟨#[48, 49, 50, 51, 120, 121, 122, 33, 40]⟩ : ByteArray) = bs set1 := rfl
  have E := hid (show rdE 51 (n + 1) (33 :: s) = oneWith (rdE 51 n) 3 s by simp [rdE])
  have hk : i64 3 := by unfold i64; omega
  have HI := hid ih
  have HDN := hid hdn2
  clear ih hdn hdn2
  go_enter Tryd.func15, Tryd.ntmps15
  go_wp2_with fail
  refine (take_any set1 (33 :: s) false _ R (HR.out _) hl).mono ?_
  rintro e w1 ⟨rfl, hB, hbut⟩
  rw [HT.out] at hB ⊢
  have hb4 := hid (box3_but hbut (by omega) (box3_new w (.int .i64 0) (.int .i64 0) (.slice none 0 0) 25))
  have HB := hid hB
  have hBut := hid ((But.of (below_alloc w (.cells #[.int .i64 0, .int .i64 0, .slice none 0 0] 25))).trans hbut)
  have hsz := hbut.size
  simp only [World.size_alloc] at hsz
  obtain ⟨q0, q1, q2, q3, q4⟩ := hB
  clear hbut HT
  have hls : s.length ≤ 1048576 := by simp at hl; omega
  go_wp2_with fail
  refine (HI.out _ s false R _ HB.out hls HDN.out).mono ?_
  rintro e w2 ⟨v2, t2, r2, b2, rfl, hn2, hB2, hbut2, hr2, hE2⟩
  obtain ⟨a2, n2, rfl⟩ := TrIn_shape hn2.any
  have hs2 := hbut2.size
  have h4 := box3_but hbut2 (by omega) hb4.out
  have HBT := hid (hBut.out.trans hbut2)
  have HE := hid (show rdE 51 (n + 1) (33 :: s) = (if b2 = true then none else some (.mk 3 0 [t2], r2)) by
    rw [E.out]
    simp only [Bool.false_eq_true, if_false] at hE2
    unfold oneWith
    rw [hE2]
    cases b2 <;> rfl)
  have HB2 := hid hB2
  have hn3 := hn2.mono (B' := w.heap.size + 1) (by omega)
  have hl4 := h4.1
  clear hbut2 hE2 hB2 hn2
  have H4 := hid h4
  obtain ⟨z0, z1, z2, z3, z4, z5, z6⟩ := h4
  have hN3 := hid hn3
  have hz := hid (fun (u0 u1 u2 : Value) => And.intro (own_node (k' := w2.heap.size) (ty := 25) hk (newTr_set3 (P := w.heap.size) hn3 (by omega) u0 u1 u2) (by simp; omega) (by simp)) (box3_next (below_alloc (((w2.setCell ⟨w.heap.size, 0, none⟩ u0).setCell ⟨w.heap.size, 1, none⟩ u1).setCell ⟨w.heap.size, 2, none⟩ u2) (.cells #[.int .i64 t2.kind, .int .i64 t2.val, .slice a2 t2.kids.length n2] 25)) (box3_set2 (box3_set1 (box3_set0 H4.out u0) u1) u2)))
  clear hn3
  go_wp2_with fail
  obtain ⟨hnew, hbx⟩ := hz.out (.int .i64 3) (.int .i64 0) (.slice (some ⟨w2.heap.size, 0, none⟩) 1 1)
  obtain ⟨y0, y1, y2, y3, _⟩ := hbx
  refine bodyPost_ret (v := .agg #[.int .i64 3, .int .i64 0, .slice (some ⟨w2.heap.size, 0, none⟩) 1 1]) (by simp [results, Tryd.results15, go_sem, y1, y2, y3]) rfl ?_
  exact rd_fin hRl hnew HB2.out HBT.out (by simp; omega) (by simpa using HE.out)

def opK (a : Int) : Int := 4 + a
theorem set2_op (o : UInt8) : (idxI set2 o 0 < 0 ∧ exprOp o = none) ∨ (0 ≤ idxI set2 o 0 ∧ idxI set2 o 0 < 6 ∧ exprOp o = some (opK (idxI set2 o 0))) := by
  by_cases h0 : o = 38
  · subst h0; right; decide
  by_cases h1 : o = 124
  · subst h1; right; decide
  by_cases h2 : o = 61
  · subst h2; right; decide
  by_cases h3 : o = 60
  · subst h3; right; decide
  by_cases h4 : o = 43
  · subst h4; right; decide
  by_cases h5 : o = 45
  · subst h5; right; decide
  left
  have e0 : ¬ (38 : UInt8) = o := fun e => h0 e.symm
  have e1 : ¬ (124 : UInt8) = o := fun e => h1 e.symm
  have e2 : ¬ (61 : UInt8) = o := fun e => h2 e.symm
  have e3 : ¬ (60 : UInt8) = o := fun e => h3 e.symm
  have e4 : ¬ (43 : UInt8) = o := fun e => h4 e.symm
  have e5 : ¬ (45 : UInt8) = o := fun e => h5 e.symm
  simp [set2, idxI, exprOp, h0, h1, h2, h3, h4, h5, e0, e1, e2, e3, e4, e5]
theorem takeB_lo (set s : List UInt8) (b : Bool) : -1 ≤ (takeB set s b).1 ∧ ((takeB set s b).1 = -1 ∨ ∃ c, (takeB set s b).1 = idxI set c 0 ∧ 0 ≤ idxI set c 0) := by
  cases b with
  | true => rw [takeB_true]; simp
  | false =>
    cases s with
    | nil => simp [takeB]
    | cons c s =>
      by_cases h : idxI set c 0 < 0
      · simp [takeB, h]
      · refine ⟨?_, .inr ⟨c, ?_, by omega⟩⟩
        · simp only [takeB]; rw [if_neg h]; show -1 ≤ idxI set c 0; omega
        · simp only [takeB]; rw [if_neg h]

set_option maxRecDepth 100000 in
set_option maxHeartbeats 4000000 in
theorem rd_two (n : Nat) (ih : RdT n) (w : World) (s : List UInt8) (R : Nat) (d : Int) (hR : Box2 w R (.string (bs (40 :: s))) (.bool false)) (hl : (40 :: s : List UInt8).length ≤ 1048576) (hd : d ≤ 6) (hdn : d = 7 - (n + 1 : Nat)) (hd3 : -1000 ≤ d) :
    Calls Tryd.prog 15 #[.pointer (some ⟨R, 0, none⟩), .int .i64 d] w (RdPost (rdE 51 (n + 1)) (40 :: s) false R w) := by
  have HR := hid (show ∀ o, Box2 (w.alloc o) R (.string (bs (40 :: s))) (.bool false) from fun o => box2_next (below_alloc _ _) hR)
  have hRl := hR.1
  clear hR
  have hd2 : ¬ (d > 6) := by omega
  have hdn2 : d + 1 = 7 - (n : Int) := by omega
  have HT := hid (show takeB set1 (40 :: s) false = (8, s, false) from rfl)
  have e1 : (⟨#[48, 49, 50, 51, 120, 121, 122, 33, 40]⟩ : ByteArray) = bs set1 := rfl
  have e2 : (⟨#[38, 124, 61, 60, 43, 45]⟩ : ByteArray) = bs set2 := rfl
  have e3 : (⟨#[41]⟩ : ByteArray) = bs [41] := rfl
  have E := hid (show rdE 51 (n + 1) (40 :: s) = pairWith (rdE 51 n) exprOp s by simp [rdE])
  have HI := hid ih
  have HDN := hid hdn2
  have hls : s.length ≤ 1048576 := by simp at hl; omega
  clear ih hdn hdn2
  go_enter Tryd.func15, Tryd.ntmps15
  go_wp2_with fail
  refine (take_any set1 (40 :: s) false _ R (HR.out _) hl).mono ?_
  rintro e w1 ⟨rfl, hB, hbut⟩
  rw [HT.out] at hB ⊢
  have hb4 := box3_but hbut (by omega) (box3_new w (.int .i64 0) (.int .i64 0) (.slice none 0 0) 25)
  have HB := hid hB
  have hBut := (But.of (below_alloc w (.cells #[.int .i64 0, .int .i64 0, .slice none 0 0] 25))).trans hbut
  have hsz := hbut.size
  simp only [World.size_alloc] at hsz
  obtain ⟨q0, q1, q2, q3, q4⟩ := hB
  clear hbut HT
  go_wp2_with fail
  -- the first operand
  refine (HI.out _ s false R _ HB.out hls HDN.out).mono ?_
  rintro e w2 ⟨v2, t1, r1, b1, rfl, hn1, hB2, hbut2, hr1, hE1⟩
  obtain ⟨a2, n2, rfl⟩ := TrIn_shape hn1.any
  have hs2 := hbut2.size
  have HB2 := hid (fun o => box2_next (below_alloc w2 o) hB2)
  replace hb4 := box3_next (below_alloc w2 (.cells #[.int .i64 t1.kind, .int .i64 t1.val, .slice a2 t1.kids.length n2] 25)) (box3_but hbut2 (by omega) hb4)
  have hb7 := box3_new w2 (.int .i64 t1.kind) (.int .i64 t1.val) (.slice a2 t1.kids.length n2) 25
  replace hBut := (hBut.trans hbut2).next (below_alloc w2 (.cells #[.int .i64 t1.kind, .int .i64 t1.val, .slice a2 t1.kids.length n2] 25))
  have hN1 := (hn1.mono (B' := w.heap.size + 1) (by omega)).below (below_alloc w2 (.cells #[.int .i64 t1.kind, .int .i64 t1.val, .slice a2 t1.kids.length n2] 25))
  simp only [Bool.false_eq_true, if_false] at hE1
  have HE1 := hid hE1
  clear hbut2 hn1 hB2 hE1 q0 q1 q2 q3 q4
  go_wp2_with fail
  -- the sign
  refine (take_any set2 r1 b1 _ R (HB2.out _) (by omega)).mono ?_
  rintro e w3 ⟨rfl, hB3, hbut3⟩
  have hlT := takeB_len set2 r1 b1
  have hlo : -1 ≤ (takeB set2 r1 b1).1 ∧ (takeB set2 r1 b1).1 ≤ 5 := by
    obtain ⟨h1, h2⟩ := takeB_lo set2 r1 b1
    refine ⟨h1, ?_⟩
    rcases h2 with h2 | ⟨c, h2, h3⟩
    · omega
    · rcases set2_op c with ⟨h4, _⟩ | ⟨_, h4, _⟩ <;> omega
  have hs3 := hbut3.size
  simp only [World.size_alloc] at hs3
  have HPR := hid (fun r3 b3 t2 E3 => (pair_read (rd := rdE 51 n) (op := exprOp) (set := set2) (kOf := opK) 6 set2_op (r3 := r3) (b3 := b3) (t2 := t2) HE1.out E3).1)
  replace hb4 := box3_but hbut3 (by omega) hb4
  replace hb7 := box3_but hbut3 (by omega) hb7
  replace hBut := hBut.trans hbut3
  replace hN1 := hN1.keep (Keep.but hbut3 (by omega))
  generalize takeB set2 r1 b1 = q at *
  obtain ⟨at2, r2, b2⟩ := q
  simp only at hB3 hlT HPR hlo ⊢
  have HB3 := hid hB3
  clear hbut3 HE1 HB2
  obtain ⟨q0, q1, q2, q3, q4⟩ := hB3
  go_wp2_with fail
  -- the second operand
  refine (HI.out _ r2 b2 R _ HB3.out (by omega) HDN.out).mono ?_
  rintro e w4 ⟨v4, t2, r3, b3, rfl, hn2, hB4, hbut4, hr3, hE3⟩
  obtain ⟨a4, n4, rfl⟩ := TrIn_shape hn2.any
  have hs4 := hbut4.size
  have HB4 := hid (fun o => box2_next (below_alloc w4 o) hB4)
  have hTwo := two_but hN1 hn2 (Nat.le_refl _) hbut4 (by omega) (by omega)
  replace hb4 := box3_next (below_alloc w4 (.cells #[.int .i64 t2.kind, .int .i64 t2.val, .slice a4 t2.kids.length n4] 25)) (box3_but hbut4 (by omega) hb4)
  replace hb7 := box3_next (below_alloc w4 (.cells #[.int .i64 t2.kind, .int .i64 t2.val, .slice a4 t2.kids.length n4] 25)) (box3_but hbut4 (by omega) hb7)
  have hb9 := box3_new w4 (.int .i64 t2.kind) (.int .i64 t2.val) (.slice a4 t2.kids.length n4) 25
  replace hBut := (hBut.trans hbut4).next (below_alloc w4 (.cells #[.int .i64 t2.kind, .int .i64 t2.val, .slice a4 t2.kids.length n4] 25))
  replace hTwo := two_below hTwo (below_alloc w4 (.cells #[.int .i64 t2.kind, .int .i64 t2.val, .slice a4 t2.kids.length n4] 25))
  have HPR2 := hid (HPR.out r3 b3 t2 hE3)
  clear hbut4 hn2 hB4 hE3 q0 q1 q2 q3 q4 hN1 HPR HB3
  go_wp2_with fail
  -- the bracket
  refine (take_any [41] r3 b3 _ R (HB4.out _) (by omega)).mono ?_
  rintro e w5 ⟨rfl, hB5, hbut5⟩
  have hlT5 := takeB_len [41] r3 b3
  have hs5 := hbut5.size
  simp only [World.size_alloc] at hs5
  replace hb4 := box3_but hbut5 (by omega) hb4
  replace hb7 := box3_but hbut5 (by omega) hb7
  replace hb9 := box3_but hbut5 (by omega) hb9
  replace hBut := hBut.trans hbut5
  have hTwo5 : Two (w.heap.size + 1) t1 t2 (.agg #[.int .i64 t1.kind, .int .i64 t1.val, .slice a2 t1.kids.length n2]) (.agg #[.int .i64 t2.kind, .int .i64 t2.val, .slice a4 t2.kids.length n4]) w5 := by
    obtain ⟨c1, c2, h1, h2, h3, h4, h5⟩ := hTwo
    exact ⟨c1, c2, TrOwn_but hbut5 (fun e => by have := h4 _ e; omega) h1, TrOwn_but hbut5 (fun e => by have := h5 _ e; omega) h2, h3, h4, h5⟩
  generalize takeB [41] r3 b3 = q at *
  obtain ⟨at5, r5, b5⟩ := q
  simp only at hB5 hlT5 HPR2 ⊢
  have HB5 := hid hB5
  have hk : i64 (4 + at2) := by unfold i64; omega
  have hz := hid (fun (u0 u1 u2 : Value) => And.intro (Two.node (b' := w5.heap.size) (ty := 25) hk (Two.set3 (P := w.heap.size) hTwo5 (by omega) u0 u1 u2) (by simp; omega) (by simp)) (box3_next (below_alloc (((w5.setCell ⟨w.heap.size, 0, none⟩ u0).setCell ⟨w.heap.size, 1, none⟩ u1).setCell ⟨w.heap.size, 2, none⟩ u2) (.cells #[.int .i64 t1.kind, .int .i64 t1.val, .slice a2 t1.kids.length n2, .int .i64 t2.kind, .int .i64 t2.val, .slice a4 t2.kids.length n4] 25)) (box3_set2 (box3_set1 (box3_set0 hb4 u0) u1) u2)))
  have HBut := hid hBut
  have HE := hid HPR2.out
  clear hbut5 HB4 hTwo hTwo5 HPR2 hBut hB5
  obtain ⟨x0, x1, x2, x3, _⟩ := hb7
  obtain ⟨y0, y1, y2, y3, _⟩ := hb9
  obtain ⟨z0, z1, z2, z3, z4, z5, z6⟩ := hb4
  go_wp2_with fail
  obtain ⟨hnew, hbx⟩ := hz.out (.int .i64 (4 + at2)) (.int .i64 0) (.slice (some ⟨w5.heap.size, 0, none⟩) 2 2)
  obtain ⟨y0, y1, y2, y3, _⟩ := hbx
  refine bodyPost_ret (v := .agg #[.int .i64 (4 + at2), .int .i64 0, .slice (some ⟨w5.heap.size, 0, none⟩) 2 2]) (by simp [results, Tryd.results15, go_sem, y1, y2, y3]) rfl ?_
  exact rd_fin hRl hnew HB5.out HBut.out (by simp; omega) (by rw [E.out, HE.out]; rfl)
end Expr
end Go.Proofs.YtplmjliaochepaaDoor
