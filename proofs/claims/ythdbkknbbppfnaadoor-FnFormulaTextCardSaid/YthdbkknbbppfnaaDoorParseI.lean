/- The program's reader of formulas. Conditions: those of each contract. -/
import Derived.Test.YthdbkknbbppfnaaDoorTakeP
import Derived.Test.YthdbkknbbppfnaaDoorFormulaMk
import Derived.Test.YthdbkknbbppfnaaDoorBox
import Derived.Test.YthdbkknbbppfnaaDoorOwnTwo
import Derived.Deep.RegionHeld3
import Derived.Test.YthdbkknbbppfnaaDoorRegOrd
namespace Go.Proofs.YthdbkknbbppfnaaDoor
open Go.RowKit
namespace Formula

def RdPost (rd : List UInt8 → Option (Tr × List UInt8)) (s : List UInt8) (b : Bool) (R : Nat) (w : World) (e : Ending) (w' : World) : Prop :=
  ∃ v t r b', e = .returned v ∧ NewTr w.heap.size t v w' ∧ Box2 w' R (.string (bs r)) (.bool b') ∧ But w R w' ∧ r.length ≤ s.length ∧ (if b = true then none else rd s) = (if b' = true then none else some (t, r))
def RdT (n : Nat) : Prop := ∀ (w : World) (s : List UInt8) (b : Bool) (R : Nat) (d : Int), Box2 w R (.string (bs s)) (.bool b) → s.length ≤ 1048576 → d = 7 - n → Calls Tryd.prog 15 #[.pointer (some ⟨R, 0, none⟩), .int .i64 d] w (RdPost (rdF n) s b R w)

def set1 : List UInt8 := [84, 112, 113, 114, 33, 88, 70, 71, 40]
def set2 : List UInt8 := [38, 124, 85, 82]

theorem u8_pqr {c : UInt8} (h : 112 ≤ c ∧ c ≤ 114) : c = 112 ∨ c = 113 ∨ c = 114 := by
  obtain ⟨h1, h2⟩ := h
  rw [UInt8.le_iff_toNat_le] at h1 h2
  have h3 : c.toNat = 112 ∨ c.toNat = 113 ∨ c.toNat = 114 := by
    have e1 : (112 : UInt8).toNat = 112 := rfl
    have e2 : (114 : UInt8).toNat = 114 := rfl
    omega
  rcases h3 with h | h | h
  · exact .inl (UInt8.toNat_inj.1 h)
  · exact .inr (.inl (UInt8.toNat_inj.1 h))
  · exact .inr (.inr (UInt8.toNat_inj.1 h))

theorem set1_cases (c : UInt8) : idxI set1 c 0 < 0 ∨ c = 84 ∨ (c = 112 ∨ c = 113 ∨ c = 114) ∨ (c = 33 ∨ c = 88 ∨ c = 70 ∨ c = 71) ∨ c = 40 := by
  unfold set1
  simp only [idxI]
  repeat' split
  all_goals (try subst c)
  all_goals simp

/-- nothing is read -/
theorem take1_bad (s : List UInt8) (b : Bool) : (∃ s', takeB set1 s b = (-1, s', true) ∧ s'.length ≤ s.length) ∧ (∀ n, (if b = true then none else rdF n s) = none) ∨ (b = false ∧ ∃ c s1, s = c :: s1 ∧ (c = 84 ∨ (c = 112 ∨ c = 113 ∨ c = 114) ∨ (c = 33 ∨ c = 88 ∨ c = 70 ∨ c = 71) ∨ c = 40)) := by
  cases b with
  | true => exact .inl ⟨⟨s, by cases s <;> rfl, Nat.le_refl _⟩, fun n => rfl⟩
  | false =>
    cases s with
    | nil => exact .inl ⟨⟨[], rfl, Nat.le_refl _⟩, fun n => by cases n <;> rfl⟩
    | cons c s1 =>
      rcases set1_cases c with h | h
      · refine .inl ⟨⟨c :: s1, by simp [takeB, h], Nat.le_refl _⟩, fun n => ?_⟩
        cases n with
        | zero => rfl
        | succ n =>
          have n1 : c ≠ 84 := fun e => by subst e; simp [set1, idxI] at h
          have n2 : ¬ (112 ≤ c ∧ c ≤ 114) := fun e => by rcases u8_pqr e with e | e | e <;> subst e <;> simp [set1, idxI] at h
          have n3 : formUn c = none := by
            unfold formUn
            rw [if_neg (fun e => by subst e; simp [set1, idxI] at h), if_neg (fun e => by subst e; simp [set1, idxI] at h), if_neg (fun e => by subst e; simp [set1, idxI] at h), if_neg (fun e => by subst e; simp [set1, idxI] at h)]
          have n4 : c ≠ 40 := fun e => by subst e; simp [set1, idxI] at h
          simp only [rdF]
          rw [if_neg n1, if_neg n2, n3]
          simp [n4]
      · exact .inr ⟨rfl, c, s1, rfl, h⟩

set_option maxRecDepth 100000 in
set_option maxHeartbeats 1000000 in
theorem rd_bad (n : Nat) (w : World) (s s' : List UInt8) (b : Bool) (R : Nat) (d : Int) (hR : Box2 w R (.string (bs s)) (.bool b)) (hl : s.length ≤ 1048576) (hd : d ≤ 6) (ht : takeB set1 s b = (-1, s', true)) (hs' : s'.length ≤ s.length) (hrd : (if b = true then none else rdF n s) = none) :
    Calls Tryd.prog 15 #[.pointer (some ⟨R, 0, none⟩), .int .i64 d] w (RdPost (rdF n) s b R w) := by
  have HR := hid (show ∀ o, Box2 (w.alloc o) R (.string (bs s)) (.bool b) from fun o => box2_next (below_alloc _ _) hR)
  have hRl := hR.1
  clear hR
  have hd2 : ¬ (d > 6) := by omega
  have HT := hid ht
  have e1 : (⟨#[84, 112, 113, 114, 33, 88, 70, 71, 40]⟩ : ByteArray) = bs set1 := rfl
  go_enter Tryd.func15, Tryd.ntmps15
  go_wp2_with fail
  refine (take_any set1 s b _ R (HR.out _) hl).mono ?_
  rintro e w1 ⟨rfl, hB, hbut⟩
  rw [HT.out] at hB ⊢
  have hb4 := box3_but hbut (by omega) (box3_new w (.int .i64 0) (.int .i64 0) (.slice none 0 0) 25)
  have HB := hid hB
  have hBut := hid ((But.of (below_alloc w (.cells #[.int .i64 0, .int .i64 0, .slice none 0 0] 25))).trans hbut)
  obtain ⟨q0, q1, q2, q3, q4⟩ := hB
  have b4 := hb4
  obtain ⟨z0, z1, z2, z3, z4, z5, z6⟩ := hb4
  clear hbut
  go_wp2_with fail
  obtain ⟨y0, y1, y2, y3, _⟩ := box3_set2 (box3_set1 (box3_set0 b4 (.int .i64 0)) (.int .i64 0)) (.slice none 0 0); refine bodyPost_ret (v := .agg #[.int .i64 0, .int .i64 0, .slice none 0 0]) (by simp [results, Tryd.results15, go_sem, y1, y2, y3]) rfl ?_
  have hne : R ≠ w.heap.size := by omega
  refine ⟨_, zeroT, s', true, rfl, (zero_new _ _), box2_but (But.set _ w.heap.size 2 _) hne (box2_but (But.set _ w.heap.size 1 _) hne (box2_but (But.set _ w.heap.size 0 _) hne HB.out)), But.setNew (But.setNew (But.setNew hBut.out (Nat.le_refl _) _) (Nat.le_refl _) _) (Nat.le_refl _) _, hs', by rw [hrd]; rfl⟩

/-- the reader behind a node that is written into the result's own box -/
theorem rd_end {rd : List UInt8 → Option (Tr × List UInt8)} {s r : List UInt8} {b b' : Bool} {R : Nat} {w W : World} {t : Tr} {x : Value} (hRl : R < w.heap.size) (hn : NewTr (w.heap.size + 1) t x W) (hB : Box2 W R (.string (bs r)) (.bool b')) (hb : But w R W) (hr : r.length ≤ s.length) (hE : (if b = true then none else rd s) = (if b' = true then none else some (t, r))) (u0 u1 u2 : Value) :
    RdPost rd s b R w (.returned x) (((W.setCell ⟨w.heap.size, 0, none⟩ u0).setCell ⟨w.heap.size, 1, none⟩ u1).setCell ⟨w.heap.size, 2, none⟩ u2) := by
  have hne : R ≠ w.heap.size := by omega
  exact ⟨x, t, r, b', rfl, (newTr_set3 hn (by omega) _ _ _).mono (by omega), box2_but (But.set _ w.heap.size 2 _) hne (box2_but (But.set _ w.heap.size 1 _) hne (box2_but (But.set _ w.heap.size 0 _) hne hB)), But.setNew (But.setNew (But.setNew hb (Nat.le_refl _) _) (Nat.le_refl _) _) (Nat.le_refl _) _, hr, hE⟩

set_option maxRecDepth 100000 in
set_option maxHeartbeats 1000000 in
theorem rd_zero : RdT 0 := by
  intro w s b R d hR hl hd
  have HR := hid (box2_next (below_alloc (w.setCell ⟨R, 1, none⟩ (.bool true)) (.cells #[.int .i64 0, .int .i64 0, .slice none 0 0] 25)) (box2_set1 hR (.bool true)))
  have hRl := hR.1
  obtain ⟨p0, p1, p2, p3, p4⟩ := hR
  obtain rfl : d = 7 := by simpa using hd
  clear hd
  have e1 : (⟨#[84, 112, 113, 114, 33, 88, 70, 71, 40]⟩ : ByteArray) = bs set1 := rfl
  have HT := hid (show takeB set1 s true = (-1, s, true) by cases s <;> rfl)
  go_enter Tryd.func15, Tryd.ntmps15
  go_wp2_with fail
  refine (take_any set1 s true _ R HR.out hl).mono ?_
  rintro e w1 ⟨rfl, hB, hbut⟩
  rw [HT.out] at hB ⊢
  have hb4 := (box3_but hbut (by omega) (box3_at (B := w.heap.size) (w := w.setCell ⟨R, 1, none⟩ (.bool true)) (a := .int .i64 0) (b := .int .i64 0) (c := .slice none 0 0) (t := 25) (by simp)))
  have HB := hid hB
  have hBut := hid (((But.set w R 1 (.bool true)).trans (But.of (below_alloc _ (.cells #[.int .i64 0, .int .i64 0, .slice none 0 0] 25)))).trans hbut)
  obtain ⟨q0, q1, q2, q3, q4⟩ := hB
  have b4 := hb4
  obtain ⟨z0, z1, z2, z3, z4, z5, z6⟩ := hb4
  clear hbut
  go_wp2_with fail
  obtain ⟨y0, y1, y2, y3, _⟩ := box3_set2 (box3_set1 (box3_set0 b4 (.int .i64 0)) (.int .i64 0)) (.slice none 0 0); refine bodyPost_ret (v := .agg #[.int .i64 0, .int .i64 0, .slice none 0 0]) (by simp [results, Tryd.results15, go_sem, y1, y2, y3]) rfl ?_
  exact rd_end hRl (zero_new _ _) HB.out hBut.out (Nat.le_refl _) (by cases b <;> rfl) _ _ _

set_option maxRecDepth 100000 in
set_option maxHeartbeats 2000000 in
theorem rd_true (n : Nat) (w : World) (s : List UInt8) (R : Nat) (d : Int) (hR : Box2 w R (.string (bs (84 :: s))) (.bool false)) (hl : (84 :: s : List UInt8).length ≤ 1048576) (hd : d ≤ 6) :
    Calls Tryd.prog 15 #[.pointer (some ⟨R, 0, none⟩), .int .i64 d] w (RdPost (rdF (n + 1)) (84 :: s) false R w) := by
  have HR := hid (show ∀ o, Box2 (w.alloc o) R (.string (bs (84 :: s))) (.bool false) from fun o => box2_next (below_alloc _ _) hR)
  have hRl := hR.1
  clear hR
  have hd2 : ¬ (d > 6) := by omega
  have HT := hid (show takeB set1 (84 :: s) false = (0, s, false) from rfl)
  have e1 : (⟨#[84, 112, 113, 114, 33, 88, 70, 71, 40]⟩ : ByteArray) = bs set1 := rfl
  have E := hid (show rdF (n + 1) (84 :: s) = some (.mk 1 0 [], s) by simp [rdF])
  go_enter Tryd.func15, Tryd.ntmps15
  go_wp2_with fail
  refine (take_any set1 (84 :: s) false _ R (HR.out _) hl).mono ?_
  rintro e w1 ⟨rfl, hB, hbut⟩
  rw [HT.out] at hB ⊢
  have hb4 := box3_but hbut (by omega) (box3_new w (.int .i64 0) (.int .i64 0) (.slice none 0 0) 25)
  have HB := hid hB
  have hBut := hid ((But.of (below_alloc w (.cells #[.int .i64 0, .int .i64 0, .slice none 0 0] 25))).trans hbut)
  have hsz := hbut.size
  simp only [World.size_alloc] at hsz
  obtain ⟨q0, q1, q2, q3, q4⟩ := hB
  clear hbut
  go_wp2_with fail
  refine (mk_any 1 (by unfold i64; omega) [] w1 none 0 w1.heap.size (.inl rfl) (Nat.le_refl _) (by simp) (by simp) (by simp)).mono ?_
  rintro e w2 ⟨v, rfl, hn, hb⟩
  obtain ⟨a1, n1, hsh⟩ := TrIn_shape hn.any
  obtain rfl : v = .agg #[.int .i64 1, .int .i64 0, .slice a1 0 n1] := hsh
  have b4 := box3_next hb hb4
  have HN := hid (hn.mono (B' := w.heap.size + 1) (by omega))
  have HB2 := hid (box2_next hb HB.out)
  have hBut2 := hid (hBut.out.next hb)
  obtain ⟨z0, z1, z2, z3, z4, z5, z6⟩ := id b4
  clear hb hn q0 q1 q2 q3 q4 hb4
  go_wp2_with fail
  obtain ⟨y0, y1, y2, y3, _⟩ := box3_set2 (box3_set1 (box3_set0 b4 (.int .i64 1)) (.int .i64 0)) (.slice a1 0 n1); refine bodyPost_ret (v := .agg #[.int .i64 1, .int .i64 0, .slice a1 0 n1]) (by simp [results, Tryd.results15, go_sem, y1, y2, y3]) rfl ?_
  exact rd_end hRl HN.out HB2.out hBut2.out (by simp) (by simp [E.out]) _ _ _

set_option maxRecDepth 100000 in
set_option maxHeartbeats 2000000 in
theorem rd_atom (n : Nat) (c : UInt8) (at' : Int) (hc : (c = 112 ∧ at' = 1) ∨ (c = 113 ∧ at' = 2) ∨ (c = 114 ∧ at' = 3)) (w : World) (s : List UInt8) (R : Nat) (d : Int) (hR : Box2 w R (.string (bs (c :: s))) (.bool false)) (hl : (c :: s : List UInt8).length ≤ 1048576) (hd : d ≤ 6) :
    Calls Tryd.prog 15 #[.pointer (some ⟨R, 0, none⟩), .int .i64 d] w (RdPost (rdF (n + 1)) (c :: s) false R w) := by
  have HR := hid (show ∀ o, Box2 (w.alloc o) R (.string (bs (c :: s))) (.bool false) from fun o => box2_next (below_alloc _ _) hR)
  have hRl := hR.1
  clear hR
  have hd2 : ¬ (d > 6) := by omega
  have HT := hid (show takeB set1 (c :: s) false = (at', s, false) by rcases hc with ⟨rfl, rfl⟩ | ⟨rfl, rfl⟩ | ⟨rfl, rfl⟩ <;> rfl)
  have e1 : (⟨#[84, 112, 113, 114, 33, 88, 70, 71, 40]⟩ : ByteArray) = bs set1 := rfl
  have E := hid (show rdF (n + 1) (c :: s) = some (.mk 2 (at' - 1) [], s) by rcases hc with ⟨rfl, rfl⟩ | ⟨rfl, rfl⟩ | ⟨rfl, rfl⟩ <;> simp [rdF])
  have hat : at' = 1 ∨ at' = 2 ∨ at' = 3 := by omega
  clear hc
  go_enter Tryd.func15, Tryd.ntmps15
  go_wp2_with fail
  refine (take_any set1 (c :: s) false _ R (HR.out _) hl).mono ?_
  rintro e w1 ⟨rfl, hB, hbut⟩
  rw [HT.out] at hB ⊢
  have hb4 := box3_but hbut (by omega) (box3_new w (.int .i64 0) (.int .i64 0) (.slice none 0 0) 25)
  have HB := hid hB
  have hBut := hid ((But.of (below_alloc w (.cells #[.int .i64 0, .int .i64 0, .slice none 0 0] 25))).trans hbut)
  obtain ⟨q0, q1, q2, q3, q4⟩ := hB
  have b4 := hb4
  obtain ⟨z0, z1, z2, z3, z4, z5, z6⟩ := hb4
  clear hbut HT
  rcases hat with rfl | rfl | rfl
  · go_wp2_with fail
    obtain ⟨y0, y1, y2, y3, _⟩ := box3_set2 (box3_set1 (box3_set0 b4 (.int .i64 2)) (.int .i64 0)) (.slice none 0 0); refine bodyPost_ret (v := .agg #[.int .i64 2, .int .i64 0, .slice none 0 0]) (by simp [results, Tryd.results15, go_sem, y1, y2, y3]) rfl ?_
    exact rd_end hRl (leaf_new _ _ (by unfold i64; omega) (by unfold i64; omega)) HB.out hBut.out (by simp) (by simp [E.out]) _ _ _
  · go_wp2_with fail
    obtain ⟨y0, y1, y2, y3, _⟩ := box3_set2 (box3_set1 (box3_set0 b4 (.int .i64 2)) (.int .i64 1)) (.slice none 0 0); refine bodyPost_ret (v := .agg #[.int .i64 2, .int .i64 1, .slice none 0 0]) (by simp [results, Tryd.results15, go_sem, y1, y2, y3]) rfl ?_
    exact rd_end hRl (leaf_new _ _ (by unfold i64; omega) (by unfold i64; omega)) HB.out hBut.out (by simp) (by simp [E.out]) _ _ _
  · go_wp2_with fail
    obtain ⟨y0, y1, y2, y3, _⟩ := box3_set2 (box3_set1 (box3_set0 b4 (.int .i64 2)) (.int .i64 2)) (.slice none 0 0); refine bodyPost_ret (v := .agg #[.int .i64 2, .int .i64 2, .slice none 0 0]) (by simp [results, Tryd.results15, go_sem, y1, y2, y3]) rfl ?_
    exact rd_end hRl (leaf_new _ _ (by unfold i64; omega) (by unfold i64; omega)) HB.out hBut.out (by simp) (by simp [E.out]) _ _ _

set_option maxRecDepth 100000 in
set_option maxHeartbeats 2000000 in
theorem rd_un (n : Nat) (ih : RdT n) (c : UInt8) (k at' : Int) (hc : (c = 33 ∧ at' = 4 ∧ k = 3) ∨ (c = 88 ∧ at' = 5 ∧ k = 6) ∨ (c = 70 ∧ at' = 6 ∧ k = 9) ∨ (c = 71 ∧ at' = 7 ∧ k = 10)) (w : World) (s : List UInt8) (R : Nat) (d : Int) (hR : Box2 w R (.string (bs (c :: s))) (.bool false)) (hl : (c :: s : List UInt8).length ≤ 1048576) (hd : d ≤ 6) (hdn : d = 7 - (n + 1 : Nat)) (hd3 : -1000 ≤ d) :
    Calls Tryd.prog 15 #[.pointer (some ⟨R, 0, none⟩), .int .i64 d] w (RdPost (rdF (n + 1)) (c :: s) false R w) := by
  have HR := hid (show ∀ o, Box2 (w.alloc o) R (.string (bs (c :: s))) (.bool false) from fun o => box2_next (below_alloc _ _) hR)
  have hRl := hR.1
  clear hR
  have hd2 : ¬ (d > 6) := by omega
  have hdn2 : d + 1 = 7 - (n : Int) := by omega
  have HT := hid (show takeB set1 (c :: s) false = (at', s, false) by rcases hc with ⟨rfl, rfl, rfl⟩ | ⟨rfl, rfl, rfl⟩ | ⟨rfl, rfl, rfl⟩ | ⟨rfl, rfl, rfl⟩ <;> rfl)
  have e1 : (⟨#[84, 112, 113, 114, 33, 88, 70, 71, 40]⟩ : ByteArray) = bs set1 := rfl
  have E := hid (show rdF (n + 1) (c :: s) = oneWith (rdF n) k s by rcases hc with ⟨rfl, rfl, rfl⟩ | ⟨rfl, rfl, rfl⟩ | ⟨rfl, rfl, rfl⟩ | ⟨rfl, rfl, rfl⟩ <;> simp [rdF, formUn])
  have hat : (at' = 4 ∧ k = 3) ∨ (at' = 5 ∧ k = 6) ∨ (at' = 6 ∧ k = 9) ∨ (at' = 7 ∧ k = 10) := by omega
  have hk : i64 k := by unfold i64; omega
  have HEQ := hid (fun (t2 : Tr) (r2 : List UInt8) (b2 : Bool) (hE2 : (if false = true then none else rdF n s) = (if b2 = true then none else some (t2, r2))) => show rdF (n + 1) (c :: s) = (if b2 = true then none else some (.mk k 0 [t2], r2)) by
    rw [E.out]
    simp only [Bool.false_eq_true, if_false] at hE2
    unfold oneWith
    rw [hE2]
    cases b2 <;> rfl)
  have HI := hid ih
  have HDN := hid hdn2
  clear hc ih hdn hdn2
  go_enter Tryd.func15, Tryd.ntmps15
  go_wp2_with fail
  refine (take_any set1 (c :: s) false _ R (HR.out _) hl).mono ?_
  rintro e w1 ⟨rfl, hB, hbut⟩
  rw [HT.out] at hB ⊢
  have hb4 := hid (box3_but hbut (by omega) (box3_new w (.int .i64 0) (.int .i64 0) (.slice none 0 0) 25))
  have HB := hid hB
  have hBut := hid ((But.of (below_alloc w (.cells #[.int .i64 0, .int .i64 0, .slice none 0 0] 25))).trans hbut)
  have hsz := hbut.size
  simp only [World.size_alloc] at hsz
  obtain ⟨q0, q1, q2, q3, q4⟩ := hB
  clear hbut HT
  have hls : s.length ≤ 1048576 := by simp at hl; omega
  rcases hat with ⟨rfl, rfl⟩ | ⟨rfl, rfl⟩ | ⟨rfl, rfl⟩ | ⟨rfl, rfl⟩
  all_goals
    go_wp2_with fail
    refine (HI.out _ s false R _ (box2_next (below_alloc _ _) HB.out) hls HDN.out).mono ?_
    rintro e w2 ⟨v2, t2, r2, b2, rfl, hn2, hB2, hbut2, hr2, hE2⟩
    obtain ⟨a2, n2, rfl⟩ := TrIn_shape hn2.any
    have hs2 := hbut2.size
    simp only [World.size_alloc] at hs2
    have hB2' := hB2
    have hb4' := box3_but hbut2 (by omega) (box3_next (below_alloc _ _) hb4.out)
    have HBT := hid ((hBut.out.next (below_alloc w1 _)).trans hbut2)
    have HE := hid (HEQ.out t2 r2 b2 hE2)
    clear hbut2 hE2
    have HB2 := hid hB2
    have HN2 := hid (hn2.mono (B' := w.heap.size + 1) (by simp; omega))
    obtain ⟨q0, q1, q2, q3, q4⟩ := hB2
    clear hn2 hB2'
    go_wp2_with fail
    refine (mk_any _ (by unfold i64; omega) [t2] _ _ 1 (w.heap.size + 1) (own_one HN2.out) (by simp; omega) (by simp) (by simp [maxLen]) (by simp)).mono ?_
    rintro e w3 ⟨v3, rfl, hn3, hb3⟩
    obtain ⟨a3, n3, hsh⟩ := TrIn_shapeMk hn3.any
    obtain rfl := hsh
    simp only [List.length_cons, List.length_nil, Nat.zero_add] at hn3 ⊢
    replace hb3 := below_next (below_alloc _ _) hb3
    have b4 := box3_next hb3 hb4'
    have HN3 := hid hn3
    have HB3 := hid (box2_next hb3 HB2.out)
    have HBT3 := hid (HBT.out.next hb3)
    obtain ⟨z0, z1, z2, z3, z4, z5, z6⟩ := id b4
    clear hb3 hn3 hb4' q0 q1 q2 q3 q4
    go_wp2_with fail
    first
      | obtain ⟨y0, y1, y2, y3, _⟩ := box3_set2 (box3_set1 (box3_set0 b4 (.int .i64 3)) (.int .i64 0)) (.slice a3 1 n3); refine bodyPost_ret (v := .agg #[.int .i64 3, .int .i64 0, .slice a3 1 n3]) (by simp [results, Tryd.results15, go_sem, y1, y2, y3]) rfl ?_
        exact rd_end hRl HN3.out HB3.out HBT3.out (by simp; omega) (by simpa using HE.out) _ _ _
      | obtain ⟨y0, y1, y2, y3, _⟩ := box3_set2 (box3_set1 (box3_set0 b4 (.int .i64 6)) (.int .i64 0)) (.slice a3 1 n3); refine bodyPost_ret (v := .agg #[.int .i64 6, .int .i64 0, .slice a3 1 n3]) (by simp [results, Tryd.results15, go_sem, y1, y2, y3]) rfl ?_
        exact rd_end hRl HN3.out HB3.out HBT3.out (by simp; omega) (by simpa using HE.out) _ _ _
      | obtain ⟨y0, y1, y2, y3, _⟩ := box3_set2 (box3_set1 (box3_set0 b4 (.int .i64 9)) (.int .i64 0)) (.slice a3 1 n3); refine bodyPost_ret (v := .agg #[.int .i64 9, .int .i64 0, .slice a3 1 n3]) (by simp [results, Tryd.results15, go_sem, y1, y2, y3]) rfl ?_
        exact rd_end hRl HN3.out HB3.out HBT3.out (by simp; omega) (by simpa using HE.out) _ _ _
      | obtain ⟨y0, y1, y2, y3, _⟩ := box3_set2 (box3_set1 (box3_set0 b4 (.int .i64 10)) (.int .i64 0)) (.slice a3 1 n3); refine bodyPost_ret (v := .agg #[.int .i64 10, .int .i64 0, .slice a3 1 n3]) (by simp [results, Tryd.results15, go_sem, y1, y2, y3]) rfl ?_
        exact rd_end hRl HN3.out HB3.out HBT3.out (by simp; omega) (by simpa using HE.out) _ _ _

theorem OwnArg.below {B : Nat} {w w' : World} {l : List Tr} {a : Option Addr} (h : OwnArg B w l a) (hb : Below w.heap.size w w') : OwnArg B w' l a := by
  rcases h with rfl | ⟨R, f, bs, rfl, h1, h2, h3⟩
  · exact .inl rfl
  · exact .inr ⟨R, f, bs, rfl, h1.below hb, TrsOwn_below hb h2, h3⟩
theorem Two.below {B : Nat} {t u : Tr} {x y : Value} {w w' : World} (h : Two B t u x y w) (hb : Below w.heap.size w w') : Two B t u x y w' := by
  obtain ⟨b1, b2, h1, h2, h3, h4, h5⟩ := h
  exact ⟨b1, b2, TrOwn_below hb h1, TrOwn_below hb h2, h3, h4, h5⟩
theorem Two.but {B N : Nat} {t u : Tr} {x y : Value} {w1 w2 : World} {R : Nat} (h1 : NewTr B t x w1) (h2 : NewTr N u y w2) (hN : w1.heap.size ≤ N) (hb : But w1 R w2) (hR : R < B) (hB : B ≤ N) : Two B t u x y w2 := by
  obtain ⟨b1, o1, g1⟩ := h1
  obtain ⟨b2, o2, g2⟩ := h2
  exact ⟨b1, b2, TrOwn_but hb (fun e => by have := g1 _ e; omega) o1, o2, fun b hb1 hb2 => by have := TrOwn_lt.1 _ _ _ o1 b hb1; have := g2 b hb2; omega, g1, fun b hb => by have := g2 b hb; omega⟩

def opK (a : Int) : Int := if a = 0 then 4 else if a = 1 then 5 else if a = 2 then 7 else 8
theorem set2_op (o : UInt8) : (idxI set2 o 0 < 0 ∧ formOp o = none) ∨ (0 ≤ idxI set2 o 0 ∧ idxI set2 o 0 < 4 ∧ formOp o = some (opK (idxI set2 o 0))) := by
  by_cases h0 : o = 38
  · subst h0; right; decide
  by_cases h1 : o = 124
  · subst h1; right; decide
  by_cases h2 : o = 85
  · subst h2; right; decide
  by_cases h3 : o = 82
  · subst h3; right; decide
  left
  have e0 : ¬ (38 : UInt8) = o := fun e => h0 e.symm
  have e1 : ¬ (124 : UInt8) = o := fun e => h1 e.symm
  have e2 : ¬ (85 : UInt8) = o := fun e => h2 e.symm
  have e3 : ¬ (82 : UInt8) = o := fun e => h3 e.symm
  simp [set2, idxI, formOp, h0, h1, h2, h3, e0, e1, e2, e3]

set_option maxRecDepth 100000 in
set_option maxHeartbeats 4000000 in
theorem rd_two (n : Nat) (ih : RdT n) (w : World) (s : List UInt8) (R : Nat) (d : Int) (hR : Box2 w R (.string (bs (40 :: s))) (.bool false)) (hl : (40 :: s : List UInt8).length ≤ 1048576) (hd : d ≤ 6) (hdn : d = 7 - (n + 1 : Nat)) (hd3 : -1000 ≤ d) :
    Calls Tryd.prog 15 #[.pointer (some ⟨R, 0, none⟩), .int .i64 d] w (RdPost (rdF (n + 1)) (40 :: s) false R w) := by
  have HR := hid (show ∀ o, Box2 (w.alloc o) R (.string (bs (40 :: s))) (.bool false) from fun o => box2_next (below_alloc _ _) hR)
  have hRl := hR.1
  clear hR
  have hd2 : ¬ (d > 6) := by omega
  have hdn2 : d + 1 = 7 - (n : Int) := by omega
  have HT := hid (show takeB set1 (40 :: s) false = (8, s, false) from rfl)
  have e1 : (⟨#[84, 112, 113, 114, 33, 88, 70, 71, 40]⟩ : ByteArray) = bs set1 := rfl
  have e2 : (⟨#[38, 124, 85, 82]⟩ : ByteArray) = bs set2 := rfl
  have e3 : (⟨#[41]⟩ : ByteArray) = bs [41] := rfl
  have E := hid (show rdF (n + 1) (40 :: s) = pairWith (rdF n) formOp s by simp [rdF, formUn])
  have HI := hid ih
  have HDN := hid hdn2
  have hls : s.length ≤ 1048576 := by simp at hl; omega
  clear ih hdn hdn2
  go_enter Tryd.func15, Tryd.ntmps15
  go_wp2_with fail
  refine (take_any set1 (40 :: s) false _ R (HR.out _) hl).mono ?_
  rintro e w1 ⟨rfl, hB, hbut⟩
  rw [HT.out] at hB ⊢
  have hb4 := box3_but hbut (by omega) (box3_new w (.int .i64 0) (.int .i64 0) (.slice none 0 0) 25)
  have HB := hid hB
  have hBut := (But.of (below_alloc w (.cells #[.int .i64 0, .int .i64 0, .slice none 0 0] 25))).trans hbut
  have hsz := hbut.size
  simp only [World.size_alloc] at hsz
  obtain ⟨q0, q1, q2, q3, q4⟩ := hB
  clear hbut HT
  go_wp2_with fail
  -- the first operand
  refine (HI.out _ s false R _ HB.out hls HDN.out).mono ?_
  rintro e w2 ⟨v2, t1, r1, b1, rfl, hn1, hB2, hbut2, hr1, hE1⟩
  obtain ⟨a2, n2, rfl⟩ := TrIn_shape hn1.any
  have hs2 := hbut2.size
  have HB2 := hid (fun o => box2_next (below_alloc w2 o) hB2)
  replace hb4 := box3_next (below_alloc w2 (.cells #[.int .i64 t1.kind, .int .i64 t1.val, .slice a2 t1.kids.length n2] 25)) (box3_but hbut2 (by omega) hb4)
  have hb7 := box3_new w2 (.int .i64 t1.kind) (.int .i64 t1.val) (.slice a2 t1.kids.length n2) 25
  replace hBut := (hBut.trans hbut2).next (below_alloc w2 (.cells #[.int .i64 t1.kind, .int .i64 t1.val, .slice a2 t1.kids.length n2] 25))
  have hN1 := (hn1.mono (B' := w.heap.size + 1) (by omega)).below (below_alloc w2 (.cells #[.int .i64 t1.kind, .int .i64 t1.val, .slice a2 t1.kids.length n2] 25))
  simp only [Bool.false_eq_true, if_false] at hE1
  have HE1 := hid hE1
  clear hbut2 hn1 hB2 hE1 q0 q1 q2 q3 q4
  go_wp2_with fail
  -- the sign
  refine (take_any set2 r1 b1 _ R (HB2.out _) (by omega)).mono ?_
  rintro e w3 ⟨rfl, hB3, hbut3⟩
  have hlT := takeB_len set2 r1 b1
  have hs3 := hbut3.size
  simp only [World.size_alloc] at hs3
  have HPR := hid (fun r3 b3 t2 E3 => pair_read (rd := rdF n) (op := formOp) (set := set2) (kOf := opK) 4 set2_op (r3 := r3) (b3 := b3) (t2 := t2) HE1.out E3)
  replace hb4 := box3_but hbut3 (by omega) hb4
  replace hb7 := box3_but hbut3 (by omega) hb7
  replace hBut := hBut.trans hbut3
  replace hN1 := hN1.keep (Keep.but hbut3 (by omega))
  generalize takeB set2 r1 b1 = q at *
  obtain ⟨at2, r2, b2⟩ := q
  simp only at hB3 hlT HPR ⊢
  have HB3 := hid hB3
  clear hbut3 HE1 HB2
  obtain ⟨q0, q1, q2, q3, q4⟩ := hB3
  go_wp2_with fail
  -- the second operand
  refine (HI.out _ r2 b2 R _ HB3.out (by omega) HDN.out).mono ?_
  rintro e w4 ⟨v4, t2, r3, b3, rfl, hn2, hB4, hbut4, hr3, hE3⟩
  obtain ⟨a4, n4, rfl⟩ := TrIn_shape hn2.any
  have hs4 := hbut4.size
  have HB4 := hid (fun o => box2_next (below_alloc w4 o) hB4)
  have hTwo := Two.but hN1 hn2 (Nat.le_refl _) hbut4 (by omega) (by omega)
  replace hb4 := box3_next (below_alloc w4 (.cells #[.int .i64 t2.kind, .int .i64 t2.val, .slice a4 t2.kids.length n4] 25)) (box3_but hbut4 (by omega) hb4)
  replace hb7 := box3_next (below_alloc w4 (.cells #[.int .i64 t2.kind, .int .i64 t2.val, .slice a4 t2.kids.length n4] 25)) (box3_but hbut4 (by omega) hb7)
  have hb9 := box3_new w4 (.int .i64 t2.kind) (.int .i64 t2.val) (.slice a4 t2.kids.length n4) 25
  replace hBut := (hBut.trans hbut4).next (below_alloc w4 (.cells #[.int .i64 t2.kind, .int .i64 t2.val, .slice a4 t2.kids.length n4] 25))
  replace hTwo := Two.below hTwo (below_alloc w4 (.cells #[.int .i64 t2.kind, .int .i64 t2.val, .slice a4 t2.kids.length n4] 25))
  have HPR2 := hid (HPR.out r3 b3 t2 hE3)
  clear hbut4 hn2 hB4 hE3 q0 q1 q2 q3 q4 hN1 HPR HB3
  go_wp2_with fail
  -- the bracket
  refine (take_any [41] r3 b3 _ R (HB4.out _) (by omega)).mono ?_
  rintro e w5 ⟨rfl, hB5, hbut5⟩
  have hlT5 := takeB_len [41] r3 b3
  have hs5 := hbut5.size
  simp only [World.size_alloc] at hs5
  replace hb4 := box3_but hbut5 (by omega) hb4
  replace hb7 := box3_but hbut5 (by omega) hb7
  replace hb9 := box3_but hbut5 (by omega) hb9
  replace hBut := hBut.trans hbut5
  have hTwo5 : Two (w.heap.size + 1) t1 t2 (.agg #[.int .i64 t1.kind, .int .i64 t1.val, .slice a2 t1.kids.length n2]) (.agg #[.int .i64 t2.kind, .int .i64 t2.val, .slice a4 t2.kids.length n4]) w5 := by
    obtain ⟨c1, c2, h1, h2, h3, h4, h5⟩ := hTwo
    exact ⟨c1, c2, TrOwn_but hbut5 (fun e => by have := h4 _ e; omega) h1, TrOwn_but hbut5 (fun e => by have := h5 _ e; omega) h2, h3, h4, h5⟩
  generalize takeB [41] r3 b3 = q at *
  obtain ⟨at5, r5, b5⟩ := q
  simp only at hB5 hlT5 HPR2 ⊢
  have HB5 := hid hB5
  have HTwo := hid hTwo5
  clear hbut5 HB4 hTwo hTwo5
  obtain ⟨q0, q1, q2, q3, q4⟩ := hB5
  cases b5 with
  | true =>
    have HE := hid HPR2.out.1
    have b4 := hb4
    obtain ⟨z0, z1, z2, z3, z4, z5, z6⟩ := hb4
    have HBut := hid hBut
    clear hb7 hb9 HPR2 hBut
    go_wp2_with fail
    obtain ⟨y0, y1, y2, y3, _⟩ := box3_set2 (box3_set1 (box3_set0 b4 (.int .i64 0)) (.int .i64 0)) (.slice none 0 0); refine bodyPost_ret (v := .agg #[.int .i64 0, .int .i64 0, .slice none 0 0]) (by simp [results, Tryd.results15, go_sem, y1, y2, y3]) rfl ?_
    exact rd_end (t := zeroT) hRl (zero_new _ _) HB5.out HBut.out (by simp; omega) (by rw [E.out, HE.out]; rfl) _ _ _
  | false =>
    have hat := HPR2.out.2 rfl
    have HE := hid HPR2.out.1
    have HBut := hid hBut
    clear HPR2 hBut
    have hat2 : at2 = 0 ∨ at2 = 1 ∨ at2 = 2 ∨ at2 = 3 := by omega
    have hl7 := hb7.1
    have hl9 := hb9.1
    have H4 := hid hb4
    obtain ⟨x0, x1, x2, x3, x4, x5, x6⟩ := hb7
    obtain ⟨y0, y1, y2, y3, y4, y5, y6⟩ := hb9
    have hl4 := H4.out.1
    have HF := hid (fun w' (M : But w5 w.heap.size w') => (⟨(M.cell hl7 (by omega)).trans x1, (M.cell hl7 (by omega)).trans x2, (M.cell hl7 (by omega)).trans x3, (M.cell hl9 (by omega)).trans y1, (M.cell hl9 (by omega)).trans y2, (M.cell hl9 (by omega)).trans y3⟩ :
      w'.cell? ⟨w2.heap.size, 0, none⟩ = some (.int .i64 t1.kind) ∧ w'.cell? ⟨w2.heap.size, 1, none⟩ = some (.int .i64 t1.val) ∧ w'.cell? ⟨w2.heap.size, 2, none⟩ = some (.slice a2 t1.kids.length n2) ∧ w'.cell? ⟨w4.heap.size, 0, none⟩ = some (.int .i64 t2.kind) ∧ w'.cell? ⟨w4.heap.size, 1, none⟩ = some (.int .i64 t2.val) ∧ w'.cell? ⟨w4.heap.size, 2, none⟩ = some (.slice a4 t2.kids.length n4)))
    have z0 := H4.out.1
    have hk4 : i64 4 := by unfold i64; omega
    have hk5 : i64 5 := by unfold i64; omega
    have hk7 : i64 7 := by unfold i64; omega
    have hk8 : i64 8 := by unfold i64; omega
    have BW1 := hid (below_d (below_a (below_a (Below.refl w5.heap.size w5) (.cells #[.int .i64 4, .int .i64 5, .int .i64 7, .int .i64 8] 3)) (.cells #[.int .i64 t1.kind, .int .i64 t1.val, .slice a2 t1.kids.length n2, .int .i64 t2.kind, .int .i64 t2.val, .slice a4 t2.kids.length n4] 25)))
    have BW2 := hid (below_d (below_a (below_a (Below.refl w5.heap.size w5) (.cells #[.int .i64 t1.kind, .int .i64 t1.val, .slice a2 t1.kids.length n2, .int .i64 t2.kind, .int .i64 t2.val, .slice a4 t2.kids.length n4] 25)) (.cells #[.int .i64 4, .int .i64 5, .int .i64 7, .int .i64 8] 3)))
    have OA1 := hid (show OwnArg (w.heap.size + 1) (((w5.alloc (.cells #[.int .i64 4, .int .i64 5, .int .i64 7, .int .i64 8] 3)).alloc (.cells #[.int .i64 t1.kind, .int .i64 t1.val, .slice a2 t1.kids.length n2, .int .i64 t2.kind, .int .i64 t2.val, .slice a4 t2.kids.length n4] 25)).drew) [t1, t2] (some ⟨w5.heap.size + 1, 0, none⟩) from OwnArg.below (own_two (Two.below HTwo.out (below_alloc _ (.cells #[.int .i64 4, .int .i64 5, .int .i64 7, .int .i64 8] 3))) (by simp)) (below_d (Below.refl _ _)))
    have OA2 := hid (show OwnArg (w.heap.size + 1) (((w5.alloc (.cells #[.int .i64 t1.kind, .int .i64 t1.val, .slice a2 t1.kids.length n2, .int .i64 t2.kind, .int .i64 t2.val, .slice a4 t2.kids.length n4] 25)).alloc (.cells #[.int .i64 4, .int .i64 5, .int .i64 7, .int .i64 8] 3)).drew) [t1, t2] (some ⟨w5.heap.size, 0, none⟩) from OwnArg.below (OwnArg.below (own_two HTwo.out rfl) (below_alloc _ (.cells #[.int .i64 4, .int .i64 5, .int .i64 7, .int .i64 8] 3))) (below_d (Below.refl _ _)))
    have hsw : w.heap.size + 1 ≤ w5.heap.size + 2 := by omega
    have HX1 := hid (fun k hk => show Calls Tryd.prog 27 #[.int .i64 k, .slice (some ⟨w5.heap.size + 1, 0, none⟩) 2 2] (((w5.alloc (.cells #[.int .i64 4, .int .i64 5, .int .i64 7, .int .i64 8] 3)).alloc (.cells #[.int .i64 t1.kind, .int .i64 t1.val, .slice a2 t1.kids.length n2, .int .i64 t2.kind, .int .i64 t2.val, .slice a4 t2.kids.length n4] 25)).drew) (RetP (NewTr (w.heap.size + 1) (.mk k 0 [t1, t2])) (((w5.alloc (.cells #[.int .i64 4, .int .i64 5, .int .i64 7, .int .i64 8] 3)).alloc (.cells #[.int .i64 t1.kind, .int .i64 t1.val, .slice a2 t1.kids.length n2, .int .i64 t2.kind, .int .i64 t2.val, .slice a4 t2.kids.length n4] 25)).drew)) from mk_any k hk [t1, t2] (((w5.alloc (.cells #[.int .i64 4, .int .i64 5, .int .i64 7, .int .i64 8] 3)).alloc (.cells #[.int .i64 t1.kind, .int .i64 t1.val, .slice a2 t1.kids.length n2, .int .i64 t2.kind, .int .i64 t2.val, .slice a4 t2.kids.length n4] 25)).drew) (some ⟨w5.heap.size + 1, 0, none⟩) 2 (w.heap.size + 1) OA1.out (by simp; omega) (by simp) (by simp [maxLen]) (by simp))
    have HX2 := hid (fun k hk => show Calls Tryd.prog 27 #[.int .i64 k, .slice (some ⟨w5.heap.size, 0, none⟩) 2 2] (((w5.alloc (.cells #[.int .i64 t1.kind, .int .i64 t1.val, .slice a2 t1.kids.length n2, .int .i64 t2.kind, .int .i64 t2.val, .slice a4 t2.kids.length n4] 25)).alloc (.cells #[.int .i64 4, .int .i64 5, .int .i64 7, .int .i64 8] 3)).drew) (RetP (NewTr (w.heap.size + 1) (.mk k 0 [t1, t2])) (((w5.alloc (.cells #[.int .i64 t1.kind, .int .i64 t1.val, .slice a2 t1.kids.length n2, .int .i64 t2.kind, .int .i64 t2.val, .slice a4 t2.kids.length n4] 25)).alloc (.cells #[.int .i64 4, .int .i64 5, .int .i64 7, .int .i64 8] 3)).drew)) from mk_any k hk [t1, t2] (((w5.alloc (.cells #[.int .i64 t1.kind, .int .i64 t1.val, .slice a2 t1.kids.length n2, .int .i64 t2.kind, .int .i64 t2.val, .slice a4 t2.kids.length n4] 25)).alloc (.cells #[.int .i64 4, .int .i64 5, .int .i64 7, .int .i64 8] 3)).drew) (some ⟨w5.heap.size, 0, none⟩) 2 (w.heap.size + 1) OA2.out (by simp; omega) (by simp) (by simp [maxLen]) (by simp))
    rcases hat2 with rfl | rfl | rfl | rfl
    · go_wp2_with fail
      refine wp_region_ord (C := fun wZ => ∃ xZ, wZ = World.over _ xZ) [1,4,5] (.two 0 6 (.two 2 6 (.two 3 6 (.one 6 (.one 7 (.fre 8 .done))) (.one 3 (.one 7 (.fre 8 .done)))) (.one 2 (.one 3 (.one 7 (.fre 8 .done))))) (.one 0 (.one 2 (.one 3 (.one 7 (.fre 8 .done)))))) [8] (by kernel_rfl) (by kernel_rfl) (fun d _ _ _ _ h => by cases d <;> exact h) (bex (Below.refl _ _).drew) ?_; simp only [pick, List.getElem?_cons_succ, List.getElem?_cons_zero]; (repeat (go_big_quiet_step (fail))); refine wpQuiet_nil ?_; simp only [ordW, pick, List.getElem?_cons_succ, List.getElem?_cons_zero]
      refine And.intro ?_ ?_
      · go_wp2_with fail
        refine ⟨bex (by repeat (first | exact Below.refl _ _ | refine below_a ?_ _ | refine below_d ?_)), ?_⟩
        refine And.intro ?_ ?_
        · go_wp2_with fail
          refine ⟨bex (by repeat (first | exact Below.refl _ _ | refine below_a ?_ _ | refine below_d ?_)), ?_⟩
          refine And.intro ?_ ?_
          · go_wp2_with fail
            refine ⟨bex (by repeat (first | exact Below.refl _ _ | refine below_a ?_ _ | refine below_d ?_)), ?_⟩
            go_wp2_with fail
            refine ⟨bex (by repeat (first | exact Below.refl _ _ | refine below_a ?_ _ | refine below_d ?_)), ?_⟩
            go_wp2_with fail
            have HX := HX1.out 4 hk4
            refine HX.mono ?_
            clear HX
            rintro e w6 ⟨v6, rfl, hn6, hb6⟩
            obtain ⟨a6, n6, rfl⟩ := TrIn_shapeMk hn6.any
            simp only [List.length_cons, List.length_nil, Nat.zero_add, Nat.reduceAdd] at hn6
            have M6 := below_next BW1.out hb6
            have hb46 := box3_next M6 H4.out
            have HB6 := hid (box2_next M6 HB5.out)
            have HBut6 := hid (HBut.out.next M6)
            have HM6 := hid M6
            have HN6 := hid hn6
            obtain ⟨z0, z1, z2, z3, z4, z5, z6⟩ := id hb46
            clear hb6 M6 hn6
            go_wp2_with fail
            refine ⟨bex HM6.out, ?_⟩
            go_wp2_with fail
            obtain ⟨y0, y1, y2, y3, _⟩ := box3_set2 (box3_set1 (box3_set0 hb46 (.int .i64 4)) (.int .i64 0)) (.slice a6 2 n6); refine bodyPost_ret (v := .agg #[.int .i64 4, .int .i64 0, .slice a6 2 n6]) (by simp [results, Tryd.results15, go_sem, y1, y2, y3]) rfl ?_
            exact rd_end hRl HN6.out HB6.out HBut6.out (by simp; omega) (by rw [E.out, HE.out]; rfl) _ _ _
          · go_wp2_with fail
            refine ⟨bex (by repeat (first | exact Below.refl _ _ | refine below_a ?_ _ | refine below_d ?_)), ?_⟩
            go_wp2_with fail
            refine ⟨bex (by repeat (first | exact Below.refl _ _ | refine below_a ?_ _ | refine below_d ?_)), ?_⟩
            go_wp2_with fail
            have HX := HX1.out 4 hk4
            refine HX.mono ?_
            clear HX
            rintro e w6 ⟨v6, rfl, hn6, hb6⟩
            obtain ⟨a6, n6, rfl⟩ := TrIn_shapeMk hn6.any
            simp only [List.length_cons, List.length_nil, Nat.zero_add, Nat.reduceAdd] at hn6
            have M6 := below_next BW1.out hb6
            have hb46 := box3_next M6 H4.out
            have HB6 := hid (box2_next M6 HB5.out)
            have HBut6 := hid (HBut.out.next M6)
            have HM6 := hid M6
            have HN6 := hid hn6
            obtain ⟨z0, z1, z2, z3, z4, z5, z6⟩ := id hb46
            clear hb6 M6 hn6
            go_wp2_with fail
            refine ⟨bex HM6.out, ?_⟩
            go_wp2_with fail
            obtain ⟨y0, y1, y2, y3, _⟩ := box3_set2 (box3_set1 (box3_set0 hb46 (.int .i64 4)) (.int .i64 0)) (.slice a6 2 n6); refine bodyPost_ret (v := .agg #[.int .i64 4, .int .i64 0, .slice a6 2 n6]) (by simp [results, Tryd.results15, go_sem, y1, y2, y3]) rfl ?_
            exact rd_end hRl HN6.out HB6.out HBut6.out (by simp; omega) (by rw [E.out, HE.out]; rfl) _ _ _
        · go_wp2_with fail
          refine ⟨bex (by repeat (first | exact Below.refl _ _ | refine below_a ?_ _ | refine below_d ?_)), ?_⟩
          go_wp2_with fail
          refine ⟨bex (by repeat (first | exact Below.refl _ _ | refine below_a ?_ _ | refine below_d ?_)), ?_⟩
          go_wp2_with fail
          refine ⟨bex (by repeat (first | exact Below.refl _ _ | refine below_a ?_ _ | refine below_d ?_)), ?_⟩
          go_wp2_with fail
          have HX := HX1.out 4 hk4
          refine HX.mono ?_
          clear HX
          rintro e w6 ⟨v6, rfl, hn6, hb6⟩
          obtain ⟨a6, n6, rfl⟩ := TrIn_shapeMk hn6.any
          simp only [List.length_cons, List.length_nil, Nat.zero_add, Nat.reduceAdd] at hn6
          have M6 := below_next BW1.out hb6
          have hb46 := box3_next M6 H4.out
          have HB6 := hid (box2_next M6 HB5.out)
          have HBut6 := hid (HBut.out.next M6)
          have HM6 := hid M6
          have HN6 := hid hn6
          obtain ⟨z0, z1, z2, z3, z4, z5, z6⟩ := id hb46
          clear hb6 M6 hn6
          go_wp2_with fail
          refine ⟨bex HM6.out, ?_⟩
          go_wp2_with fail
          obtain ⟨y0, y1, y2, y3, _⟩ := box3_set2 (box3_set1 (box3_set0 hb46 (.int .i64 4)) (.int .i64 0)) (.slice a6 2 n6); refine bodyPost_ret (v := .agg #[.int .i64 4, .int .i64 0, .slice a6 2 n6]) (by simp [results, Tryd.results15, go_sem, y1, y2, y3]) rfl ?_
          exact rd_end hRl HN6.out HB6.out HBut6.out (by simp; omega) (by rw [E.out, HE.out]; rfl) _ _ _
      · go_wp2_with fail
        refine ⟨bex (by repeat (first | exact Below.refl _ _ | refine below_a ?_ _ | refine below_d ?_)), ?_⟩
        go_wp2_with fail
        refine ⟨bex (by repeat (first | exact Below.refl _ _ | refine below_a ?_ _ | refine below_d ?_)), ?_⟩
        go_wp2_with fail
        refine ⟨bex (by repeat (first | exact Below.refl _ _ | refine below_a ?_ _ | refine below_d ?_)), ?_⟩
        go_wp2_with fail
        refine ⟨bex (by repeat (first | exact Below.refl _ _ | refine below_a ?_ _ | refine below_d ?_)), ?_⟩
        go_wp2_with fail
        have HX := HX2.out 4 hk4
        refine HX.mono ?_
        clear HX
        rintro e w6 ⟨v6, rfl, hn6, hb6⟩
        obtain ⟨a6, n6, rfl⟩ := TrIn_shapeMk hn6.any
        simp only [List.length_cons, List.length_nil, Nat.zero_add, Nat.reduceAdd] at hn6
        have M6 := below_next BW2.out hb6
        have hb46 := box3_next M6 H4.out
        have HB6 := hid (box2_next M6 HB5.out)
        have HBut6 := hid (HBut.out.next M6)
        have HM6 := hid M6
        have HN6 := hid hn6
        obtain ⟨z0, z1, z2, z3, z4, z5, z6⟩ := id hb46
        clear hb6 M6 hn6
        go_wp2_with fail
        refine ⟨bex HM6.out, ?_⟩
        go_wp2_with fail
        obtain ⟨y0, y1, y2, y3, _⟩ := box3_set2 (box3_set1 (box3_set0 hb46 (.int .i64 4)) (.int .i64 0)) (.slice a6 2 n6); refine bodyPost_ret (v := .agg #[.int .i64 4, .int .i64 0, .slice a6 2 n6]) (by simp [results, Tryd.results15, go_sem, y1, y2, y3]) rfl ?_
        exact rd_end hRl HN6.out HB6.out HBut6.out (by simp; omega) (by rw [E.out, HE.out]; rfl) _ _ _
    · go_wp2_with fail
      refine wp_region_ord (C := fun wZ => ∃ xZ, wZ = World.over _ xZ) [1,4,5] (.two 0 6 (.two 2 6 (.two 3 6 (.one 6 (.one 7 (.fre 8 .done))) (.one 3 (.one 7 (.fre 8 .done)))) (.one 2 (.one 3 (.one 7 (.fre 8 .done))))) (.one 0 (.one 2 (.one 3 (.one 7 (.fre 8 .done)))))) [8] (by kernel_rfl) (by kernel_rfl) (fun d _ _ _ _ h => by cases d <;> exact h) (bex (Below.refl _ _).drew) ?_; simp only [pick, List.getElem?_cons_succ, List.getElem?_cons_zero]; (repeat (go_big_quiet_step (fail))); refine wpQuiet_nil ?_; simp only [ordW, pick, List.getElem?_cons_succ, List.getElem?_cons_zero]
      refine And.intro ?_ ?_
      · go_wp2_with fail
        refine ⟨bex (by repeat (first | exact Below.refl _ _ | refine below_a ?_ _ | refine below_d ?_)), ?_⟩
        refine And.intro ?_ ?_
        · go_wp2_with fail
          refine ⟨bex (by repeat (first | exact Below.refl _ _ | refine below_a ?_ _ | refine below_d ?_)), ?_⟩
          refine And.intro ?_ ?_
          · go_wp2_with fail
            refine ⟨bex (by repeat (first | exact Below.refl _ _ | refine below_a ?_ _ | refine below_d ?_)), ?_⟩
            go_wp2_with fail
            refine ⟨bex (by repeat (first | exact Below.refl _ _ | refine below_a ?_ _ | refine below_d ?_)), ?_⟩
            go_wp2_with fail
            have HX := HX1.out 5 hk5
            refine HX.mono ?_
            clear HX
            rintro e w6 ⟨v6, rfl, hn6, hb6⟩
            obtain ⟨a6, n6, rfl⟩ := TrIn_shapeMk hn6.any
            simp only [List.length_cons, List.length_nil, Nat.zero_add, Nat.reduceAdd] at hn6
            have M6 := below_next BW1.out hb6
            have hb46 := box3_next M6 H4.out
            have HB6 := hid (box2_next M6 HB5.out)
            have HBut6 := hid (HBut.out.next M6)
            have HM6 := hid M6
            have HN6 := hid hn6
            obtain ⟨z0, z1, z2, z3, z4, z5, z6⟩ := id hb46
            clear hb6 M6 hn6
            go_wp2_with fail
            refine ⟨bex HM6.out, ?_⟩
            go_wp2_with fail
            obtain ⟨y0, y1, y2, y3, _⟩ := box3_set2 (box3_set1 (box3_set0 hb46 (.int .i64 5)) (.int .i64 0)) (.slice a6 2 n6); refine bodyPost_ret (v := .agg #[.int .i64 5, .int .i64 0, .slice a6 2 n6]) (by simp [results, Tryd.results15, go_sem, y1, y2, y3]) rfl ?_
            exact rd_end hRl HN6.out HB6.out HBut6.out (by simp; omega) (by rw [E.out, HE.out]; rfl) _ _ _
          · go_wp2_with fail
            refine ⟨bex (by repeat (first | exact Below.refl _ _ | refine below_a ?_ _ | refine below_d ?_)), ?_⟩
            go_wp2_with fail
            refine ⟨bex (by repeat (first | exact Below.refl _ _ | refine below_a ?_ _ | refine below_d ?_)), ?_⟩
            go_wp2_with fail
            have HX := HX1.out 5 hk5
            refine HX.mono ?_
            clear HX
            rintro e w6 ⟨v6, rfl, hn6, hb6⟩
            obtain ⟨a6, n6, rfl⟩ := TrIn_shapeMk hn6.any
            simp only [List.length_cons, List.length_nil, Nat.zero_add, Nat.reduceAdd] at hn6
            have M6 := below_next BW1.out hb6
            have hb46 := box3_next M6 H4.out
            have HB6 := hid (box2_next M6 HB5.out)
            have HBut6 := hid (HBut.out.next M6)
            have HM6 := hid M6
            have HN6 := hid hn6
            obtain ⟨z0, z1, z2, z3, z4, z5, z6⟩ := id hb46
            clear hb6 M6 hn6
            go_wp2_with fail
            refine ⟨bex HM6.out, ?_⟩
            go_wp2_with fail
            obtain ⟨y0, y1, y2, y3, _⟩ := box3_set2 (box3_set1 (box3_set0 hb46 (.int .i64 5)) (.int .i64 0)) (.slice a6 2 n6); refine bodyPost_ret (v := .agg #[.int .i64 5, .int .i64 0, .slice a6 2 n6]) (by simp [results, Tryd.results15, go_sem, y1, y2, y3]) rfl ?_
            exact rd_end hRl HN6.out HB6.out HBut6.out (by simp; omega) (by rw [E.out, HE.out]; rfl) _ _ _
        · go_wp2_with fail
          refine ⟨bex (by repeat (first | exact Below.refl _ _ | refine below_a ?_ _ | refine below_d ?_)), ?_⟩
          go_wp2_with fail
          refine ⟨bex (by repeat (first | exact Below.refl _ _ | refine below_a ?_ _ | refine below_d ?_)), ?_⟩
          go_wp2_with fail
          refine ⟨bex (by repeat (first | exact Below.refl _ _ | refine below_a ?_ _ | refine below_d ?_)), ?_⟩
          go_wp2_with fail
          have HX := HX1.out 5 hk5
          refine HX.mono ?_
          clear HX
          rintro e w6 ⟨v6, rfl, hn6, hb6⟩
          obtain ⟨a6, n6, rfl⟩ := TrIn_shapeMk hn6.any
          simp only [List.length_cons, List.length_nil, Nat.zero_add, Nat.reduceAdd] at hn6
          have M6 := below_next BW1.out hb6
          have hb46 := box3_next M6 H4.out
          have HB6 := hid (box2_next M6 HB5.out)
          have HBut6 := hid (HBut.out.next M6)
          have HM6 := hid M6
          have HN6 := hid hn6
          obtain ⟨z0, z1, z2, z3, z4, z5, z6⟩ := id hb46
          clear hb6 M6 hn6
          go_wp2_with fail
          refine ⟨bex HM6.out, ?_⟩
          go_wp2_with fail
          obtain ⟨y0, y1, y2, y3, _⟩ := box3_set2 (box3_set1 (box3_set0 hb46 (.int .i64 5)) (.int .i64 0)) (.slice a6 2 n6); refine bodyPost_ret (v := .agg #[.int .i64 5, .int .i64 0, .slice a6 2 n6]) (by simp [results, Tryd.results15, go_sem, y1, y2, y3]) rfl ?_
          exact rd_end hRl HN6.out HB6.out HBut6.out (by simp; omega) (by rw [E.out, HE.out]; rfl) _ _ _
      · go_wp2_with fail
        refine ⟨bex (by repeat (first | exact Below.refl _ _ | refine below_a ?_ _ | refine below_d ?_)), ?_⟩
        go_wp2_with fail
        refine ⟨bex (by repeat (first | exact Below.refl _ _ | refine below_a ?_ _ | refine below_d ?_)), ?_⟩
        go_wp2_with fail
        refine ⟨bex (by repeat (first | exact Below.refl _ _ | refine below_a ?_ _ | refine below_d ?_)), ?_⟩
        go_wp2_with fail
        refine ⟨bex (by repeat (first | exact Below.refl _ _ | refine below_a ?_ _ | refine below_d ?_)), ?_⟩
        go_wp2_with fail
        have HX := HX2.out 5 hk5
        refine HX.mono ?_
        clear HX
        rintro e w6 ⟨v6, rfl, hn6, hb6⟩
        obtain ⟨a6, n6, rfl⟩ := TrIn_shapeMk hn6.any
        simp only [List.length_cons, List.length_nil, Nat.zero_add, Nat.reduceAdd] at hn6
        have M6 := below_next BW2.out hb6
        have hb46 := box3_next M6 H4.out
        have HB6 := hid (box2_next M6 HB5.out)
        have HBut6 := hid (HBut.out.next M6)
        have HM6 := hid M6
        have HN6 := hid hn6
        obtain ⟨z0, z1, z2, z3, z4, z5, z6⟩ := id hb46
        clear hb6 M6 hn6
        go_wp2_with fail
        refine ⟨bex HM6.out, ?_⟩
        go_wp2_with fail
        obtain ⟨y0, y1, y2, y3, _⟩ := box3_set2 (box3_set1 (box3_set0 hb46 (.int .i64 5)) (.int .i64 0)) (.slice a6 2 n6); refine bodyPost_ret (v := .agg #[.int .i64 5, .int .i64 0, .slice a6 2 n6]) (by simp [results, Tryd.results15, go_sem, y1, y2, y3]) rfl ?_
        exact rd_end hRl HN6.out HB6.out HBut6.out (by simp; omega) (by rw [E.out, HE.out]; rfl) _ _ _
    · go_wp2_with fail
      refine wp_region_ord (C := fun wZ => ∃ xZ, wZ = World.over _ xZ) [1,4,5] (.two 0 6 (.two 2 6 (.two 3 6 (.one 6 (.one 7 (.fre 8 .done))) (.one 3 (.one 7 (.fre 8 .done)))) (.one 2 (.one 3 (.one 7 (.fre 8 .done))))) (.one 0 (.one 2 (.one 3 (.one 7 (.fre 8 .done)))))) [8] (by kernel_rfl) (by kernel_rfl) (fun d _ _ _ _ h => by cases d <;> exact h) (bex (Below.refl _ _).drew) ?_; simp only [pick, List.getElem?_cons_succ, List.getElem?_cons_zero]; (repeat (go_big_quiet_step (fail))); refine wpQuiet_nil ?_; simp only [ordW, pick, List.getElem?_cons_succ, List.getElem?_cons_zero]
      refine And.intro ?_ ?_
      · go_wp2_with fail
        refine ⟨bex (by repeat (first | exact Below.refl _ _ | refine below_a ?_ _ | refine below_d ?_)), ?_⟩
        refine And.intro ?_ ?_
        · go_wp2_with fail
          refine ⟨bex (by repeat (first | exact Below.refl _ _ | refine below_a ?_ _ | refine below_d ?_)), ?_⟩
          refine And.intro ?_ ?_
          · go_wp2_with fail
            refine ⟨bex (by repeat (first | exact Below.refl _ _ | refine below_a ?_ _ | refine below_d ?_)), ?_⟩
            go_wp2_with fail
            refine ⟨bex (by repeat (first | exact Below.refl _ _ | refine below_a ?_ _ | refine below_d ?_)), ?_⟩
            go_wp2_with fail
            have HX := HX1.out 7 hk7
            refine HX.mono ?_
            clear HX
            rintro e w6 ⟨v6, rfl, hn6, hb6⟩
            obtain ⟨a6, n6, rfl⟩ := TrIn_shapeMk hn6.any
            simp only [List.length_cons, List.length_nil, Nat.zero_add, Nat.reduceAdd] at hn6
            have M6 := below_next BW1.out hb6
            have hb46 := box3_next M6 H4.out
            have HB6 := hid (box2_next M6 HB5.out)
            have HBut6 := hid (HBut.out.next M6)
            have HM6 := hid M6
            have HN6 := hid hn6
            obtain ⟨z0, z1, z2, z3, z4, z5, z6⟩ := id hb46
            clear hb6 M6 hn6
            go_wp2_with fail
            refine ⟨bex HM6.out, ?_⟩
            go_wp2_with fail
            obtain ⟨y0, y1, y2, y3, _⟩ := box3_set2 (box3_set1 (box3_set0 hb46 (.int .i64 7)) (.int .i64 0)) (.slice a6 2 n6); refine bodyPost_ret (v := .agg #[.int .i64 7, .int .i64 0, .slice a6 2 n6]) (by simp [results, Tryd.results15, go_sem, y1, y2, y3]) rfl ?_
            exact rd_end hRl HN6.out HB6.out HBut6.out (by simp; omega) (by rw [E.out, HE.out]; rfl) _ _ _
          · go_wp2_with fail
            refine ⟨bex (by repeat (first | exact Below.refl _ _ | refine below_a ?_ _ | refine below_d ?_)), ?_⟩
            go_wp2_with fail
            refine ⟨bex (by repeat (first | exact Below.refl _ _ | refine below_a ?_ _ | refine below_d ?_)), ?_⟩
            go_wp2_with fail
            have HX := HX1.out 7 hk7
            refine HX.mono ?_
            clear HX
            rintro e w6 ⟨v6, rfl, hn6, hb6⟩
            obtain ⟨a6, n6, rfl⟩ := TrIn_shapeMk hn6.any
            simp only [List.length_cons, List.length_nil, Nat.zero_add, Nat.reduceAdd] at hn6
            have M6 := below_next BW1.out hb6
            have hb46 := box3_next M6 H4.out
            have HB6 := hid (box2_next M6 HB5.out)
            have HBut6 := hid (HBut.out.next M6)
            have HM6 := hid M6
            have HN6 := hid hn6
            obtain ⟨z0, z1, z2, z3, z4, z5, z6⟩ := id hb46
            clear hb6 M6 hn6
            go_wp2_with fail
            refine ⟨bex HM6.out, ?_⟩
            go_wp2_with fail
            obtain ⟨y0, y1, y2, y3, _⟩ := box3_set2 (box3_set1 (box3_set0 hb46 (.int .i64 7)) (.int .i64 0)) (.slice a6 2 n6); refine bodyPost_ret (v := .agg #[.int .i64 7, .int .i64 0, .slice a6 2 n6]) (by simp [results, Tryd.results15, go_sem, y1, y2, y3]) rfl ?_
            exact rd_end hRl HN6.out HB6.out HBut6.out (by simp; omega) (by rw [E.out, HE.out]; rfl) _ _ _
        · go_wp2_with fail
          refine ⟨bex (by repeat (first | exact Below.refl _ _ | refine below_a ?_ _ | refine below_d ?_)), ?_⟩
          go_wp2_with fail
          refine ⟨bex (by repeat (first | exact Below.refl _ _ | refine below_a ?_ _ | refine below_d ?_)), ?_⟩
          go_wp2_with fail
          refine ⟨bex (by repeat (first | exact Below.refl _ _ | refine below_a ?_ _ | refine below_d ?_)), ?_⟩
          go_wp2_with fail
          have HX := HX1.out 7 hk7
          refine HX.mono ?_
          clear HX
          rintro e w6 ⟨v6, rfl, hn6, hb6⟩
          obtain ⟨a6, n6, rfl⟩ := TrIn_shapeMk hn6.any
          simp only [List.length_cons, List.length_nil, Nat.zero_add, Nat.reduceAdd] at hn6
          have M6 := below_next BW1.out hb6
          have hb46 := box3_next M6 H4.out
          have HB6 := hid (box2_next M6 HB5.out)
          have HBut6 := hid (HBut.out.next M6)
          have HM6 := hid M6
          have HN6 := hid hn6
          obtain ⟨z0, z1, z2, z3, z4, z5, z6⟩ := id hb46
          clear hb6 M6 hn6
          go_wp2_with fail
          refine ⟨bex HM6.out, ?_⟩
          go_wp2_with fail
          obtain ⟨y0, y1, y2, y3, _⟩ := box3_set2 (box3_set1 (box3_set0 hb46 (.int .i64 7)) (.int .i64 0)) (.slice a6 2 n6); refine bodyPost_ret (v := .agg #[.int .i64 7, .int .i64 0, .slice a6 2 n6]) (by simp [results, Tryd.results15, go_sem, y1, y2, y3]) rfl ?_
          exact rd_end hRl HN6.out HB6.out HBut6.out (by simp; omega) (by rw [E.out, HE.out]; rfl) _ _ _
      · go_wp2_with fail
        refine ⟨bex (by repeat (first | exact Below.refl _ _ | refine below_a ?_ _ | refine below_d ?_)), ?_⟩
        go_wp2_with fail
        refine ⟨bex (by repeat (first | exact Below.refl _ _ | refine below_a ?_ _ | refine below_d ?_)), ?_⟩
        go_wp2_with fail
        refine ⟨bex (by repeat (first | exact Below.refl _ _ | refine below_a ?_ _ | refine below_d ?_)), ?_⟩
        go_wp2_with fail
        refine ⟨bex (by repeat (first | exact Below.refl _ _ | refine below_a ?_ _ | refine below_d ?_)), ?_⟩
        go_wp2_with fail
        have HX := HX2.out 7 hk7
        refine HX.mono ?_
        clear HX
        rintro e w6 ⟨v6, rfl, hn6, hb6⟩
        obtain ⟨a6, n6, rfl⟩ := TrIn_shapeMk hn6.any
        simp only [List.length_cons, List.length_nil, Nat.zero_add, Nat.reduceAdd] at hn6
        have M6 := below_next BW2.out hb6
        have hb46 := box3_next M6 H4.out
        have HB6 := hid (box2_next M6 HB5.out)
        have HBut6 := hid (HBut.out.next M6)
        have HM6 := hid M6
        have HN6 := hid hn6
        obtain ⟨z0, z1, z2, z3, z4, z5, z6⟩ := id hb46
        clear hb6 M6 hn6
        go_wp2_with fail
        refine ⟨bex HM6.out, ?_⟩
        go_wp2_with fail
        obtain ⟨y0, y1, y2, y3, _⟩ := box3_set2 (box3_set1 (box3_set0 hb46 (.int .i64 7)) (.int .i64 0)) (.slice a6 2 n6); refine bodyPost_ret (v := .agg #[.int .i64 7, .int .i64 0, .slice a6 2 n6]) (by simp [results, Tryd.results15, go_sem, y1, y2, y3]) rfl ?_
        exact rd_end hRl HN6.out HB6.out HBut6.out (by simp; omega) (by rw [E.out, HE.out]; rfl) _ _ _
    · go_wp2_with fail
      refine wp_region_ord (C := fun wZ => ∃ xZ, wZ = World.over _ xZ) [1,4,5] (.two 0 6 (.two 2 6 (.two 3 6 (.one 6 (.one 7 (.fre 8 .done))) (.one 3 (.one 7 (.fre 8 .done)))) (.one 2 (.one 3 (.one 7 (.fre 8 .done))))) (.one 0 (.one 2 (.one 3 (.one 7 (.fre 8 .done)))))) [8] (by kernel_rfl) (by kernel_rfl) (fun d _ _ _ _ h => by cases d <;> exact h) (bex (Below.refl _ _).drew) ?_; simp only [pick, List.getElem?_cons_succ, List.getElem?_cons_zero]; (repeat (go_big_quiet_step (fail))); refine wpQuiet_nil ?_; simp only [ordW, pick, List.getElem?_cons_succ, List.getElem?_cons_zero]
      refine And.intro ?_ ?_
      · go_wp2_with fail
        refine ⟨bex (by repeat (first | exact Below.refl _ _ | refine below_a ?_ _ | refine below_d ?_)), ?_⟩
        refine And.intro ?_ ?_
        · go_wp2_with fail
          refine ⟨bex (by repeat (first | exact Below.refl _ _ | refine below_a ?_ _ | refine below_d ?_)), ?_⟩
          refine And.intro ?_ ?_
          · go_wp2_with fail
            refine ⟨bex (by repeat (first | exact Below.refl _ _ | refine below_a ?_ _ | refine below_d ?_)), ?_⟩
            go_wp2_with fail
            refine ⟨bex (by repeat (first | exact Below.refl _ _ | refine below_a ?_ _ | refine below_d ?_)), ?_⟩
            go_wp2_with fail
            have HX := HX1.out 8 hk8
            refine HX.mono ?_
            clear HX
            rintro e w6 ⟨v6, rfl, hn6, hb6⟩
            obtain ⟨a6, n6, rfl⟩ := TrIn_shapeMk hn6.any
            simp only [List.length_cons, List.length_nil, Nat.zero_add, Nat.reduceAdd] at hn6
            have M6 := below_next BW1.out hb6
            have hb46 := box3_next M6 H4.out
            have HB6 := hid (box2_next M6 HB5.out)
            have HBut6 := hid (HBut.out.next M6)
            have HM6 := hid M6
            have HN6 := hid hn6
            obtain ⟨z0, z1, z2, z3, z4, z5, z6⟩ := id hb46
            clear hb6 M6 hn6
            go_wp2_with fail
            refine ⟨bex HM6.out, ?_⟩
            go_wp2_with fail
            obtain ⟨y0, y1, y2, y3, _⟩ := box3_set2 (box3_set1 (box3_set0 hb46 (.int .i64 8)) (.int .i64 0)) (.slice a6 2 n6); refine bodyPost_ret (v := .agg #[.int .i64 8, .int .i64 0, .slice a6 2 n6]) (by simp [results, Tryd.results15, go_sem, y1, y2, y3]) rfl ?_
            exact rd_end hRl HN6.out HB6.out HBut6.out (by simp; omega) (by rw [E.out, HE.out]; rfl) _ _ _
          · go_wp2_with fail
            refine ⟨bex (by repeat (first | exact Below.refl _ _ | refine below_a ?_ _ | refine below_d ?_)), ?_⟩
            go_wp2_with fail
            refine ⟨bex (by repeat (first | exact Below.refl _ _ | refine below_a ?_ _ | refine below_d ?_)), ?_⟩
            go_wp2_with fail
            have HX := HX1.out 8 hk8
            refine HX.mono ?_
            clear HX
            rintro e w6 ⟨v6, rfl, hn6, hb6⟩
            obtain ⟨a6, n6, rfl⟩ := TrIn_shapeMk hn6.any
            simp only [List.length_cons, List.length_nil, Nat.zero_add, Nat.reduceAdd] at hn6
            have M6 := below_next BW1.out hb6
            have hb46 := box3_next M6 H4.out
            have HB6 := hid (box2_next M6 HB5.out)
            have HBut6 := hid (HBut.out.next M6)
            have HM6 := hid M6
            have HN6 := hid hn6
            obtain ⟨z0, z1, z2, z3, z4, z5, z6⟩ := id hb46
            clear hb6 M6 hn6
            go_wp2_with fail
            refine ⟨bex HM6.out, ?_⟩
            go_wp2_with fail
            obtain ⟨y0, y1, y2, y3, _⟩ := box3_set2 (box3_set1 (box3_set0 hb46 (.int .i64 8)) (.int .i64 0)) (.slice a6 2 n6); refine bodyPost_ret (v := .agg #[.int .i64 8, .int .i64 0, .slice a6 2 n6]) (by simp [results, Tryd.results15, go_sem, y1, y2, y3]) rfl ?_
            exact rd_end hRl HN6.out HB6.out HBut6.out (by simp; omega) (by rw [E.out, HE.out]; rfl) _ _ _
        · go_wp2_with fail
          refine ⟨bex (by repeat (first | exact Below.refl _ _ | refine below_a ?_ _ | refine below_d ?_)), ?_⟩
          go_wp2_with fail
          refine ⟨bex (by repeat (first | exact Below.refl _ _ | refine below_a ?_ _ | refine below_d ?_)), ?_⟩
          go_wp2_with fail
          refine ⟨bex (by repeat (first | exact Below.refl _ _ | refine below_a ?_ _ | refine below_d ?_)), ?_⟩
          go_wp2_with fail
          have HX := HX1.out 8 hk8
          refine HX.mono ?_
          clear HX
          rintro e w6 ⟨v6, rfl, hn6, hb6⟩
          obtain ⟨a6, n6, rfl⟩ := TrIn_shapeMk hn6.any
          simp only [List.length_cons, List.length_nil, Nat.zero_add, Nat.reduceAdd] at hn6
          have M6 := below_next BW1.out hb6
          have hb46 := box3_next M6 H4.out
          have HB6 := hid (box2_next M6 HB5.out)
          have HBut6 := hid (HBut.out.next M6)
          have HM6 := hid M6
          have HN6 := hid hn6
          obtain ⟨z0, z1, z2, z3, z4, z5, z6⟩ := id hb46
          clear hb6 M6 hn6
          go_wp2_with fail
          refine ⟨bex HM6.out, ?_⟩
          go_wp2_with fail
          obtain ⟨y0, y1, y2, y3, _⟩ := box3_set2 (box3_set1 (box3_set0 hb46 (.int .i64 8)) (.int .i64 0)) (.slice a6 2 n6); refine bodyPost_ret (v := .agg #[.int .i64 8, .int .i64 0, .slice a6 2 n6]) (by simp [results, Tryd.results15, go_sem, y1, y2, y3]) rfl ?_
          exact rd_end hRl HN6.out HB6.out HBut6.out (by simp; omega) (by rw [E.out, HE.out]; rfl) _ _ _
      · go_wp2_with fail
        refine ⟨bex (by repeat (first | exact Below.refl _ _ | refine below_a ?_ _ | refine below_d ?_)), ?_⟩
        go_wp2_with fail
        refine ⟨bex (by repeat (first | exact Below.refl _ _ | refine below_a ?_ _ | refine below_d ?_)), ?_⟩
        go_wp2_with fail
        refine ⟨bex (by repeat (first | exact Below.refl _ _ | refine below_a ?_ _ | refine below_d ?_)), ?_⟩
        go_wp2_with fail
        refine ⟨bex (by repeat (first | exact Below.refl _ _ | refine below_a ?_ _ | refine below_d ?_)), ?_⟩
        go_wp2_with fail
        have HX := HX2.out 8 hk8
        refine HX.mono ?_
        clear HX
        rintro e w6 ⟨v6, rfl, hn6, hb6⟩
        obtain ⟨a6, n6, rfl⟩ := TrIn_shapeMk hn6.any
        simp only [List.length_cons, List.length_nil, Nat.zero_add, Nat.reduceAdd] at hn6
        have M6 := below_next BW2.out hb6
        have hb46 := box3_next M6 H4.out
        have HB6 := hid (box2_next M6 HB5.out)
        have HBut6 := hid (HBut.out.next M6)
        have HM6 := hid M6
        have HN6 := hid hn6
        obtain ⟨z0, z1, z2, z3, z4, z5, z6⟩ := id hb46
        clear hb6 M6 hn6
        go_wp2_with fail
        refine ⟨bex HM6.out, ?_⟩
        go_wp2_with fail
        obtain ⟨y0, y1, y2, y3, _⟩ := box3_set2 (box3_set1 (box3_set0 hb46 (.int .i64 8)) (.int .i64 0)) (.slice a6 2 n6); refine bodyPost_ret (v := .agg #[.int .i64 8, .int .i64 0, .slice a6 2 n6]) (by simp [results, Tryd.results15, go_sem, y1, y2, y3]) rfl ?_
        exact rd_end hRl HN6.out HB6.out HBut6.out (by simp; omega) (by rw [E.out, HE.out]; rfl) _ _ _
end Formula
end Go.Proofs.YthdbkknbbppfnaaDoor
