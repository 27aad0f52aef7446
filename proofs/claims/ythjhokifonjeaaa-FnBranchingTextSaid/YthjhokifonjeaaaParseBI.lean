/- The program's reader of branching-time formulas. Conditions: those of each contract. -/
import Derived.Test.YthjhokifonjeaaaTakeP
import Derived.Test.YthjhokifonjeaaaBranchingMk
import Derived.Test.YthjhokifonjeaaaBox
import Derived.Test.YthjhokifonjeaaaNormPlain
namespace Go.Proofs.Ythjhokifonjeaaa
open Go.RowKit
namespace Branching

def RdPost (rd : List UInt8 → Option (Tr × List UInt8)) (s : List UInt8) (b : Bool) (R : Nat) (w : World) (e : Ending) (w' : World) : Prop :=
  ∃ v t r b', e = .returned v ∧ NewTr w.heap.size t v w' ∧ Box2 w' R (.string (bs r)) (.bool b') ∧ But w R w' ∧ r.length ≤ s.length ∧ (if b = true then none else rd s) = (if b' = true then none else some (t, r))
def RdT (n : Nat) : Prop := ∀ (w : World) (s : List UInt8) (b : Bool) (R : Nat) (d : Int), Box2 w R (.string (bs s)) (.bool b) → s.length ≤ 1048576 → d = 7 - n → Calls Try.prog 63 #[.pointer (some ⟨R, 0, none⟩), .int .i64 d] w (RdPost (rdB n) s b R w)

def set1 : List UInt8 := [84, 112, 113, 114, 33, 40, 69, 65]
def set2 : List UInt8 := [38, 124]
def set3 : List UInt8 := [88, 40, 71]
def zeroT : Tr := .mk 0 0 []
theorem zero_new (B : Nat) (w : World) : NewTr B zeroT (.agg #[.int .i64 0, .int .i64 0, .slice none 0 0]) w := leaf_new _ _ (by unfold i64; omega) (by unfold i64; omega)

theorem u8_pqr {c : UInt8} (h : 112 ≤ c ∧ c ≤ 114) : c = 112 ∨ c = 113 ∨ c = 114 := by
  obtain ⟨h1, h2⟩ := h
  rw [UInt8.le_iff_toNat_le] at h1 h2
  have h3 : c.toNat = 112 ∨ c.toNat = 113 ∨ c.toNat = 114 := by
    have e1 : (112 : UInt8).toNat = 112 := rfl
    have e2 : (114 : UInt8).toNat = 114 := rfl
    omega
  rcases h3 with h | h | h
  · exact .inl (UInt8.toNat_inj.1 h)
  · exact .inr (.inl (UInt8.toNat_inj.1 h))
  · exact .inr (.inr (UInt8.toNat_inj.1 h))

theorem set1_cases (c : UInt8) : idxI set1 c 0 < 0 ∨ c = 84 ∨ (c = 112 ∨ c = 113 ∨ c = 114) ∨ c = 33 ∨ c = 40 ∨ c = 69 ∨ c = 65 := by
  unfold set1
  simp only [idxI]
  repeat' split
  all_goals (try subst c)
  all_goals simp

/-- nothing is read -/
theorem take1_bad (s : List UInt8) (b : Bool) : (∃ s', takeB set1 s b = (-1, s', true) ∧ s'.length ≤ s.length) ∧ (∀ n, (if b = true then none else rdB n s) = none) ∨ (b = false ∧ ∃ c s1, s = c :: s1 ∧ (c = 84 ∨ (c = 112 ∨ c = 113 ∨ c = 114) ∨ c = 33 ∨ c = 40 ∨ c = 69 ∨ c = 65)) := by
  cases b with
  | true => exact .inl ⟨⟨s, by cases s <;> rfl, Nat.le_refl _⟩, fun n => rfl⟩
  | false =>
    cases s with
    | nil => exact .inl ⟨⟨[], rfl, Nat.le_refl _⟩, fun n => by cases n <;> rfl⟩
    | cons c s1 =>
      rcases set1_cases c with h | h
      · refine .inl ⟨⟨c :: s1, by simp [takeB, h], Nat.le_refl _⟩, fun n => ?_⟩
        cases n with
        | zero => rfl
        | succ n =>
          have n1 : c ≠ 84 := fun e => by subst e; simp [set1, idxI] at h
          have n2 : ¬ (112 ≤ c ∧ c ≤ 114) := fun e => by rcases u8_pqr e with e | e | e <;> subst e <;> simp [set1, idxI] at h
          have n3 : c ≠ 33 := fun e => by subst e; simp [set1, idxI] at h
          have n4 : c ≠ 40 := fun e => by subst e; simp [set1, idxI] at h
          have n5 : c ≠ 69 := fun e => by subst e; simp [set1, idxI] at h
          have n6 : c ≠ 65 := fun e => by subst e; simp [set1, idxI] at h
          simp only [rdB]
          rw [if_neg n1, if_neg n2]
          simp [n3, n4, n5, n6]
      · exact .inr ⟨rfl, c, s1, rfl, h⟩

set_option maxRecDepth 100000 in
set_option maxHeartbeats 1000000 in
theorem rd_bad (n : Nat) (w : World) (s s' : List UInt8) (b : Bool) (R : Nat) (d : Int) (hR : Box2 w R (.string (bs s)) (.bool b)) (hl : s.length ≤ 1048576) (hd : d ≤ 6) (ht : takeB set1 s b = (-1, s', true)) (hs' : s'.length ≤ s.length) (hrd : (if b = true then none else rdB n s) = none) :
    Calls Try.prog 63 #[.pointer (some ⟨R, 0, none⟩), .int .i64 d] w (RdPost (rdB n) s b R w) := by
  have HR := hid (show ∀ o, Box2 (w.alloc o) R (.string (bs s)) (.bool b) from fun o => box2_next (below_alloc _ _) hR)
  have hRl := hR.1
  clear hR
  have hd2 : ¬ (d > 6) := by omega
  have HT := hid ht
  have e1 : (⟨#[84, 112, 113, 114, 33, 40, 69, 65]⟩ : ByteArray) = bs set1 := rfl
  go_enter Try.func63, Try.ntmps63
  go_wp2_with fail
  refine (take_any set1 s b _ R (HR.out _) hl).mono ?_
  rintro e w1 ⟨rfl, hB, hbut⟩
  rw [HT.out] at hB ⊢
  have hb4 := box3_but hbut (by omega) (box3_new w (.int .i64 0) (.int .i64 0) (.slice none 0 0) 39)
  have HB := hid hB
  have hBut := hid ((But.of (below_alloc w (.cells #[.int .i64 0, .int .i64 0, .slice none 0 0] 39))).trans hbut)
  obtain ⟨q0, q1, q2, q3, q4⟩ := hB
  have b4 := hb4
  obtain ⟨z0, z1, z2, z3, z4, z5, z6⟩ := hb4
  clear hbut
  go_wp2_with fail
  obtain ⟨y0, y1, y2, y3, _⟩ := box3_set2 (box3_set1 (box3_set0 b4 (.int .i64 0)) (.int .i64 0)) (.slice none 0 0); refine bodyPost_ret (v := .agg #[.int .i64 0, .int .i64 0, .slice none 0 0]) (by simp [results, Try.results63, go_sem, y1, y2, y3]) rfl ?_
  have hne : R ≠ w.heap.size := by omega
  refine ⟨_, zeroT, s', true, rfl, (zero_new _ _), box2_but (But.set _ w.heap.size 2 _) hne (box2_but (But.set _ w.heap.size 1 _) hne (box2_but (But.set _ w.heap.size 0 _) hne HB.out)), But.setNew (But.setNew (But.setNew hBut.out (Nat.le_refl _) _) (Nat.le_refl _) _) (Nat.le_refl _) _, hs', by rw [hrd]; rfl⟩

/-- the reader behind a node that is written into the result's own box -/
theorem rd_end {rd : List UInt8 → Option (Tr × List UInt8)} {s r : List UInt8} {b b' : Bool} {R : Nat} {w W : World} {t : Tr} {x : Value} (hRl : R < w.heap.size) (hn : NewTr (w.heap.size + 1) t x W) (hB : Box2 W R (.string (bs r)) (.bool b')) (hb : But w R W) (hr : r.length ≤ s.length) (hE : (if b = true then none else rd s) = (if b' = true then none else some (t, r))) (u0 u1 u2 : Value) :
    RdPost rd s b R w (.returned x) (((W.setCell ⟨w.heap.size, 0, none⟩ u0).setCell ⟨w.heap.size, 1, none⟩ u1).setCell ⟨w.heap.size, 2, none⟩ u2) := by
  have hne : R ≠ w.heap.size := by omega
  exact ⟨x, t, r, b', rfl, (newTr_set3 hn (by omega) _ _ _).mono (by omega), box2_but (But.set _ w.heap.size 2 _) hne (box2_but (But.set _ w.heap.size 1 _) hne (box2_but (But.set _ w.heap.size 0 _) hne hB)), But.setNew (But.setNew (But.setNew hb (Nat.le_refl _) _) (Nat.le_refl _) _) (Nat.le_refl _) _, hr, hE⟩

set_option maxRecDepth 100000 in
set_option maxHeartbeats 1000000 in
theorem rd_zero : RdT 0 := by
  intro w s b R d hR hl hd
  have HR := hid (box2_next (below_alloc (w.setCell ⟨R, 1, none⟩ (.bool true)) (.cells #[.int .i64 0, .int .i64 0, .slice none 0 0] 39)) (box2_set1 hR (.bool true)))
  have hRl := hR.1
  obtain ⟨p0, p1, p2, p3, p4⟩ := hR
  obtain rfl : d = 7 := by simpa using hd
  clear hd
  have e1 : (⟨#[84, 112, 113, 114, 33, 40, 69, 65]⟩ : ByteArray) = bs set1 := rfl
  have HT := hid (show takeB set1 s true = (-1, s, true) by cases s <;> rfl)
  go_enter Try.func63, Try.ntmps63
  go_wp2_with fail
  refine (take_any set1 s true _ R HR.out hl).mono ?_
  rintro e w1 ⟨rfl, hB, hbut⟩
  rw [HT.out] at hB ⊢
  have hb4 := (box3_but hbut (by omega) (box3_at (B := w.heap.size) (w := w.setCell ⟨R, 1, none⟩ (.bool true)) (a := .int .i64 0) (b := .int .i64 0) (c := .slice none 0 0) (t := 39) (by simp)))
  have HB := hid hB
  have hBut := hid (((But.set w R 1 (.bool true)).trans (But.of (below_alloc _ (.cells #[.int .i64 0, .int .i64 0, .slice none 0 0] 39)))).trans hbut)
  obtain ⟨q0, q1, q2, q3, q4⟩ := hB
  have b4 := hb4
  obtain ⟨z0, z1, z2, z3, z4, z5, z6⟩ := hb4
  clear hbut
  go_wp2_with fail
  obtain ⟨y0, y1, y2, y3, _⟩ := box3_set2 (box3_set1 (box3_set0 b4 (.int .i64 0)) (.int .i64 0)) (.slice none 0 0); refine bodyPost_ret (v := .agg #[.int .i64 0, .int .i64 0, .slice none 0 0]) (by simp [results, Try.results63, go_sem, y1, y2, y3]) rfl ?_
  exact rd_end hRl (zero_new _ _) HB.out hBut.out (Nat.le_refl _) (by cases b <;> rfl) _ _ _

set_option maxRecDepth 100000 in
set_option maxHeartbeats 2000000 in
theorem rd_true (n : Nat) (w : World) (s : List UInt8) (R : Nat) (d : Int) (hR : Box2 w R (.string (bs (84 :: s))) (.bool false)) (hl : (84 :: s : List UInt8).length ≤ 1048576) (hd : d ≤ 6) :
    Calls Try.prog 63 #[.pointer (some ⟨R, 0, none⟩), .int .i64 d] w (RdPost (rdB (n + 1)) (84 :: s) false R w) := by
  have HR := hid (show ∀ o, Box2 (w.alloc o) R (.string (bs (84 :: s))) (.bool false) from fun o => box2_next (below_alloc _ _) hR)
  have hRl := hR.1
  clear hR
  have hd2 : ¬ (d > 6) := by omega
  have HT := hid (show takeB set1 (84 :: s) false = (0, s, false) from rfl)
  have e1 : (⟨#[84, 112, 113, 114, 33, 40, 69, 65]⟩ : ByteArray) = bs set1 := rfl
  have E := hid (show rdB (n + 1) (84 :: s) = some (.mk 1 0 [], s) by simp [rdB])
  go_enter Try.func63, Try.ntmps63
  go_wp2_with fail
  refine (take_any set1 (84 :: s) false _ R (HR.out _) hl).mono ?_
  rintro e w1 ⟨rfl, hB, hbut⟩
  rw [HT.out] at hB ⊢
  have hb4 := box3_but hbut (by omega) (box3_new w (.int .i64 0) (.int .i64 0) (.slice none 0 0) 39)
  have HB := hid hB
  have hBut := hid ((But.of (below_alloc w (.cells #[.int .i64 0, .int .i64 0, .slice none 0 0] 39))).trans hbut)
  have hsz := hbut.size
  simp only [World.size_alloc] at hsz
  obtain ⟨q0, q1, q2, q3, q4⟩ := hB
  clear hbut
  go_wp2_with fail
  refine (mk_any 1 (by unfold i64; omega) [] w1 none 0 w1.heap.size (.inl rfl) (Nat.le_refl _) (by simp) (by simp) (by simp)).mono ?_
  rintro e w2 ⟨v, rfl, hn, hb⟩
  obtain ⟨a1, n1, hsh⟩ := TrIn_shape hn.any
  obtain rfl : v = .agg #[.int .i64 1, .int .i64 0, .slice a1 0 n1] := hsh
  have b4 := box3_next hb hb4
  have HN := hid (hn.mono (B' := w.heap.size + 1) (by omega))
  have HB2 := hid (box2_next hb HB.out)
  have hBut2 := hid (hBut.out.next hb)
  obtain ⟨z0, z1, z2, z3, z4, z5, z6⟩ := id b4
  clear hb hn q0 q1 q2 q3 q4 hb4
  go_wp2_with fail
  obtain ⟨y0, y1, y2, y3, _⟩ := box3_set2 (box3_set1 (box3_set0 b4 (.int .i64 1)) (.int .i64 0)) (.slice a1 0 n1); refine bodyPost_ret (v := .agg #[.int .i64 1, .int .i64 0, .slice a1 0 n1]) (by simp [results, Try.results63, go_sem, y1, y2, y3]) rfl ?_
  exact rd_end hRl HN.out HB2.out hBut2.out (by simp) (by simp [E.out]) _ _ _

set_option maxRecDepth 100000 in
set_option maxHeartbeats 2000000 in
theorem rd_atom (n : Nat) (c : UInt8) (at' : Int) (hc : (c = 112 ∧ at' = 1) ∨ (c = 113 ∧ at' = 2) ∨ (c = 114 ∧ at' = 3)) (w : World) (s : List UInt8) (R : Nat) (d : Int) (hR : Box2 w R (.string (bs (c :: s))) (.bool false)) (hl : (c :: s : List UInt8).length ≤ 1048576) (hd : d ≤ 6) :
    Calls Try.prog 63 #[.pointer (some ⟨R, 0, none⟩), .int .i64 d] w (RdPost (rdB (n + 1)) (c :: s) false R w) := by
  have HR := hid (show ∀ o, Box2 (w.alloc o) R (.string (bs (c :: s))) (.bool false) from fun o => box2_next (below_alloc _ _) hR)
  have hRl := hR.1
  clear hR
  have hd2 : ¬ (d > 6) := by omega
  have HT := hid (show takeB set1 (c :: s) false = (at', s, false) by rcases hc with ⟨rfl, rfl⟩ | ⟨rfl, rfl⟩ | ⟨rfl, rfl⟩ <;> rfl)
  have e1 : (⟨#[84, 112, 113, 114, 33, 40, 69, 65]⟩ : ByteArray) = bs set1 := rfl
  have E := hid (show rdB (n + 1) (c :: s) = some (.mk 2 (at' - 1) [], s) by rcases hc with ⟨rfl, rfl⟩ | ⟨rfl, rfl⟩ | ⟨rfl, rfl⟩ <;> simp [rdB])
  have hat : at' = 1 ∨ at' = 2 ∨ at' = 3 := by omega
  clear hc
  go_enter Try.func63, Try.ntmps63
  go_wp2_with fail
  refine (take_any set1 (c :: s) false _ R (HR.out _) hl).mono ?_
  rintro e w1 ⟨rfl, hB, hbut⟩
  rw [HT.out] at hB ⊢
  have hb4 := box3_but hbut (by omega) (box3_new w (.int .i64 0) (.int .i64 0) (.slice none 0 0) 39)
  have HB := hid hB
  have hBut := hid ((But.of (below_alloc w (.cells #[.int .i64 0, .int .i64 0, .slice none 0 0] 39))).trans hbut)
  obtain ⟨q0, q1, q2, q3, q4⟩ := hB
  have b4 := hb4
  obtain ⟨z0, z1, z2, z3, z4, z5, z6⟩ := hb4
  clear hbut HT
  rcases hat with rfl | rfl | rfl
  · go_wp2_with fail
    obtain ⟨y0, y1, y2, y3, _⟩ := box3_set2 (box3_set1 (box3_set0 b4 (.int .i64 2)) (.int .i64 0)) (.slice none 0 0); refine bodyPost_ret (v := .agg #[.int .i64 2, .int .i64 0, .slice none 0 0]) (by simp [results, Try.results63, go_sem, y1, y2, y3]) rfl ?_
    exact rd_end hRl (leaf_new _ _ (by unfold i64; omega) (by unfold i64; omega)) HB.out hBut.out (by simp) (by simp [E.out]) _ _ _
  · go_wp2_with fail
    obtain ⟨y0, y1, y2, y3, _⟩ := box3_set2 (box3_set1 (box3_set0 b4 (.int .i64 2)) (.int .i64 1)) (.slice none 0 0); refine bodyPost_ret (v := .agg #[.int .i64 2, .int .i64 1, .slice none 0 0]) (by simp [results, Try.results63, go_sem, y1, y2, y3]) rfl ?_
    exact rd_end hRl (leaf_new _ _ (by unfold i64; omega) (by unfold i64; omega)) HB.out hBut.out (by simp) (by simp [E.out]) _ _ _
  · go_wp2_with fail
    obtain ⟨y0, y1, y2, y3, _⟩ := box3_set2 (box3_set1 (box3_set0 b4 (.int .i64 2)) (.int .i64 2)) (.slice none 0 0); refine bodyPost_ret (v := .agg #[.int .i64 2, .int .i64 2, .slice none 0 0]) (by simp [results, Try.results63, go_sem, y1, y2, y3]) rfl ?_
    exact rd_end hRl (leaf_new _ _ (by unfold i64; omega) (by unfold i64; omega)) HB.out hBut.out (by simp) (by simp [E.out]) _ _ _


theorem own_one {B : Nat} {w : World} {t : Tr} {x y z : Value} {ty : TypeId} (h : NewTr B t (.agg #[x, y, z]) w) : OwnArg B (w.alloc (.cells #[x, y, z] ty)) [t] (some ⟨w.heap.size, 0, none⟩) := by
  obtain ⟨bs, h1, h2⟩ := h
  exact .inr ⟨w.heap.size, _, bs, rfl, row_three w x y z ty, by rw [TrsOwn_cons]; exact ⟨bs, [], by simp, by simp, by simpa using TrOwn_below (below_alloc _ _) h1, (TrsOwn_nil ..).2 rfl⟩, h2⟩
theorem own_two {B b' : Nat} {w : World} {t u : Tr} {x y z x' y' z' : Value} {ty : TypeId} (h : Two B t u (.agg #[x, y, z]) (.agg #[x', y', z']) w) (hb : b' = w.heap.size) : OwnArg B (w.alloc (.cells #[x, y, z, x', y', z'] ty)) [t, u] (some ⟨b', 0, none⟩) := by
  obtain ⟨f, bs, h1, h2, h3, _⟩ := h.rows (ty := ty) hb
  exact .inr ⟨b', f, bs, rfl, h1, h2, h3⟩
theorem two_below {B : Nat} {t u : Tr} {x y : Value} {w w' : World} (h : Two B t u x y w) (hb : Below w.heap.size w w') : Two B t u x y w' := by
  obtain ⟨b1, b2, h1, h2, h3, h4, h5⟩ := h
  exact ⟨b1, b2, TrOwn_below hb h1, TrOwn_below hb h2, h3, h4, h5⟩
theorem two_but {B N : Nat} {t u : Tr} {x y : Value} {w1 w2 : World} {R : Nat} (h1 : NewTr B t x w1) (h2 : NewTr N u y w2) (hN : w1.heap.size ≤ N) (hb : But w1 R w2) (hR : R < B) (hB : B ≤ N) : Two B t u x y w2 := by
  obtain ⟨b1, o1, g1⟩ := h1
  obtain ⟨b2, o2, g2⟩ := h2
  exact ⟨b1, b2, TrOwn_but hb (fun e => by have := g1 _ e; omega) o1, o2, fun b hb1 hb2 => by have := TrOwn_lt.1 _ _ _ o1 b hb1; have := g2 b hb2; omega, g1, fun b hb => by have := g2 b hb; omega⟩

set_option maxRecDepth 100000 in
set_option maxHeartbeats 2000000 in
theorem rd_not (n : Nat) (ih : RdT n) (w : World) (s : List UInt8) (R : Nat) (d : Int) (hR : Box2 w R (.string (bs (33 :: s))) (.bool false)) (hl : (33 :: s : List UInt8).length ≤ 1048576) (hd : d ≤ 6) (hdn : d = 7 - (n + 1 : Nat)) (hd3 : -1000 ≤ d) :
    Calls Try.prog 63 #[.pointer (some ⟨R, 0, none⟩), .int .i64 d] w (RdPost (rdB (n + 1)) (33 :: s) false R w) := by
  have HR := hid (show ∀ o, Box2 (w.alloc o) R (.string (bs (33 :: s))) (.bool false) from fun o => box2_next (below_alloc _ _) hR)
  have hRl := hR.1
  clear hR
  have hd2 : ¬ (d > 6) := by omega
  have hdn2 : d + 1 = 7 - (n : Int) := by omega
  have HT := hid (show takeB set1 (33 :: s) false = (4, s, false) from rfl)
  have e1 : (⟨#[84, 112, 113, 114, 33, 40, 69, 65]⟩ : ByteArray) = bs set1 := rfl
  have E := hid (show rdB (n + 1) (33 :: s) = oneWith (rdB n) 3 s by simp [rdB])
  have HI := hid ih
  have HDN := hid hdn2
  clear ih hdn hdn2
  go_enter Try.func63, Try.ntmps63
  go_wp2_with fail
  refine (take_any set1 (33 :: s) false _ R (HR.out _) hl).mono ?_
  rintro e w1 ⟨rfl, hB, hbut⟩
  rw [HT.out] at hB ⊢
  have hb4 := hid (box3_but hbut (by omega) (box3_new w (.int .i64 0) (.int .i64 0) (.slice none 0 0) 39))
  have HB := hid hB
  have hBut := hid ((But.of (below_alloc w (.cells #[.int .i64 0, .int .i64 0, .slice none 0 0] 39))).trans hbut)
  have hsz := hbut.size
  simp only [World.size_alloc] at hsz
  obtain ⟨q0, q1, q2, q3, q4⟩ := hB
  clear hbut HT
  have hls : s.length ≤ 1048576 := by simp at hl; omega
  go_wp2_with fail
  refine (HI.out _ s false R _ HB.out hls HDN.out).mono ?_
  rintro e w2 ⟨v2, t2, r2, b2, rfl, hn2, hB2, hbut2, hr2, hE2⟩
  obtain ⟨a2, n2, rfl⟩ := TrIn_shape hn2.any
  have hs2 := hbut2.size
  have hb4' := box3_but hbut2 (by omega) hb4.out
  have HBT := hid (hBut.out.trans hbut2)
  have HE := hid (show rdB (n + 1) (33 :: s) = (if b2 = true then none else some (.mk 3 0 [t2], r2)) by
    rw [E.out]
    simp only [Bool.false_eq_true, if_false] at hE2
    unfold oneWith
    rw [hE2]
    cases b2 <;> rfl)
  have HB2 := hid hB2
  have HN2 := hid (hn2.mono (B' := w.heap.size + 1) (by omega))
  clear hn2 hB2 hbut2 hE2
  go_wp2_with fail
  refine (mk_any 3 (by unfold i64; omega) [t2] _ _ 1 (w.heap.size + 1) (own_one HN2.out) (by simp; omega) (by simp) (by simp [maxLen]) (by simp)).mono ?_
  rintro e w3 ⟨v3, rfl, hn3, hb3⟩
  obtain ⟨a3, n3, hsh⟩ := TrIn_shapeMk hn3.any
  obtain rfl := hsh
  simp only [List.length_cons, List.length_nil, Nat.zero_add] at hn3 ⊢
  replace hb3 := below_next (below_alloc _ _) hb3
  have b4 := box3_next hb3 hb4'
  have HN3 := hid hn3
  have HB3 := hid (box2_next hb3 HB2.out)
  have HBT3 := hid (HBT.out.next hb3)
  obtain ⟨z0, z1, z2, z3, z4, z5, z6⟩ := id b4
  clear hb3 hn3 hb4' q0 q1 q2 q3 q4
  go_wp2_with fail
  obtain ⟨y0, y1, y2, y3, _⟩ := box3_set2 (box3_set1 (box3_set0 b4 (.int .i64 3)) (.int .i64 0)) (.slice a3 1 n3); refine bodyPost_ret (v := .agg #[.int .i64 3, .int .i64 0, .slice a3 1 n3]) (by simp [results, Try.results63, go_sem, y1, y2, y3]) rfl ?_
  exact rd_end hRl HN3.out HB3.out HBT3.out (by simp; omega) (by simpa using HE.out) _ _ _
end Branching
end Go.Proofs.Ythjhokifonjeaaa
