/- Joined texts (ParseBI, ParseBI2): contracts and plain laws. Conditions: those of each theorem. -/
import Derived.Test.YthjhokifonjeaaaJB4
import Derived.Deep.RegionHeld3
set_option linter.unusedVariables false
set_option linter.unusedSimpArgs false
namespace Go.Proofs.Ythjhokifonjeaaa
open Go.RowKit
namespace Branching

def RdPost (rd : List UInt8 → Option (Tr × List UInt8)) (s : List UInt8) (b : Bool) (R : Nat) (w : World) (e : Ending) (w' : World) : Prop :=
  ∃ v t r b', e = .returned v ∧ NewTr w.heap.size t v w' ∧ Box2 w' R (.string (bs r)) (.bool b') ∧ But w R w' ∧ r.length ≤ s.length ∧ (if b = true then none else rd s) = (if b' = true then none else some (t, r))
def RdT (n : Nat) : Prop := ∀ (w : World) (s : List UInt8) (b : Bool) (R : Nat) (d : Int), Box2 w R (.string (bs s)) (.bool b) → s.length ≤ 1048576 → d = 7 - n → Calls Try.prog 63 #[.pointer (some ⟨R, 0, none⟩), .int .i64 d] w (RdPost (rdB n) s b R w)

def set1 : List UInt8 := [84, 112, 113, 114, 33, 40, 69, 65]
def set2 : List UInt8 := [38, 124]
def set3 : List UInt8 := [88, 40, 71]
def zeroT : Tr := .mk 0 0 []
theorem zero_new (B : Nat) (w : World) : NewTr B zeroT (.agg #[.int .i64 0, .int .i64 0, .slice none 0 0]) w := leaf_new _ _ (by unfold i64; omega) (by unfold i64; omega)

theorem u8_pqr {c : UInt8} (h : 112 ≤ c ∧ c ≤ 114) : c = 112 ∨ c = 113 ∨ c = 114 := by
  obtain ⟨h1, h2⟩ := h
  rw [UInt8.le_iff_toNat_le] at h1 h2
  have h3 : c.toNat = 112 ∨ c.toNat = 113 ∨ c.toNat = 114 := by
    have e1 : (112 : UInt8).toNat = 112 := rfl
    have e2 : (114 : UInt8).toNat = 114 := rfl
    omega
  rcases h3 with h | h | h
  · exact .inl (UInt8.toNat_inj.1 h)
  · exact .inr (.inl (UInt8.toNat_inj.1 h))
  · exact .inr (.inr (UInt8.toNat_inj.1 h))

theorem set1_cases (c : UInt8) : idxI set1 c 0 < 0 ∨ c = 84 ∨ (c = 112 ∨ c = 113 ∨ c = 114) ∨ c = 33 ∨ c = 40 ∨ c = 69 ∨ c = 65 := by
  unfold set1
  simp only [idxI]
  repeat' split
  all_goals (try subst c)
  all_goals simp

/-- nothing is read -/
theorem take1_bad (s : List UInt8) (b : Bool) : (∃ s', takeB set1 s b = (-1, s', true) ∧ s'.length ≤ s.length) ∧ (∀ n, (if b = true then none else rdB n s) = none) ∨ (b = false ∧ ∃ c s1, s = c :: s1 ∧ (c = 84 ∨ (c = 112 ∨ c = 113 ∨ c = 114) ∨ c = 33 ∨ c = 40 ∨ c = 69 ∨ c = 65)) := by
  cases b with
  | true => exact .inl ⟨⟨s, by cases s <;> rfl, Nat.le_refl _⟩, fun n => rfl⟩
  | false =>
    cases s with
    | nil => exact .inl ⟨⟨[], rfl, Nat.le_refl _⟩, fun n => by cases n <;> rfl⟩
    | cons c s1 =>
      rcases set1_cases c with h | h
      · refine .inl ⟨⟨c :: s1, by simp [takeB, h], Nat.le_refl _⟩, fun n => ?_⟩
        cases n with
        | zero => rfl
        | succ n =>
          have n1 : c ≠ 84 := fun e => by subst e; simp [set1, idxI] at h
          have n2 : ¬ (112 ≤ c ∧ c ≤ 114) := fun e => by rcases u8_pqr e with e | e | e <;> subst e <;> simp [set1, idxI] at h
          have n3 : c ≠ 33 := fun e => by subst e; simp [set1, idxI] at h
          have n4 : c ≠ 40 := fun e => by subst e; simp [set1, idxI] at h
          have n5 : c ≠ 69 := fun e => by subst e; simp [set1, idxI] at h
          have n6 : c ≠ 65 := fun e => by subst e; simp [set1, idxI] at h
          simp only [rdB]
          rw [if_neg n1, if_neg n2]
          simp [n3, n4, n5, n6]
      · exact .inr ⟨rfl, c, s1, rfl, h⟩

set_option maxRecDepth 100000 in
set_option maxHeartbeats 1000000 in
theorem rd_bad (n : Nat) (w : World) (s s' : List UInt8) (b : Bool) (R : Nat) (d : Int) (hR : Box2 w R (.string (bs s)) (.bool b)) (hl : s.length ≤ 1048576) (hd : d ≤ 6) (ht : takeB set1 s b = (-1, s', true)) (hs' : s'.length ≤ s.length) (hrd : (if b = true then none else rdB n s) = none) :
    Calls Try.prog 63 #[.pointer (some ⟨R, 0, none⟩), .int .i64 d] w (RdPost (rdB n) s b R w) := by
  have HR := hid (show ∀ o, Box2 (w.alloc o) R (.string (bs s)) (.bool b) from fun o => box2_next (below_alloc _ _) hR)
  have hRl := hR.1
  clear hR
  have hd2 : ¬ (d > 6) := by omega
  have HT := hid ht
  have e1 : (⟨#[84, 112, 113, 114, 33, 40, 69, 65]⟩ : ByteArray) = bs set1 := rfl
  go_enter Try.func63, Try.ntmps63
  go_wp2_with fail
  refine (take_any set1 s b _ R (HR.out _) hl).mono ?_
  rintro e w1 ⟨rfl, hB, hbut⟩
  rw [HT.out] at hB ⊢
  have hb4 := box3_but hbut (by omega) (box3_new w (.int .i64 0) (.int .i64 0) (.slice none 0 0) 39)
  have HB := hid hB
  have hBut := hid ((But.of (below_alloc w (.cells #[.int .i64 0, .int .i64 0, .slice none 0 0] 39))).trans hbut)
  obtain ⟨q0, q1, q2, q3, q4⟩ := hB
  have b4 := hb4
  obtain ⟨z0, z1, z2, z3, z4, z5, z6⟩ := hb4
  clear hbut
  go_wp2_with fail
  obtain ⟨y0, y1, y2, y3, _⟩ := box3_set2 (box3_set1 (box3_set0 b4 (.int .i64 0)) (.int .i64 0)) (.slice none 0 0); refine bodyPost_ret (v := .agg #[.int .i64 0, .int .i64 0, .slice none 0 0]) (by simp [results, Try.results63, go_sem, y1, y2, y3]) rfl ?_
  have hne : R ≠ w.heap.size := by omega
  refine ⟨_, zeroT, s', true, rfl, (zero_new _ _), box2_but (But.set _ w.heap.size 2 _) hne (box2_but (But.set _ w.heap.size 1 _) hne (box2_but (But.set _ w.heap.size 0 _) hne HB.out)), But.setNew (But.setNew (But.setNew hBut.out (Nat.le_refl _) _) (Nat.le_refl _) _) (Nat.le_refl _) _, hs', by rw [hrd]; rfl⟩

/-- the reader behind a node that is written into the result's own box -/
theorem rd_end {rd : List UInt8 → Option (Tr × List UInt8)} {s r : List UInt8} {b b' : Bool} {R : Nat} {w W : World} {t : Tr} {x : Value} (hRl : R < w.heap.size) (hn : NewTr (w.heap.size + 1) t x W) (hB : Box2 W R (.string (bs r)) (.bool b')) (hb : But w R W) (hr : r.length ≤ s.length) (hE : (if b = true then none else rd s) = (if b' = true then none else some (t, r))) (u0 u1 u2 : Value) :
    RdPost rd s b R w (.returned x) (((W.setCell ⟨w.heap.size, 0, none⟩ u0).setCell ⟨w.heap.size, 1, none⟩ u1).setCell ⟨w.heap.size, 2, none⟩ u2) := by
  have hne : R ≠ w.heap.size := by omega
  exact ⟨x, t, r, b', rfl, (newTr_set3 hn (by omega) _ _ _).mono (by omega), box2_but (But.set _ w.heap.size 2 _) hne (box2_but (But.set _ w.heap.size 1 _) hne (box2_but (But.set _ w.heap.size 0 _) hne hB)), But.setNew (But.setNew (But.setNew hb (Nat.le_refl _) _) (Nat.le_refl _) _) (Nat.le_refl _) _, hr, hE⟩

set_option maxRecDepth 100000 in
set_option maxHeartbeats 1000000 in
theorem rd_zero : RdT 0 := by
  intro w s b R d hR hl hd
  have HR := hid (box2_next (below_alloc (w.setCell ⟨R, 1, none⟩ (.bool true)) (.cells #[.int .i64 0, .int .i64 0, .slice none 0 0] 39)) (box2_set1 hR (.bool true)))
  have hRl := hR.1
  obtain ⟨p0, p1, p2, p3, p4⟩ := hR
  obtain rfl : d = 7 := by simpa using hd
  clear hd
  have e1 : (⟨#[84, 112, 113, 114, 33, 40, 69, 65]⟩ : ByteArray) = bs set1 := rfl
  have HT := hid (show takeB set1 s true = (-1, s, true) by cases s <;> rfl)
  go_enter Try.func63, Try.ntmps63
  go_wp2_with fail
  refine (take_any set1 s true _ R HR.out hl).mono ?_
  rintro e w1 ⟨rfl, hB, hbut⟩
  rw [HT.out] at hB ⊢
  have hb4 := (box3_but hbut (by omega) (box3_at (B := w.heap.size) (w := w.setCell ⟨R, 1, none⟩ (.bool true)) (a := .int .i64 0) (b := .int .i64 0) (c := .slice none 0 0) (t := 39) (by simp)))
  have HB := hid hB
  have hBut := hid (((But.set w R 1 (.bool true)).trans (But.of (below_alloc _ (.cells #[.int .i64 0, .int .i64 0, .slice none 0 0] 39)))).trans hbut)
  obtain ⟨q0, q1, q2, q3, q4⟩ := hB
  have b4 := hb4
  obtain ⟨z0, z1, z2, z3, z4, z5, z6⟩ := hb4
  clear hbut
  go_wp2_with fail
  obtain ⟨y0, y1, y2, y3, _⟩ := box3_set2 (box3_set1 (box3_set0 b4 (.int .i64 0)) (.int .i64 0)) (.slice none 0 0); refine bodyPost_ret (v := .agg #[.int .i64 0, .int .i64 0, .slice none 0 0]) (by simp [results, Try.results63, go_sem, y1, y2, y3]) rfl ?_
  exact rd_end hRl (zero_new _ _) HB.out hBut.out (Nat.le_refl _) (by cases b <;> rfl) _ _ _

set_option maxRecDepth 100000 in
set_option maxHeartbeats 2000000 in
theorem rd_true (n : Nat) (w : World) (s : List UInt8) (R : Nat) (d : Int) (hR : Box2 w R (.string (bs (84 :: s))) (.bool false)) (hl : (84 :: s : List UInt8).length ≤ 1048576) (hd : d ≤ 6) :
    Calls Try.prog 63 #[.pointer (some ⟨R, 0, none⟩), .int .i64 d] w (RdPost (rdB (n + 1)) (84 :: s) false R w) := by
  have HR := hid (show ∀ o, Box2 (w.alloc o) R (.string (bs (84 :: s))) (.bool false) from fun o => box2_next (below_alloc _ _) hR)
  have hRl := hR.1
  clear hR
  have hd2 : ¬ (d > 6) := by omega
  have HT := hid (show takeB set1 (84 :: s) false = (0, s, false) from rfl)
  have e1 : (⟨#[84, 112, 113, 114, 33, 40, 69, 65]⟩ : ByteArray) = bs set1 := rfl
  have E := hid (show rdB (n + 1) (84 :: s) = some (.mk 1 0 [], s) by simp [rdB])
  go_enter Try.func63, Try.ntmps63
  go_wp2_with fail
  refine (take_any set1 (84 :: s) false _ R (HR.out _) hl).mono ?_
  rintro e w1 ⟨rfl, hB, hbut⟩
  rw [HT.out] at hB ⊢
  have hb4 := box3_but hbut (by omega) (box3_new w (.int .i64 0) (.int .i64 0) (.slice none 0 0) 39)
  have HB := hid hB
  have hBut := hid ((But.of (below_alloc w (.cells #[.int .i64 0, .int .i64 0, .slice none 0 0] 39))).trans hbut)
  have hsz := hbut.size
  simp only [World.size_alloc] at hsz
  obtain ⟨q0, q1, q2, q3, q4⟩ := hB
  clear hbut
  go_wp2_with fail
  refine (mk_any 1 (by unfold i64; omega) [] w1 none 0 w1.heap.size (.inl rfl) (Nat.le_refl _) (by simp) (by simp) (by simp)).mono ?_
  rintro e w2 ⟨v, rfl, hn, hb⟩
  obtain ⟨a1, n1, hsh⟩ := TrIn_shape hn.any
  obtain rfl : v = .agg #[.int .i64 1, .int .i64 0, .slice a1 0 n1] := hsh
  have b4 := box3_next hb hb4
  have HN := hid (hn.mono (B' := w.heap.size + 1) (by omega))
  have HB2 := hid (box2_next hb HB.out)
  have hBut2 := hid (hBut.out.next hb)
  obtain ⟨z0, z1, z2, z3, z4, z5, z6⟩ := id b4
  clear hb hn q0 q1 q2 q3 q4 hb4
  go_wp2_with fail
  obtain ⟨y0, y1, y2, y3, _⟩ := box3_set2 (box3_set1 (box3_set0 b4 (.int .i64 1)) (.int .i64 0)) (.slice a1 0 n1); refine bodyPost_ret (v := .agg #[.int .i64 1, .int .i64 0, .slice a1 0 n1]) (by simp [results, Try.results63, go_sem, y1, y2, y3]) rfl ?_
  exact rd_end hRl HN.out HB2.out hBut2.out (by simp) (by simp [E.out]) _ _ _

set_option maxRecDepth 100000 in
set_option maxHeartbeats 2000000 in
theorem rd_atom (n : Nat) (c : UInt8) (at' : Int) (hc : (c = 112 ∧ at' = 1) ∨ (c = 113 ∧ at' = 2) ∨ (c = 114 ∧ at' = 3)) (w : World) (s : List UInt8) (R : Nat) (d : Int) (hR : Box2 w R (.string (bs (c :: s))) (.bool false)) (hl : (c :: s : List UInt8).length ≤ 1048576) (hd : d ≤ 6) :
    Calls Try.prog 63 #[.pointer (some ⟨R, 0, none⟩), .int .i64 d] w (RdPost (rdB (n + 1)) (c :: s) false R w) := by
  have HR := hid (show ∀ o, Box2 (w.alloc o) R (.string (bs (c :: s))) (.bool false) from fun o => box2_next (below_alloc _ _) hR)
  have hRl := hR.1
  clear hR
  have hd2 : ¬ (d > 6) := by omega
  have HT := hid (show takeB set1 (c :: s) false = (at', s, false) by rcases hc with ⟨rfl, rfl⟩ | ⟨rfl, rfl⟩ | ⟨rfl, rfl⟩ <;> rfl)
  have e1 : (⟨#[84, 112, 113, 114, 33, 40, 69, 65]⟩ : ByteArray) = bs set1 := rfl
  have E := hid (show rdB (n + 1) (c :: s) = some (.mk 2 (at' - 1) [], s) by rcases hc with ⟨rfl, rfl⟩ | ⟨rfl, rfl⟩ | ⟨rfl, rfl⟩ <;> simp [rdB])
  have hat : at' = 1 ∨ at' = 2 ∨ at' = 3 := by omega
  clear hc
  go_enter Try.func63, Try.ntmps63
  go_wp2_with fail
  refine (take_any set1 (c :: s) false _ R (HR.out _) hl).mono ?_
  rintro e w1 ⟨rfl, hB, hbut⟩
  rw [HT.out] at hB ⊢
  have hb4 := box3_but hbut (by omega) (box3_new w (.int .i64 0) (.int .i64 0) (.slice none 0 0) 39)
  have HB := hid hB
  have hBut := hid ((But.of (below_alloc w (.cells #[.int .i64 0, .int .i64 0, .slice none 0 0] 39))).trans hbut)
  obtain ⟨q0, q1, q2, q3, q4⟩ := hB
  have b4 := hb4
  obtain ⟨z0, z1, z2, z3, z4, z5, z6⟩ := hb4
  clear hbut HT
  rcases hat with rfl | rfl | rfl
  · go_wp2_with fail
    obtain ⟨y0, y1, y2, y3, _⟩ := box3_set2 (box3_set1 (box3_set0 b4 (.int .i64 2)) (.int .i64 0)) (.slice none 0 0); refine bodyPost_ret (v := .agg #[.int .i64 2, .int .i64 0, .slice none 0 0]) (by simp [results, Try.results63, go_sem, y1, y2, y3]) rfl ?_
    exact rd_end hRl (leaf_new _ _ (by unfold i64; omega) (by unfold i64; omega)) HB.out hBut.out (by simp) (by simp [E.out]) _ _ _
  · go_wp2_with fail
    obtain ⟨y0, y1, y2, y3, _⟩ := box3_set2 (box3_set1 (box3_set0 b4 (.int .i64 2)) (.int .i64 1)) (.slice none 0 0); refine bodyPost_ret (v := .agg #[.int .i64 2, .int .i64 1, .slice none 0 0]) (by simp [results, Try.results63, go_sem, y1, y2, y3]) rfl ?_
    exact rd_end hRl (leaf_new _ _ (by unfold i64; omega) (by unfold i64; omega)) HB.out hBut.out (by simp) (by simp [E.out]) _ _ _
  · go_wp2_with fail
    obtain ⟨y0, y1, y2, y3, _⟩ := box3_set2 (box3_set1 (box3_set0 b4 (.int .i64 2)) (.int .i64 2)) (.slice none 0 0); refine bodyPost_ret (v := .agg #[.int .i64 2, .int .i64 2, .slice none 0 0]) (by simp [results, Try.results63, go_sem, y1, y2, y3]) rfl ?_
    exact rd_end hRl (leaf_new _ _ (by unfold i64; omega) (by unfold i64; omega)) HB.out hBut.out (by simp) (by simp [E.out]) _ _ _


theorem own_one {B : Nat} {w : World} {t : Tr} {x y z : Value} {ty : TypeId} (h : NewTr B t (.agg #[x, y, z]) w) : OwnArg B (w.alloc (.cells #[x, y, z] ty)) [t] (some ⟨w.heap.size, 0, none⟩) := by
  obtain ⟨bs, h1, h2⟩ := h
  exact .inr ⟨w.heap.size, _, bs, rfl, row_three w x y z ty, by rw [TrsOwn_cons]; exact ⟨bs, [], by simp, by simp, by simpa using TrOwn_below (below_alloc _ _) h1, (TrsOwn_nil ..).2 rfl⟩, h2⟩
theorem own_two {B b' : Nat} {w : World} {t u : Tr} {x y z x' y' z' : Value} {ty : TypeId} (h : Two B t u (.agg #[x, y, z]) (.agg #[x', y', z']) w) (hb : b' = w.heap.size) : OwnArg B (w.alloc (.cells #[x, y, z, x', y', z'] ty)) [t, u] (some ⟨b', 0, none⟩) := by
  obtain ⟨f, bs, h1, h2, h3, _⟩ := h.rows (ty := ty) hb
  exact .inr ⟨b', f, bs, rfl, h1, h2, h3⟩
theorem two_below {B : Nat} {t u : Tr} {x y : Value} {w w' : World} (h : Two B t u x y w) (hb : Below w.heap.size w w') : Two B t u x y w' := by
  obtain ⟨b1, b2, h1, h2, h3, h4, h5⟩ := h
  exact ⟨b1, b2, TrOwn_below hb h1, TrOwn_below hb h2, h3, h4, h5⟩
theorem two_but {B N : Nat} {t u : Tr} {x y : Value} {w1 w2 : World} {R : Nat} (h1 : NewTr B t x w1) (h2 : NewTr N u y w2) (hN : w1.heap.size ≤ N) (hb : But w1 R w2) (hR : R < B) (hB : B ≤ N) : Two B t u x y w2 := by
  obtain ⟨b1, o1, g1⟩ := h1
  obtain ⟨b2, o2, g2⟩ := h2
  exact ⟨b1, b2, TrOwn_but hb (fun e => by have := g1 _ e; omega) o1, o2, fun b hb1 hb2 => by have := TrOwn_lt.1 _ _ _ o1 b hb1; have := g2 b hb2; omega, g1, fun b hb => by have := g2 b hb; omega⟩

set_option maxRecDepth 100000 in
set_option maxHeartbeats 2000000 in
theorem rd_not (n : Nat) (ih : RdT n) (w : World) (s : List UInt8) (R : Nat) (d : Int) (hR : Box2 w R (.string (bs (33 :: s))) (.bool false)) (hl : (33 :: s : List UInt8).length ≤ 1048576) (hd : d ≤ 6) (hdn : d = 7 - (n + 1 : Nat)) (hd3 : -1000 ≤ d) :
    Calls Try.prog 63 #[.pointer (some ⟨R, 0, none⟩), .int .i64 d] w (RdPost (rdB (n + 1)) (33 :: s) false R w) := by
  have HR := hid (show ∀ o, Box2 (w.alloc o) R (.string (bs (33 :: s))) (.bool false) from fun o => box2_next (below_alloc _ _) hR)
  have hRl := hR.1
  clear hR
  have hd2 : ¬ (d > 6) := by omega
  have hdn2 : d + 1 = 7 - (n : Int) := by omega
  have HT := hid (show takeB set1 (33 :: s) false = (4, s, false) from rfl)
  have e1 : (⟨#[84, 112, 113, 114, 33, 40, 69, 65]⟩ : ByteArray) = bs set1 := rfl
  have E := hid (show rdB (n + 1) (33 :: s) = oneWith (rdB n) 3 s by simp [rdB])
  have HI := hid ih
  have HDN := hid hdn2
  clear ih hdn hdn2
  go_enter Try.func63, Try.ntmps63
  go_wp2_with fail
  refine (take_any set1 (33 :: s) false _ R (HR.out _) hl).mono ?_
  rintro e w1 ⟨rfl, hB, hbut⟩
  rw [HT.out] at hB ⊢
  have hb4 := hid (box3_but hbut (by omega) (box3_new w (.int .i64 0) (.int .i64 0) (.slice none 0 0) 39))
  have HB := hid hB
  have hBut := hid ((But.of (below_alloc w (.cells #[.int .i64 0, .int .i64 0, .slice none 0 0] 39))).trans hbut)
  have hsz := hbut.size
  simp only [World.size_alloc] at hsz
  obtain ⟨q0, q1, q2, q3, q4⟩ := hB
  clear hbut HT
  have hls : s.length ≤ 1048576 := by simp at hl; omega
  go_wp2_with fail
  refine (HI.out _ s false R _ HB.out hls HDN.out).mono ?_
  rintro e w2 ⟨v2, t2, r2, b2, rfl, hn2, hB2, hbut2, hr2, hE2⟩
  obtain ⟨a2, n2, rfl⟩ := TrIn_shape hn2.any
  have hs2 := hbut2.size
  have hb4' := box3_but hbut2 (by omega) hb4.out
  have HBT := hid (hBut.out.trans hbut2)
  have HE := hid (show rdB (n + 1) (33 :: s) = (if b2 = true then none else some (.mk 3 0 [t2], r2)) by
    rw [E.out]
    simp only [Bool.false_eq_true, if_false] at hE2
    unfold oneWith
    rw [hE2]
    cases b2 <;> rfl)
  have HB2 := hid hB2
  have HN2 := hid (hn2.mono (B' := w.heap.size + 1) (by omega))
  clear hn2 hB2 hbut2 hE2
  go_wp2_with fail
  refine (mk_any 3 (by unfold i64; omega) [t2] _ _ 1 (w.heap.size + 1) (own_one HN2.out) (by simp; omega) (by simp) (by simp [maxLen]) (by simp)).mono ?_
  rintro e w3 ⟨v3, rfl, hn3, hb3⟩
  obtain ⟨a3, n3, hsh⟩ := TrIn_shapeMk hn3.any
  obtain rfl := hsh
  simp only [List.length_cons, List.length_nil, Nat.zero_add] at hn3 ⊢
  replace hb3 := below_next (below_alloc _ _) hb3
  have b4 := box3_next hb3 hb4'
  have HN3 := hid hn3
  have HB3 := hid (box2_next hb3 HB2.out)
  have HBT3 := hid (HBT.out.next hb3)
  obtain ⟨z0, z1, z2, z3, z4, z5, z6⟩ := id b4
  clear hb3 hn3 hb4' q0 q1 q2 q3 q4
  go_wp2_with fail
  obtain ⟨y0, y1, y2, y3, _⟩ := box3_set2 (box3_set1 (box3_set0 b4 (.int .i64 3)) (.int .i64 0)) (.slice a3 1 n3); refine bodyPost_ret (v := .agg #[.int .i64 3, .int .i64 0, .slice a3 1 n3]) (by simp [results, Try.results63, go_sem, y1, y2, y3]) rfl ?_
  exact rd_end hRl HN3.out HB3.out HBT3.out (by simp; omega) (by simpa using HE.out) _ _ _
end Branching
end Go.Proofs.Ythjhokifonjeaaa
namespace Go.Proofs.Ythjhokifonjeaaa
open Go.RowKit
namespace Branching

def PairPost (n : Nat) (set s : List UInt8) (R : Nat) (w : World) (e : Ending) (w' : World) : Prop :=
  ∃ v1 v2 t1 t2 at2 r b, e = .returned (.tuple #[v1, v2, .int .i64 at2]) ∧ Two w.heap.size t1 t2 v1 v2 w' ∧ Box2 w' R (.string (bs r)) (.bool b) ∧ But w R w' ∧ r.length ≤ s.length ∧ -1 ≤ at2 ∧ at2 ≤ 1000 ∧
    ∀ (op : UInt8 → Option Int) (kOf : Int → Int) (N : Int), (∀ o, (idxI set o 0 < 0 ∧ op o = none) ∨ (0 ≤ idxI set o 0 ∧ idxI set o 0 < N ∧ op o = some (kOf (idxI set o 0)))) →
      pairWith (rdB n) op s = (if b = true then none else some (.mk (kOf at2) 0 [t1, t2], r)) ∧ (b = false → 0 ≤ at2 ∧ at2 < N)

theorem set_two {w : World} {P Q : Nat} {a0 a1 a2 b0 b1 b2 : Value} (hPQ : P ≠ Q) (hP : ∃ x y z, Box3 w P x y z) (hQ : ∃ x y z, Box3 w Q x y z) :
    Box3 ((((((w.setCell ⟨P, 0, none⟩ a0).setCell ⟨P, 1, none⟩ a1).setCell ⟨P, 2, none⟩ a2).setCell ⟨Q, 0, none⟩ b0).setCell ⟨Q, 1, none⟩ b1).setCell ⟨Q, 2, none⟩ b2) P a0 a1 a2 ∧
    Box3 ((((((w.setCell ⟨P, 0, none⟩ a0).setCell ⟨P, 1, none⟩ a1).setCell ⟨P, 2, none⟩ a2).setCell ⟨Q, 0, none⟩ b0).setCell ⟨Q, 1, none⟩ b1).setCell ⟨Q, 2, none⟩ b2) Q b0 b1 b2 := by
  obtain ⟨x, y, z, hP⟩ := hP
  obtain ⟨x', y', z', hQ⟩ := hQ
  exact ⟨box3_but (But.set _ Q 2 _) hPQ (box3_but (But.set _ Q 1 _) hPQ (box3_but (But.set _ Q 0 _) hPQ (box3_set2 (box3_set1 (box3_set0 hP _) _) _))),
    box3_set2 (box3_set1 (box3_set0 (box3_but (But.set _ P 2 _) (Ne.symm hPQ) (box3_but (But.set _ P 1 _) (Ne.symm hPQ) (box3_but (But.set _ P 0 _) (Ne.symm hPQ) hQ))) _) _) _⟩

set_option maxRecDepth 100000 in
set_option maxHeartbeats 4000000 in
theorem pair_any (n : Nat) (ih : RdT n) (set : List UInt8) (hset : ∀ c, idxI set c 0 ≤ 1000) (w : World) (s : List UInt8) (R : Nat) (d : Int) (hR : Box2 w R (.string (bs s)) (.bool false)) (hls : s.length ≤ 1048576) (hd : d ≤ 6) (hdn : d = 7 - (n + 1 : Nat)) (hd3 : -1000 ≤ d) :
    Calls Try.prog 91 #[.pointer (some ⟨R, 0, none⟩), .int .i64 d, .string (bs set)] w (PairPost n set s R w) := by
  have hRl := hR.1
  have HR := hid (show ∀ o o', Box2 ((w.alloc o).alloc o') R (.string (bs s)) (.bool false) from fun o o' => box2_next (below_alloc _ _) (box2_next (below_alloc _ _) hR))
  have hdn2 : d + 1 = 7 - (n : Int) := by omega
  have e3 : (⟨#[41]⟩ : ByteArray) = bs [41] := rfl
  have HI := hid ih
  have HDN := hid hdn2
  clear ih hdn hdn2 hR
  go_enter Try.func91, Try.ntmps91
  go_wp2_with fail
  refine (HI.out _ s false R _ (HR.out _ _) hls HDN.out).mono ?_
  rintro e w2 ⟨v2, t1, r1, b1, rfl, hn1, hB2, hbut2, hr1, hE1⟩
  obtain ⟨a2, n2, rfl⟩ := TrIn_shape hn1.any
  have hs2 := hbut2.size
  simp only [World.size_alloc] at hs2
  have hP := box3_but hbut2 (by omega) (box3_next (below_alloc _ (.cells #[.int .i64 0, .int .i64 0, .slice none 0 0] 39)) (box3_new w (.int .i64 0) (.int .i64 0) (.slice none 0 0) 39))
  have hQ := box3_but hbut2 (by omega) (box3_at (B := w.heap.size + 1) (w := w.alloc (.cells #[.int .i64 0, .int .i64 0, .slice none 0 0] 39)) (a := .int .i64 0) (b := .int .i64 0) (c := .slice none 0 0) (t := 39) (by simp))
  have hBut := (((But.of (D := R) (below_alloc w (.cells #[.int .i64 0, .int .i64 0, .slice none 0 0] 39))).next (below_alloc _ (.cells #[.int .i64 0, .int .i64 0, .slice none 0 0] 39))).trans hbut2).next (below_alloc w2 (.cells #[.int .i64 t1.kind, .int .i64 t1.val, .slice a2 t1.kids.length n2] 39))
  replace hP := box3_next (below_alloc w2 (.cells #[.int .i64 t1.kind, .int .i64 t1.val, .slice a2 t1.kids.length n2] 39)) hP
  replace hQ := box3_next (below_alloc w2 (.cells #[.int .i64 t1.kind, .int .i64 t1.val, .slice a2 t1.kids.length n2] 39)) hQ
  have HB2 := hid (fun o => box2_next (below_alloc w2 o) hB2)
  have hb7 := box3_new w2 (.int .i64 t1.kind) (.int .i64 t1.val) (.slice a2 t1.kids.length n2) 39
  have hN1 := (hn1.mono (B' := w.heap.size + 2) (by simp)).below (below_alloc w2 (.cells #[.int .i64 t1.kind, .int .i64 t1.val, .slice a2 t1.kids.length n2] 39))
  simp only [Bool.false_eq_true, if_false] at hE1
  have HE1 := hid hE1
  clear hbut2 hn1 hB2 hE1
  go_wp2_with fail
  refine (take_any set r1 b1 _ R (HB2.out _) (by omega)).mono ?_
  rintro e w3 ⟨rfl, hB3, hbut3⟩
  have hlT := takeB_len set r1 b1
  have hlo : -1 ≤ (takeB set r1 b1).1 ∧ (takeB set r1 b1).1 ≤ 1000 := by
    cases b1 with
    | true => rw [takeB_true]; simp
    | false =>
      cases r1 with
      | nil => simp [takeB]
      | cons c r1 =>
        by_cases h : idxI set c 0 < 0
        · simp [takeB, h]
        · have := hset c
          simp only [takeB]; rw [if_neg h]; exact ⟨by show -1 ≤ idxI set c 0; omega, this⟩
  have hs3 := hbut3.size
  simp only [World.size_alloc] at hs3
  have HPR := hid (fun op kOf N H r3 b3 t2 E3 => pair_read (rd := rdB n) (op := op) (set := set) (kOf := kOf) N H (r3 := r3) (b3 := b3) (t2 := t2) HE1.out E3)
  replace hP := box3_but hbut3 (by omega) hP
  replace hQ := box3_but hbut3 (by omega) hQ
  replace hb7 := box3_but hbut3 (by omega) hb7
  replace hBut := hBut.trans hbut3
  replace hN1 := hN1.keep (Keep.but hbut3 (by omega))
  generalize takeB set r1 b1 = q at *
  obtain ⟨at2, r2, b2⟩ := q
  simp only at hB3 hlT HPR hlo ⊢
  have HB3 := hid hB3
  clear hbut3 HE1 HB2
  obtain ⟨q0, q1, q2, q3, q4⟩ := hB3
  go_wp2_with fail
  refine (HI.out _ r2 b2 R _ HB3.out (by omega) HDN.out).mono ?_
  rintro e w4 ⟨v4, t2, r3, b3, rfl, hn2, hB4, hbut4, hr3, hE3⟩
  obtain ⟨a4, n4, rfl⟩ := TrIn_shape hn2.any
  have hs4 := hbut4.size
  have HB4 := hid (fun o => box2_next (below_alloc w4 o) hB4)
  have hTwo := two_but hN1 hn2 (Nat.le_refl _) hbut4 (by omega) (by omega)
  replace hP := box3_next (below_alloc w4 (.cells #[.int .i64 t2.kind, .int .i64 t2.val, .slice a4 t2.kids.length n4] 39)) (box3_but hbut4 (by omega) hP)
  replace hQ := box3_next (below_alloc w4 (.cells #[.int .i64 t2.kind, .int .i64 t2.val, .slice a4 t2.kids.length n4] 39)) (box3_but hbut4 (by omega) hQ)
  replace hb7 := box3_next (below_alloc w4 (.cells #[.int .i64 t2.kind, .int .i64 t2.val, .slice a4 t2.kids.length n4] 39)) (box3_but hbut4 (by omega) hb7)
  have hb9 := box3_new w4 (.int .i64 t2.kind) (.int .i64 t2.val) (.slice a4 t2.kids.length n4) 39
  replace hBut := (hBut.trans hbut4).next (below_alloc w4 (.cells #[.int .i64 t2.kind, .int .i64 t2.val, .slice a4 t2.kids.length n4] 39))
  replace hTwo := two_below hTwo (below_alloc w4 (.cells #[.int .i64 t2.kind, .int .i64 t2.val, .slice a4 t2.kids.length n4] 39))
  have HPR2 := hid (fun op kOf N H => HPR.out op kOf N H r3 b3 t2 hE3)
  clear hbut4 hn2 hB4 hE3 q0 q1 q2 q3 q4 hN1 HPR HB3
  go_wp2_with fail
  refine (take_any [41] r3 b3 _ R (HB4.out _) (by omega)).mono ?_
  rintro e w5 ⟨rfl, hB5, hbut5⟩
  have hlT5 := takeB_len [41] r3 b3
  have hs5 := hbut5.size
  simp only [World.size_alloc] at hs5
  replace hP := box3_but hbut5 (by omega) hP
  replace hQ := box3_but hbut5 (by omega) hQ
  replace hb7 := box3_but hbut5 (by omega) hb7
  replace hb9 := box3_but hbut5 (by omega) hb9
  replace hBut := hBut.trans hbut5
  have hTwo5 : Two (w.heap.size + 2) t1 t2 (.agg #[.int .i64 t1.kind, .int .i64 t1.val, .slice a2 t1.kids.length n2]) (.agg #[.int .i64 t2.kind, .int .i64 t2.val, .slice a4 t2.kids.length n4]) w5 := by
    obtain ⟨c1, c2, h1, h2, h3, h4, h5⟩ := hTwo
    exact ⟨c1, c2, TrOwn_but hbut5 (fun e => by have := h4 _ e; omega) h1, TrOwn_but hbut5 (fun e => by have := h5 _ e; omega) h2, h3, h4, h5⟩
  generalize takeB [41] r3 b3 = q at *
  obtain ⟨at5, r5, b5⟩ := q
  simp only at hB5 hlT5 HPR2 ⊢
  have HB5 := hid hB5
  have HBut := hid hBut
  have HTwo := hid hTwo5
  clear hbut5 HB4 hTwo hTwo5 hBut hB5
  have hl7 := hb7.1
  have hl9 := hb9.1
  have HP := hid hP
  have HQ := hid hQ
  obtain ⟨x0, x1, x2, x3, _⟩ := hb7
  obtain ⟨y0, y1, y2, y3, _⟩ := hb9
  obtain ⟨z0, z1, z2, z3, z4, z5, z6⟩ := hP
  obtain ⟨u0, u1, u2, u3, u4, u5, u6⟩ := hQ
  have HF := hid (fun w' (M : Only [w.heap.size, w.heap.size + 1] w5 w') => (⟨((World.cell?_of_block (w := w5) (a := ⟨w2.heap.size, 0, none⟩) (M.block _ hl7 (by simp; omega)))).trans x1, ((World.cell?_of_block (w := w5) (a := ⟨w2.heap.size, 1, none⟩) (M.block _ hl7 (by simp; omega)))).trans x2, ((World.cell?_of_block (w := w5) (a := ⟨w2.heap.size, 2, none⟩) (M.block _ hl7 (by simp; omega)))).trans x3,
    ((World.cell?_of_block (w := w5) (a := ⟨w4.heap.size, 0, none⟩) (M.block _ hl9 (by simp; omega)))).trans y1, ((World.cell?_of_block (w := w5) (a := ⟨w4.heap.size, 1, none⟩) (M.block _ hl9 (by simp; omega)))).trans y2, ((World.cell?_of_block (w := w5) (a := ⟨w4.heap.size, 2, none⟩) (M.block _ hl9 (by simp; omega)))).trans y3⟩ :
    w'.cell? ⟨w2.heap.size, 0, none⟩ = some (.int .i64 t1.kind) ∧ w'.cell? ⟨w2.heap.size, 1, none⟩ = some (.int .i64 t1.val) ∧ w'.cell? ⟨w2.heap.size, 2, none⟩ = some (.slice a2 t1.kids.length n2) ∧ w'.cell? ⟨w4.heap.size, 0, none⟩ = some (.int .i64 t2.kind) ∧ w'.cell? ⟨w4.heap.size, 1, none⟩ = some (.int .i64 t2.val) ∧ w'.cell? ⟨w4.heap.size, 2, none⟩ = some (.slice a4 t2.kids.length n4)))
  have ne1 : w.heap.size ≠ w.heap.size + 1 := by omega
  have ne2 : w.heap.size + 1 ≠ w.heap.size := by omega
  have ne3 : w.heap.size ≠ w2.heap.size ∧ w.heap.size + 1 ≠ w2.heap.size ∧ w.heap.size ≠ w4.heap.size ∧ w.heap.size + 1 ≠ w4.heap.size := by omega
  go_wp2_with fail
  go_region_held3 (fun w' => w'.cell? ⟨w2.heap.size, 0, none⟩ = some (.int .i64 t1.kind) ∧ w'.cell? ⟨w2.heap.size, 1, none⟩ = some (.int .i64 t1.val) ∧ w'.cell? ⟨w2.heap.size, 2, none⟩ = some (.slice a2 t1.kids.length n2) ∧ w'.cell? ⟨w4.heap.size, 0, none⟩ = some (.int .i64 t2.kind) ∧ w'.cell? ⟨w4.heap.size, 1, none⟩ = some (.int .i64 t2.val) ∧ w'.cell? ⟨w4.heap.size, 2, none⟩ = some (.slice a4 t2.kids.length n4))
    (first | (refine HF.out _ ?_; (repeat (first | with_reducible assumption | with_reducible exact Only.refl _ _ | with_reducible refine only_a ?_ _ | with_reducible refine only_d ?_ | with_reducible refine only_s ?_ (by simp) _)); done) | go_keep)
    (fail)
  have hf := set_two (w := w5) (a0 := .int .i64 t1.kind) (a1 := .int .i64 t1.val) (a2 := .slice a2 t1.kids.length n2) (b0 := .int .i64 t2.kind) (b1 := .int .i64 t2.val) (b2 := .slice a4 t2.kids.length n4) ne1 ⟨_, _, _, HP.out⟩ ⟨_, _, _, HQ.out⟩
  have hT := hid (two_below (Two.set3 (P := w.heap.size + 1) (Two.set3 (P := w.heap.size) HTwo.out (by omega) (.int .i64 t1.kind) (.int .i64 t1.val) (.slice a2 t1.kids.length n2)) (by omega) (.int .i64 t2.kind) (.int .i64 t2.val) (.slice a4 t2.kids.length n4)) (below_d (Below.refl _ _)))
  have hRP : R ≠ w.heap.size := by omega
  have hRQ : R ≠ w.heap.size + 1 := by omega
  have hB2 := hid (box2_next (below_d (Below.refl _ _)) (box2_but (But.set _ (w.heap.size + 1) 2 (.slice a4 t2.kids.length n4)) hRQ (box2_but (But.set _ (w.heap.size + 1) 1 (.int .i64 t2.val)) hRQ (box2_but (But.set _ (w.heap.size + 1) 0 (.int .i64 t2.kind)) hRQ (box2_but (But.set _ w.heap.size 2 (.slice a2 t1.kids.length n2)) hRP (box2_but (But.set _ w.heap.size 1 (.int .i64 t1.val)) hRP (box2_but (But.set _ w.heap.size 0 (.int .i64 t1.kind)) hRP HB5.out)))))))
  have hBF := hid ((But.setNew (But.setNew (But.setNew (But.setNew (But.setNew (But.setNew HBut.out (a := ⟨w.heap.size, 0, none⟩) (Nat.le_refl _) (.int .i64 t1.kind)) (a := ⟨w.heap.size, 1, none⟩) (Nat.le_refl _) (.int .i64 t1.val)) (a := ⟨w.heap.size, 2, none⟩) (Nat.le_refl _) (.slice a2 t1.kids.length n2)) (a := ⟨w.heap.size + 1, 0, none⟩) (Nat.le_succ _) (.int .i64 t2.kind)) (a := ⟨w.heap.size + 1, 1, none⟩) (Nat.le_succ _) (.int .i64 t2.val)) (a := ⟨w.heap.size + 1, 2, none⟩) (Nat.le_succ _) (.slice a4 t2.kids.length n4)).next (below_d (Below.refl _ _)))
  obtain ⟨c0, c1, c2, c3, _⟩ := box3_next (below_d (Below.refl _ _)) hf.1
  obtain ⟨d0, d1, d2, d3, _⟩ := box3_next (below_d (Below.refl _ _)) hf.2
  clear hf
  go_wp2_with fail
  refine bodyPost_ret (v := .tuple #[.agg #[.int .i64 t1.kind, .int .i64 t1.val, .slice a2 t1.kids.length n2], .agg #[.int .i64 t2.kind, .int .i64 t2.val, .slice a4 t2.kids.length n4], .int .i64 at2]) (by simp [results, Try.results91, go_sem, c1, c2, c3, d1, d2, d3]) rfl ?_
  obtain ⟨g1, g2, k1, k2, k3, k4, k5⟩ := hT.out
  exact ⟨_, _, t1, t2, at2, r5, b5, rfl, ⟨g1, g2, k1, k2, k3, fun b hb => by have := k4 b hb; omega, fun b hb => by have := k5 b hb; omega⟩, hB2.out, hBF.out, by omega, hlo.1, hlo.2, HPR2.out⟩
def opK (a : Int) : Int := 4 + a
theorem set2_op (o : UInt8) : (idxI set2 o 0 < 0 ∧ branOp o = none) ∨ (0 ≤ idxI set2 o 0 ∧ idxI set2 o 0 < 2 ∧ branOp o = some (opK (idxI set2 o 0))) := by
  by_cases h0 : o = 38
  · subst h0; right; decide
  by_cases h1 : o = 124
  · subst h1; right; decide
  left
  have e0 : ¬ (38 : UInt8) = o := fun e => h0 e.symm
  have e1 : ¬ (124 : UInt8) = o := fun e => h1 e.symm
  simp [set2, idxI, branOp, h0, h1, e0, e1]
theorem set2_le (c : UInt8) : idxI set2 c 0 ≤ 1000 := by
  rcases set2_op c with h | h <;> omega
def set4 : List UInt8 := [85]
theorem set4_op (k : Int) (o : UInt8) : (idxI set4 o 0 < 0 ∧ (fun o : UInt8 => if o = 85 then some k else none) o = none) ∨ (0 ≤ idxI set4 o 0 ∧ idxI set4 o 0 < 1 ∧ (fun o : UInt8 => if o = 85 then some k else none) o = some ((fun _ => k) (idxI set4 o 0))) := by
  by_cases h0 : o = 85
  · subst h0; right; simp [set4, idxI]
  · left
    have e0 : ¬ (85 : UInt8) = o := fun e => h0 e.symm
    simp [set4, idxI, h0, e0]
theorem set4_le (c : UInt8) : idxI set4 c 0 ≤ 1000 := by
  rcases set4_op 0 c with h | h <;> omega

set_option maxRecDepth 100000 in
set_option maxHeartbeats 4000000 in
theorem rd_and (n : Nat) (ih : RdT n) (w : World) (s : List UInt8) (R : Nat) (d : Int) (hR : Box2 w R (.string (bs (40 :: s))) (.bool false)) (hl : (40 :: s : List UInt8).length ≤ 1048576) (hd : d ≤ 6) (hdn : d = 7 - (n + 1 : Nat)) (hd3 : -1000 ≤ d) :
    Calls Try.prog 63 #[.pointer (some ⟨R, 0, none⟩), .int .i64 d] w (RdPost (rdB (n + 1)) (40 :: s) false R w) := by
  have HR := hid (show ∀ o, Box2 (w.alloc o) R (.string (bs (40 :: s))) (.bool false) from fun o => box2_next (below_alloc _ _) hR)
  have hRl := hR.1
  clear hR
  have hd2 : ¬ (d > 6) := by omega
  have HT := hid (show takeB set1 (40 :: s) false = (5, s, false) from rfl)
  have e1 : (⟨#[84, 112, 113, 114, 33, 40, 69, 65]⟩ : ByteArray) = bs set1 := rfl
  have e2 : (⟨#[38, 124]⟩ : ByteArray) = bs set2 := rfl
  have E := hid (show rdB (n + 1) (40 :: s) = pairWith (rdB n) branOp s by simp [rdB])
  have hls : s.length ≤ 1048576 := by simp at hl; omega
  have HPA := hid (fun (w : World) (hR : Box2 w R (.string (bs s)) (.bool false)) => pair_any n ih set2 set2_le w s R d hR hls hd hdn hd3)
  clear ih hdn
  go_enter Try.func63, Try.ntmps63
  go_wp2_with fail
  refine (take_any set1 (40 :: s) false _ R (HR.out _) hl).mono ?_
  rintro e w1 ⟨rfl, hB, hbut⟩
  rw [HT.out] at hB ⊢
  have hb4 := box3_but hbut (by omega) (box3_new w (.int .i64 0) (.int .i64 0) (.slice none 0 0) 39)
  have HB := hid hB
  have hBut := (But.of (below_alloc w (.cells #[.int .i64 0, .int .i64 0, .slice none 0 0] 39))).trans hbut
  have hsz := hbut.size
  simp only [World.size_alloc] at hsz
  obtain ⟨q0, q1, q2, q3, q4⟩ := hB
  clear hbut HT
  go_wp2_with fail
  refine (HPA.out _ HB.out).mono ?_
  rintro e w2 ⟨v1, v2, t1, t2, at2, r, b, rfl, hTw, hB2, hbut2, hr, ha1, ha2, hP⟩
  obtain ⟨hpe, hpo⟩ := hP branOp opK 2 set2_op
  have hs2 := hbut2.size
  have hx1 : ∃ a c, v1 = .agg #[.int .i64 t1.kind, .int .i64 t1.val, .slice a t1.kids.length c] := by obtain ⟨_, _, h1, _⟩ := hTw; exact TrIn_shape h1.any
  have hx2 : ∃ a c, v2 = .agg #[.int .i64 t2.kind, .int .i64 t2.val, .slice a t2.kids.length c] := by obtain ⟨_, _, _, h2, _⟩ := hTw; exact TrIn_shape h2.any
  obtain ⟨a2, n2, rfl⟩ := hx1
  obtain ⟨a4, n4, rfl⟩ := hx2
  have hB2' := hB2
  have H4 := hid (box3_but hbut2 (by omega) hb4)
  have HBut := hid (hBut.trans hbut2)
  have HTw := hid hTw
  have HB2 := hid hB2
  have HE := hid hpe
  clear hbut2 hBut hb4 hTw hB2 hB2' hP hpe hpo q0 q1 q2 q3 q4
  go_wp2_with fail
  have hN2' := two_below (two_below HTw.out (below_alloc _ (.cells #[.int .i64 t1.kind, .int .i64 t1.val, .slice a2 t1.kids.length n2] 39))) (below_alloc _ (.cells #[.int .i64 t2.kind, .int .i64 t2.val, .slice a4 t2.kids.length n4] 39))
  have HX := hid (own_two (b' := w2.heap.size + 1 + 1) (ty := 39) hN2' (by simp))
  clear hN2'
  refine (mk_any (4 + at2) (by unfold i64; omega) [t1, t2] _ _ 2 w1.heap.size HX.out (by simp; omega) (by simp) (by simp [maxLen]) (by simp)).mono ?_
  rintro e w3 ⟨v3, rfl, hn3, hb3⟩
  obtain ⟨a3, n3, rfl⟩ := TrIn_shapeMk hn3.any
  simp only [List.length_cons, List.length_nil, Nat.zero_add, Nat.reduceAdd] at hn3 ⊢
  replace hb3 := below_next (below_a (below_a (below_alloc w2 (.cells #[.int .i64 t1.kind, .int .i64 t1.val, .slice a2 t1.kids.length n2] 39)) (.cells #[.int .i64 t2.kind, .int .i64 t2.val, .slice a4 t2.kids.length n4] 39)) _) hb3
  have b4 := box3_next hb3 H4.out
  have HN3 := hid (hn3.mono (B' := w.heap.size + 1) (by omega))
  have HB3 := hid (box2_next hb3 HB2.out)
  have HBT3 := hid (HBut.out.next hb3)
  obtain ⟨z0, z1, z2, z3, z4, z5, z6⟩ := id b4
  clear hb3 hn3
  go_wp2_with fail
  obtain ⟨y0, y1, y2, y3, _⟩ := box3_set2 (box3_set1 (box3_set0 b4 (.int .i64 (4 + at2))) (.int .i64 0)) (.slice a3 2 n3); refine bodyPost_ret (v := .agg #[.int .i64 (4 + at2), .int .i64 0, .slice a3 2 n3]) (by simp [results, Try.results63, go_sem, y1, y2, y3]) rfl ?_
  exact rd_end hRl HN3.out HB3.out HBT3.out (by simp; omega) (by rw [E.out, HE.out]; rfl) _ _ _

theorem one_eq {n : Nat} {c : UInt8} {f k : Int} {s x r2 : List UInt8} {t2 : Tr} {b2 : Bool} {at3 : Int} (E : rdB (n + 1) (c :: x) = rdB2 (rdB n) f x) (E3 : ∀ rd k, rdB2 rd k x = oneWith rd (k + at3) s) (hE : (if false = true then none else rdB n s) = (if b2 = true then none else some (t2, r2))) (hk : k = f + at3 := by omega) :
    (if false = true then none else rdB (n + 1) (c :: x)) = (if b2 = true then none else some (.mk k 0 [t2], r2)) := by
  simp only [Bool.false_eq_true, if_false] at hE ⊢
  rw [E, E3]
  subst hk
  unfold oneWith
  rw [hE]
  cases b2 <;> rfl

set_option maxRecDepth 100000 in
set_option maxHeartbeats 4000000 in
theorem rd_pbad (n : Nat) (ih : RdT n) (c : UInt8) (f at1 : Int) (hc : (c = 69 ∧ at1 = 6 ∧ f = 6) ∨ (c = 65 ∧ at1 = 7 ∧ f = 9)) (w : World) (s : List UInt8) (R : Nat) (d : Int) (hR : Box2 w R (.string (bs (c :: s))) (.bool false)) (hl : (c :: s : List UInt8).length ≤ 1048576) (hd : d ≤ 6) (hdn : d = 7 - (n + 1 : Nat)) (hd3 : -1000 ≤ d) (ht : takeB set3 s false = (-1, s, true)) (hno : ∀ rd k, rdB2 rd k s = none) :
    Calls Try.prog 63 #[.pointer (some ⟨R, 0, none⟩), .int .i64 d] w (RdPost (rdB (n + 1)) (c :: s) false R w) := by
  have HR := hid (show ∀ o, Box2 (w.alloc o) R (.string (bs (c :: s))) (.bool false) from fun o => box2_next (below_alloc _ _) hR)
  have hRl := hR.1
  clear hR
  have hd2 : ¬ (d > 6) := by omega
  have HT := hid (show takeB set1 (c :: s) false = (at1, s, false) by rcases hc with ⟨rfl, rfl, rfl⟩ | ⟨rfl, rfl, rfl⟩ <;> rfl)
  have e1 : (⟨#[84, 112, 113, 114, 33, 40, 69, 65]⟩ : ByteArray) = bs set1 := rfl
  have e2 : (⟨#[88, 40, 71]⟩ : ByteArray) = bs set3 := rfl
  have e3 : (⟨#[85]⟩ : ByteArray) = bs set4 := rfl
  have E := hid (show rdB (n + 1) (c :: s) = rdB2 (rdB n) f (s) by rcases hc with ⟨rfl, rfl, rfl⟩ | ⟨rfl, rfl, rfl⟩ <;> simp [rdB])
  have hat : (at1 = 6 ∧ f = 6) ∨ (at1 = 7 ∧ f = 9) := by omega
  have HT3 := hid ht
  have HNO := hid hno
  clear hc hdn ih ht hno
  go_enter Try.func63, Try.ntmps63
  go_wp2_with fail
  refine (take_any set1 (c :: s) false _ R (HR.out _) hl).mono ?_
  rintro e w1 ⟨rfl, hB, hbut⟩
  rw [HT.out] at hB ⊢
  have hb4 := box3_but hbut (by omega) (box3_new w (.int .i64 0) (.int .i64 0) (.slice none 0 0) 39)
  have HB := hid hB
  have hBut := (But.of (below_alloc w (.cells #[.int .i64 0, .int .i64 0, .slice none 0 0] 39))).trans hbut
  have hsz := hbut.size
  simp only [World.size_alloc] at hsz
  have HBut1 := hid hBut
  have HB41 := hid hb4
  clear hbut HT hBut hb4
  rcases hat with ⟨rfl, rfl⟩ | ⟨rfl, rfl⟩
  all_goals
    obtain ⟨q0, q1, q2, q3, q4⟩ := hB
    go_wp2_with fail
    refine (take_any set3 (s) false _ R HB.out (by simp at hl ⊢; omega)).mono ?_
    rintro e w5 ⟨rfl, hB5, hbut5⟩
    rw [HT3.out] at hB5 ⊢
    have hs5 := hbut5.size
    have H45 := hid (box3_but hbut5 (by omega) HB41.out)
    have HBut5 := hid (HBut1.out.trans hbut5)
    have HB5 := hid hB5
    clear hbut5 q0 q1 q2 q3 q4
    obtain ⟨q0, q1, q2, q3, q4⟩ := hB5
    obtain ⟨z0, z1, z2, z3, z4, z5, z6⟩ := H45.out
    go_wp2_with fail
    obtain ⟨y0, y1, y2, y3, _⟩ := box3_set2 (box3_set1 (box3_set0 H45.out (.int .i64 0)) (.int .i64 0)) (.slice none 0 0); refine bodyPost_ret (v := .agg #[.int .i64 0, .int .i64 0, .slice none 0 0]) (by simp [results, Try.results63, go_sem, y1, y2, y3]) rfl ?_
    exact rd_end (t := zeroT) hRl (zero_new _ _) HB5.out HBut5.out (by simp) (by rw [E.out, HNO.out]; rfl) _ _ _

set_option maxRecDepth 100000 in
set_option maxHeartbeats 4000000 in
theorem rd_pone (n : Nat) (ih : RdT n) (c : UInt8) (f at1 : Int) (hc : (c = 69 ∧ at1 = 6 ∧ f = 6) ∨ (c = 65 ∧ at1 = 7 ∧ f = 9)) (x : UInt8) (at3 : Int) (hx : (x = 88 ∧ at3 = 0) ∨ (x = 71 ∧ at3 = 2)) (w : World) (s : List UInt8) (R : Nat) (d : Int) (hR : Box2 w R (.string (bs (c :: x :: s))) (.bool false)) (hl : (c :: x :: s : List UInt8).length ≤ 1048576) (hd : d ≤ 6) (hdn : d = 7 - (n + 1 : Nat)) (hd3 : -1000 ≤ d) :
    Calls Try.prog 63 #[.pointer (some ⟨R, 0, none⟩), .int .i64 d] w (RdPost (rdB (n + 1)) (c :: x :: s) false R w) := by
  have HR := hid (show ∀ o, Box2 (w.alloc o) R (.string (bs (c :: x :: s))) (.bool false) from fun o => box2_next (below_alloc _ _) hR)
  have hRl := hR.1
  clear hR
  have hd2 : ¬ (d > 6) := by omega
  have HT := hid (show takeB set1 (c :: x :: s) false = (at1, x :: s, false) by rcases hc with ⟨rfl, rfl, rfl⟩ | ⟨rfl, rfl, rfl⟩ <;> rfl)
  have e1 : (⟨#[84, 112, 113, 114, 33, 40, 69, 65]⟩ : ByteArray) = bs set1 := rfl
  have e2 : (⟨#[88, 40, 71]⟩ : ByteArray) = bs set3 := rfl
  have e3 : (⟨#[85]⟩ : ByteArray) = bs set4 := rfl
  have E := hid (show rdB (n + 1) (c :: x :: s) = rdB2 (rdB n) f (x :: s) by rcases hc with ⟨rfl, rfl, rfl⟩ | ⟨rfl, rfl, rfl⟩ <;> simp [rdB])
  have hat : (at1 = 6 ∧ f = 6) ∨ (at1 = 7 ∧ f = 9) := by omega
  have HT3 := hid (show takeB set3 (x :: s) false = (at3, s, false) by rcases hx with ⟨rfl, rfl⟩ | ⟨rfl, rfl⟩ <;> rfl)
  have E3 := hid (show ∀ rd k, rdB2 rd k (x :: s) = oneWith rd (k + at3) s by rcases hx with ⟨rfl, rfl⟩ | ⟨rfl, rfl⟩ <;> intro rd k <;> simp [rdB2])
  have hat3 : at3 = 0 ∨ at3 = 2 := by omega
  have hls : s.length ≤ 1048576 := by simp at hl; omega
  have HI := hid (fun (w : World) hR => ih w s false R (d + 1) hR hls (by omega))
  clear hc hdn ih hx
  go_enter Try.func63, Try.ntmps63
  go_wp2_with fail
  refine (take_any set1 (c :: x :: s) false _ R (HR.out _) hl).mono ?_
  rintro e w1 ⟨rfl, hB, hbut⟩
  rw [HT.out] at hB ⊢
  have hb4 := box3_but hbut (by omega) (box3_new w (.int .i64 0) (.int .i64 0) (.slice none 0 0) 39)
  have HB := hid hB
  have hBut := (But.of (below_alloc w (.cells #[.int .i64 0, .int .i64 0, .slice none 0 0] 39))).trans hbut
  have hsz := hbut.size
  simp only [World.size_alloc] at hsz
  have HBut1 := hid hBut
  have HB41 := hid hb4
  clear hbut HT hBut hb4
  rcases hat with ⟨rfl, rfl⟩ | ⟨rfl, rfl⟩
  all_goals
    obtain ⟨q0, q1, q2, q3, q4⟩ := hB
    go_wp2_with fail
    refine (take_any set3 (x :: s) false _ R HB.out (by simp at hl ⊢; omega)).mono ?_
    rintro e w5 ⟨rfl, hB5, hbut5⟩
    rw [HT3.out] at hB5 ⊢
    have hs5 := hbut5.size
    have H45 := hid (box3_but hbut5 (by omega) HB41.out)
    have HBut5 := hid (HBut1.out.trans hbut5)
    have HB5 := hid hB5
    clear hbut5 q0 q1 q2 q3 q4
    obtain ⟨q0, q1, q2, q3, q4⟩ := hB5
    rcases hat3 with rfl | rfl
    all_goals
      go_wp2_with fail
      refine (HI.out _ HB5.out).mono ?_
      rintro e w2 ⟨v2, t2, r2, b2, rfl, hn2, hB2, hbut2, hr2, hE2⟩
      obtain ⟨a2, n2, rfl⟩ := TrIn_shape hn2.any
      have hs2 := hbut2.size
      have hb4' := box3_but hbut2 (by omega) H45.out
      have HBT := hid (HBut5.out.trans hbut2)
      have HE := hid hE2
      have HB2 := hid hB2
      have HN2 := hid (hn2.mono (B' := w.heap.size + 1) (by omega))
      clear hn2 hB2 hbut2 hE2
      go_wp2_with fail
      refine (mk_any _ (by unfold i64; omega) [t2] _ _ 1 (w.heap.size + 1) (own_one HN2.out) (by simp; omega) (by simp) (by simp [maxLen]) (by simp)).mono ?_
      rintro e w3 ⟨v3, rfl, hn3, hb3⟩
      obtain ⟨a3, n3, hsh⟩ := TrIn_shapeMk hn3.any
      obtain rfl := hsh
      simp only [List.length_cons, List.length_nil, Nat.zero_add] at hn3 ⊢
      replace hb3 := below_next (below_alloc _ _) hb3
      have b4 := box3_next hb3 hb4'
      have HN3 := hid hn3
      have HB3 := hid (box2_next hb3 HB2.out)
      have HBT3 := hid (HBT.out.next hb3)
      obtain ⟨z0, z1, z2, z3, z4, z5, z6⟩ := id b4
      clear hb3 hn3 hb4'
      go_wp2_with fail
      first
        | obtain ⟨y0, y1, y2, y3, _⟩ := box3_set2 (box3_set1 (box3_set0 b4 (.int .i64 6)) (.int .i64 0)) (.slice a3 1 n3); refine bodyPost_ret (v := .agg #[.int .i64 6, .int .i64 0, .slice a3 1 n3]) (by simp [results, Try.results63, go_sem, y1, y2, y3]) rfl ?_
          exact rd_end hRl HN3.out HB3.out HBT3.out (by simp; omega) (one_eq E.out E3.out HE.out) _ _ _
        | obtain ⟨y0, y1, y2, y3, _⟩ := box3_set2 (box3_set1 (box3_set0 b4 (.int .i64 8)) (.int .i64 0)) (.slice a3 1 n3); refine bodyPost_ret (v := .agg #[.int .i64 8, .int .i64 0, .slice a3 1 n3]) (by simp [results, Try.results63, go_sem, y1, y2, y3]) rfl ?_
          exact rd_end hRl HN3.out HB3.out HBT3.out (by simp; omega) (one_eq E.out E3.out HE.out) _ _ _
        | obtain ⟨y0, y1, y2, y3, _⟩ := box3_set2 (box3_set1 (box3_set0 b4 (.int .i64 9)) (.int .i64 0)) (.slice a3 1 n3); refine bodyPost_ret (v := .agg #[.int .i64 9, .int .i64 0, .slice a3 1 n3]) (by simp [results, Try.results63, go_sem, y1, y2, y3]) rfl ?_
          exact rd_end hRl HN3.out HB3.out HBT3.out (by simp; omega) (one_eq E.out E3.out HE.out) _ _ _
        | obtain ⟨y0, y1, y2, y3, _⟩ := box3_set2 (box3_set1 (box3_set0 b4 (.int .i64 11)) (.int .i64 0)) (.slice a3 1 n3); refine bodyPost_ret (v := .agg #[.int .i64 11, .int .i64 0, .slice a3 1 n3]) (by simp [results, Try.results63, go_sem, y1, y2, y3]) rfl ?_
          exact rd_end hRl HN3.out HB3.out HBT3.out (by simp; omega) (one_eq E.out E3.out HE.out) _ _ _

set_option maxRecDepth 100000 in
set_option maxHeartbeats 4000000 in
theorem rd_ptwo (n : Nat) (ih : RdT n) (c : UInt8) (f at1 : Int) (hc : (c = 69 ∧ at1 = 6 ∧ f = 6) ∨ (c = 65 ∧ at1 = 7 ∧ f = 9)) (w : World) (s : List UInt8) (R : Nat) (d : Int) (hR : Box2 w R (.string (bs (c :: 40 :: s))) (.bool false)) (hl : (c :: 40 :: s : List UInt8).length ≤ 1048576) (hd : d ≤ 6) (hdn : d = 7 - (n + 1 : Nat)) (hd3 : -1000 ≤ d) :
    Calls Try.prog 63 #[.pointer (some ⟨R, 0, none⟩), .int .i64 d] w (RdPost (rdB (n + 1)) (c :: 40 :: s) false R w) := by
  have HR := hid (show ∀ o, Box2 (w.alloc o) R (.string (bs (c :: 40 :: s))) (.bool false) from fun o => box2_next (below_alloc _ _) hR)
  have hRl := hR.1
  clear hR
  have hd2 : ¬ (d > 6) := by omega
  have HT := hid (show takeB set1 (c :: 40 :: s) false = (at1, 40 :: s, false) by rcases hc with ⟨rfl, rfl, rfl⟩ | ⟨rfl, rfl, rfl⟩ <;> rfl)
  have e1 : (⟨#[84, 112, 113, 114, 33, 40, 69, 65]⟩ : ByteArray) = bs set1 := rfl
  have e2 : (⟨#[88, 40, 71]⟩ : ByteArray) = bs set3 := rfl
  have e3 : (⟨#[85]⟩ : ByteArray) = bs set4 := rfl
  have E := hid (show rdB (n + 1) (c :: 40 :: s) = rdB2 (rdB n) f (40 :: s) by rcases hc with ⟨rfl, rfl, rfl⟩ | ⟨rfl, rfl, rfl⟩ <;> simp [rdB])
  have hat : (at1 = 6 ∧ f = 6) ∨ (at1 = 7 ∧ f = 9) := by omega
  have HT3 := hid (show takeB set3 (40 :: s) false = (1, s, false) from rfl)
  have E3 := hid (show ∀ rd k, rdB2 rd k (40 :: s) = pairWith rd (fun o => if o = 85 then some (k + 1) else none) s by intro rd k; simp [rdB2])
  have hls : s.length ≤ 1048576 := by simp at hl; omega
  have HPA := hid (fun (w : World) (hR : Box2 w R (.string (bs s)) (.bool false)) => pair_any n ih set4 set4_le w s R d hR hls hd hdn hd3)
  clear hc hdn ih
  go_enter Try.func63, Try.ntmps63
  go_wp2_with fail
  refine (take_any set1 (c :: 40 :: s) false _ R (HR.out _) hl).mono ?_
  rintro e w1 ⟨rfl, hB, hbut⟩
  rw [HT.out] at hB ⊢
  have hb4 := box3_but hbut (by omega) (box3_new w (.int .i64 0) (.int .i64 0) (.slice none 0 0) 39)
  have HB := hid hB
  have hBut := (But.of (below_alloc w (.cells #[.int .i64 0, .int .i64 0, .slice none 0 0] 39))).trans hbut
  have hsz := hbut.size
  simp only [World.size_alloc] at hsz
  have HBut1 := hid hBut
  have HB41 := hid hb4
  clear hbut HT hBut hb4
  rcases hat with ⟨rfl, rfl⟩ | ⟨rfl, rfl⟩
  · obtain ⟨q0, q1, q2, q3, q4⟩ := hB
    go_wp2_with fail
    refine (take_any set3 (40 :: s) false _ R HB.out (by simp at hl ⊢; omega)).mono ?_
    rintro e w5 ⟨rfl, hB5, hbut5⟩
    rw [HT3.out] at hB5 ⊢
    have hs5 := hbut5.size
    have H45 := hid (box3_but hbut5 (by omega) HB41.out)
    have HBut5 := hid (HBut1.out.trans hbut5)
    have HB5 := hid hB5
    clear hbut5 q0 q1 q2 q3 q4
    go_wp2_with fail
    refine (HPA.out _ HB5.out).mono ?_
    rintro e w2 ⟨v1, v2, t1, t2, at2, r, b, rfl, hTw, hB2, hbut2, hr, ha1, ha2, hP⟩
    obtain ⟨hpe, _⟩ := hP (fun o : UInt8 => if o = 85 then some (7 : Int) else none) (fun _ => 7) 1 (set4_op 7)
    have hs2 := hbut2.size
    have hx1 : ∃ a c, v1 = .agg #[.int .i64 t1.kind, .int .i64 t1.val, .slice a t1.kids.length c] := by obtain ⟨_, _, h1, _⟩ := hTw; exact TrIn_shape h1.any
    have hx2 : ∃ a c, v2 = .agg #[.int .i64 t2.kind, .int .i64 t2.val, .slice a t2.kids.length c] := by obtain ⟨_, _, _, h2, _⟩ := hTw; exact TrIn_shape h2.any
    obtain ⟨a2, n2, rfl⟩ := hx1
    obtain ⟨a4, n4, rfl⟩ := hx2
    have H4 := hid (box3_but hbut2 (by omega) H45.out)
    have HBut := hid (HBut5.out.trans hbut2)
    have HTw := hid hTw
    have HB2 := hid hB2
    have HE := hid hpe
    clear hbut2 hTw hB2 hP hpe
    go_wp2_with fail
    have hN2' := two_below (two_below HTw.out (below_alloc _ (.cells #[.int .i64 t1.kind, .int .i64 t1.val, .slice a2 t1.kids.length n2] 39))) (below_alloc _ (.cells #[.int .i64 t2.kind, .int .i64 t2.val, .slice a4 t2.kids.length n4] 39))
    have HX := hid (own_two (b' := w2.heap.size + 1 + 1) (ty := 39) hN2' (by simp))
    clear hN2'
    refine (mk_any 7 (by unfold i64; omega) [t1, t2] _ _ 2 w5.heap.size HX.out (by simp; omega) (by simp) (by simp [maxLen]) (by simp)).mono ?_
    rintro e w3 ⟨v3, rfl, hn3, hb3⟩
    obtain ⟨a3, n3, rfl⟩ := TrIn_shapeMk hn3.any
    simp only [List.length_cons, List.length_nil, Nat.zero_add, Nat.reduceAdd] at hn3 ⊢
    replace hb3 := below_next (below_a (below_a (below_alloc w2 (.cells #[.int .i64 t1.kind, .int .i64 t1.val, .slice a2 t1.kids.length n2] 39)) (.cells #[.int .i64 t2.kind, .int .i64 t2.val, .slice a4 t2.kids.length n4] 39)) _) hb3
    have b4 := box3_next hb3 H4.out
    have HN3 := hid (hn3.mono (B' := w.heap.size + 1) (by omega))
    have HB3 := hid (box2_next hb3 HB2.out)
    have HBT3 := hid (HBut.out.next hb3)
    obtain ⟨z0, z1, z2, z3, z4, z5, z6⟩ := id b4
    clear hb3 hn3
    go_wp2_with fail
    obtain ⟨y0, y1, y2, y3, _⟩ := box3_set2 (box3_set1 (box3_set0 b4 (.int .i64 7)) (.int .i64 0)) (.slice a3 2 n3); refine bodyPost_ret (v := .agg #[.int .i64 7, .int .i64 0, .slice a3 2 n3]) (by simp [results, Try.results63, go_sem, y1, y2, y3]) rfl ?_
    exact rd_end hRl HN3.out HB3.out HBT3.out (by simp; omega) (by rw [E.out, E3.out]; simpa using HE.out) _ _ _
  · obtain ⟨q0, q1, q2, q3, q4⟩ := hB
    go_wp2_with fail
    refine (take_any set3 (40 :: s) false _ R HB.out (by simp at hl ⊢; omega)).mono ?_
    rintro e w5 ⟨rfl, hB5, hbut5⟩
    rw [HT3.out] at hB5 ⊢
    have hs5 := hbut5.size
    have H45 := hid (box3_but hbut5 (by omega) HB41.out)
    have HBut5 := hid (HBut1.out.trans hbut5)
    have HB5 := hid hB5
    clear hbut5 q0 q1 q2 q3 q4
    go_wp2_with fail
    refine (HPA.out _ HB5.out).mono ?_
    rintro e w2 ⟨v1, v2, t1, t2, at2, r, b, rfl, hTw, hB2, hbut2, hr, ha1, ha2, hP⟩
    obtain ⟨hpe, _⟩ := hP (fun o : UInt8 => if o = 85 then some (10 : Int) else none) (fun _ => 10) 1 (set4_op 10)
    have hs2 := hbut2.size
    have hx1 : ∃ a c, v1 = .agg #[.int .i64 t1.kind, .int .i64 t1.val, .slice a t1.kids.length c] := by obtain ⟨_, _, h1, _⟩ := hTw; exact TrIn_shape h1.any
    have hx2 : ∃ a c, v2 = .agg #[.int .i64 t2.kind, .int .i64 t2.val, .slice a t2.kids.length c] := by obtain ⟨_, _, _, h2, _⟩ := hTw; exact TrIn_shape h2.any
    obtain ⟨a2, n2, rfl⟩ := hx1
    obtain ⟨a4, n4, rfl⟩ := hx2
    have H4 := hid (box3_but hbut2 (by omega) H45.out)
    have HBut := hid (HBut5.out.trans hbut2)
    have HTw := hid hTw
    have HB2 := hid hB2
    have HE := hid hpe
    clear hbut2 hTw hB2 hP hpe
    go_wp2_with fail
    have hN2' := two_below (two_below HTw.out (below_alloc _ (.cells #[.int .i64 t1.kind, .int .i64 t1.val, .slice a2 t1.kids.length n2] 39))) (below_alloc _ (.cells #[.int .i64 t2.kind, .int .i64 t2.val, .slice a4 t2.kids.length n4] 39))
    have HX := hid (own_two (b' := w2.heap.size + 1 + 1) (ty := 39) hN2' (by simp))
    clear hN2'
    refine (mk_any 10 (by unfold i64; omega) [t1, t2] _ _ 2 w5.heap.size HX.out (by simp; omega) (by simp) (by simp [maxLen]) (by simp)).mono ?_
    rintro e w3 ⟨v3, rfl, hn3, hb3⟩
    obtain ⟨a3, n3, rfl⟩ := TrIn_shapeMk hn3.any
    simp only [List.length_cons, List.length_nil, Nat.zero_add, Nat.reduceAdd] at hn3 ⊢
    replace hb3 := below_next (below_a (below_a (below_alloc w2 (.cells #[.int .i64 t1.kind, .int .i64 t1.val, .slice a2 t1.kids.length n2] 39)) (.cells #[.int .i64 t2.kind, .int .i64 t2.val, .slice a4 t2.kids.length n4] 39)) _) hb3
    have b4 := box3_next hb3 H4.out
    have HN3 := hid (hn3.mono (B' := w.heap.size + 1) (by omega))
    have HB3 := hid (box2_next hb3 HB2.out)
    have HBT3 := hid (HBut.out.next hb3)
    obtain ⟨z0, z1, z2, z3, z4, z5, z6⟩ := id b4
    clear hb3 hn3
    go_wp2_with fail
    obtain ⟨y0, y1, y2, y3, _⟩ := box3_set2 (box3_set1 (box3_set0 b4 (.int .i64 10)) (.int .i64 0)) (.slice a3 2 n3); refine bodyPost_ret (v := .agg #[.int .i64 10, .int .i64 0, .slice a3 2 n3]) (by simp [results, Try.results63, go_sem, y1, y2, y3]) rfl ?_
    exact rd_end hRl HN3.out HB3.out HBT3.out (by simp; omega) (by rw [E.out, E3.out]; simpa using HE.out) _ _ _
end Branching
end Go.Proofs.Ythjhokifonjeaaa
