/- The reference's reader of branching-time formulas. Conditions: those of each contract. -/
import Derived.Test.YthjhokifonjeaaaParseBP
import Derived.Test.YthjhokifonjeaaaParseBI
import Derived.Deep.DeepCutAuto
import Derived.Deep.CutBlock
import Derived.Deep.RegionHeld3
namespace Go.Proofs.Ythjhokifonjeaaa
open Go.RowKit
namespace Branching

theorem own_node {B k' : Nat} {k : Int} {w : World} {t : Tr} {x y z : Value} {ty : TypeId} (hk : i64 k) (h : NewTr B t (.agg #[x, y, z]) w) (hB : B ≤ w.heap.size) (hb : k' = w.heap.size) : NewTr B (.mk k 0 [t]) (.agg #[.int .i64 k, .int .i64 0, .slice (some ⟨k', 0, none⟩) 1 1]) (w.alloc (.cells #[x, y, z] ty)) := by
  subst hb
  obtain ⟨bs, h1, h2⟩ := h
  obtain ⟨bs', g1, g2⟩ := TrOwn_new (w := w.alloc (.cells #[x, y, z] ty)) (R := w.heap.size) (c := 1) (kids := [t]) (bs := bs) hk (show i64 0 by unfold i64; omega) (by simp) (by simp [maxLen]) (row_three w x y z ty)
    (by rw [TrsOwn_cons]; exact ⟨bs, [], by simp, by simp, by simpa using TrOwn_below (below_alloc _ _) h1, (TrsOwn_nil ..).2 rfl⟩) (fun e => by have := TrOwn_lt.1 _ _ _ h1 _ e; omega)
  exact ⟨bs', g1, fun b hb => by rcases g2 b hb with rfl | h; exact hB; exact h2 b h⟩

/-- at place 'at' of a text: the tree that is read there, and the place behind it; -1 if there is none -/
def PsPost (rd : List UInt8 → Option (Tr × List UInt8)) (S : List UInt8) (i : Nat) (w : World) (e : Ending) (w' : World) : Prop :=
  ∃ v t nx, e = .returned (.tuple #[v, .int .i64 nx]) ∧ NewTr w.heap.size t v w' ∧ Below w.heap.size w w' ∧ ((rd (S.drop i) = none ∧ nx = -1) ∨ ∃ k : Nat, rd (S.drop i) = some (t, S.drop k) ∧ nx = k ∧ k ≤ S.length)
def PsT (n : Nat) : Prop := ∀ (w : World) (S : List UInt8) (i : Nat) (d : Int), i ≤ S.length → S.length ≤ 1048576 → d = n → Calls Try.prog 69 #[.string (bs S), .int .i64 i, .int .i64 d] w (PsPost (rdB n) S i w)

theorem ps_end {rd : List UInt8 → Option (Tr × List UInt8)} {S : List UInt8} {i : Nat} {w W : World} {t : Tr} {x : Value} {nx : Int} (hn : NewTr (w.heap.size + 1) t x W) (hb : Below w.heap.size w W) (hE : (rd (S.drop i) = none ∧ nx = -1) ∨ ∃ k : Nat, rd (S.drop i) = some (t, S.drop k) ∧ nx = k ∧ k ≤ S.length) (u0 u1 u2 : Value) :
    PsPost rd S i w (.returned (.tuple #[x, .int .i64 nx])) (((W.setCell ⟨w.heap.size, 0, none⟩ u0).setCell ⟨w.heap.size, 1, none⟩ u1).setCell ⟨w.heap.size, 2, none⟩ u2) :=
  ⟨x, t, nx, rfl, (newTr_set3 hn (by omega) _ _ _).mono (by omega), below_set3 hb (by omega) _ _ _, hE⟩

set_option maxRecDepth 100000 in
set_option maxHeartbeats 1000000 in
theorem ps_none (n : Nat) (S : List UInt8) (i : Nat) (d : Int) (w : World) (hd : d < 1 ∨ S.length ≤ i) (hi : i ≤ 1048576) (hl : S.length ≤ 1048576) (hE : rdB n (S.drop i) = none) : Calls Try.prog 69 #[.string (bs S), .int .i64 i, .int .i64 d] w (PsPost (rdB n) S i w) := by
  have hsz : (bs S).size = S.length := bs_size S
  have E := hid hE
  by_cases h1 : d < 1
  · go_enter Try.func69, Try.ntmps69
    go_wp2_with fail
    refine bodyPost_ret (v := .tuple #[.agg #[.int .i64 0, .int .i64 0, .slice none 0 0], .int .i64 (-1)]) (by simp [results, Try.results69, go_sem]) rfl ?_
    exact ⟨_, zeroT, _, rfl, zero_new _ _, below_alloc _ _, .inl ⟨E.out, rfl⟩⟩
  · have h2 : (S.length : Int) ≤ (i : Int) := by omega
    go_enter Try.func69, Try.ntmps69
    go_wp2_with fail
    refine bodyPost_ret (v := .tuple #[.agg #[.int .i64 0, .int .i64 0, .slice none 0 0], .int .i64 (-1)]) (by simp [results, Try.results69, go_sem]) rfl ?_
    exact ⟨_, zeroT, _, rfl, zero_new _ _, below_alloc _ _, .inl ⟨E.out, rfl⟩⟩

set_option maxRecDepth 100000 in
set_option maxHeartbeats 1000000 in
theorem ps_true (n : Nat) (S : List UInt8) (i : Nat) (d : Int) (w : World) (hd : 1 ≤ d) (hl : S.length ≤ 1048576) (hc : S[i]? = some 84) : Calls Try.prog 69 #[.string (bs S), .int .i64 i, .int .i64 d] w (PsPost (rdB (n + 1)) S i w) := by
  have hsz : (bs S).size = S.length := bs_size S
  have hi : i < S.length := (List.getElem?_eq_some_iff.1 hc).1
  have hg := bs_at hc
  have E := hid (show rdB (n + 1) (S.drop i) = some (.mk 1 0 [], S.drop (i + 1)) by rw [drop_at hc]; simp [rdB])
  have h1 : ¬ (d < 1) := by omega
  have h2 : ¬ ((S.length : Int) ≤ (i : Int)) := by omega
  have h3 : (i : Int) < (S.length : Int) := by omega
  clear hc
  go_enter Try.func69, Try.ntmps69
  go_wp2_with fail
  refine bodyPost_ret (v := .tuple #[.agg #[.int .i64 1, .int .i64 0, .slice none 0 0], .int .i64 ((i : Int) + 1)]) (by simp [results, Try.results69, go_sem]) rfl ?_
  exact ⟨_, _, _, rfl, leaf_new _ _ (by unfold i64; omega) (by unfold i64; omega), below_alloc _ _, .inr ⟨i + 1, E.out, by omega, by omega⟩⟩

set_option maxRecDepth 100000 in
set_option maxHeartbeats 1000000 in
theorem ps_atom (n : Nat) (c : UInt8) (a : Int) (hca : (c = 112 ∧ a = 0) ∨ (c = 113 ∧ a = 1) ∨ (c = 114 ∧ a = 2)) (S : List UInt8) (i : Nat) (d : Int) (w : World) (hd : 1 ≤ d) (hl : S.length ≤ 1048576) (hc : S[i]? = some c) : Calls Try.prog 69 #[.string (bs S), .int .i64 i, .int .i64 d] w (PsPost (rdB (n + 1)) S i w) := by
  have hsz : (bs S).size = S.length := bs_size S
  have hi : i < S.length := (List.getElem?_eq_some_iff.1 hc).1
  have hg := bs_at hc
  have E := hid (show rdB (n + 1) (S.drop i) = some (.mk 2 a [], S.drop (i + 1)) by rw [drop_at hc]; rcases hca with ⟨rfl, rfl⟩ | ⟨rfl, rfl⟩ | ⟨rfl, rfl⟩ <;> simp [rdB])
  have h1 : ¬ (d < 1) := by omega
  have h2 : ¬ ((S.length : Int) ≤ (i : Int)) := by omega
  have h3 : (i : Int) < (S.length : Int) := by omega
  clear hc
  rcases hca with ⟨rfl, rfl⟩ | ⟨rfl, rfl⟩ | ⟨rfl, rfl⟩
  · go_enter Try.func69, Try.ntmps69
    go_wp2_with fail
    refine bodyPost_ret (v := .tuple #[.agg #[.int .i64 2, .int .i64 0, .slice none 0 0], .int .i64 ((i : Int) + 1)]) (by simp [results, Try.results69, go_sem]) rfl ?_
    exact ⟨_, _, _, rfl, leaf_new _ _ (by unfold i64; omega) (by unfold i64; omega), below_alloc _ _, .inr ⟨i + 1, E.out, by omega, by omega⟩⟩
  · go_enter Try.func69, Try.ntmps69
    go_wp2_with fail
    refine bodyPost_ret (v := .tuple #[.agg #[.int .i64 2, .int .i64 1, .slice none 0 0], .int .i64 ((i : Int) + 1)]) (by simp [results, Try.results69, go_sem]) rfl ?_
    exact ⟨_, _, _, rfl, leaf_new _ _ (by unfold i64; omega) (by unfold i64; omega), below_alloc _ _, .inr ⟨i + 1, E.out, by omega, by omega⟩⟩
  · go_enter Try.func69, Try.ntmps69
    go_wp2_with fail
    refine bodyPost_ret (v := .tuple #[.agg #[.int .i64 2, .int .i64 2, .slice none 0 0], .int .i64 ((i : Int) + 1)]) (by simp [results, Try.results69, go_sem]) rfl ?_
    exact ⟨_, _, _, rfl, leaf_new _ _ (by unfold i64; omega) (by unfold i64; omega), below_alloc _ _, .inr ⟨i + 1, E.out, by omega, by omega⟩⟩


set_option maxRecDepth 100000 in
set_option maxHeartbeats 1000000 in
theorem ps_else (n : Nat) (c : UInt8) (S : List UInt8) (i : Nat) (d : Int) (w : World) (hd : 1 ≤ d) (hl : S.length ≤ 1048576) (hc : S[i]? = some c) (n1 : c ≠ 84) (n2 : ¬ (112 ≤ c ∧ c ≤ 114)) (n3 : c ≠ 33) (n4 : c ≠ 40) (n5 : c ≠ 69) (n6 : c ≠ 65) (hU : Un S i 0 0) : Calls Try.prog 69 #[.string (bs S), .int .i64 i, .int .i64 d] w (PsPost (rdB (n + 1)) S i w) := by
  have hsz : (bs S).size = S.length := bs_size S
  have hi : i < S.length := (List.getElem?_eq_some_iff.1 hc).1
  have hg := bs_at hc
  have E := hid (show rdB (n + 1) (S.drop i) = none by rw [drop_at hc]; simp only [rdB]; rw [if_neg n1, if_neg n2, if_neg n3, if_neg n4, if_neg n5, if_neg n6])
  have h1 : ¬ (d < 1) := by omega
  have h2 : ¬ ((S.length : Int) ≤ (i : Int)) := by omega
  have h3 : (i : Int) < (S.length : Int) := by omega
  have e1 : ((c.toNat : Int) == 84) = false := u8_ne n1
  have e2 : ((c.toNat : Int) == 40) = false := u8_ne n4
  have e2' : ((c.toNat : Int) != 40) = true := by simp only [bne, e2]; rfl
  have e5 : ((c.toNat : Int) == 69) = false := u8_ne n5
  have e6 : ((c.toNat : Int) == 65) = false := u8_ne n6
  have HU := hid hU
  have e3 : ¬ (112 ≤ (c.toNat : Int)) ∨ (112 ≤ (c.toNat : Int) ∧ ¬ ((c.toNat : Int) ≤ 114)) := by
    rw [UInt8.le_iff_toNat_le, UInt8.le_iff_toNat_le] at n2
    have e1 : (112 : UInt8).toNat = 112 := rfl
    have e2 : (114 : UInt8).toNat = 114 := rfl
    omega
  clear hc n1 n2 n3 n4 n5 n6 hU
  rcases e3 with e3 | ⟨e3, e7⟩
  all_goals
    go_enter Try.func69, Try.ntmps69
    go_wp2_with fail
    refine (HU.out _).mono ?_
    rintro e w1 ⟨rfl, rfl⟩
    go_wp2_with fail
    refine bodyPost_ret (v := .tuple #[.agg #[.int .i64 0, .int .i64 0, .slice none 0 0], .int .i64 (-1)]) (by simp [results, Try.results69, go_sem]) rfl ?_
    exact ⟨_, zeroT, _, rfl, zero_new _ _, below_alloc _ _, .inl ⟨E.out, rfl⟩⟩

/-- E, A, and no bracket behind -/
theorem rdB2_none {rd : List UInt8 → Option (Tr × List UInt8)} {k : Int} {s : List UInt8} (h : s = [] ∨ ∃ x s1, s = x :: s1 ∧ x ≠ 88 ∧ x ≠ 40 ∧ x ≠ 71) : rdB2 rd k s = none := by
  rcases h with rfl | ⟨x, s1, rfl, h1, h2, h3⟩
  · rfl
  · simp [rdB2, h1, h2, h3]

set_option maxRecDepth 100000 in
set_option maxHeartbeats 1000000 in
theorem ps_hend (n : Nat) (c : UInt8) (hca : c = 69 ∨ c = 65) (S : List UInt8) (i : Nat) (d : Int) (w : World) (hd : 1 ≤ d) (hl : S.length ≤ 1048576) (hc : S[i]? = some c) (he : S.length ≤ i + 1) (hU : Un S i 0 0) : Calls Try.prog 69 #[.string (bs S), .int .i64 i, .int .i64 d] w (PsPost (rdB (n + 1)) S i w) := by
  have hsz : (bs S).size = S.length := bs_size S
  have hi : i < S.length := (List.getElem?_eq_some_iff.1 hc).1
  have hg := bs_at hc
  have E := hid (show rdB (n + 1) (S.drop i) = none by
    rw [drop_at hc, List.drop_of_length_le he]
    rcases hca with rfl | rfl <;> simp [rdB, rdB2])
  have h1 : ¬ (d < 1) := by omega
  have h2 : ¬ ((S.length : Int) ≤ (i : Int)) := by omega
  have h3 : (i : Int) < (S.length : Int) := by omega
  have h4 : (S.length : Int) ≤ (i : Int) + 1 := by omega
  have HU := hid hU
  clear hc hU
  rcases hca with rfl | rfl
  all_goals
    go_enter Try.func69, Try.ntmps69
    go_wp2_with fail
    refine (HU.out _).mono ?_
    rintro e w1 ⟨rfl, rfl⟩
    go_wp2_with fail
    refine bodyPost_ret (v := .tuple #[.agg #[.int .i64 0, .int .i64 0, .slice none 0 0], .int .i64 (-1)]) (by simp [results, Try.results69, go_sem]) rfl ?_
    exact ⟨_, zeroT, _, rfl, zero_new _ _, below_alloc _ _, .inl ⟨E.out, rfl⟩⟩

set_option maxRecDepth 100000 in
set_option maxHeartbeats 1000000 in
theorem ps_hno (n : Nat) (c x : UInt8) (hca : c = 69 ∨ c = 65) (S : List UInt8) (i : Nat) (d : Int) (w : World) (hd : 1 ≤ d) (hl : S.length ≤ 1048576) (hc : S[i]? = some c) (hx : S[i + 1]? = some x) (hx1 : x ≠ 88) (hx2 : x ≠ 71) (hx3 : x ≠ 40) (hU : Un S i 0 0) : Calls Try.prog 69 #[.string (bs S), .int .i64 i, .int .i64 d] w (PsPost (rdB (n + 1)) S i w) := by
  have hsz : (bs S).size = S.length := bs_size S
  have hi : i + 1 < S.length := (List.getElem?_eq_some_iff.1 hx).1
  have hg := bs_at hc
  have hg1 := bs_at hx
  have E := hid (show rdB (n + 1) (S.drop i) = none by
    rw [drop_at hc]
    have h := rdB2_none (rd := rdB n) (k := 6) (.inr ⟨x, _, drop_at hx, hx1, hx3, hx2⟩)
    have h' := rdB2_none (rd := rdB n) (k := 9) (.inr ⟨x, _, drop_at hx, hx1, hx3, hx2⟩)
    rcases hca with rfl | rfl
    · simp [rdB, h]
    · simp [rdB, h'])
  have h1 : ¬ (d < 1) := by omega
  have h2 : ¬ ((S.length : Int) ≤ (i : Int)) := by omega
  have h3 : (i : Int) < (S.length : Int) := by omega
  have h4 : ¬ ((S.length : Int) ≤ (i : Int) + 1) := by omega
  have h5 : (i : Int) + 1 < (S.length : Int) := by omega
  have e1 : ((x.toNat : Int) == 40) = false := u8_ne hx3
  have e2 : ((x.toNat : Int) != 40) = true := by simp only [bne, e1]; rfl
  have HU := hid hU
  clear hc hx hx1 hx2 hx3 hU
  rcases hca with rfl | rfl
  all_goals
    go_enter Try.func69, Try.ntmps69
    go_wp2_with fail
    refine (HU.out _).mono ?_
    rintro e w1 ⟨rfl, rfl⟩
    go_wp2_with fail
    refine bodyPost_ret (v := .tuple #[.agg #[.int .i64 0, .int .i64 0, .slice none 0 0], .int .i64 (-1)]) (by simp [results, Try.results69, go_sem]) rfl ?_
    exact ⟨_, zeroT, _, rfl, zero_new _ _, below_alloc _ _, .inl ⟨E.out, rfl⟩⟩

set_option maxRecDepth 100000 in
set_option maxHeartbeats 2000000 in
theorem ps_un (n : Nat) (ih : PsT n) (c : UInt8) (k : Int) (sz : Nat) (hcc : c = 33 ∨ c = 69 ∨ c = 65) (hk0 : 1 ≤ k ∧ k ≤ 11) (hsz0 : sz ≤ 2) (S : List UInt8) (i : Nat) (d : Int) (w : World) (hd : 1 ≤ d) (hdn : d = (n + 1 : Nat)) (hl : S.length ≤ 1048576) (hc : S[i]? = some c) (his : i + sz ≤ S.length) (hU : Un S i k sz) (hE : rdB (n + 1) (S.drop i) = oneWith (rdB n) k (S.drop (i + sz))) (hd9 : d ≤ 1000) : Calls Try.prog 69 #[.string (bs S), .int .i64 i, .int .i64 d] w (PsPost (rdB (n + 1)) S i w) := by
  have hsz : (bs S).size = S.length := bs_size S
  have hi : i < S.length := (List.getElem?_eq_some_iff.1 hc).1
  have hg := bs_at hc
  have E := hid hE
  have h1 : ¬ (d < 1) := by omega
  have h2 : ¬ ((S.length : Int) ≤ (i : Int)) := by omega
  have h3 : (i : Int) < (S.length : Int) := by omega
  have hk : i64 k := by unfold i64; omega
  have hkp : k > 0 := by omega
  have HI := hid (fun (w : World) => ih w S (i + sz) (d - 1) his hl (by omega))
  have ei : (i : Int) + (sz : Int) = ((i + sz : Nat) : Int) := by omega
  have HEI := hid ei
  have hszi : (sz : Int) ≤ 2 := by omega
  have b4 := box3_new w (.int .i64 0) (.int .i64 0) (.slice none 0 0) 39
  have e1 : ((c.toNat : Int) == 84) = false := by rcases hcc with rfl | rfl | rfl <;> rfl
  have e3 : ¬ (112 ≤ (c.toNat : Int)) := by rcases hcc with rfl | rfl | rfl <;> decide
  have HU := hid hU
  clear hc ih hdn ei hcc hU hE
  go_enter Try.func69, Try.ntmps69
  go_wp2_with fail
  refine (HU.out _).mono ?_
  rintro e w1 ⟨rfl, rfl⟩
  go_wp2_with fail
  rw [HEI.out]
  refine (HI.out _).mono ?_
  rintro e w2 ⟨v, t, nx, rfl, hn, hb, hE⟩
  obtain ⟨a2, n2, rfl⟩ := TrIn_shape hn.any
  have hfin := hid (show (rdB (n + 1) (S.drop i) = none ∧ nx = -1) ∨ ∃ q : Nat, rdB (n + 1) (S.drop i) = some (.mk k 0 [t], S.drop q) ∧ nx = q ∧ q ≤ S.length by
    rw [E.out]
    rcases hE with ⟨h1, h2⟩ | ⟨q, h1, h2, h3⟩
    · exact .inl ⟨by unfold oneWith; rw [h1], h2⟩
    · exact .inr ⟨q, by unfold oneWith; rw [h1], h2, h3⟩)
  have hsz2 := hb.size
  simp only [World.size_alloc] at hsz2
  have HN := hid (hn.mono (B' := w.heap.size + 1) (by simp))
  have HB := hid (below_next (below_alloc _ _) hb)
  have H4 := hid (box3_next hb b4)
  clear hn hb hE b4
  go_upto_region 10 with fail
  refine wp_gen (fun W => Below w.heap.size w W ∧ Box3 W w.heap.size (.int .i64 0) (.int .i64 0) (.slice none 0 0) ∧ Box3 W w2.heap.size (.int .i64 t.kind) (.int .i64 t.val) (.slice a2 t.kids.length n2) ∧ NewTr (w.heap.size + 1) t (.agg #[.int .i64 t.kind, .int .i64 t.val, .slice a2 t.kids.length n2]) W) ⟨below_a HB.out _, box3_next (below_alloc _ _) H4.out, box3_new .., HN.out.below (below_alloc _ _)⟩ ?_
  rintro W ⟨BW, hb4, hb9, hnW⟩
  have hl4 := hb4.1
  have hz := hid (fun (u0 u1 u2 : Value) => And.intro (own_node (k' := W.heap.size) (ty := 39) hk (newTr_set3 (P := w.heap.size) hnW (by omega) u0 u1 u2) (by simp; omega) (by simp)) (box3_next (below_alloc (((W.setCell ⟨w.heap.size, 0, none⟩ u0).setCell ⟨w.heap.size, 1, none⟩ u1).setCell ⟨w.heap.size, 2, none⟩ u2) (.cells #[.int .i64 t.kind, .int .i64 t.val, .slice a2 t.kids.length n2] 39)) (box3_set2 (box3_set1 (box3_set0 hb4 u0) u1) u2)))
  have HBW := hid BW
  obtain ⟨x0, x1, x2, x3, _⟩ := hb9
  obtain ⟨z0, z1, z2, z3, z4, z5, z6⟩ := hb4
  clear BW
  go_wp2_with fail
  obtain ⟨hnew, hbx⟩ := hz.out (.int .i64 k) (.int .i64 0) (.slice (some ⟨W.heap.size, 0, none⟩) 1 1)
  obtain ⟨y0, y1, y2, y3, _⟩ := hbx
  refine bodyPost_ret (v := .tuple #[.agg #[.int .i64 k, .int .i64 0, .slice (some ⟨W.heap.size, 0, none⟩) 1 1], .int .i64 nx]) (by simp [results, Try.results69, go_sem, y1, y2, y3]) rfl ?_
  exact ⟨_, _, nx, rfl, hnew.mono (by omega), below_a (below_set3 HBW.out (Nat.le_refl _) _ _ _) _, hfin.out⟩
end Branching
end Go.Proofs.Ythjhokifonjeaaa
