/- The reference's reader of expressions. Conditions: those of each contract. -/
import Derived.Test.YtplmjliaochepaaDoorTakeP
import Derived.Test.YtplmjliaochepaaDoorParseE0
import Derived.Test.YtplmjliaochepaaDoorExprTxt
import Derived.Deep.DeepCutAuto
import Derived.Deep.CutBlock
namespace Go.Proofs.YtplmjliaochepaaDoor
open Go.RowKit
namespace Expr

theorem u8_neE {c : UInt8} {n : UInt8} (h : c ≠ n) : ((c.toNat : Int) == (n.toNat : Int)) = false := by
  have : c.toNat ≠ n.toNat := fun e => h (UInt8.toNat_inj.1 e)
  simp; omega
theorem bs_at {S : List UInt8} {i : Nat} {c : UInt8} (h : S[i]? = some c) : ∀ hi : i < (bs S).size, (bs S)[i]'hi = c := by
  intro hi
  have h1 : (bs S)[i] = S[i]'(by rw [bs_size] at hi; exact hi) := rfl
  rw [h1]
  exact (List.getElem?_eq_some_iff.1 h).2
theorem drop_at {S : List UInt8} {i : Nat} {c : UInt8} (h : S[i]? = some c) : S.drop i = c :: S.drop (i + 1) := by
  obtain ⟨h1, h2⟩ := List.getElem?_eq_some_iff.1 h
  rw [List.drop_eq_getElem_cons h1, h2]
theorem cut_at {S : List UInt8} {i : Nat} {c : UInt8} (h : S[i]? = some c) : (bs S).extract i (i + 1) = bs [c] := by
  obtain ⟨h1, h2⟩ := List.getElem?_eq_some_iff.1 h
  apply ByteArray.ext
  apply Array.ext'
  simp [bs, ByteArray.data_extract]
  rw [List.drop_eq_getElem_cons h1, h2]
  simp

/-- at place 'at' of a text: the tree that is read there, and the place behind it; -1 if there is none -/
def PsPost (rd : List UInt8 → Option (Tr × List UInt8)) (S : List UInt8) (i : Nat) (w : World) (e : Ending) (w' : World) : Prop :=
  ∃ v t nx, e = .returned (.tuple #[v, .int .i64 nx]) ∧ NewTr w.heap.size t v w' ∧ Below w.heap.size w w' ∧ ((rd (S.drop i) = none ∧ nx = -1) ∨ ∃ k : Nat, rd (S.drop i) = some (t, S.drop k) ∧ nx = k ∧ k ≤ S.length)
def PsT (n : Nat) : Prop := ∀ (w : World) (S : List UInt8) (i : Nat) (d : Int), i ≤ S.length → S.length ≤ 1048576 → d = n → Calls Tryd.prog 24 #[.string (bs S), .int .i64 i, .int .i64 d] w (PsPost (rdE 57 n) S i w)

theorem ps_end {rd : List UInt8 → Option (Tr × List UInt8)} {S : List UInt8} {i : Nat} {w W : World} {t : Tr} {x : Value} {nx : Int} (hn : NewTr (w.heap.size + 1) t x W) (hb : Below w.heap.size w W) (hE : (rd (S.drop i) = none ∧ nx = -1) ∨ ∃ k : Nat, rd (S.drop i) = some (t, S.drop k) ∧ nx = k ∧ k ≤ S.length) (u0 u1 u2 : Value) :
    PsPost rd S i w (.returned (.tuple #[x, .int .i64 nx])) (((W.setCell ⟨w.heap.size, 0, none⟩ u0).setCell ⟨w.heap.size, 1, none⟩ u1).setCell ⟨w.heap.size, 2, none⟩ u2) :=
  ⟨x, t, nx, rfl, (newTr_set3 hn (by omega) _ _ _).mono (by omega), below_set3 hb (by omega) _ _ _, hE⟩

set_option maxRecDepth 100000 in
set_option maxHeartbeats 1000000 in
theorem ps_none (n : Nat) (S : List UInt8) (i : Nat) (d : Int) (w : World) (hd : d < 1 ∨ S.length ≤ i) (hi : i ≤ 1048576) (hl : S.length ≤ 1048576) (hE : rdE 57 n (S.drop i) = none) : Calls Tryd.prog 24 #[.string (bs S), .int .i64 i, .int .i64 d] w (PsPost (rdE 57 n) S i w) := by
  have hsz : (bs S).size = S.length := bs_size S
  have E := hid hE
  by_cases h1 : d < 1
  · go_enter Tryd.func24, Tryd.ntmps24
    go_wp2_with fail
    refine bodyPost_ret (v := .tuple #[.agg #[.int .i64 0, .int .i64 0, .slice none 0 0], .int .i64 (-1)]) (by simp [results, Tryd.results24, go_sem]) rfl ?_
    exact ⟨_, zeroP, _, rfl, zeroP_new _ _, below_alloc _ _, .inl ⟨E.out, rfl⟩⟩
  · have h2 : (S.length : Int) ≤ (i : Int) := by omega
    go_enter Tryd.func24, Tryd.ntmps24
    go_wp2_with fail
    refine bodyPost_ret (v := .tuple #[.agg #[.int .i64 0, .int .i64 0, .slice none 0 0], .int .i64 (-1)]) (by simp [results, Tryd.results24, go_sem]) rfl ?_
    exact ⟨_, zeroP, _, rfl, zeroP_new _ _, below_alloc _ _, .inl ⟨E.out, rfl⟩⟩


set_option maxRecDepth 100000 in
set_option maxHeartbeats 1000000 in
theorem ps_leaf (n : Nat) (c : UInt8) (k a : Int) (hca : (k = 1 ∧ 48 ≤ (c.toNat : Int) ∧ (c.toNat : Int) ≤ 57 ∧ a = (c.toNat : Int) - 48) ∨ (k = 2 ∧ 120 ≤ (c.toNat : Int) ∧ (c.toNat : Int) ≤ 122 ∧ a = (c.toNat : Int) - 120)) (S : List UInt8) (i : Nat) (d : Int) (w : World) (hd : 1 ≤ d) (hl : S.length ≤ 1048576) (hc : S[i]? = some c) (hE : rdE 57 (n + 1) (c :: S.drop (i + 1)) = some (.mk k a [], S.drop (i + 1))) : Calls Tryd.prog 24 #[.string (bs S), .int .i64 i, .int .i64 d] w (PsPost (rdE 57 (n + 1)) S i w) := by
  have hsz : (bs S).size = S.length := bs_size S
  have hi : i < S.length := (List.getElem?_eq_some_iff.1 hc).1
  have hg := bs_at hc
  have E := hid (show rdE 57 (n + 1) (S.drop i) = some (.mk k a [], S.drop (i + 1)) by rw [drop_at hc]; exact hE)
  have h1 : ¬ (d < 1) := by omega
  have h2 : ¬ ((S.length : Int) ≤ (i : Int)) := by omega
  have h3 : (i : Int) < (S.length : Int) := by omega
  have hk : i64 k := by unfold i64; omega
  have ha : i64 a := by unfold i64; omega
  clear hc hE
  rcases hca with ⟨rfl, g1, g2, rfl⟩ | ⟨rfl, g1, g2, rfl⟩
  · go_enter Tryd.func24, Tryd.ntmps24
    go_wp2_with fail
    refine bodyPost_ret (v := .tuple #[.agg #[.int .i64 1, .int .i64 ((c.toNat : Int) - 48), .slice none 0 0], .int .i64 ((i : Int) + 1)]) (by simp [results, Tryd.results24, go_sem]) rfl ?_
    exact ⟨_, _, _, rfl, leaf_new _ _ hk ha, below_alloc _ _, .inr ⟨i + 1, E.out, by omega, by omega⟩⟩
  · have g3 : ¬ ((c.toNat : Int) ≤ 57) := by omega
    have g4 : 48 ≤ (c.toNat : Int) := by omega
    go_enter Tryd.func24, Tryd.ntmps24
    go_wp2_with fail
    refine bodyPost_ret (v := .tuple #[.agg #[.int .i64 2, .int .i64 ((c.toNat : Int) - 120), .slice none 0 0], .int .i64 ((i : Int) + 1)]) (by simp [results, Tryd.results24, go_sem]) rfl ?_
    exact ⟨_, _, _, rfl, leaf_new _ _ hk ha, below_alloc _ _, .inr ⟨i + 1, E.out, by omega, by omega⟩⟩

/-- where a byte lies: no digit, no variable -/
def NoLeaf (c : UInt8) : Prop := (¬ (48 ≤ (c.toNat : Int)) ∧ ¬ (120 ≤ (c.toNat : Int))) ∨ (48 ≤ (c.toNat : Int) ∧ ¬ ((c.toNat : Int) ≤ 57) ∧ ¬ (120 ≤ (c.toNat : Int))) ∨ (48 ≤ (c.toNat : Int) ∧ ¬ ((c.toNat : Int) ≤ 57) ∧ 120 ≤ (c.toNat : Int) ∧ ¬ ((c.toNat : Int) ≤ 122))

set_option maxRecDepth 100000 in
set_option maxHeartbeats 1000000 in
theorem ps_else (n : Nat) (c : UInt8) (S : List UInt8) (i : Nat) (d : Int) (w : World) (hd : 1 ≤ d) (hl : S.length ≤ 1048576) (hc : S[i]? = some c) (hn : NoLeaf c) (n3 : c ≠ 33) (n4 : c ≠ 40) (hE : rdE 57 (n + 1) (c :: S.drop (i + 1)) = none) : Calls Tryd.prog 24 #[.string (bs S), .int .i64 i, .int .i64 d] w (PsPost (rdE 57 (n + 1)) S i w) := by
  have hsz : (bs S).size = S.length := bs_size S
  have hi : i < S.length := (List.getElem?_eq_some_iff.1 hc).1
  have hg := bs_at hc
  have E := hid (show rdE 57 (n + 1) (S.drop i) = none by rw [drop_at hc]; exact hE)
  have h1 : ¬ (d < 1) := by omega
  have h2 : ¬ ((S.length : Int) ≤ (i : Int)) := by omega
  have h3 : (i : Int) < (S.length : Int) := by omega
  have e1 : ((c.toNat : Int) == 33) = false := u8_neE n3
  have e2 : ((c.toNat : Int) == 40) = false := u8_neE n4
  have e3 : ((c.toNat : Int) != 40) = true := by simp only [bne, e2]; rfl
  clear hc n3 n4 hE
  rcases hn with ⟨m1, m2⟩ | ⟨m1, m2, m3⟩ | ⟨m1, m2, m3, m4⟩
  all_goals
    go_enter Tryd.func24, Tryd.ntmps24
    go_wp2_with fail
    refine bodyPost_ret (v := .tuple #[.agg #[.int .i64 0, .int .i64 0, .slice none 0 0], .int .i64 (-1)]) (by simp [results, Tryd.results24, go_sem]) rfl ?_
    exact ⟨_, zeroP, _, rfl, zeroP_new _ _, below_alloc _ _, .inl ⟨E.out, rfl⟩⟩

set_option maxRecDepth 100000 in
set_option maxHeartbeats 2000000 in
theorem ps_un (n : Nat) (ih : PsT n) (S : List UInt8) (i : Nat) (d : Int) (w : World) (hd : 1 ≤ d) (hdn : d = (n + 1 : Nat)) (hl : S.length ≤ 1048576) (hc : S[i]? = some 33) (hd9 : d ≤ 1000) : Calls Tryd.prog 24 #[.string (bs S), .int .i64 i, .int .i64 d] w (PsPost (rdE 57 (n + 1)) S i w) := by
  have hsz : (bs S).size = S.length := bs_size S
  have hi : i < S.length := (List.getElem?_eq_some_iff.1 hc).1
  have hg := bs_at hc
  have E := hid (show rdE 57 (n + 1) (S.drop i) = oneWith (rdE 57 n) 3 (S.drop (i + 1)) by rw [drop_at hc]; simp [rdE])
  have h1 : ¬ (d < 1) := by omega
  have h2 : ¬ ((S.length : Int) ≤ (i : Int)) := by omega
  have h3 : (i : Int) < (S.length : Int) := by omega
  have hk : i64 3 := by unfold i64; omega
  have HI := hid (fun (w : World) => ih w S (i + 1) (d - 1) (by omega) hl (by omega))
  have ei : (i : Int) + 1 = ((i + 1 : Nat) : Int) := by omega
  have HEI := hid ei
  have b4 := box3_new w (.int .i64 0) (.int .i64 0) (.slice none 0 0) 25
  clear hc ih hdn ei
  go_enter Tryd.func24, Tryd.ntmps24
  go_wp2_with fail
  rw [HEI.out]
  refine (HI.out _).mono ?_
  rintro e w2 ⟨v, t, nx, rfl, hn, hb, hE⟩
  obtain ⟨a2, n2, rfl⟩ := TrIn_shape hn.any
  have hfin := hid (show (rdE 57 (n + 1) (S.drop i) = none ∧ nx = -1) ∨ ∃ q : Nat, rdE 57 (n + 1) (S.drop i) = some (.mk 3 0 [t], S.drop q) ∧ nx = q ∧ q ≤ S.length by
    rw [E.out]
    rcases hE with ⟨h1, h2⟩ | ⟨q, h1, h2, h3⟩
    · exact .inl ⟨by unfold oneWith; rw [h1], h2⟩
    · exact .inr ⟨q, by unfold oneWith; rw [h1], h2, h3⟩)
  have hsz2 := hb.size
  simp only [World.size_alloc] at hsz2
  have HN := hid (hn.mono (B' := w.heap.size + 1) (by simp))
  have HB := hid (below_next (below_alloc _ _) hb)
  have H4 := hid (box3_next hb b4)
  clear hn hb hE b4
  go_upto_region 10 with fail
  refine wp_gen (fun W => Below w.heap.size w W ∧ Box3 W w.heap.size (.int .i64 0) (.int .i64 0) (.slice none 0 0) ∧ Box3 W w2.heap.size (.int .i64 t.kind) (.int .i64 t.val) (.slice a2 t.kids.length n2) ∧ NewTr (w.heap.size + 1) t (.agg #[.int .i64 t.kind, .int .i64 t.val, .slice a2 t.kids.length n2]) W) ⟨below_a HB.out _, box3_next (below_alloc _ _) H4.out, box3_new .., HN.out.below (below_alloc _ _)⟩ ?_
  rintro W ⟨BW, hb4, hb9, hnW⟩
  have hl4 := hb4.1
  have hz := hid (fun (u0 u1 u2 : Value) => And.intro (own_node (k' := W.heap.size) (ty := 25) hk (newTr_set3 (P := w.heap.size) hnW (by omega) u0 u1 u2) (by simp; omega) (by simp)) (box3_next (below_alloc (((W.setCell ⟨w.heap.size, 0, none⟩ u0).setCell ⟨w.heap.size, 1, none⟩ u1).setCell ⟨w.heap.size, 2, none⟩ u2) (.cells #[.int .i64 t.kind, .int .i64 t.val, .slice a2 t.kids.length n2] 25)) (box3_set2 (box3_set1 (box3_set0 hb4 u0) u1) u2)))
  have HBW := hid BW
  obtain ⟨x0, x1, x2, x3, _⟩ := hb9
  obtain ⟨z0, z1, z2, z3, z4, z5, z6⟩ := hb4
  clear BW
  go_wp2_with fail
  obtain ⟨hnew, hbx⟩ := hz.out (.int .i64 3) (.int .i64 0) (.slice (some ⟨W.heap.size, 0, none⟩) 1 1)
  obtain ⟨y0, y1, y2, y3, _⟩ := hbx
  refine bodyPost_ret (v := .tuple #[.agg #[.int .i64 3, .int .i64 0, .slice (some ⟨W.heap.size, 0, none⟩) 1 1], .int .i64 nx]) (by simp [results, Tryd.results24, go_sem, y1, y2, y3]) rfl ?_
  exact ⟨_, _, nx, rfl, hnew.mono (by omega), below_a (below_set3 HBW.out (Nat.le_refl _) _ _ _) _, hfin.out⟩
end Expr
end Go.Proofs.YtplmjliaochepaaDoor
