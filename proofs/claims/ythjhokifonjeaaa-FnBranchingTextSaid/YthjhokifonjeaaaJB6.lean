/- Joined texts (ParseBP, ParseBS, ParseBS2, ParseBS3, ParseBS4): contracts and plain laws. Conditions: those of each theorem. -/
import Derived.Test.YthjhokifonjeaaaJB4
import Derived.Test.YthjhokifonjeaaaJB5
import Derived.Deep.DeepCutAuto
import Derived.Deep.CutBlock
import Derived.Deep.RegionHeld3
set_option linter.unusedVariables false
set_option linter.unusedSimpArgs false
namespace Go.Proofs.Ythjhokifonjeaaa
open Go.RowKit
namespace Branching

theorem u8_ne {c : UInt8} {n : UInt8} (h : c ≠ n) : ((c.toNat : Int) == (n.toNat : Int)) = false := by
  have : c.toNat ≠ n.toNat := fun e => h (UInt8.toNat_inj.1 e)
  simp; omega
theorem bs_at {S : List UInt8} {i : Nat} {c : UInt8} (h : S[i]? = some c) : ∀ hi : i < (bs S).size, (bs S)[i]'hi = c := by
  intro hi
  have h1 : (bs S)[i] = S[i]'(by rw [bs_size] at hi; exact hi) := rfl
  rw [h1]
  exact (List.getElem?_eq_some_iff.1 h).2
theorem drop_at {S : List UInt8} {i : Nat} {c : UInt8} (h : S[i]? = some c) : S.drop i = c :: S.drop (i + 1) := by
  obtain ⟨h1, h2⟩ := List.getElem?_eq_some_iff.1 h
  rw [List.drop_eq_getElem_cons h1, h2]
theorem cut_at {S : List UInt8} {i : Nat} {c : UInt8} (h : S[i]? = some c) : (bs S).extract i (i + 1) = bs [c] := by
  obtain ⟨h1, h2⟩ := List.getElem?_eq_some_iff.1 h
  apply ByteArray.ext
  apply Array.ext'
  simp [bs, ByteArray.data_extract]
  rw [List.drop_eq_getElem_cons h1, h2]
  simp
theorem cut_two {S : List UInt8} {i : Nat} {c x : UInt8} (h : S[i]? = some c) (h' : S[i + 1]? = some x) : (bs S).extract i (i + 2) = bs [c, x] := by
  apply ByteArray.ext
  apply Array.ext'
  simp [bs, ByteArray.data_extract]
  rw [drop_at h, drop_at h']
  simp

def Un (S : List UInt8) (i : Nat) (k sz : Int) : Prop := ∀ w, Calls Try.prog 97 #[.string (bs S), .int .i64 i] w (RetW (.tuple #[.int .i64 k, .int .i64 sz]) w)

theorem un_not (S : List UInt8) (i : Nat) (hc : S[i]? = some 33) : Un S i 3 1 := by
  intro w
  have hsz : (bs S).size = S.length := bs_size S
  have hi : i < S.length := (List.getElem?_eq_some_iff.1 hc).1
  have hg := bs_at hc
  have h3 : (i : Int) < (S.length : Int) := by omega
  go_enter Try.func97, Try.ntmps97
  go_wp2_with fail
  refine bodyPost_ret (v := .tuple #[.int .i64 3, .int .i64 1]) (by simp [results, Try.results97, go_sem]) rfl ?_
  exact ⟨rfl, rfl⟩

set_option maxHeartbeats 1000000 in
theorem un_op (S : List UInt8) (i : Nat) (c x : UInt8) (k : Int) (hck : (c = 69 ∧ x = 88 ∧ k = 6) ∨ (c = 69 ∧ x = 71 ∧ k = 8) ∨ (c = 65 ∧ x = 88 ∧ k = 9) ∨ (c = 65 ∧ x = 71 ∧ k = 11)) (hl : S.length ≤ 1048576) (hc : S[i]? = some c) (hx : S[i + 1]? = some x) : Un S i k 2 := by
  intro w
  have hsz : (bs S).size = S.length := bs_size S
  have hi : i + 1 < S.length := (List.getElem?_eq_some_iff.1 hx).1
  have hg := bs_at hc
  have hcut := cut_two hc hx
  have h3 : (i : Int) < (S.length : Int) := by omega
  have h4 : ¬ ((i : Int) + 2 > (S.length : Int)) := by omega
  clear hc hx
  rcases hck with ⟨rfl, rfl, rfl⟩ | ⟨rfl, rfl, rfl⟩ | ⟨rfl, rfl, rfl⟩ | ⟨rfl, rfl, rfl⟩
  · rw [show bs [69, 88] = (⟨#[69, 88]⟩ : ByteArray) from rfl] at hcut
    go_enter Try.func97, Try.ntmps97
    go_wp2_with fail
    refine bodyPost_ret (v := .tuple #[.int .i64 6, .int .i64 2]) (by simp [results, Try.results97, go_sem]) rfl ?_
    exact ⟨rfl, rfl⟩
  · rw [show bs [69, 71] = (⟨#[69, 71]⟩ : ByteArray) from rfl] at hcut
    go_enter Try.func97, Try.ntmps97
    go_wp2_with fail
    refine bodyPost_ret (v := .tuple #[.int .i64 8, .int .i64 2]) (by simp [results, Try.results97, go_sem]) rfl ?_
    exact ⟨rfl, rfl⟩
  · rw [show bs [65, 88] = (⟨#[65, 88]⟩ : ByteArray) from rfl] at hcut
    go_enter Try.func97, Try.ntmps97
    go_wp2_with fail
    refine bodyPost_ret (v := .tuple #[.int .i64 9, .int .i64 2]) (by simp [results, Try.results97, go_sem]) rfl ?_
    exact ⟨rfl, rfl⟩
  · rw [show bs [65, 71] = (⟨#[65, 71]⟩ : ByteArray) from rfl] at hcut
    go_enter Try.func97, Try.ntmps97
    go_wp2_with fail
    refine bodyPost_ret (v := .tuple #[.int .i64 11, .int .i64 2]) (by simp [results, Try.results97, go_sem]) rfl ?_
    exact ⟨rfl, rfl⟩

set_option maxHeartbeats 1000000 in
theorem un_end (S : List UInt8) (i : Nat) (c : UInt8) (hl : S.length ≤ 1048576) (hc : S[i]? = some c) (hn : c ≠ 33) (he : S.length ≤ i + 1) : Un S i 0 0 := by
  intro w
  have hsz : (bs S).size = S.length := bs_size S
  have hi : i < S.length := (List.getElem?_eq_some_iff.1 hc).1
  have hg := bs_at hc
  have e1 : ((c.toNat : Int) == 33) = false := u8_ne hn
  have h3 : (i : Int) < (S.length : Int) := by omega
  have h4 : (i : Int) + 2 > (S.length : Int) := by omega
  clear hc hn
  go_enter Try.func97, Try.ntmps97
  go_wp2_with fail
  refine bodyPost_ret (v := .tuple #[.int .i64 0, .int .i64 0]) (by simp [results, Try.results97, go_sem]) rfl ?_
  exact ⟨rfl, rfl⟩

set_option maxHeartbeats 1000000 in
theorem un_none (S : List UInt8) (i : Nat) (c x : UInt8) (hl : S.length ≤ 1048576) (hc : S[i]? = some c) (hx : S[i + 1]? = some x) (hn : c ≠ 33) (h1 : ¬ ((c = 69 ∨ c = 65) ∧ (x = 88 ∨ x = 71))) : Un S i 0 0 := by
  intro w
  have hsz : (bs S).size = S.length := bs_size S
  have hi : i + 1 < S.length := (List.getElem?_eq_some_iff.1 hx).1
  have hg := bs_at hc
  have hcut := cut_two hc hx
  have e1 : ((c.toNat : Int) == 33) = false := u8_ne hn
  have h3 : (i : Int) < (S.length : Int) := by omega
  have h4 : ¬ ((i : Int) + 2 > (S.length : Int)) := by omega
  have hT : (bs [c, x]).toList = [c, x] := by rw [Go.ByteArray.toList_eq]; rfl
  have f1 : ((bs [c, x]).toList == [69, 88]) = false := by rw [hT]; simp; intro a b; exact h1 ⟨.inl a, .inl b⟩
  have f2 : ((bs [c, x]).toList == [69, 71]) = false := by rw [hT]; simp; intro a b; exact h1 ⟨.inl a, .inr b⟩
  have f3 : ((bs [c, x]).toList == [65, 88]) = false := by rw [hT]; simp; intro a b; exact h1 ⟨.inr a, .inl b⟩
  have f4 : ((bs [c, x]).toList == [65, 71]) = false := by rw [hT]; simp; intro a b; exact h1 ⟨.inr a, .inr b⟩
  generalize bs [c, x] = τ at *
  clear hc hx hn h1 hT
  go_enter Try.func97, Try.ntmps97
  go_wp2_with fail
  refine bodyPost_ret (v := .tuple #[.int .i64 0, .int .i64 0]) (by simp [results, Try.results97, go_sem]) rfl ?_
  exact ⟨rfl, rfl⟩

def pathOp (k : Int) (o : UInt8) : Option Int := if o = 85 then some k else none
set_option maxHeartbeats 1000000 in
theorem bi_none (o : UInt8) (w : World) : Calls Try.prog 98 #[.string ⟨#[]⟩, .int .u8 o.toNat] w (RetW (.int .i64 ((branOp o).getD 0)) w) := by
  by_cases h1 : o = 38
  · subst h1
    go_enter Try.func98, Try.ntmps98
    go_wp2_with fail
    go_ret
    exact ⟨rfl, rfl⟩
  by_cases h2 : o = 124
  · subst h2
    go_enter Try.func98, Try.ntmps98
    go_wp2_with fail
    go_ret
    exact ⟨rfl, rfl⟩
  have E := hid (show (branOp o).getD 0 = 0 by simp [branOp, h1, h2])
  have e1 : ((o.toNat : Int) == 38) = false := u8_ne h1
  have e2 : ((o.toNat : Int) == 124) = false := u8_ne h2
  generalize (o.toNat : Int) = k at *
  go_enter Try.func98, Try.ntmps98
  go_wp2_with fail
  go_ret
  exact ⟨congrArg (fun x => Ending.returned (Value.int .i64 x)) E.out.symm, rfl⟩
set_option maxHeartbeats 1000000 in
theorem bi_some (o : UInt8) (w : World) : Calls Try.prog 98 #[.string ⟨#[69]⟩, .int .u8 o.toNat] w (RetW (.int .i64 ((pathOp 7 o).getD 0)) w) := by
  by_cases h1 : o = 85
  · subst h1
    go_enter Try.func98, Try.ntmps98
    go_wp2_with fail
    go_ret
    exact ⟨rfl, rfl⟩
  have E := hid (show (pathOp 7 o).getD 0 = 0 by simp [pathOp, h1])
  have e1 : ((o.toNat : Int) == 85) = false := u8_ne h1
  generalize (o.toNat : Int) = k at *
  go_enter Try.func98, Try.ntmps98
  go_wp2_with fail
  go_ret
  exact ⟨congrArg (fun x => Ending.returned (Value.int .i64 x)) E.out.symm, rfl⟩
set_option maxHeartbeats 1000000 in
theorem bi_every (o : UInt8) (w : World) : Calls Try.prog 98 #[.string ⟨#[65]⟩, .int .u8 o.toNat] w (RetW (.int .i64 ((pathOp 10 o).getD 0)) w) := by
  by_cases h1 : o = 85
  · subst h1
    go_enter Try.func98, Try.ntmps98
    go_wp2_with fail
    go_ret
    exact ⟨rfl, rfl⟩
  have E := hid (show (pathOp 10 o).getD 0 = 0 by simp [pathOp, h1])
  have e1 : ((o.toNat : Int) == 85) = false := u8_ne h1
  generalize (o.toNat : Int) = k at *
  go_enter Try.func98, Try.ntmps98
  go_wp2_with fail
  go_ret
  exact ⟨congrArg (fun x => Ending.returned (Value.int .i64 x)) E.out.symm, rfl⟩
end Branching
end Go.Proofs.Ythjhokifonjeaaa
namespace Go.Proofs.Ythjhokifonjeaaa
open Go.RowKit
namespace Branching

theorem own_node {B k' : Nat} {k : Int} {w : World} {t : Tr} {x y z : Value} {ty : TypeId} (hk : i64 k) (h : NewTr B t (.agg #[x, y, z]) w) (hB : B ≤ w.heap.size) (hb : k' = w.heap.size) : NewTr B (.mk k 0 [t]) (.agg #[.int .i64 k, .int .i64 0, .slice (some ⟨k', 0, none⟩) 1 1]) (w.alloc (.cells #[x, y, z] ty)) := by
  subst hb
  obtain ⟨bs, h1, h2⟩ := h
  obtain ⟨bs', g1, g2⟩ := TrOwn_new (w := w.alloc (.cells #[x, y, z] ty)) (R := w.heap.size) (c := 1) (kids := [t]) (bs := bs) hk (show i64 0 by unfold i64; omega) (by simp) (by simp [maxLen]) (row_three w x y z ty)
    (by rw [TrsOwn_cons]; exact ⟨bs, [], by simp, by simp, by simpa using TrOwn_below (below_alloc _ _) h1, (TrsOwn_nil ..).2 rfl⟩) (fun e => by have := TrOwn_lt.1 _ _ _ h1 _ e; omega)
  exact ⟨bs', g1, fun b hb => by rcases g2 b hb with rfl | h; exact hB; exact h2 b h⟩

/-- at place 'at' of a text: the tree that is read there, and the place behind it; -1 if there is none -/
def PsPost (rd : List UInt8 → Option (Tr × List UInt8)) (S : List UInt8) (i : Nat) (w : World) (e : Ending) (w' : World) : Prop :=
  ∃ v t nx, e = .returned (.tuple #[v, .int .i64 nx]) ∧ NewTr w.heap.size t v w' ∧ Below w.heap.size w w' ∧ ((rd (S.drop i) = none ∧ nx = -1) ∨ ∃ k : Nat, rd (S.drop i) = some (t, S.drop k) ∧ nx = k ∧ k ≤ S.length)
def PsT (n : Nat) : Prop := ∀ (w : World) (S : List UInt8) (i : Nat) (d : Int), i ≤ S.length → S.length ≤ 1048576 → d = n → Calls Try.prog 69 #[.string (bs S), .int .i64 i, .int .i64 d] w (PsPost (rdB n) S i w)

theorem ps_end {rd : List UInt8 → Option (Tr × List UInt8)} {S : List UInt8} {i : Nat} {w W : World} {t : Tr} {x : Value} {nx : Int} (hn : NewTr (w.heap.size + 1) t x W) (hb : Below w.heap.size w W) (hE : (rd (S.drop i) = none ∧ nx = -1) ∨ ∃ k : Nat, rd (S.drop i) = some (t, S.drop k) ∧ nx = k ∧ k ≤ S.length) (u0 u1 u2 : Value) :
    PsPost rd S i w (.returned (.tuple #[x, .int .i64 nx])) (((W.setCell ⟨w.heap.size, 0, none⟩ u0).setCell ⟨w.heap.size, 1, none⟩ u1).setCell ⟨w.heap.size, 2, none⟩ u2) :=
  ⟨x, t, nx, rfl, (newTr_set3 hn (by omega) _ _ _).mono (by omega), below_set3 hb (by omega) _ _ _, hE⟩

set_option maxRecDepth 100000 in
set_option maxHeartbeats 1000000 in
theorem ps_none (n : Nat) (S : List UInt8) (i : Nat) (d : Int) (w : World) (hd : d < 1 ∨ S.length ≤ i) (hi : i ≤ 1048576) (hl : S.length ≤ 1048576) (hE : rdB n (S.drop i) = none) : Calls Try.prog 69 #[.string (bs S), .int .i64 i, .int .i64 d] w (PsPost (rdB n) S i w) := by
  have hsz : (bs S).size = S.length := bs_size S
  have E := hid hE
  by_cases h1 : d < 1
  · go_enter Try.func69, Try.ntmps69
    go_wp2_with fail
    refine bodyPost_ret (v := .tuple #[.agg #[.int .i64 0, .int .i64 0, .slice none 0 0], .int .i64 (-1)]) (by simp [results, Try.results69, go_sem]) rfl ?_
    exact ⟨_, zeroT, _, rfl, zero_new _ _, below_alloc _ _, .inl ⟨E.out, rfl⟩⟩
  · have h2 : (S.length : Int) ≤ (i : Int) := by omega
    go_enter Try.func69, Try.ntmps69
    go_wp2_with fail
    refine bodyPost_ret (v := .tuple #[.agg #[.int .i64 0, .int .i64 0, .slice none 0 0], .int .i64 (-1)]) (by simp [results, Try.results69, go_sem]) rfl ?_
    exact ⟨_, zeroT, _, rfl, zero_new _ _, below_alloc _ _, .inl ⟨E.out, rfl⟩⟩

set_option maxRecDepth 100000 in
set_option maxHeartbeats 1000000 in
theorem ps_true (n : Nat) (S : List UInt8) (i : Nat) (d : Int) (w : World) (hd : 1 ≤ d) (hl : S.length ≤ 1048576) (hc : S[i]? = some 84) : Calls Try.prog 69 #[.string (bs S), .int .i64 i, .int .i64 d] w (PsPost (rdB (n + 1)) S i w) := by
  have hsz : (bs S).size = S.length := bs_size S
  have hi : i < S.length := (List.getElem?_eq_some_iff.1 hc).1
  have hg := bs_at hc
  have E := hid (show rdB (n + 1) (S.drop i) = some (.mk 1 0 [], S.drop (i + 1)) by rw [drop_at hc]; simp [rdB])
  have h1 : ¬ (d < 1) := by omega
  have h2 : ¬ ((S.length : Int) ≤ (i : Int)) := by omega
  have h3 : (i : Int) < (S.length : Int) := by omega
  clear hc
  go_enter Try.func69, Try.ntmps69
  go_wp2_with fail
  refine bodyPost_ret (v := .tuple #[.agg #[.int .i64 1, .int .i64 0, .slice none 0 0], .int .i64 ((i : Int) + 1)]) (by simp [results, Try.results69, go_sem]) rfl ?_
  exact ⟨_, _, _, rfl, leaf_new _ _ (by unfold i64; omega) (by unfold i64; omega), below_alloc _ _, .inr ⟨i + 1, E.out, by omega, by omega⟩⟩

set_option maxRecDepth 100000 in
set_option maxHeartbeats 1000000 in
theorem ps_atom (n : Nat) (c : UInt8) (a : Int) (hca : (c = 112 ∧ a = 0) ∨ (c = 113 ∧ a = 1) ∨ (c = 114 ∧ a = 2)) (S : List UInt8) (i : Nat) (d : Int) (w : World) (hd : 1 ≤ d) (hl : S.length ≤ 1048576) (hc : S[i]? = some c) : Calls Try.prog 69 #[.string (bs S), .int .i64 i, .int .i64 d] w (PsPost (rdB (n + 1)) S i w) := by
  have hsz : (bs S).size = S.length := bs_size S
  have hi : i < S.length := (List.getElem?_eq_some_iff.1 hc).1
  have hg := bs_at hc
  have E := hid (show rdB (n + 1) (S.drop i) = some (.mk 2 a [], S.drop (i + 1)) by rw [drop_at hc]; rcases hca with ⟨rfl, rfl⟩ | ⟨rfl, rfl⟩ | ⟨rfl, rfl⟩ <;> simp [rdB])
  have h1 : ¬ (d < 1) := by omega
  have h2 : ¬ ((S.length : Int) ≤ (i : Int)) := by omega
  have h3 : (i : Int) < (S.length : Int) := by omega
  clear hc
  rcases hca with ⟨rfl, rfl⟩ | ⟨rfl, rfl⟩ | ⟨rfl, rfl⟩
  · go_enter Try.func69, Try.ntmps69
    go_wp2_with fail
    refine bodyPost_ret (v := .tuple #[.agg #[.int .i64 2, .int .i64 0, .slice none 0 0], .int .i64 ((i : Int) + 1)]) (by simp [results, Try.results69, go_sem]) rfl ?_
    exact ⟨_, _, _, rfl, leaf_new _ _ (by unfold i64; omega) (by unfold i64; omega), below_alloc _ _, .inr ⟨i + 1, E.out, by omega, by omega⟩⟩
  · go_enter Try.func69, Try.ntmps69
    go_wp2_with fail
    refine bodyPost_ret (v := .tuple #[.agg #[.int .i64 2, .int .i64 1, .slice none 0 0], .int .i64 ((i : Int) + 1)]) (by simp [results, Try.results69, go_sem]) rfl ?_
    exact ⟨_, _, _, rfl, leaf_new _ _ (by unfold i64; omega) (by unfold i64; omega), below_alloc _ _, .inr ⟨i + 1, E.out, by omega, by omega⟩⟩
  · go_enter Try.func69, Try.ntmps69
    go_wp2_with fail
    refine bodyPost_ret (v := .tuple #[.agg #[.int .i64 2, .int .i64 2, .slice none 0 0], .int .i64 ((i : Int) + 1)]) (by simp [results, Try.results69, go_sem]) rfl ?_
    exact ⟨_, _, _, rfl, leaf_new _ _ (by unfold i64; omega) (by unfold i64; omega), below_alloc _ _, .inr ⟨i + 1, E.out, by omega, by omega⟩⟩


set_option maxRecDepth 100000 in
set_option maxHeartbeats 1000000 in
theorem ps_else (n : Nat) (c : UInt8) (S : List UInt8) (i : Nat) (d : Int) (w : World) (hd : 1 ≤ d) (hl : S.length ≤ 1048576) (hc : S[i]? = some c) (n1 : c ≠ 84) (n2 : ¬ (112 ≤ c ∧ c ≤ 114)) (n3 : c ≠ 33) (n4 : c ≠ 40) (n5 : c ≠ 69) (n6 : c ≠ 65) (hU : Un S i 0 0) : Calls Try.prog 69 #[.string (bs S), .int .i64 i, .int .i64 d] w (PsPost (rdB (n + 1)) S i w) := by
  have hsz : (bs S).size = S.length := bs_size S
  have hi : i < S.length := (List.getElem?_eq_some_iff.1 hc).1
  have hg := bs_at hc
  have E := hid (show rdB (n + 1) (S.drop i) = none by rw [drop_at hc]; simp only [rdB]; rw [if_neg n1, if_neg n2, if_neg n3, if_neg n4, if_neg n5, if_neg n6])
  have h1 : ¬ (d < 1) := by omega
  have h2 : ¬ ((S.length : Int) ≤ (i : Int)) := by omega
  have h3 : (i : Int) < (S.length : Int) := by omega
  have e1 : ((c.toNat : Int) == 84) = false := u8_ne n1
  have e2 : ((c.toNat : Int) == 40) = false := u8_ne n4
  have e2' : ((c.toNat : Int) != 40) = true := by simp only [bne, e2]; rfl
  have e5 : ((c.toNat : Int) == 69) = false := u8_ne n5
  have e6 : ((c.toNat : Int) == 65) = false := u8_ne n6
  have HU := hid hU
  have e3 : ¬ (112 ≤ (c.toNat : Int)) ∨ (112 ≤ (c.toNat : Int) ∧ ¬ ((c.toNat : Int) ≤ 114)) := by
    rw [UInt8.le_iff_toNat_le, UInt8.le_iff_toNat_le] at n2
    have e1 : (112 : UInt8).toNat = 112 := rfl
    have e2 : (114 : UInt8).toNat = 114 := rfl
    omega
  clear hc n1 n2 n3 n4 n5 n6 hU
  rcases e3 with e3 | ⟨e3, e7⟩
  all_goals
    go_enter Try.func69, Try.ntmps69
    go_wp2_with fail
    refine (HU.out _).mono ?_
    rintro e w1 ⟨rfl, rfl⟩
    go_wp2_with fail
    refine bodyPost_ret (v := .tuple #[.agg #[.int .i64 0, .int .i64 0, .slice none 0 0], .int .i64 (-1)]) (by simp [results, Try.results69, go_sem]) rfl ?_
    exact ⟨_, zeroT, _, rfl, zero_new _ _, below_alloc _ _, .inl ⟨E.out, rfl⟩⟩

/-- E, A, and no bracket behind -/
theorem rdB2_none {rd : List UInt8 → Option (Tr × List UInt8)} {k : Int} {s : List UInt8} (h : s = [] ∨ ∃ x s1, s = x :: s1 ∧ x ≠ 88 ∧ x ≠ 40 ∧ x ≠ 71) : rdB2 rd k s = none := by
  rcases h with rfl | ⟨x, s1, rfl, h1, h2, h3⟩
  · rfl
  · simp [rdB2, h1, h2, h3]

set_option maxRecDepth 100000 in
set_option maxHeartbeats 1000000 in
theorem ps_hend (n : Nat) (c : UInt8) (hca : c = 69 ∨ c = 65) (S : List UInt8) (i : Nat) (d : Int) (w : World) (hd : 1 ≤ d) (hl : S.length ≤ 1048576) (hc : S[i]? = some c) (he : S.length ≤ i + 1) (hU : Un S i 0 0) : Calls Try.prog 69 #[.string (bs S), .int .i64 i, .int .i64 d] w (PsPost (rdB (n + 1)) S i w) := by
  have hsz : (bs S).size = S.length := bs_size S
  have hi : i < S.length := (List.getElem?_eq_some_iff.1 hc).1
  have hg := bs_at hc
  have E := hid (show rdB (n + 1) (S.drop i) = none by
    rw [drop_at hc, List.drop_of_length_le he]
    rcases hca with rfl | rfl <;> simp [rdB, rdB2])
  have h1 : ¬ (d < 1) := by omega
  have h2 : ¬ ((S.length : Int) ≤ (i : Int)) := by omega
  have h3 : (i : Int) < (S.length : Int) := by omega
  have h4 : (S.length : Int) ≤ (i : Int) + 1 := by omega
  have HU := hid hU
  clear hc hU
  rcases hca with rfl | rfl
  all_goals
    go_enter Try.func69, Try.ntmps69
    go_wp2_with fail
    refine (HU.out _).mono ?_
    rintro e w1 ⟨rfl, rfl⟩
    go_wp2_with fail
    refine bodyPost_ret (v := .tuple #[.agg #[.int .i64 0, .int .i64 0, .slice none 0 0], .int .i64 (-1)]) (by simp [results, Try.results69, go_sem]) rfl ?_
    exact ⟨_, zeroT, _, rfl, zero_new _ _, below_alloc _ _, .inl ⟨E.out, rfl⟩⟩

set_option maxRecDepth 100000 in
set_option maxHeartbeats 1000000 in
theorem ps_hno (n : Nat) (c x : UInt8) (hca : c = 69 ∨ c = 65) (S : List UInt8) (i : Nat) (d : Int) (w : World) (hd : 1 ≤ d) (hl : S.length ≤ 1048576) (hc : S[i]? = some c) (hx : S[i + 1]? = some x) (hx1 : x ≠ 88) (hx2 : x ≠ 71) (hx3 : x ≠ 40) (hU : Un S i 0 0) : Calls Try.prog 69 #[.string (bs S), .int .i64 i, .int .i64 d] w (PsPost (rdB (n + 1)) S i w) := by
  have hsz : (bs S).size = S.length := bs_size S
  have hi : i + 1 < S.length := (List.getElem?_eq_some_iff.1 hx).1
  have hg := bs_at hc
  have hg1 := bs_at hx
  have E := hid (show rdB (n + 1) (S.drop i) = none by
    rw [drop_at hc]
    have h := rdB2_none (rd := rdB n) (k := 6) (.inr ⟨x, _, drop_at hx, hx1, hx3, hx2⟩)
    have h' := rdB2_none (rd := rdB n) (k := 9) (.inr ⟨x, _, drop_at hx, hx1, hx3, hx2⟩)
    rcases hca with rfl | rfl
    · simp [rdB, h]
    · simp [rdB, h'])
  have h1 : ¬ (d < 1) := by omega
  have h2 : ¬ ((S.length : Int) ≤ (i : Int)) := by omega
  have h3 : (i : Int) < (S.length : Int) := by omega
  have h4 : ¬ ((S.length : Int) ≤ (i : Int) + 1) := by omega
  have h5 : (i : Int) + 1 < (S.length : Int) := by omega
  have e1 : ((x.toNat : Int) == 40) = false := u8_ne hx3
  have e2 : ((x.toNat : Int) != 40) = true := by simp only [bne, e1]; rfl
  have HU := hid hU
  clear hc hx hx1 hx2 hx3 hU
  rcases hca with rfl | rfl
  all_goals
    go_enter Try.func69, Try.ntmps69
    go_wp2_with fail
    refine (HU.out _).mono ?_
    rintro e w1 ⟨rfl, rfl⟩
    go_wp2_with fail
    refine bodyPost_ret (v := .tuple #[.agg #[.int .i64 0, .int .i64 0, .slice none 0 0], .int .i64 (-1)]) (by simp [results, Try.results69, go_sem]) rfl ?_
    exact ⟨_, zeroT, _, rfl, zero_new _ _, below_alloc _ _, .inl ⟨E.out, rfl⟩⟩

set_option maxRecDepth 100000 in
set_option maxHeartbeats 2000000 in
theorem ps_un (n : Nat) (ih : PsT n) (c : UInt8) (k : Int) (sz : Nat) (hcc : c = 33 ∨ c = 69 ∨ c = 65) (hk0 : 1 ≤ k ∧ k ≤ 11) (hsz0 : sz ≤ 2) (S : List UInt8) (i : Nat) (d : Int) (w : World) (hd : 1 ≤ d) (hdn : d = (n + 1 : Nat)) (hl : S.length ≤ 1048576) (hc : S[i]? = some c) (his : i + sz ≤ S.length) (hU : Un S i k sz) (hE : rdB (n + 1) (S.drop i) = oneWith (rdB n) k (S.drop (i + sz))) (hd9 : d ≤ 1000) : Calls Try.prog 69 #[.string (bs S), .int .i64 i, .int .i64 d] w (PsPost (rdB (n + 1)) S i w) := by
  have hsz : (bs S).size = S.length := bs_size S
  have hi : i < S.length := (List.getElem?_eq_some_iff.1 hc).1
  have hg := bs_at hc
  have E := hid hE
  have h1 : ¬ (d < 1) := by omega
  have h2 : ¬ ((S.length : Int) ≤ (i : Int)) := by omega
  have h3 : (i : Int) < (S.length : Int) := by omega
  have hk : i64 k := by unfold i64; omega
  have hkp : k > 0 := by omega
  have HI := hid (fun (w : World) => ih w S (i + sz) (d - 1) his hl (by omega))
  have ei : (i : Int) + (sz : Int) = ((i + sz : Nat) : Int) := by omega
  have HEI := hid ei
  have hszi : (sz : Int) ≤ 2 := by omega
  have b4 := box3_new w (.int .i64 0) (.int .i64 0) (.slice none 0 0) 39
  have e1 : ((c.toNat : Int) == 84) = false := by rcases hcc with rfl | rfl | rfl <;> rfl
  have e3 : ¬ (112 ≤ (c.toNat : Int)) := by rcases hcc with rfl | rfl | rfl <;> decide
  have HU := hid hU
  clear hc ih hdn ei hcc hU hE
  go_enter Try.func69, Try.ntmps69
  go_wp2_with fail
  refine (HU.out _).mono ?_
  rintro e w1 ⟨rfl, rfl⟩
  go_wp2_with fail
  rw [HEI.out]
  refine (HI.out _).mono ?_
  rintro e w2 ⟨v, t, nx, rfl, hn, hb, hE⟩
  obtain ⟨a2, n2, rfl⟩ := TrIn_shape hn.any
  have hfin := hid (show (rdB (n + 1) (S.drop i) = none ∧ nx = -1) ∨ ∃ q : Nat, rdB (n + 1) (S.drop i) = some (.mk k 0 [t], S.drop q) ∧ nx = q ∧ q ≤ S.length by
    rw [E.out]
    rcases hE with ⟨h1, h2⟩ | ⟨q, h1, h2, h3⟩
    · exact .inl ⟨by unfold oneWith; rw [h1], h2⟩
    · exact .inr ⟨q, by unfold oneWith; rw [h1], h2, h3⟩)
  have hsz2 := hb.size
  simp only [World.size_alloc] at hsz2
  have HN := hid (hn.mono (B' := w.heap.size + 1) (by simp))
  have HB := hid (below_next (below_alloc _ _) hb)
  have H4 := hid (box3_next hb b4)
  clear hn hb hE b4
  go_upto_region 10 with fail
  refine wp_gen (fun W => Below w.heap.size w W ∧ Box3 W w.heap.size (.int .i64 0) (.int .i64 0) (.slice none 0 0) ∧ Box3 W w2.heap.size (.int .i64 t.kind) (.int .i64 t.val) (.slice a2 t.kids.length n2) ∧ NewTr (w.heap.size + 1) t (.agg #[.int .i64 t.kind, .int .i64 t.val, .slice a2 t.kids.length n2]) W) ⟨below_a HB.out _, box3_next (below_alloc _ _) H4.out, box3_new .., HN.out.below (below_alloc _ _)⟩ ?_
  rintro W ⟨BW, hb4, hb9, hnW⟩
  have hl4 := hb4.1
  have hz := hid (fun (u0 u1 u2 : Value) => And.intro (own_node (k' := W.heap.size) (ty := 39) hk (newTr_set3 (P := w.heap.size) hnW (by omega) u0 u1 u2) (by simp; omega) (by simp)) (box3_next (below_alloc (((W.setCell ⟨w.heap.size, 0, none⟩ u0).setCell ⟨w.heap.size, 1, none⟩ u1).setCell ⟨w.heap.size, 2, none⟩ u2) (.cells #[.int .i64 t.kind, .int .i64 t.val, .slice a2 t.kids.length n2] 39)) (box3_set2 (box3_set1 (box3_set0 hb4 u0) u1) u2)))
  have HBW := hid BW
  obtain ⟨x0, x1, x2, x3, _⟩ := hb9
  obtain ⟨z0, z1, z2, z3, z4, z5, z6⟩ := hb4
  clear BW
  go_wp2_with fail
  obtain ⟨hnew, hbx⟩ := hz.out (.int .i64 k) (.int .i64 0) (.slice (some ⟨W.heap.size, 0, none⟩) 1 1)
  obtain ⟨y0, y1, y2, y3, _⟩ := hbx
  refine bodyPost_ret (v := .tuple #[.agg #[.int .i64 k, .int .i64 0, .slice (some ⟨W.heap.size, 0, none⟩) 1 1], .int .i64 nx]) (by simp [results, Try.results69, go_sem, y1, y2, y3]) rfl ?_
  exact ⟨_, _, nx, rfl, hnew.mono (by omega), below_a (below_set3 HBW.out (Nat.le_refl _) _ _ _) _, hfin.out⟩
end Branching
end Go.Proofs.Ythjhokifonjeaaa
namespace Go.Proofs.Ythjhokifonjeaaa
open Go.RowKit
namespace Branching

/-- no tree: the first operand ends the text, or no sign follows, or .. -/
theorem pair_none {rd : List UInt8 → Option (Tr × List UInt8)} {op : UInt8 → Option Int} {s r : List UInt8} {t : Tr} (h : rd s = none ∨ rd s = some (t, r) ∧ (r = [] ∨ ∃ o r1, r = o :: r1 ∧ (op o = none ∨ ∃ k, op o = some k ∧ (rd r1 = none ∨ ∃ t2 r2, rd r1 = some (t2, r2) ∧ (r2 = [] ∨ ∃ c r3, r2 = c :: r3 ∧ c ≠ 41))))) : pairWith rd op s = none := by
  unfold pairWith
  rcases h with h | ⟨h, h2⟩
  · rw [h]
  · rw [h]
    rcases h2 with rfl | ⟨o, r1, rfl, h3⟩
    · rfl
    · rcases h3 with h3 | ⟨k, h3, h4⟩
      · simp [h3]
      · simp only [h3]
        rcases h4 with h4 | ⟨t2, r2, h4, h5⟩
        · rw [h4]
        · rw [h4]
          rcases h5 with rfl | ⟨c, r3, rfl, h6⟩
          · rfl
          · simp [h6]


end Branching
end Go.Proofs.Ythjhokifonjeaaa
namespace Go.Proofs.Ythjhokifonjeaaa
open Go.RowKit
namespace Branching

set_option maxRecDepth 100000 in
set_option maxHeartbeats 4000000 in
theorem ps_and (n : Nat) (ih : PsT n) (S : List UInt8) (i : Nat) (d : Int) (w : World) (hd : 1 ≤ d) (hdn : d = (n + 1 : Nat)) (hl : S.length ≤ 1048576) (hc : S[i]? = some 40) (hU : Un S i 0 0) (hd9 : d ≤ 1000) : Calls Try.prog 69 #[.string (bs S), .int .i64 i, .int .i64 d] w (PsPost (rdB (n + 1)) S i w) := by
  have hsz : (bs S).size = S.length := bs_size S
  have hi : i < S.length := (List.getElem?_eq_some_iff.1 hc).1
  have hg := bs_at hc
  have E := hid (show rdB (n + 1) (S.drop i) = pairWith (rdB n) branOp (S.drop (i + 1)) by rw [drop_at hc]; simp [rdB])
  have h1 : ¬ (d < 1) := by omega
  have h2 : ¬ ((S.length : Int) ≤ (i : Int)) := by omega
  have h3 : (i : Int) < (S.length : Int) := by omega
  have HI := hid (fun (w : World) (j : Nat) (hj : j ≤ S.length) => ih w S j (d - 1) hj hl (by omega))
  have HU := hid hU
  have ei : (i : Int) + 1 = ((i + 1 : Nat) : Int) := by omega
  have HEI := hid ei
  have b4 := box3_new w (.int .i64 0) (.int .i64 0) (.slice none 0 0) 39
  clear hc ih hdn ei hU
  go_enter Try.func69, Try.ntmps69
  go_wp2_with fail
  refine (HU.out _).mono ?_
  rintro e w1 ⟨rfl, rfl⟩
  go_wp2_with fail
  rw [HEI.out]
  refine (HI.out _ (i + 1) (by omega)).mono ?_
  rintro e w2 ⟨v, t1, nx, rfl, hn, hb, hE⟩
  obtain ⟨a2, n2, rfl⟩ := TrIn_shape hn.any
  have hsz2 := hb.size
  simp only [World.size_alloc] at hsz2
  have HN := hid ((hn.mono (B' := w.heap.size + 1) (by simp)).below (below_alloc w2 (.cells #[.int .i64 t1.kind, .int .i64 t1.val, .slice a2 t1.kids.length n2] 39)))
  have HB := hid (below_a (below_next (below_alloc _ _) hb) (.cells #[.int .i64 t1.kind, .int .i64 t1.val, .slice a2 t1.kids.length n2] 39))
  have H4 := hid (box3_next (below_alloc w2 (.cells #[.int .i64 t1.kind, .int .i64 t1.val, .slice a2 t1.kids.length n2] 39)) (box3_next hb b4))
  have H7 := hid (box3_new w2 (.int .i64 t1.kind) (.int .i64 t1.val) (.slice a2 t1.kids.length n2) 39)
  clear hn hb b4
  -- no first operand
  rcases hE with ⟨hr, rfl⟩ | ⟨k1, hr, rfl, hk1⟩
  · have hfin := hid (show rdB (n + 1) (S.drop i) = none by rw [E.out]; exact pair_none (t := t1) (r := []) (.inl hr))
    obtain ⟨z0, z1, z2, z3, z4, z5, z6⟩ := H4.out
    clear hr
    go_wp2_with fail
    obtain ⟨y0, y1, y2, y3, _⟩ := box3_set2 (box3_set1 (box3_set0 H4.out (.int .i64 0)) (.int .i64 0)) (.slice none 0 0); refine bodyPost_ret (v := .tuple #[.agg #[.int .i64 0, .int .i64 0, .slice none 0 0], .int .i64 (-1)]) (by simp [results, Try.results69, go_sem, y1, y2, y3]) rfl ?_
    exact ps_end (t := zeroT) (zero_new _ _) HB.out (.inl ⟨hfin.out, rfl⟩) _ _ _
  have hk1n : ¬ ((k1 : Int) < 0) := by omega
  -- the text ends behind it
  by_cases hke : S.length ≤ k1
  · have hfin := hid (show rdB (n + 1) (S.drop i) = none by rw [E.out]; exact pair_none (t := t1) (.inr ⟨hr, .inl (List.drop_of_length_le hke)⟩))
    have hke2 : (S.length : Int) ≤ (k1 : Int) := by omega
    obtain ⟨z0, z1, z2, z3, z4, z5, z6⟩ := H4.out
    clear hr
    go_wp2_with fail
    obtain ⟨y0, y1, y2, y3, _⟩ := box3_set2 (box3_set1 (box3_set0 H4.out (.int .i64 0)) (.int .i64 0)) (.slice none 0 0); refine bodyPost_ret (v := .tuple #[.agg #[.int .i64 0, .int .i64 0, .slice none 0 0], .int .i64 (-1)]) (by simp [results, Try.results69, go_sem, y1, y2, y3]) rfl ?_
    exact ps_end (t := zeroT) (zero_new _ _) HB.out (.inl ⟨hfin.out, rfl⟩) _ _ _
  have hke2 : ¬ ((S.length : Int) ≤ (k1 : Int)) := by omega
  have hke3 : (k1 : Int) < (S.length : Int) := by omega
  obtain ⟨o, ho⟩ : ∃ o, S[k1]? = some o := ⟨_, List.getElem?_eq_getElem (by omega)⟩
  have hg1 := bs_at ho
  have hdo := drop_at ho
  have HBI := hid (fun w => bi_none o w)
  cases hop : branOp o with
  | none =>
    have hfin := hid (show rdB (n + 1) (S.drop i) = none by rw [E.out]; exact pair_none (t := t1) (.inr ⟨hr, .inr ⟨o, _, hdo, .inl hop⟩⟩))
    have hb0 : (branOp o).getD 0 = 0 := by simp [hop]
    rw [hb0] at HBI
    obtain ⟨z0, z1, z2, z3, z4, z5, z6⟩ := H4.out
    clear hr hop hdo ho hb0
    go_wp2_with fail
    refine (HBI.out _).mono ?_
    rintro e w3 ⟨rfl, rfl⟩
    go_wp2_with fail
    obtain ⟨y0, y1, y2, y3, _⟩ := box3_set2 (box3_set1 (box3_set0 H4.out (.int .i64 0)) (.int .i64 0)) (.slice none 0 0); refine bodyPost_ret (v := .tuple #[.agg #[.int .i64 0, .int .i64 0, .slice none 0 0], .int .i64 (-1)]) (by simp [results, Try.results69, go_sem, y1, y2, y3]) rfl ?_
    exact ps_end (t := zeroT) (zero_new _ _) HB.out (.inl ⟨hfin.out, rfl⟩) _ _ _
  | some kop =>
    have hb0 : (branOp o).getD 0 = kop := by simp [hop]
    rw [hb0] at HBI
    have hkop : kop = 4 ∨ kop = 5 := by
      unfold branOp at hop
      repeat' split at hop
      all_goals simp at hop
      all_goals omega
    have hk0 : (kop == 0) = false := by rcases hkop with rfl | rfl <;> rfl
    have ek : (k1 : Int) + 1 = ((k1 + 1 : Nat) : Int) := by omega
    have HEK := hid ek
    obtain ⟨z0, z1, z2, z3, z4, z5, z6⟩ := H4.out
    have HR := hid hr
    have HDO := hid hdo
    have HOP := hid hop
    clear hr hdo hop ho hb0 ek
    go_wp2_with fail
    refine (HBI.out _).mono ?_
    rintro e w3 ⟨rfl, rfl⟩
    go_wp2_with fail
    rw [HEK.out]
    clear z0 z1 z2 z3 z4 z5 z6
    refine (HI.out _ (k1 + 1) (by omega)).mono ?_
    rintro e w4 ⟨v4, t2, nx2, rfl, hn4, hb4, hE4⟩
    obtain ⟨a4, n4, rfl⟩ := TrIn_shape hn4.any
    have hsz4 := hb4.size
    simp only [World.size_alloc] at hsz4
    have HTW := hid (Two.mk HN.out hn4 (Nat.le_refl _) hb4 (by simp; omega))
    have HB4 := hid (below_next HB.out hb4)
    have H44 := hid (box3_next hb4 H4.out)
    have H74 := hid (box3_next hb4 H7.out)
    clear hn4 hb4
    have H9 := hid (box3_new w4 (.int .i64 t2.kind) (.int .i64 t2.val) (.slice a4 t2.kids.length n4) 39)
    have H45 := hid (box3_next (below_alloc w4 (.cells #[.int .i64 t2.kind, .int .i64 t2.val, .slice a4 t2.kids.length n4] 39)) H44.out)
    have HB5 := hid (below_a HB4.out (.cells #[.int .i64 t2.kind, .int .i64 t2.val, .slice a4 t2.kids.length n4] 39))
    rcases hE4 with ⟨hr2, rfl⟩ | ⟨k2, hr2, rfl, hk2⟩
    · have hfin := hid (show rdB (n + 1) (S.drop i) = none by rw [E.out]; exact pair_none (t := t1) (.inr ⟨HR.out, .inr ⟨o, _, HDO.out, .inr ⟨kop, HOP.out, .inl hr2⟩⟩⟩))
      obtain ⟨z0, z1, z2, z3, z4, z5, z6⟩ := H45.out
      clear hr2
      go_wp2_with fail
      obtain ⟨y0, y1, y2, y3, _⟩ := box3_set2 (box3_set1 (box3_set0 H45.out (.int .i64 0)) (.int .i64 0)) (.slice none 0 0); refine bodyPost_ret (v := .tuple #[.agg #[.int .i64 0, .int .i64 0, .slice none 0 0], .int .i64 (-1)]) (by simp [results, Try.results69, go_sem, y1, y2, y3]) rfl ?_
      exact ps_end (t := zeroT) (zero_new _ _) HB5.out (.inl ⟨hfin.out, rfl⟩) _ _ _
    have hk2n : ¬ ((k2 : Int) < 0) := by omega
    by_cases hke4 : S.length ≤ k2
    · have hfin := hid (show rdB (n + 1) (S.drop i) = none by rw [E.out]; exact pair_none (t := t1) (.inr ⟨HR.out, .inr ⟨o, _, HDO.out, .inr ⟨kop, HOP.out, .inr ⟨t2, _, hr2, .inl (List.drop_of_length_le hke4)⟩⟩⟩⟩))
      have hke5 : (S.length : Int) ≤ (k2 : Int) := by omega
      obtain ⟨z0, z1, z2, z3, z4, z5, z6⟩ := H45.out
      clear hr2
      go_wp2_with fail
      obtain ⟨y0, y1, y2, y3, _⟩ := box3_set2 (box3_set1 (box3_set0 H45.out (.int .i64 0)) (.int .i64 0)) (.slice none 0 0); refine bodyPost_ret (v := .tuple #[.agg #[.int .i64 0, .int .i64 0, .slice none 0 0], .int .i64 (-1)]) (by simp [results, Try.results69, go_sem, y1, y2, y3]) rfl ?_
      exact ps_end (t := zeroT) (zero_new _ _) HB5.out (.inl ⟨hfin.out, rfl⟩) _ _ _
    have hke5 : ¬ ((S.length : Int) ≤ (k2 : Int)) := by omega
    have hke6 : (k2 : Int) < (S.length : Int) := by omega
    obtain ⟨q, hq⟩ : ∃ q, S[k2]? = some q := ⟨_, List.getElem?_eq_getElem (by omega)⟩
    have hg2 := bs_at hq
    have hdq := drop_at hq
    by_cases hq41 : q = 41
    · subst hq41
      have hfin := hid (show rdB (n + 1) (S.drop i) = some (.mk kop 0 [t1, t2], S.drop (k2 + 1)) by
        rw [E.out]
        rw [hdq] at hr2
        have h1 := HR.out
        rw [HDO.out] at h1
        exact pairWith_txt h1 HOP.out hr2)
      clear hr2 hq hdq
      go_wp2_with fail
      refine wp_gen (fun W => Below w.heap.size w W ∧ Box3 W w.heap.size (.int .i64 0) (.int .i64 0) (.slice none 0 0) ∧ Box3 W w2.heap.size (.int .i64 t1.kind) (.int .i64 t1.val) (.slice a2 t1.kids.length n2) ∧ Box3 W w4.heap.size (.int .i64 t2.kind) (.int .i64 t2.val) (.slice a4 t2.kids.length n4) ∧ Two (w.heap.size + 1) t1 t2 (.agg #[.int .i64 t1.kind, .int .i64 t1.val, .slice a2 t1.kids.length n2]) (.agg #[.int .i64 t2.kind, .int .i64 t2.val, .slice a4 t2.kids.length n4]) W)
        ⟨HB5.out, H45.out, box3_next (below_alloc _ _) H74.out, H9.out, two_below HTW.out (below_alloc _ _)⟩ ?_
      rintro W ⟨BW, hb4, hb7, hb9, hTW⟩
      have hl7 := hb7.1
      have hl9 := hb9.1
      have hl4 := hb4.1
      have h4 := hb4
      obtain ⟨x0, x1, x2, x3, _⟩ := hb7
      obtain ⟨y0, y1, y2, y3, _⟩ := hb9
      obtain ⟨z0, z1, z2, z3, z4, z5, z6⟩ := hb4
      have HF := hid (fun w' (M : But W w.heap.size w') => (⟨(M.cell hl7 (by omega)).trans x1, (M.cell hl7 (by omega)).trans x2, (M.cell hl7 (by omega)).trans x3, (M.cell hl9 (by omega)).trans y1, (M.cell hl9 (by omega)).trans y2, (M.cell hl9 (by omega)).trans y3⟩ :
        w'.cell? ⟨w2.heap.size, 0, none⟩ = some (.int .i64 t1.kind) ∧ w'.cell? ⟨w2.heap.size, 1, none⟩ = some (.int .i64 t1.val) ∧ w'.cell? ⟨w2.heap.size, 2, none⟩ = some (.slice a2 t1.kids.length n2) ∧ w'.cell? ⟨w4.heap.size, 0, none⟩ = some (.int .i64 t2.kind) ∧ w'.cell? ⟨w4.heap.size, 1, none⟩ = some (.int .i64 t2.val) ∧ w'.cell? ⟨w4.heap.size, 2, none⟩ = some (.slice a4 t2.kids.length n4)))
      have hkk : i64 kop := by unfold i64; omega
      have hwr : IntKind.i64.wrap ((k2 : Int) + 1) = (k2 : Int) + 1 := IntWalk.i64_in _ (by omega)
      go_region_held3 (fun w' => w'.cell? ⟨w2.heap.size, 0, none⟩ = some (.int .i64 t1.kind) ∧ w'.cell? ⟨w2.heap.size, 1, none⟩ = some (.int .i64 t1.val) ∧ w'.cell? ⟨w2.heap.size, 2, none⟩ = some (.slice a2 t1.kids.length n2) ∧ w'.cell? ⟨w4.heap.size, 0, none⟩ = some (.int .i64 t2.kind) ∧ w'.cell? ⟨w4.heap.size, 1, none⟩ = some (.int .i64 t2.val) ∧ w'.cell? ⟨w4.heap.size, 2, none⟩ = some (.slice a4 t2.kids.length n4))
        (first | (refine HF.out _ ?_; (repeat (first | exact But.refl _ _ | (refine But.of ?_; assumption) | refine but_a ?_ _ | refine but_d ?_ | refine but_s ?_ _)); done) | go_keep)
        ((go_at_call 98; refine (HBI.out _).mono ?_; rintro e w6 ⟨rfl, rfl⟩))
      all_goals
        have hz := hid (box3_next (below_d (below_a (Below.refl _ _) (.cells #[.int .i64 t1.kind, .int .i64 t1.val, .slice a2 t1.kids.length n2, .int .i64 t2.kind, .int .i64 t2.val, .slice a4 t2.kids.length n4] 39))) (box3_set2 (box3_set1 (box3_set0 h4 (.int .i64 kop)) (.int .i64 0)) (.slice (some ⟨W.heap.size, 0, none⟩) 2 2)))
        have hnew := hid ((Two.node (b' := W.heap.size) (ty := 39) hkk (Two.set3 (P := w.heap.size) hTW (by omega) (.int .i64 kop) (.int .i64 0) (.slice (some ⟨W.heap.size, 0, none⟩) 2 2)) (by simp; omega) (by simp)).below (below_d (Below.refl _ _)))
        have hbel := hid (below_d (below_a (below_set3 BW (Nat.le_refl _) (.int .i64 kop) (.int .i64 0) (.slice (some ⟨W.heap.size, 0, none⟩) 2 2)) (.cells #[.int .i64 t1.kind, .int .i64 t1.val, .slice a2 t1.kids.length n2, .int .i64 t2.kind, .int .i64 t2.val, .slice a4 t2.kids.length n4] 39)))
        clear h4 hTW BW
        go_wp2_with fail
        obtain ⟨y0, y1, y2, y3, _⟩ := hz.out
        refine bodyPost_ret (v := .tuple #[.agg #[.int .i64 kop, .int .i64 0, (.slice (some ⟨W.heap.size, 0, none⟩) 2 2)], .int .i64 ((k2 : Int) + 1)]) (by simp [results, Try.results69, go_sem, y1, y2, y3]) rfl ?_
        exact ⟨_, _, _, rfl, hnew.out.mono (by omega), hbel.out, .inr ⟨k2 + 1, hfin.out, by omega, by omega⟩⟩
    · have hfin := hid (show rdB (n + 1) (S.drop i) = none by rw [E.out]; exact pair_none (t := t1) (.inr ⟨HR.out, .inr ⟨o, _, HDO.out, .inr ⟨kop, HOP.out, .inr ⟨t2, _, hr2, .inr ⟨q, _, hdq, hq41⟩⟩⟩⟩⟩))
      have hq2 : ((q.toNat : Int) == 41) = false := u8_ne hq41
      have hq3 : ((q.toNat : Int) != 41) = true := by simp only [bne, hq2]; rfl
      obtain ⟨z0, z1, z2, z3, z4, z5, z6⟩ := H45.out
      clear hr2 hq hdq hq41
      go_wp2_with fail
      obtain ⟨y0, y1, y2, y3, _⟩ := box3_set2 (box3_set1 (box3_set0 H45.out (.int .i64 0)) (.int .i64 0)) (.slice none 0 0); refine bodyPost_ret (v := .tuple #[.agg #[.int .i64 0, .int .i64 0, .slice none 0 0], .int .i64 (-1)]) (by simp [results, Try.results69, go_sem, y1, y2, y3]) rfl ?_
      exact ps_end (t := zeroT) (zero_new _ _) HB5.out (.inl ⟨hfin.out, rfl⟩) _ _ _


end Branching
end Go.Proofs.Ythjhokifonjeaaa
namespace Go.Proofs.Ythjhokifonjeaaa
open Go.RowKit
namespace Branching

set_option maxRecDepth 100000 in
set_option maxHeartbeats 4000000 in
theorem ps_some (n : Nat) (ih : PsT n) (S : List UInt8) (i : Nat) (d : Int) (w : World) (hd : 1 ≤ d) (hdn : d = (n + 1 : Nat)) (hl : S.length ≤ 1048576) (hc : S[i]? = some 69) (hx : S[i + 1]? = some 40) (hU : Un S i 0 0) (hd9 : d ≤ 1000) : Calls Try.prog 69 #[.string (bs S), .int .i64 i, .int .i64 d] w (PsPost (rdB (n + 1)) S i w) := by
  have hsz : (bs S).size = S.length := bs_size S
  have hi : i < S.length := (List.getElem?_eq_some_iff.1 hc).1
  have hg := bs_at hc
  have E := hid (show rdB (n + 1) (S.drop i) = pairWith (rdB n) (pathOp 7) (S.drop (i + 2)) by rw [drop_at hc, drop_at hx]; simp [rdB, rdB2]; rfl)
  have h1 : ¬ (d < 1) := by omega
  have h2 : ¬ ((S.length : Int) ≤ (i : Int)) := by omega
  have h3 : (i : Int) < (S.length : Int) := by omega
  have HI := hid (fun (w : World) (j : Nat) (hj : j ≤ S.length) => ih w S j (d - 1) hj hl (by omega))
  have HU := hid hU
  have hi1 : i + 1 < S.length := (List.getElem?_eq_some_iff.1 hx).1
  have hgx := bs_at hx
  have hcut : (bs S).extract i (i + 1) = (⟨#[69]⟩ : ByteArray) := cut_at hc
  have hx4 : ¬ ((S.length : Int) ≤ (i : Int) + 1) := by omega
  have hx5 : (i : Int) + 1 < (S.length : Int) := by omega
  have ei : (i : Int) + 1 + 1 = ((i + 2 : Nat) : Int) := by omega
  have HEI := hid ei
  have b4 := box3_new w (.int .i64 0) (.int .i64 0) (.slice none 0 0) 39
  clear hc hx ih hdn ei hU
  go_enter Try.func69, Try.ntmps69
  go_wp2_with fail
  refine (HU.out _).mono ?_
  rintro e w1 ⟨rfl, rfl⟩
  go_wp2_with fail
  rw [HEI.out]
  refine (HI.out _ (i + 2) (by omega)).mono ?_
  rintro e w2 ⟨v, t1, nx, rfl, hn, hb, hE⟩
  obtain ⟨a2, n2, rfl⟩ := TrIn_shape hn.any
  have hsz2 := hb.size
  simp only [World.size_alloc] at hsz2
  have HN := hid ((hn.mono (B' := w.heap.size + 1) (by simp)).below (below_alloc w2 (.cells #[.int .i64 t1.kind, .int .i64 t1.val, .slice a2 t1.kids.length n2] 39)))
  have HB := hid (below_a (below_next (below_alloc _ _) hb) (.cells #[.int .i64 t1.kind, .int .i64 t1.val, .slice a2 t1.kids.length n2] 39))
  have H4 := hid (box3_next (below_alloc w2 (.cells #[.int .i64 t1.kind, .int .i64 t1.val, .slice a2 t1.kids.length n2] 39)) (box3_next hb b4))
  have H7 := hid (box3_new w2 (.int .i64 t1.kind) (.int .i64 t1.val) (.slice a2 t1.kids.length n2) 39)
  clear hn hb b4
  -- no first operand
  rcases hE with ⟨hr, rfl⟩ | ⟨k1, hr, rfl, hk1⟩
  · have hfin := hid (show rdB (n + 1) (S.drop i) = none by rw [E.out]; exact pair_none (t := t1) (r := []) (.inl hr))
    obtain ⟨z0, z1, z2, z3, z4, z5, z6⟩ := H4.out
    clear hr
    go_wp2_with fail
    obtain ⟨y0, y1, y2, y3, _⟩ := box3_set2 (box3_set1 (box3_set0 H4.out (.int .i64 0)) (.int .i64 0)) (.slice none 0 0); refine bodyPost_ret (v := .tuple #[.agg #[.int .i64 0, .int .i64 0, .slice none 0 0], .int .i64 (-1)]) (by simp [results, Try.results69, go_sem, y1, y2, y3]) rfl ?_
    exact ps_end (t := zeroT) (zero_new _ _) HB.out (.inl ⟨hfin.out, rfl⟩) _ _ _
  have hk1n : ¬ ((k1 : Int) < 0) := by omega
  -- the text ends behind it
  by_cases hke : S.length ≤ k1
  · have hfin := hid (show rdB (n + 1) (S.drop i) = none by rw [E.out]; exact pair_none (t := t1) (.inr ⟨hr, .inl (List.drop_of_length_le hke)⟩))
    have hke2 : (S.length : Int) ≤ (k1 : Int) := by omega
    obtain ⟨z0, z1, z2, z3, z4, z5, z6⟩ := H4.out
    clear hr
    go_wp2_with fail
    obtain ⟨y0, y1, y2, y3, _⟩ := box3_set2 (box3_set1 (box3_set0 H4.out (.int .i64 0)) (.int .i64 0)) (.slice none 0 0); refine bodyPost_ret (v := .tuple #[.agg #[.int .i64 0, .int .i64 0, .slice none 0 0], .int .i64 (-1)]) (by simp [results, Try.results69, go_sem, y1, y2, y3]) rfl ?_
    exact ps_end (t := zeroT) (zero_new _ _) HB.out (.inl ⟨hfin.out, rfl⟩) _ _ _
  have hke2 : ¬ ((S.length : Int) ≤ (k1 : Int)) := by omega
  have hke3 : (k1 : Int) < (S.length : Int) := by omega
  obtain ⟨o, ho⟩ : ∃ o, S[k1]? = some o := ⟨_, List.getElem?_eq_getElem (by omega)⟩
  have hg1 := bs_at ho
  have hdo := drop_at ho
  have HBI := hid (fun w => bi_some o w)
  cases hop : (pathOp 7) o with
  | none =>
    have hfin := hid (show rdB (n + 1) (S.drop i) = none by rw [E.out]; exact pair_none (t := t1) (.inr ⟨hr, .inr ⟨o, _, hdo, .inl hop⟩⟩))
    have hb0 : (pathOp 7 o).getD 0 = 0 := by simp [hop]
    rw [hb0] at HBI
    obtain ⟨z0, z1, z2, z3, z4, z5, z6⟩ := H4.out
    clear hr hop hdo ho hb0
    go_wp2_with fail
    refine (HBI.out _).mono ?_
    rintro e w3 ⟨rfl, rfl⟩
    go_wp2_with fail
    obtain ⟨y0, y1, y2, y3, _⟩ := box3_set2 (box3_set1 (box3_set0 H4.out (.int .i64 0)) (.int .i64 0)) (.slice none 0 0); refine bodyPost_ret (v := .tuple #[.agg #[.int .i64 0, .int .i64 0, .slice none 0 0], .int .i64 (-1)]) (by simp [results, Try.results69, go_sem, y1, y2, y3]) rfl ?_
    exact ps_end (t := zeroT) (zero_new _ _) HB.out (.inl ⟨hfin.out, rfl⟩) _ _ _
  | some kop =>
    have hb0 : (pathOp 7 o).getD 0 = kop := by simp [hop]
    rw [hb0] at HBI
    have hkop : 7 ≤ kop ∧ kop ≤ 7 := by
      unfold pathOp at hop
      split at hop
      all_goals simp at hop
      all_goals omega
    have hk0 : (kop == 0) = false := by simp; omega
    have ek : (k1 : Int) + 1 = ((k1 + 1 : Nat) : Int) := by omega
    have HEK := hid ek
    obtain ⟨z0, z1, z2, z3, z4, z5, z6⟩ := H4.out
    have HR := hid hr
    have HDO := hid hdo
    have HOP := hid hop
    clear hr hdo hop ho hb0 ek
    go_wp2_with fail
    refine (HBI.out _).mono ?_
    rintro e w3 ⟨rfl, rfl⟩
    go_wp2_with fail
    rw [HEK.out]
    clear z0 z1 z2 z3 z4 z5 z6
    refine (HI.out _ (k1 + 1) (by omega)).mono ?_
    rintro e w4 ⟨v4, t2, nx2, rfl, hn4, hb4, hE4⟩
    obtain ⟨a4, n4, rfl⟩ := TrIn_shape hn4.any
    have hsz4 := hb4.size
    simp only [World.size_alloc] at hsz4
    have HTW := hid (Two.mk HN.out hn4 (Nat.le_refl _) hb4 (by simp; omega))
    have HB4 := hid (below_next HB.out hb4)
    have H44 := hid (box3_next hb4 H4.out)
    have H74 := hid (box3_next hb4 H7.out)
    clear hn4 hb4
    have H9 := hid (box3_new w4 (.int .i64 t2.kind) (.int .i64 t2.val) (.slice a4 t2.kids.length n4) 39)
    have H45 := hid (box3_next (below_alloc w4 (.cells #[.int .i64 t2.kind, .int .i64 t2.val, .slice a4 t2.kids.length n4] 39)) H44.out)
    have HB5 := hid (below_a HB4.out (.cells #[.int .i64 t2.kind, .int .i64 t2.val, .slice a4 t2.kids.length n4] 39))
    rcases hE4 with ⟨hr2, rfl⟩ | ⟨k2, hr2, rfl, hk2⟩
    · have hfin := hid (show rdB (n + 1) (S.drop i) = none by rw [E.out]; exact pair_none (t := t1) (.inr ⟨HR.out, .inr ⟨o, _, HDO.out, .inr ⟨kop, HOP.out, .inl hr2⟩⟩⟩))
      obtain ⟨z0, z1, z2, z3, z4, z5, z6⟩ := H45.out
      clear hr2
      go_wp2_with fail
      obtain ⟨y0, y1, y2, y3, _⟩ := box3_set2 (box3_set1 (box3_set0 H45.out (.int .i64 0)) (.int .i64 0)) (.slice none 0 0); refine bodyPost_ret (v := .tuple #[.agg #[.int .i64 0, .int .i64 0, .slice none 0 0], .int .i64 (-1)]) (by simp [results, Try.results69, go_sem, y1, y2, y3]) rfl ?_
      exact ps_end (t := zeroT) (zero_new _ _) HB5.out (.inl ⟨hfin.out, rfl⟩) _ _ _
    have hk2n : ¬ ((k2 : Int) < 0) := by omega
    by_cases hke4 : S.length ≤ k2
    · have hfin := hid (show rdB (n + 1) (S.drop i) = none by rw [E.out]; exact pair_none (t := t1) (.inr ⟨HR.out, .inr ⟨o, _, HDO.out, .inr ⟨kop, HOP.out, .inr ⟨t2, _, hr2, .inl (List.drop_of_length_le hke4)⟩⟩⟩⟩))
      have hke5 : (S.length : Int) ≤ (k2 : Int) := by omega
      obtain ⟨z0, z1, z2, z3, z4, z5, z6⟩ := H45.out
      clear hr2
      go_wp2_with fail
      obtain ⟨y0, y1, y2, y3, _⟩ := box3_set2 (box3_set1 (box3_set0 H45.out (.int .i64 0)) (.int .i64 0)) (.slice none 0 0); refine bodyPost_ret (v := .tuple #[.agg #[.int .i64 0, .int .i64 0, .slice none 0 0], .int .i64 (-1)]) (by simp [results, Try.results69, go_sem, y1, y2, y3]) rfl ?_
      exact ps_end (t := zeroT) (zero_new _ _) HB5.out (.inl ⟨hfin.out, rfl⟩) _ _ _
    have hke5 : ¬ ((S.length : Int) ≤ (k2 : Int)) := by omega
    have hke6 : (k2 : Int) < (S.length : Int) := by omega
    obtain ⟨q, hq⟩ : ∃ q, S[k2]? = some q := ⟨_, List.getElem?_eq_getElem (by omega)⟩
    have hg2 := bs_at hq
    have hdq := drop_at hq
    by_cases hq41 : q = 41
    · subst hq41
      have hfin := hid (show rdB (n + 1) (S.drop i) = some (.mk kop 0 [t1, t2], S.drop (k2 + 1)) by
        rw [E.out]
        rw [hdq] at hr2
        have h1 := HR.out
        rw [HDO.out] at h1
        exact pairWith_txt h1 HOP.out hr2)
      clear hr2 hq hdq
      go_wp2_with fail
      refine wp_gen (fun W => Below w.heap.size w W ∧ Box3 W w.heap.size (.int .i64 0) (.int .i64 0) (.slice none 0 0) ∧ Box3 W w2.heap.size (.int .i64 t1.kind) (.int .i64 t1.val) (.slice a2 t1.kids.length n2) ∧ Box3 W w4.heap.size (.int .i64 t2.kind) (.int .i64 t2.val) (.slice a4 t2.kids.length n4) ∧ Two (w.heap.size + 1) t1 t2 (.agg #[.int .i64 t1.kind, .int .i64 t1.val, .slice a2 t1.kids.length n2]) (.agg #[.int .i64 t2.kind, .int .i64 t2.val, .slice a4 t2.kids.length n4]) W)
        ⟨HB5.out, H45.out, box3_next (below_alloc _ _) H74.out, H9.out, two_below HTW.out (below_alloc _ _)⟩ ?_
      rintro W ⟨BW, hb4, hb7, hb9, hTW⟩
      have hl7 := hb7.1
      have hl9 := hb9.1
      have hl4 := hb4.1
      have h4 := hb4
      obtain ⟨x0, x1, x2, x3, _⟩ := hb7
      obtain ⟨y0, y1, y2, y3, _⟩ := hb9
      obtain ⟨z0, z1, z2, z3, z4, z5, z6⟩ := hb4
      have HF := hid (fun w' (M : But W w.heap.size w') => (⟨(M.cell hl7 (by omega)).trans x1, (M.cell hl7 (by omega)).trans x2, (M.cell hl7 (by omega)).trans x3, (M.cell hl9 (by omega)).trans y1, (M.cell hl9 (by omega)).trans y2, (M.cell hl9 (by omega)).trans y3⟩ :
        w'.cell? ⟨w2.heap.size, 0, none⟩ = some (.int .i64 t1.kind) ∧ w'.cell? ⟨w2.heap.size, 1, none⟩ = some (.int .i64 t1.val) ∧ w'.cell? ⟨w2.heap.size, 2, none⟩ = some (.slice a2 t1.kids.length n2) ∧ w'.cell? ⟨w4.heap.size, 0, none⟩ = some (.int .i64 t2.kind) ∧ w'.cell? ⟨w4.heap.size, 1, none⟩ = some (.int .i64 t2.val) ∧ w'.cell? ⟨w4.heap.size, 2, none⟩ = some (.slice a4 t2.kids.length n4)))
      have hkk : i64 kop := by unfold i64; omega
      have hwr : IntKind.i64.wrap ((k2 : Int) + 1) = (k2 : Int) + 1 := IntWalk.i64_in _ (by omega)
      go_region_held3 (fun w' => w'.cell? ⟨w2.heap.size, 0, none⟩ = some (.int .i64 t1.kind) ∧ w'.cell? ⟨w2.heap.size, 1, none⟩ = some (.int .i64 t1.val) ∧ w'.cell? ⟨w2.heap.size, 2, none⟩ = some (.slice a2 t1.kids.length n2) ∧ w'.cell? ⟨w4.heap.size, 0, none⟩ = some (.int .i64 t2.kind) ∧ w'.cell? ⟨w4.heap.size, 1, none⟩ = some (.int .i64 t2.val) ∧ w'.cell? ⟨w4.heap.size, 2, none⟩ = some (.slice a4 t2.kids.length n4))
        (first | (refine HF.out _ ?_; (repeat (first | exact But.refl _ _ | (refine But.of ?_; assumption) | refine but_a ?_ _ | refine but_d ?_ | refine but_s ?_ _)); done) | go_keep)
        ((go_at_call 98; refine (HBI.out _).mono ?_; rintro e w6 ⟨rfl, rfl⟩))
      all_goals
        have hz := hid (box3_next (below_d (below_a (Below.refl _ _) (.cells #[.int .i64 t1.kind, .int .i64 t1.val, .slice a2 t1.kids.length n2, .int .i64 t2.kind, .int .i64 t2.val, .slice a4 t2.kids.length n4] 39))) (box3_set2 (box3_set1 (box3_set0 h4 (.int .i64 kop)) (.int .i64 0)) (.slice (some ⟨W.heap.size, 0, none⟩) 2 2)))
        have hnew := hid ((Two.node (b' := W.heap.size) (ty := 39) hkk (Two.set3 (P := w.heap.size) hTW (by omega) (.int .i64 kop) (.int .i64 0) (.slice (some ⟨W.heap.size, 0, none⟩) 2 2)) (by simp; omega) (by simp)).below (below_d (Below.refl _ _)))
        have hbel := hid (below_d (below_a (below_set3 BW (Nat.le_refl _) (.int .i64 kop) (.int .i64 0) (.slice (some ⟨W.heap.size, 0, none⟩) 2 2)) (.cells #[.int .i64 t1.kind, .int .i64 t1.val, .slice a2 t1.kids.length n2, .int .i64 t2.kind, .int .i64 t2.val, .slice a4 t2.kids.length n4] 39)))
        clear h4 hTW BW
        go_wp2_with fail
        obtain ⟨y0, y1, y2, y3, _⟩ := hz.out
        refine bodyPost_ret (v := .tuple #[.agg #[.int .i64 kop, .int .i64 0, (.slice (some ⟨W.heap.size, 0, none⟩) 2 2)], .int .i64 ((k2 : Int) + 1)]) (by simp [results, Try.results69, go_sem, y1, y2, y3]) rfl ?_
        exact ⟨_, _, _, rfl, hnew.out.mono (by omega), hbel.out, .inr ⟨k2 + 1, hfin.out, by omega, by omega⟩⟩
    · have hfin := hid (show rdB (n + 1) (S.drop i) = none by rw [E.out]; exact pair_none (t := t1) (.inr ⟨HR.out, .inr ⟨o, _, HDO.out, .inr ⟨kop, HOP.out, .inr ⟨t2, _, hr2, .inr ⟨q, _, hdq, hq41⟩⟩⟩⟩⟩))
      have hq2 : ((q.toNat : Int) == 41) = false := u8_ne hq41
      have hq3 : ((q.toNat : Int) != 41) = true := by simp only [bne, hq2]; rfl
      obtain ⟨z0, z1, z2, z3, z4, z5, z6⟩ := H45.out
      clear hr2 hq hdq hq41
      go_wp2_with fail
      obtain ⟨y0, y1, y2, y3, _⟩ := box3_set2 (box3_set1 (box3_set0 H45.out (.int .i64 0)) (.int .i64 0)) (.slice none 0 0); refine bodyPost_ret (v := .tuple #[.agg #[.int .i64 0, .int .i64 0, .slice none 0 0], .int .i64 (-1)]) (by simp [results, Try.results69, go_sem, y1, y2, y3]) rfl ?_
      exact ps_end (t := zeroT) (zero_new _ _) HB5.out (.inl ⟨hfin.out, rfl⟩) _ _ _


end Branching
end Go.Proofs.Ythjhokifonjeaaa
