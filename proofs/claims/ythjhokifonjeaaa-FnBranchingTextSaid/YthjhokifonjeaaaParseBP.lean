/- The reference's l11Unary, l11Binary. Conditions: those of each contract. -/
import Derived.Test.YthjhokifonjeaaaTakeP
namespace Go.Proofs.Ythjhokifonjeaaa
open Go.RowKit
namespace Branching

theorem u8_ne {c : UInt8} {n : UInt8} (h : c ≠ n) : ((c.toNat : Int) == (n.toNat : Int)) = false := by
  have : c.toNat ≠ n.toNat := fun e => h (UInt8.toNat_inj.1 e)
  simp; omega
theorem bs_at {S : List UInt8} {i : Nat} {c : UInt8} (h : S[i]? = some c) : ∀ hi : i < (bs S).size, (bs S)[i]'hi = c := by
  intro hi
  have h1 : (bs S)[i] = S[i]'(by rw [bs_size] at hi; exact hi) := rfl
  rw [h1]
  exact (List.getElem?_eq_some_iff.1 h).2
theorem drop_at {S : List UInt8} {i : Nat} {c : UInt8} (h : S[i]? = some c) : S.drop i = c :: S.drop (i + 1) := by
  obtain ⟨h1, h2⟩ := List.getElem?_eq_some_iff.1 h
  rw [List.drop_eq_getElem_cons h1, h2]
theorem cut_at {S : List UInt8} {i : Nat} {c : UInt8} (h : S[i]? = some c) : (bs S).extract i (i + 1) = bs [c] := by
  obtain ⟨h1, h2⟩ := List.getElem?_eq_some_iff.1 h
  apply ByteArray.ext
  apply Array.ext'
  simp [bs, ByteArray.data_extract]
  rw [List.drop_eq_getElem_cons h1, h2]
  simp
theorem cut_two {S : List UInt8} {i : Nat} {c x : UInt8} (h : S[i]? = some c) (h' : S[i + 1]? = some x) : (bs S).extract i (i + 2) = bs [c, x] := by
  apply ByteArray.ext
  apply Array.ext'
  simp [bs, ByteArray.data_extract]
  rw [drop_at h, drop_at h']
  simp

def Un (S : List UInt8) (i : Nat) (k sz : Int) : Prop := ∀ w, Calls Try.prog 97 #[.string (bs S), .int .i64 i] w (RetW (.tuple #[.int .i64 k, .int .i64 sz]) w)

theorem un_not (S : List UInt8) (i : Nat) (hc : S[i]? = some 33) : Un S i 3 1 := by
  intro w
  have hsz : (bs S).size = S.length := bs_size S
  have hi : i < S.length := (List.getElem?_eq_some_iff.1 hc).1
  have hg := bs_at hc
  have h3 : (i : Int) < (S.length : Int) := by omega
  go_enter Try.func97, Try.ntmps97
  go_wp2_with fail
  refine bodyPost_ret (v := .tuple #[.int .i64 3, .int .i64 1]) (by simp [results, Try.results97, go_sem]) rfl ?_
  exact ⟨rfl, rfl⟩

set_option maxHeartbeats 1000000 in
theorem un_op (S : List UInt8) (i : Nat) (c x : UInt8) (k : Int) (hck : (c = 69 ∧ x = 88 ∧ k = 6) ∨ (c = 69 ∧ x = 71 ∧ k = 8) ∨ (c = 65 ∧ x = 88 ∧ k = 9) ∨ (c = 65 ∧ x = 71 ∧ k = 11)) (hl : S.length ≤ 1048576) (hc : S[i]? = some c) (hx : S[i + 1]? = some x) : Un S i k 2 := by
  intro w
  have hsz : (bs S).size = S.length := bs_size S
  have hi : i + 1 < S.length := (List.getElem?_eq_some_iff.1 hx).1
  have hg := bs_at hc
  have hcut := cut_two hc hx
  have h3 : (i : Int) < (S.length : Int) := by omega
  have h4 : ¬ ((i : Int) + 2 > (S.length : Int)) := by omega
  clear hc hx
  rcases hck with ⟨rfl, rfl, rfl⟩ | ⟨rfl, rfl, rfl⟩ | ⟨rfl, rfl, rfl⟩ | ⟨rfl, rfl, rfl⟩
  · rw [show bs [69, 88] = (⟨#[69, 88]⟩ : ByteArray) from rfl] at hcut
    go_enter Try.func97, Try.ntmps97
    go_wp2_with fail
    refine bodyPost_ret (v := .tuple #[.int .i64 6, .int .i64 2]) (by simp [results, Try.results97, go_sem]) rfl ?_
    exact ⟨rfl, rfl⟩
  · rw [show bs [69, 71] = (⟨#[69, 71]⟩ : ByteArray) from rfl] at hcut
    go_enter Try.func97, Try.ntmps97
    go_wp2_with fail
    refine bodyPost_ret (v := .tuple #[.int .i64 8, .int .i64 2]) (by simp [results, Try.results97, go_sem]) rfl ?_
    exact ⟨rfl, rfl⟩
  · rw [show bs [65, 88] = (⟨#[65, 88]⟩ : ByteArray) from rfl] at hcut
    go_enter Try.func97, Try.ntmps97
    go_wp2_with fail
    refine bodyPost_ret (v := .tuple #[.int .i64 9, .int .i64 2]) (by simp [results, Try.results97, go_sem]) rfl ?_
    exact ⟨rfl, rfl⟩
  · rw [show bs [65, 71] = (⟨#[65, 71]⟩ : ByteArray) from rfl] at hcut
    go_enter Try.func97, Try.ntmps97
    go_wp2_with fail
    refine bodyPost_ret (v := .tuple #[.int .i64 11, .int .i64 2]) (by simp [results, Try.results97, go_sem]) rfl ?_
    exact ⟨rfl, rfl⟩

set_option maxHeartbeats 1000000 in
theorem un_end (S : List UInt8) (i : Nat) (c : UInt8) (hl : S.length ≤ 1048576) (hc : S[i]? = some c) (hn : c ≠ 33) (he : S.length ≤ i + 1) : Un S i 0 0 := by
  intro w
  have hsz : (bs S).size = S.length := bs_size S
  have hi : i < S.length := (List.getElem?_eq_some_iff.1 hc).1
  have hg := bs_at hc
  have e1 : ((c.toNat : Int) == 33) = false := u8_ne hn
  have h3 : (i : Int) < (S.length : Int) := by omega
  have h4 : (i : Int) + 2 > (S.length : Int) := by omega
  clear hc hn
  go_enter Try.func97, Try.ntmps97
  go_wp2_with fail
  refine bodyPost_ret (v := .tuple #[.int .i64 0, .int .i64 0]) (by simp [results, Try.results97, go_sem]) rfl ?_
  exact ⟨rfl, rfl⟩

set_option maxHeartbeats 1000000 in
theorem un_none (S : List UInt8) (i : Nat) (c x : UInt8) (hl : S.length ≤ 1048576) (hc : S[i]? = some c) (hx : S[i + 1]? = some x) (hn : c ≠ 33) (h1 : ¬ ((c = 69 ∨ c = 65) ∧ (x = 88 ∨ x = 71))) : Un S i 0 0 := by
  intro w
  have hsz : (bs S).size = S.length := bs_size S
  have hi : i + 1 < S.length := (List.getElem?_eq_some_iff.1 hx).1
  have hg := bs_at hc
  have hcut := cut_two hc hx
  have e1 : ((c.toNat : Int) == 33) = false := u8_ne hn
  have h3 : (i : Int) < (S.length : Int) := by omega
  have h4 : ¬ ((i : Int) + 2 > (S.length : Int)) := by omega
  have hT : (bs [c, x]).toList = [c, x] := by rw [Go.ByteArray.toList_eq]; rfl
  have f1 : ((bs [c, x]).toList == [69, 88]) = false := by rw [hT]; simp; intro a b; exact h1 ⟨.inl a, .inl b⟩
  have f2 : ((bs [c, x]).toList == [69, 71]) = false := by rw [hT]; simp; intro a b; exact h1 ⟨.inl a, .inr b⟩
  have f3 : ((bs [c, x]).toList == [65, 88]) = false := by rw [hT]; simp; intro a b; exact h1 ⟨.inr a, .inl b⟩
  have f4 : ((bs [c, x]).toList == [65, 71]) = false := by rw [hT]; simp; intro a b; exact h1 ⟨.inr a, .inr b⟩
  generalize bs [c, x] = τ at *
  clear hc hx hn h1 hT
  go_enter Try.func97, Try.ntmps97
  go_wp2_with fail
  refine bodyPost_ret (v := .tuple #[.int .i64 0, .int .i64 0]) (by simp [results, Try.results97, go_sem]) rfl ?_
  exact ⟨rfl, rfl⟩

def pathOp (k : Int) (o : UInt8) : Option Int := if o = 85 then some k else none
set_option maxHeartbeats 1000000 in
theorem bi_none (o : UInt8) (w : World) : Calls Try.prog 98 #[.string ⟨#[]⟩, .int .u8 o.toNat] w (RetW (.int .i64 ((branOp o).getD 0)) w) := by
  by_cases h1 : o = 38
  · subst h1
    go_enter Try.func98, Try.ntmps98
    go_wp2_with fail
    go_ret
    exact ⟨rfl, rfl⟩
  by_cases h2 : o = 124
  · subst h2
    go_enter Try.func98, Try.ntmps98
    go_wp2_with fail
    go_ret
    exact ⟨rfl, rfl⟩
  have E := hid (show (branOp o).getD 0 = 0 by simp [branOp, h1, h2])
  have e1 : ((o.toNat : Int) == 38) = false := u8_ne h1
  have e2 : ((o.toNat : Int) == 124) = false := u8_ne h2
  generalize (o.toNat : Int) = k at *
  go_enter Try.func98, Try.ntmps98
  go_wp2_with fail
  go_ret
  exact ⟨congrArg (fun x => Ending.returned (Value.int .i64 x)) E.out.symm, rfl⟩
set_option maxHeartbeats 1000000 in
theorem bi_some (o : UInt8) (w : World) : Calls Try.prog 98 #[.string ⟨#[69]⟩, .int .u8 o.toNat] w (RetW (.int .i64 ((pathOp 7 o).getD 0)) w) := by
  by_cases h1 : o = 85
  · subst h1
    go_enter Try.func98, Try.ntmps98
    go_wp2_with fail
    go_ret
    exact ⟨rfl, rfl⟩
  have E := hid (show (pathOp 7 o).getD 0 = 0 by simp [pathOp, h1])
  have e1 : ((o.toNat : Int) == 85) = false := u8_ne h1
  generalize (o.toNat : Int) = k at *
  go_enter Try.func98, Try.ntmps98
  go_wp2_with fail
  go_ret
  exact ⟨congrArg (fun x => Ending.returned (Value.int .i64 x)) E.out.symm, rfl⟩
set_option maxHeartbeats 1000000 in
theorem bi_every (o : UInt8) (w : World) : Calls Try.prog 98 #[.string ⟨#[65]⟩, .int .u8 o.toNat] w (RetW (.int .i64 ((pathOp 10 o).getD 0)) w) := by
  by_cases h1 : o = 85
  · subst h1
    go_enter Try.func98, Try.ntmps98
    go_wp2_with fail
    go_ret
    exact ⟨rfl, rfl⟩
  have E := hid (show (pathOp 10 o).getD 0 = 0 by simp [pathOp, h1])
  have e1 : ((o.toNat : Int) == 85) = false := u8_ne h1
  generalize (o.toNat : Int) = k at *
  go_enter Try.func98, Try.ntmps98
  go_wp2_with fail
  go_ret
  exact ⟨congrArg (fun x => Ending.returned (Value.int .i64 x)) E.out.symm, rfl⟩
end Branching
end Go.Proofs.Ythjhokifonjeaaa
