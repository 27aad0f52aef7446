/- The reference's l5Unary, l5Binary; a text's bytes. Conditions: those of each contract. -/
import Derived.Test.YthdbkknbbppfnaaDoorTakeP
namespace Go.Proofs.YthdbkknbbppfnaaDoor
open Go.RowKit
namespace Formula

theorem u8_ne {c : UInt8} {n : UInt8} (h : c ≠ n) : ((c.toNat : Int) == (n.toNat : Int)) = false := by
  have : c.toNat ≠ n.toNat := fun e => h (UInt8.toNat_inj.1 e)
  simp; omega
def unK (c : UInt8) : Int := (formUn c).getD 0
def biK (c : UInt8) : Int := (formOp c).getD 0

theorem un_any (c : UInt8) (w : World) : Calls Tryd.prog 35 #[.int .u8 c.toNat] w (RetW (.int .i64 (unK c)) w) := by
  by_cases h1 : c = 33
  · subst h1
    go_enter Tryd.func35, Tryd.ntmps35
    go_wp2_with fail
    go_ret
    exact ⟨rfl, rfl⟩
  by_cases h2 : c = 88
  · subst h2
    go_enter Tryd.func35, Tryd.ntmps35
    go_wp2_with fail
    go_ret
    exact ⟨rfl, rfl⟩
  by_cases h3 : c = 70
  · subst h3
    go_enter Tryd.func35, Tryd.ntmps35
    go_wp2_with fail
    go_ret
    exact ⟨rfl, rfl⟩
  by_cases h4 : c = 71
  · subst h4
    go_enter Tryd.func35, Tryd.ntmps35
    go_wp2_with fail
    go_ret
    exact ⟨rfl, rfl⟩
  have E := hid (show unK c = 0 by simp [unK, formUn, h1, h2, h3, h4])
  have e1 : ((c.toNat : Int) == 33) = false := u8_ne h1
  have e2 : ((c.toNat : Int) == 88) = false := u8_ne h2
  have e3 : ((c.toNat : Int) == 70) = false := u8_ne h3
  have e4 : ((c.toNat : Int) == 71) = false := u8_ne h4
  generalize (c.toNat : Int) = k at *
  go_enter Tryd.func35, Tryd.ntmps35
  go_wp2_with fail
  go_ret
  exact ⟨congrArg (fun x => Ending.returned (Value.int .i64 x)) E.out.symm, rfl⟩

theorem bi_any (c : UInt8) (w : World) : Calls Tryd.prog 36 #[.int .u8 c.toNat] w (RetW (.int .i64 (biK c)) w) := by
  by_cases h1 : c = 38
  · subst h1
    go_enter Tryd.func36, Tryd.ntmps36
    go_wp2_with fail
    go_ret
    exact ⟨rfl, rfl⟩
  by_cases h2 : c = 124
  · subst h2
    go_enter Tryd.func36, Tryd.ntmps36
    go_wp2_with fail
    go_ret
    exact ⟨rfl, rfl⟩
  by_cases h3 : c = 85
  · subst h3
    go_enter Tryd.func36, Tryd.ntmps36
    go_wp2_with fail
    go_ret
    exact ⟨rfl, rfl⟩
  by_cases h4 : c = 82
  · subst h4
    go_enter Tryd.func36, Tryd.ntmps36
    go_wp2_with fail
    go_ret
    exact ⟨rfl, rfl⟩
  have E := hid (show biK c = 0 by simp [biK, formOp, h1, h2, h3, h4])
  have e1 : ((c.toNat : Int) == 38) = false := u8_ne h1
  have e2 : ((c.toNat : Int) == 124) = false := u8_ne h2
  have e3 : ((c.toNat : Int) == 85) = false := u8_ne h3
  have e4 : ((c.toNat : Int) == 82) = false := u8_ne h4
  generalize (c.toNat : Int) = k at *
  go_enter Tryd.func36, Tryd.ntmps36
  go_wp2_with fail
  go_ret
  exact ⟨congrArg (fun x => Ending.returned (Value.int .i64 x)) E.out.symm, rfl⟩

theorem bs_at {S : List UInt8} {i : Nat} {c : UInt8} (h : S[i]? = some c) : ∀ hi : i < (bs S).size, (bs S)[i]'hi = c := by
  intro hi
  have h1 : (bs S)[i] = S[i]'(by rw [bs_size] at hi; exact hi) := rfl
  rw [h1]
  exact (List.getElem?_eq_some_iff.1 h).2
theorem drop_at {S : List UInt8} {i : Nat} {c : UInt8} (h : S[i]? = some c) : S.drop i = c :: S.drop (i + 1) := by
  obtain ⟨h1, h2⟩ := List.getElem?_eq_some_iff.1 h
  rw [List.drop_eq_getElem_cons h1, h2]
end Formula
end Go.Proofs.YthdbkknbbppfnaaDoor
