/- Arguments as they come in: a value that reads as a slice of bytes. Conditions: none. -/
import Derived.Test.YtfemikebklmlpaaJV4
import Derived.ProofKit
import Derived.ChangeOld
import Derived.Lib.SmallJoins
set_option linter.unusedVariables false
set_option linter.unusedSimpArgs false
namespace Go.Proofs.Ytfemikebklmlpaa
open Go.RowKit

section
variable {H : Type} {enc : TypeId × Value → H} {P : Program} {w : World} {base : Nat} {spare : Nat → Bool} {held : Bool}

theorem cells1 {a : Addr} {cs : List Value} (h : w.cells? base a 1 = some cs) : ∃ c0, cs = [c0] ∧ w.cell? (a.add 0) = some c0 := by
  obtain ⟨_, hl, hc⟩ := World.cells?_some h
  match cs, hl with
  | [c0], _ => exact ⟨c0, rfl, by simpa using hc 0 (by omega)⟩

theorem bytes_read {S I : TypeId} (hS : P.underlying S = some (.slice I)) (hI : P.underlying I = some (.int .u8)) (cI : P.cellsOf I = 1)
    {fuel : Nat} {a : Option Addr} {len cap : Nat} {x : DataW H × List MemPlace} (h : DataW.trod enc P w base spare held fuel S [.slice a len cap] = some x) : ByteArg w a len cap := by
  rcases DataW.trod_slice hS h with ⟨hc, _⟩ | ⟨a', len', cap', elems, rest, m, hm, hc, _, _, hlc, hcm, hel, hcell, _⟩
  · simp at hc
    obtain ⟨rfl, rfl, rfl⟩ := hc
    exact ⟨Nat.le_refl _, Nat.zero_le _, .inl rfl⟩
  · simp at hc
    obtain ⟨rfl, rfl, rfl⟩ := hc
    refine ⟨hlc, hcm, ?_⟩
    by_cases h0 : len = 0
    · exact .inl h0
    have key : ∀ i, i < len → ∃ n : Int, w.cell? (a'.add i) = some (.int .u8 n) ∧ 0 ≤ n ∧ n ≤ 255 := fun i hi => by
      have hh := hcell i hi
      rw [cI, List.getElem?_eq_getElem (by omega)] at hh
      obtain ⟨cs', h3, h4⟩ := Option.bind_eq_some_iff.1 hh
      obtain ⟨c0, rfl, q0⟩ := cells1 h3
      obtain ⟨n, hn, _, wn⟩ := DataW.trod_int hI h4
      simp only [List.cons.injEq, and_true] at hn
      subst hn
      have hwf : 0 ≤ n ∧ n ≤ 255 := by
        simp [Lit.wf, IntKind.min, IntKind.max, IntKind.signed, IntKind.bits] at wn
        omega
      exact ⟨n, by simpa [Addr.add] using q0, hwf⟩
    obtain ⟨b, o, s⟩ := a'
    obtain ⟨n0, e0, _⟩ := key 0 (by omega)
    have hs : s = none := by simpa [Addr.add] using World.cell?_spot e0
    subst hs
    have ea : ∀ i, Addr.add ⟨b, o, none⟩ i = ⟨b, o + i, none⟩ := fun i => by unfold Addr.add; split <;> simp_all
    have hall : ∀ i, ∃ n : Int, i < len → w.cell? ⟨b, o + i, none⟩ = some (.int .u8 n) ∧ 0 ≤ n ∧ n ≤ 255 := fun i => by
      by_cases hi : i < len
      · obtain ⟨n, hn⟩ := key i hi
        rw [ea] at hn
        exact ⟨n, fun _ => hn⟩
      · exact ⟨0, fun h => absurd h hi⟩
    obtain ⟨f, hf⟩ := Classical.axiomOfChoice hall
    refine .inr ⟨b, o, f, rfl, ?_, hf⟩
    have := (hf 0 (by omega)).1
    exact blt this
end
end Go.Proofs.Ytfemikebklmlpaa
