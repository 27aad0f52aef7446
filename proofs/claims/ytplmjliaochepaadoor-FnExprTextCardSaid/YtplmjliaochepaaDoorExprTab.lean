/- The table of signs, as the row lists it, is the table in memory. Conditions: none. -/
import Derived.Test.YtplmjliaochepaaDoorExprTxtI
import Derived.SliceStrings
import Derived.ProofKit
import Derived.LaidMore
import Derived.OpenShut
import Derived.Stop.Joined
namespace Go.Proofs.YtplmjliaochepaaDoor
open Go.ChangeShapes Go.WideShapes Go.RowKit
namespace Expr

theorem str_of {s : ByteArray} {l : List UInt8} (h : s.data.toList = l) : s = ⟨l.toArray⟩ := by
  subst h; cases s; simp
theorem add_none (b o i : Nat) : Addr.add ⟨b, o, none⟩ i = ⟨b, o + i, none⟩ := by unfold Addr.add; split <;> simp_all
theorem gSigns : Tryd.prog.globalNamed "loop.example/ltlcheck/impl.exprSigns" = some 0 := by kernel_rfl
theorem tSigns : (Tryd.prog.globals[0]?).map (·.type) = some 47 := by kernel_rfl
def laid1 : List (String × DataW Unit) := [("math/bits.deBruijn32tab", Rows.laid_math_bits_deBruijn32tab), ("math/bits.deBruijn64tab", Rows.laid_math_bits_deBruijn64tab), ("internal/strconv.uint64pow10", Rows.laid_internal_strconv_uint64pow10), ("loop.example/ltlcheck/impl.exprSigns", Rows.laid_loop_example_ltlcheck_impl_exprSigns)]

theorem Sg_of_laid {W : World} (h : laidMetH Tryd.prog laid1 W) : Sg W := by
  rw [MakeChecks.laidMetH_plain _ _ _ (by kernel_rfl)] at h
  obtain ⟨ps, ⟨_, _, _, _, _, _, _, _, _, _, ⟨_, _, _, _, _, _, _, _, _, _, ⟨_, _, _, _, _, _, _, _, _, _, ⟨g0, t0, cs0, f0, p0, q0, hg0, ht0, hv0, hd0, _, _⟩, _⟩, _⟩, _⟩, _, _⟩ := h
  obtain rfl := Option.some.inj (gSigns.symm.trans hg0)
  obtain rfl := Option.some.inj (tSigns.symm.trans ht0)
  rcases open_strings Tryd.underlying47 Tryd.underlying9 (by kernel_rfl) hd0 with ⟨_, hx⟩ | ⟨a, len, cap, ss, hcs, _, hlc, _, hls, hx, hcell, _⟩
  · simp [Rows.laid_loop_example_ltlcheck_impl_exprSigns] at hx
  simp only [if_true] at hls
  have hv := World.var?_cell hg0 hv0 0
  rw [Array.eq_one_of_toList hcs] at hv
  simp only [Rows.laid_loop_example_ltlcheck_impl_exprSigns, strs, Prod.mk.injEq, DataW.slice.injEq] at hx
  obtain ⟨⟨h1, h2⟩, _⟩ := hx
  have hlen := congrArg List.length h1
  have hlen2 := congrArg List.length h2
  simp at hlen hlen2
  obtain rfl : len = 10 := by omega
  rw [List.take_of_length_le (by omega)] at h1
  have h11 : ss.length = 10 := by omega
  match ss, h11 with
  | [s0, s1, s2, s3, s4, s5, s6, s7, s8, s9], _ =>
    simp only [List.map_cons, List.map_nil, List.cons.injEq, DataW.lit.injEq, Lit.string.injEq, and_true] at h1
    obtain ⟨e0, e1, e2, e3, e4, e5, e6, e7, e8, e9⟩ := h1
    obtain ⟨b, o, s⟩ := a
    have c0 := hcell 0 (by simp)
    have hs : s = none := by simpa [Addr.add] using World.cell?_spot c0
    subst hs
    have ea : ∀ i, Addr.add ⟨b, o, none⟩ i = ⟨b, o + i, none⟩ := add_none b o
    refine ⟨b, o, cap, by simpa using hv, fun i s hi => ?_⟩
    have hlt : i < 10 := by unfold TabAt at hi; omega
    have hc := hcell i (by simpa using hlt)
    rw [ea] at hc
    rw [hc]
    unfold TabAt at hi
    rcases hi with ⟨rfl, rfl⟩ | ⟨rfl, rfl⟩ | ⟨rfl, rfl⟩ | ⟨rfl, rfl⟩ | ⟨rfl, rfl⟩ | ⟨rfl, rfl⟩
    · rw [show s4 = _ from str_of e4.symm]; rfl
    · rw [show s5 = _ from str_of e5.symm]; rfl
    · rw [show s6 = _ from str_of e6.symm]; rfl
    · rw [show s7 = _ from str_of e7.symm]; rfl
    · rw [show s8 = _ from str_of e8.symm]; rfl
    · rw [show s9 = _ from str_of e9.symm]; rfl

/-- The door's own heap meets the condition: three closed facts. -/
theorem door_met (os : Os) (args : Array Value) : laidMetH Tryd.prog laid1 ((World.doorLaid Tryd.prog 400 os).forCall (fun _ _ => 0) ⟨#[], args, []⟩).memory :=
  laidMetH_of_parts3 (fuel := 8) (laidMet_of_run' 8 (by kernel_rfl) (by kernel_rfl)) (by kernel_rfl) (by kernel_rfl)

end Expr
end Go.Proofs.YtplmjliaochepaaDoor
