/- The reference's 'of' and l1Bend: some text, not much longer. Conditions: those of each contract. -/
import Derived.Test.YtplmjliaochepaaDoorRows
import Derived.Test.YtplmjliaochepaaDoorDraw
import Derived.Test.YtplmjliaochepaaDoorExprDraws
import Derived.Test.YtplmjliaochepaaDoorExprFmt
import Derived.WalkSpells
import Derived.WalkLawsBesides
import Derived.Laws.Concat
import Derived.Deep.RegionHeld3
namespace Go.Proofs.YtplmjliaochepaaDoor
open Go.RowKit

/-- texts of one byte at most, in a row -/
def Texts (w : World) (L len : Nat) : Prop := L < w.heap.size ∧ ∃ f : Nat → ByteArray, ∀ i, i < len → w.cell? ⟨L, i, none⟩ = some (.string (f i)) ∧ (f i).size ≤ 1
theorem Texts.but {w w' : World} {L len R : Nat} (h : Texts w L len) (hb : But w R w') (hL : L ≠ R) : Texts w' L len := by
  obtain ⟨h1, f, h2⟩ := h
  exact ⟨Nat.lt_of_lt_of_le h1 hb.size, f, fun i hi => by rw [hb.cell h1 hL]; exact h2 i hi⟩
theorem Texts.new (ss : List ByteArray) (hs : ∀ s, s ∈ ss → s.size ≤ 1) (w : World) (t : TypeId) : Texts (w.alloc (.cells (ss.map Value.string).toArray t)) w.heap.size ss.length := by
  refine ⟨by simp, fun i => ss.getD i ByteArray.empty, fun i hi => ?_⟩
  have e : ss[i]? = some (ss.getD i ByteArray.empty) := by rw [List.getD_eq_getElem?_getD, List.getElem?_eq_getElem hi]; rfl
  refine ⟨?_, hs _ (List.mem_of_getElem? e)⟩
  rw [World.cell?_alloc_new, List.getElem?_toArray, List.getElem?_map, e]
  rfl

def OfPost (B R p : Nat) (w : World) (e : Ending) (w' : World) : Prop := ∃ s : ByteArray, e = .returned (.string s) ∧ s.size ≤ 1 ∧ But w R w' ∧ Rd B w' R (p + 1)
set_option maxHeartbeats 400000 in
theorem of_any (B : Nat) (w : World) (R p L len : Nat) (hr : Rd B w R p) (hp : p ≤ 1000000) (h0 : 0 < len) (hl : len ≤ 100) (hL : L ≠ R) (ht : Texts w L len) :
    Calls Tryd.prog 33 #[.pointer (some ⟨R, 0, none⟩), .slice (some ⟨L, 0, none⟩) len len] w (OfPost B R p w) := by
  go_enter Tryd.func33, Tryd.ntmps33
  go_wp2_with fail
  refine (pick_any _ _ _ R p hr hp (by omega) (by omega)).mono ?_
  rintro e w1 ⟨i, rfl, ⟨i0, i1, _⟩, hbut, hrd⟩
  obtain ⟨k, rfl⟩ := Int.eq_ofNat_of_zero_le i0
  have hk : k < len := by have := i1 (by omega); omega
  have hk2 : (k : Int) < (len : Int) := by omega
  obtain ⟨hL1, f, h2⟩ := ht.but hbut hL
  obtain ⟨c1, c2⟩ := h2 k hk
  have C2 := hid c2
  clear i1 h2 c2
  go_wp2_with fail
  go_ret
  exact ⟨_, rfl, C2.out, hbut, hrd⟩

def BendPost (B R m : Nat) (w : World) (e : Ending) (w' : World) : Prop := ∃ s : ByteArray, e = .returned (.string s) ∧ s.size ≤ m + 1 ∧ But w R w' ∧ ∃ p, Rd B w' R p

set_option maxRecDepth 100000 in
set_option maxHeartbeats 2000000 in
theorem bend_any (B : Nat) (w : World) (R p L len : Nat) (S : ByteArray) (hS : S.size ≤ 1000) (hr : Rd B w R p) (hp : p + 10 ≤ 1000000) (h0 : 0 < len) (hl : len ≤ 100) (hL : L ≠ R) (ht : Texts w L len) :
    Calls Tryd.prog 22 #[.pointer (some ⟨R, 0, none⟩), .string S, .slice (some ⟨L, 0, none⟩) len len] w (BendPost B R S.size w) := by
  have HT := hid ht
  have HR := hid hr
  clear ht hr
  by_cases hz : S.size = 0
  · have hz2 : (S.size : Int) = 0 := by omega
    go_enter Tryd.func22, Tryd.ntmps22
    go_wp2_with fail
    go_ret
    exact ⟨_, rfl, by omega, But.refl _ _, p, HR.out⟩
  have hz2 : ¬ ((S.size : Int) = 0) := by omega
  have hz3 : ((S.size : Int) == 0) = false := by simpa using hz2
  go_enter Tryd.func22, Tryd.ntmps22
  go_wp2_with fail
  refine (pick_any B 2 _ R p HR.out (by omega) (by omega) (by omega)).mono ?_
  rintro e w1 ⟨i, rfl, ⟨i0, i1, _⟩, hb1, hr1⟩
  by_cases hi : i = 0
  · subst hi
    go_wp2_with fail
    go_ret
    exact ⟨_, rfl, by omega, hb1, _, hr1⟩
  have hi2 : (i == 0) = false := by simpa using hi
  clear i1
  go_wp2_with fail
  refine (pick_any B _ _ R (p + 1) hr1 (by omega) (by omega) (by omega)).mono ?_
  rintro e w2 ⟨k, rfl, ⟨k0, k1, _⟩, hb2, hr2⟩
  obtain ⟨k, rfl⟩ := Int.eq_ofNat_of_zero_le k0
  have hk : k < S.size := by have := k1 (by omega); omega
  have HB2 := hid (hb1.trans hb2)
  have HR2 := hid hr2
  clear k1 hb1 hb2 hr1 hr2 hi hi2
  have hk2 : (k : Int) < (S.size : Int) := by omega
  have hk3 : (k : Int) ≤ (S.size : Int) := by omega
  obtain ⟨A, hA0, hA⟩ : ∃ A, S.extract 0 k = A ∧ A.size ≤ k := ⟨_, rfl, by rw [ByteArray.size_extract]; omega⟩
  go_wp2_with fail
  go_region_held3 (fun _ => True) (exact trivial)
    (first
      | (go_at_call 33; have HX := of_any B w2.drew R (p + 1 + 1) L len (HR2.out.next (below_d (Below.refl _ _))) (by omega) h0 hl hL ((HT.out.but HB2.out hL).but (But.of (below_d (Below.refl _ _))) hL); refine HX.mono ?_; clear HX; rintro e w3 ⟨σ, rfl, hσ, hb3, hr3⟩; have hadd1 : ¬ (A.size + σ.size > 9223372036854775807) := (by omega))
      | (go_at_call 32; have HX := pick_any B 2 w3 R (p + 1 + 1 + 1) hr3 (by omega) (by omega) (by omega); refine HX.mono ?_; clear HX; rintro e w4 ⟨j, rfl, ⟨j0, j1, _⟩, hb4, hr4⟩; have hj := j1 (by omega); obtain ⟨m, hm, hm2⟩ : ∃ m : Nat, (k : Int) + j = (m : Int) ∧ m ≤ S.size := ⟨((k : Int) + j).toNat, by omega, by omega⟩; have hm3 : (m : Int) ≤ (S.size : Int) := (by omega); have f1 : 0 ≤ (k : Int) + j := (by omega); have f2 : (k : Int) + j ≤ (S.size : Int) := (by omega); have f3 : ((k : Int) + j).toNat = m := (by omega); have f4 : IntKind.i64.wrap ((k : Int) + j) = (k : Int) + j := IntWalk.i64_in _ (by omega); have hm' := hid hm; clear hm; obtain ⟨C, hC0, hC⟩ : ∃ C, S.extract m S.size = C ∧ C.size ≤ S.size - m := ⟨_, rfl, by simp [ByteArray.size_extract]⟩; have hadd2 : ¬ (A.size + σ.size + C.size > 9223372036854775807) := (by omega); have hadd3 : ¬ ((A ++ σ).size + C.size > 9223372036854775807) := (by rw [ByteArray.size_append]; omega); have hm5 : ¬ ((S.size : Int) < (m : Int)) := (by omega); have hm6 : ¬ ((m : Int) > (S.size : Int)) := (by omega)))
  have hsz : (A ++ σ ++ C).size ≤ S.size + 1 := by
    rw [ByteArray.size_append, ByteArray.size_append]
    have := hm'.out
    omega
  have HSZ := hid hsz
  have HBF := hid ((HB2.out.next (below_d (Below.refl _ _))).trans (hb3.trans hb4))
  have HRF := hid hr4
  clear hsz hb3 hb4 hr3 hr4 hm'
  go_wp2_with fail
  go_ret
  exact ⟨_, rfl, HSZ.out, HBF.out, _, HRF.out⟩

namespace Expr
/-- what a drawn text comes to: some text, not too long -/
def TextPost (w : World) (e : Ending) (w' : World) : Prop := ∃ s : ByteArray, e = .returned (.string s) ∧ s.size ≤ 1000 ∧ Below w.heap.size w w'
end Expr
end Go.Proofs.YtplmjliaochepaaDoor
