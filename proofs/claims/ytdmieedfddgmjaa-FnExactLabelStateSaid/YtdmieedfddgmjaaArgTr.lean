/- Arguments as they come in: a value that reads as data of a node's type is a tree in memory. Conditions: none. -/
import Derived.Test.YtdmieedfddgmjaaMem
import Derived.ProofKit
import Derived.ChangeOld
import Derived.Lib.SmallJoins
namespace Go.Proofs.Ytdmieedfddgmjaa
open Go.RowKit

theorem i64_of_wf {n : Int} (h : (Lit.int .i64 n).wf = true) : i64 n := by
  simp [Lit.wf, IntKind.min, IntKind.max, IntKind.signed, IntKind.bits] at h
  exact h

section
variable {H : Type} {enc : TypeId × Value → H} {P : Program} {w : World} {base : Nat} {spare : Nat → Bool} {held : Bool}

theorem cells3 {a : Addr} {cs : List Value} (h : w.cells? base a 3 = some cs) : ∃ c0 c1 c2, cs = [c0, c1, c2] ∧ w.cell? (a.add 0) = some c0 ∧ w.cell? (a.add 1) = some c1 ∧ w.cell? (a.add 2) = some c2 := by
  obtain ⟨_, hl, hc⟩ := World.cells?_some h
  match cs, hl with
  | [c0, c1, c2], _ => exact ⟨c0, c1, c2, rfl, by simpa using hc 0 (by omega), by simpa using hc 1 (by omega), by simpa using hc 2 (by omega)⟩

theorem TrsIn_build {a : Addr} {len : Nat} (h : ∀ i, i < len → ∃ t c0 c1 c2, w.cell? (a.add (i * 3)) = some c0 ∧ w.cell? ((a.add (i * 3)).add 1) = some c1 ∧ w.cell? ((a.add (i * 3)).add 2) = some c2 ∧ TrIn Any w t (.agg #[c0, c1, c2])) :
    ∃ ks : List Tr, ks.length = len ∧ TrsIn Any w ks (some a) := by
  cases len with
  | zero => exact ⟨[], rfl, TrsIn_nil _ _ _⟩
  | succ len =>
    obtain ⟨b, o, s⟩ := a
    obtain ⟨t0, c0, c1, c2, h0, _⟩ := h 0 (by omega)
    have hs : s = none := by simpa [Addr.add] using World.cell?_spot h0
    subst hs
    have key : ∀ n j, j + n = len + 1 → ∃ ks : List Tr, ks.length = n ∧ TrsIn Any w ks (some ⟨b, o + j * 3, none⟩) := by
      intro n
      induction n with
      | zero => intro j _; exact ⟨[], rfl, TrsIn_nil _ _ _⟩
      | succ n ih =>
        intro j hj
        obtain ⟨ks, hk, hks⟩ := ih (j + 1) (by omega)
        obtain ⟨t, d0, d1, d2, e0, e1, e2, ht⟩ := h j (by omega)
        have ea : Addr.add ⟨b, o, none⟩ (j * 3) = ⟨b, o + j * 3, none⟩ := by unfold Addr.add; split <;> simp_all
        rw [ea] at e0 e1 e2
        refine ⟨t :: ks, by simp [hk], (TrsIn_cons ..).2 ⟨b, o + j * 3, d0, d1, d2, rfl, trivial, e0, by simpa [Addr.add] using e1, by simpa [Addr.add] using e2, ht, ?_⟩⟩
        rw [show o + j * 3 + 3 = o + (j + 1) * 3 by omega]
        exact hks
    obtain ⟨ks, h1, h2⟩ := key (len + 1) 0 (by omega)
    exact ⟨ks, h1, by simpa using h2⟩

/-- WHAT READS AS A NODE IS A TREE -/
theorem tr_read {T S I : TypeId} {f0 f1 f2 : Field} (hT : P.underlying T = some (.struct #[f0, f1, f2])) (t0 : f0.type = I) (o0 : f0.offset = 0) (t1 : f1.type = I) (o1 : f1.offset = 1) (t2 : f2.type = S) (o2 : f2.offset = 2)
    (hI : P.underlying I = some (.int .i64)) (hS : P.underlying S = some (.slice T)) (cI : P.cellsOf I = 1) (cS : P.cellsOf S = 1) (cT : P.cellsOf T = 3) :
    ∀ (fuel : Nat) (cs : List Value) (x : DataW H × List MemPlace), DataW.trod enc P w base spare held fuel T cs = some x → ∃ t, TrIn Any w t (.agg cs.toArray) := by
  intro fuel
  induction fuel using Nat.strongRecOn with
  | _ fuel ih =>
    intro cs x h
    obtain ⟨xs, n, rfl, _, hl, hlen, hf⟩ := DataW.trod_struct hT h
    rw [cT] at hl
    match cs, hl with
    | [c0, c1, c2], _ =>
      have g0 := hf 0 f0 rfl
      have g1 := hf 1 f1 rfl
      have g2 := hf 2 f2 rfl
      rw [t0, o0, cI] at g0
      rw [t1, o1, cI] at g1
      rw [t2, o2, cS] at g2
      simp only [List.drop_zero, List.take_succ_cons, List.take_zero, List.drop_succ_cons] at g0 g1 g2
      have hx : ∀ i, i < 3 → ∃ y, xs[i]? = some y := fun i hi => ⟨_, List.getElem?_eq_getElem (by rw [hlen]; exact hi)⟩
      obtain ⟨y0, e0⟩ := hx 0 (by omega)
      obtain ⟨y1, e1⟩ := hx 1 (by omega)
      obtain ⟨y2, e2⟩ := hx 2 (by omega)
      rw [e0] at g0
      rw [e1] at g1
      rw [e2] at g2
      obtain ⟨k, hk, _, wk⟩ := DataW.trod_int hI g0
      obtain ⟨v, hv, _, wv⟩ := DataW.trod_int hI g1
      simp only [List.cons.injEq, and_true] at hk hv
      subst hk hv
      rcases DataW.trod_slice hS g2 with ⟨hc, _⟩ | ⟨a, len, cap, elems, rest, m, hm, hc, _, _, hlc, hcm, hel, hcell, _⟩
      · simp only [List.cons.injEq, and_true] at hc
        subst hc
        exact ⟨.mk k v [], (TrIn_mk ..).2 ⟨none, 0, 0, rfl, i64_of_wf wk, i64_of_wf wv, rfl, Nat.le_refl _, Nat.zero_le _, TrsIn_nil _ _ _⟩⟩
      · simp only [List.cons.injEq, and_true] at hc
        subst hc
        obtain ⟨ks, h1, h2⟩ := TrsIn_build (w := w) (a := a) (len := len) (fun i hi => by
          have hh := hcell i hi
          rw [cT, List.getElem?_eq_getElem (by omega)] at hh
          obtain ⟨cs', h3, h4⟩ := Option.bind_eq_some_iff.1 hh
          obtain ⟨d0, d1, d2, rfl, q0, q1, q2⟩ := cells3 h3
          obtain ⟨t, ht⟩ := ih m (by omega) _ _ h4
          exact ⟨t, d0, d1, d2, by simpa [Addr.add] using q0, q1, q2, ht⟩)
        subst h1
        exact ⟨.mk k v ks, (TrIn_mk ..).2 ⟨some a, ks.length, cap, rfl, i64_of_wf wk, i64_of_wf wv, rfl, hlc, hcm, h2⟩⟩

/-- WHAT READS AS A SLICE OF NODES IS A ROW OF TREES -/
theorem trs_read {T S I : TypeId} {f0 f1 f2 : Field} (hT : P.underlying T = some (.struct #[f0, f1, f2])) (t0 : f0.type = I) (o0 : f0.offset = 0) (t1 : f1.type = I) (o1 : f1.offset = 1) (t2 : f2.type = S) (o2 : f2.offset = 2)
    (hI : P.underlying I = some (.int .i64)) (hS : P.underlying S = some (.slice T)) (cI : P.cellsOf I = 1) (cS : P.cellsOf S = 1) (cT : P.cellsOf T = 3)
    {fuel : Nat} {a : Option Addr} {len cap : Nat} {x : DataW H × List MemPlace} (h : DataW.trod enc P w base spare held fuel S [.slice a len cap] = some x) :
    ∃ l : List Tr, l.length = len ∧ len ≤ cap ∧ cap ≤ maxLen ∧ TrsIn Any w l a := by
  rcases DataW.trod_slice hS h with ⟨hc, _⟩ | ⟨a', len', cap', elems, rest, m, hm, hc, _, _, hlc, hcm, hel, hcell, _⟩
  · simp at hc
    obtain ⟨rfl, rfl, rfl⟩ := hc
    exact ⟨[], rfl, Nat.le_refl _, Nat.zero_le _, TrsIn_nil _ _ _⟩
  · simp at hc
    obtain ⟨rfl, rfl, rfl⟩ := hc
    obtain ⟨ks, h1, h2⟩ := TrsIn_build (w := w) (a := a') (len := len) (fun i hi => by
      have hh := hcell i hi
      rw [cT, List.getElem?_eq_getElem (by omega)] at hh
      obtain ⟨cs', h3, h4⟩ := Option.bind_eq_some_iff.1 hh
      obtain ⟨d0, d1, d2, rfl, q0, q1, q2⟩ := cells3 h3
      obtain ⟨t, ht⟩ := tr_read hT t0 o0 t1 o1 t2 o2 hI hS cI cS cT m _ _ h4
      exact ⟨t, d0, d1, d2, by simpa [Addr.add] using q0, q1, q2, ht⟩)
    exact ⟨ks, h1, hlc, hcm, h2⟩
end

end Go.Proofs.Ytdmieedfddgmjaa
