/- Arguments as they come in: values that read as data of a graph's type are graphs in memory. Conditions: none. -/
import Derived.Test.YtfemikebklmlpaaGrIn
import Derived.Test.YtfemikebklmlpaaCells
namespace Go.Proofs.Ytfemikebklmlpaa
open Go.RowKit
namespace Gr
section
variable {H : Type} {enc : TypeId × Value → H} {P : Program} {w : World} {base : Nat} {spare : Nat → Bool} {held : Bool}

theorem i64_wf {n : Int} (h : (Lit.int .i64 n).wf = true) : i64 n := by
  simp [Lit.wf, IntKind.min, IntKind.max, IntKind.signed, IntKind.bits] at h
  exact h
/-- WHAT READS AS A SLICE OF TRUTHS -/
theorem bools_read {S I : TypeId} (hS : P.underlying S = some (.slice I)) (hI : P.underlying I = some .bool) (cI : P.cellsOf I = 1)
    {fuel : Nat} {a : Option Addr} {len cap : Nat} {x : DataW H × List MemPlace} (h : DataW.trod enc P w base spare held fuel S [.slice a len cap] = some x) : ∃ l : List Bool, l.length = len ∧ len ≤ cap ∧ cap ≤ maxLen ∧ BoolsIn Any w a l := by
  obtain ⟨l, h1, h2, h3, h4, _⟩ := elems_read (V := Value.bool) (ok := fun _ => True) hS cI (fun m c x hx => by
    obtain ⟨n, hn, _⟩ := DataW.trod_bool hI hx
    simp only [List.cons.injEq, and_true] at hn
    exact ⟨n, hn, trivial⟩) h
  exact ⟨l, h1, h2, h3, h4⟩
theorem seq_build {X : Type} {At : X → Nat → Nat → Prop} {n : Nat} (hn : 0 < n) {a : Addr} {len : Nat}
    (h : ∀ i, i < len → ∃ cs : List Value, cs.length = n ∧ (∀ j c, cs[j]? = some c → w.cell? ((a.add (i * n)).add j) = some c) ∧ ∀ b o, (∀ j c, cs[j]? = some c → w.cell? ⟨b, o + j, none⟩ = some c) → ∃ t, At t b o) :
    ∃ l : List X, l.length = len ∧ SeqIn At n Any w l (some a) := by
  cases len with
  | zero => exact ⟨[], rfl, .inl rfl⟩
  | succ len =>
    obtain ⟨b, o, s⟩ := a
    obtain ⟨cs, hl, hc, _⟩ := h 0 (by omega)
    have h0 := hc 0 _ (List.getElem?_eq_getElem (by omega))
    have hs : s = none := by simpa [Addr.add] using World.cell?_spot h0
    subst hs
    have ea : ∀ k, Addr.add ⟨b, o, none⟩ k = ⟨b, o + k, none⟩ := fun k => by unfold Addr.add; split <;> simp_all
    have ea2 : ∀ k j, Addr.add ⟨b, o + k, none⟩ j = ⟨b, o + k + j, none⟩ := fun k j => by unfold Addr.add; split <;> simp_all
    have hb : b < w.heap.size := by rw [ea, ea2] at h0; exact blt h0
    have key : ∀ i, i < len + 1 → ∃ t, At t b (o + i * n) := fun i hi => by
      obtain ⟨cs, _, hc, ht⟩ := h i hi
      refine ht b (o + i * n) fun j c hj => ?_
      have := hc j c hj
      rwa [ea, ea2] at this
    have build : ∀ k, k ≤ len + 1 → ∃ l : List X, l.length = k ∧ ∀ i t, l[i]? = some t → At t b (o + i * n) := by
      intro k
      induction k with
      | zero => intro _; exact ⟨[], rfl, by simp⟩
      | succ k ih =>
        intro hk
        obtain ⟨l, h1, h2⟩ := ih (by omega)
        obtain ⟨t, h3⟩ := key k (by omega)
        refine ⟨l ++ [t], by simp [h1], fun i u hu => ?_⟩
        by_cases hi : i < l.length
        · rw [List.getElem?_append_left hi] at hu; exact h2 i u hu
        · rw [List.getElem?_append_right (by omega)] at hu
          have hi2 : i = k := by
            have := (List.getElem?_eq_some_iff.1 hu).1
            simp at this; omega
          subst hi2
          simp [h1] at hu
          subst hu
          exact h3
    obtain ⟨l, h1, h2⟩ := build (len + 1) (Nat.le_refl _)
    exact ⟨l, h1, .inr ⟨b, o, rfl, trivial, hb, h2⟩⟩
/-- WHAT READS AS A SLICE OF RECORDS IS A ROW OF THEM -/
theorem seq_read {X : Type} {At : X → Nat → Nat → Prop} {S T : TypeId} {n : Nat} (hn : 0 < n) (hS : P.underlying S = some (.slice T)) (cT : P.cellsOf T = n)
    (hel : ∀ (m : Nat) (cs : List Value) (x : DataW H × List MemPlace) (b o : Nat), cs.length = n → DataW.trod enc P w base spare held m T cs = some x → (∀ j c, cs[j]? = some c → w.cell? ⟨b, o + j, none⟩ = some c) → ∃ t, At t b o)
    {fuel : Nat} {a : Option Addr} {len cap : Nat} {x : DataW H × List MemPlace} (h : DataW.trod enc P w base spare held fuel S [.slice a len cap] = some x) :
    ∃ l : List X, l.length = len ∧ len ≤ cap ∧ cap ≤ maxLen ∧ SeqIn At n Any w l a := by
  rcases DataW.trod_slice hS h with ⟨hc, _⟩ | ⟨a', len', cap', elems, rest, m, hm, hc, _, _, hlc, hcm, hel', hcell, _⟩
  · simp at hc
    obtain ⟨rfl, rfl, rfl⟩ := hc
    exact ⟨[], rfl, Nat.le_refl _, Nat.zero_le _, .inl rfl⟩
  · simp at hc
    obtain ⟨rfl, rfl, rfl⟩ := hc
    obtain ⟨l, h1, h2⟩ := seq_build (w := w) (At := At) hn (a := a') (len := len) (fun i hi => by
      have hh := hcell i hi
      rw [cT, List.getElem?_eq_getElem (by omega)] at hh
      obtain ⟨cs', h3, h4⟩ := Option.bind_eq_some_iff.1 hh
      obtain ⟨_, hl, hc⟩ := World.cells?_some h3
      refine ⟨cs', hl, fun j c hj => ?_, fun b o hq => hel m cs' _ b o hl h4 hq⟩
      have hj2 : j < n := by have := (List.getElem?_eq_some_iff.1 hj).1; omega
      rw [hc j hj2]; exact hj)
    exact ⟨l, h1, hlc, hcm, h2⟩


theorem slice_is {S I : TypeId} (hS : P.underlying S = some (.slice I)) {fuel : Nat} {c : Value} {x : DataW H × List MemPlace} (h : DataW.trod enc P w base spare held fuel S [c] = some x) : ∃ a n k, c = .slice a n k := by
  rcases DataW.trod_slice hS h with ⟨hc, _⟩ | ⟨a', len', cap', elems, rest, m, hm, hc, _⟩
  · simp at hc; exact ⟨_, _, _, hc⟩
  · simp at hc; exact ⟨_, _, _, hc⟩
/-- what the types of a graph's parts are -/
structure GrTypes (P : Program) (G Ss St Rs Is I : TypeId) : Prop where
  hG : ∃ f0 f1, P.underlying G = some (.struct #[f0, f1]) ∧ f0.type = Ss ∧ f0.offset = 0 ∧ f1.type = Rs ∧ f1.offset = 1
  hSs : P.underlying Ss = some (.slice St)
  hSt : ∃ f0 f1, P.underlying St = some (.struct #[f0, f1]) ∧ f0.type = Is ∧ f0.offset = 0 ∧ f1.type = Is ∧ f1.offset = 1
  hRs : P.underlying Rs = some (.slice Is)
  hIs : P.underlying Is = some (.slice I)
  hI : P.underlying I = some (.int .i64)
  cells : P.cellsOf I = 1 ∧ P.cellsOf Is = 1 ∧ P.cellsOf Rs = 1 ∧ P.cellsOf Ss = 1 ∧ P.cellsOf St = 2 ∧ P.cellsOf G = 2

variable {G Ss St Rs Is I : TypeId}
theorem sts_read (T : GrTypes P G Ss St Rs Is I) {fuel : Nat} {a : Option Addr} {len cap : Nat} {x : DataW H × List MemPlace} (h : DataW.trod enc P w base spare held fuel Ss [.slice a len cap] = some x) :
    ∃ l : List S2, l.length = len ∧ len ≤ cap ∧ cap ≤ maxLen ∧ StsIn Any w l a := by
  refine seq_read (by omega) T.hSs T.cells.2.2.2.2.1 (fun m cs x b o hl hx hc => ?_) h
  obtain ⟨f0, f1, hT, t0, o0, t1, o1⟩ := T.hSt
  obtain ⟨cI, cIs, cRs, cSs, cSt, cG⟩ := T.cells
  obtain ⟨xs, n, rfl, _, hl2, hlen, hf⟩ := DataW.trod_struct hT hx
  match cs, hl with
  | [c0, c1], _ =>
    have q0 := hf 0 f0 rfl
    have q1 := hf 1 f1 rfl
    rw [t0, o0, cIs] at q0
    rw [t1, o1, cIs] at q1
    simp only [List.drop_zero, List.take_succ_cons, List.take_zero, List.drop_succ_cons] at q0 q1
    obtain ⟨y0, e0⟩ : ∃ y, xs[0]? = some y := ⟨_, List.getElem?_eq_getElem (by rw [hlen]; exact Nat.zero_lt_two)⟩
    obtain ⟨y1, e1⟩ : ∃ y, xs[1]? = some y := ⟨_, List.getElem?_eq_getElem (by rw [hlen]; exact Nat.one_lt_two)⟩
    rw [e0] at q0
    rw [e1] at q1
    obtain ⟨a0, n0, k0, rfl⟩ := slice_is T.hIs q0
    obtain ⟨a1, n1, k1, rfl⟩ := slice_is T.hIs q1
    obtain ⟨l, rfl, c2, c3, hl⟩ := ints_read T.hIs T.hI cI q0
    obtain ⟨m, rfl, d2, d3, hm⟩ := ints_read T.hIs T.hI cI q1
    exact ⟨⟨l, m⟩, a0, k0, a1, k1, ⟨hc 0 _ rfl, hc 1 _ rfl⟩, ⟨a0, k0, rfl, c2, c3, hl⟩, ⟨a1, k1, rfl, d2, d3, hm⟩⟩
theorem rows_read (T : GrTypes P G Ss St Rs Is I) {fuel : Nat} {a : Option Addr} {len cap : Nat} {x : DataW H × List MemPlace} (h : DataW.trod enc P w base spare held fuel Rs [.slice a len cap] = some x) :
    ∃ l : List (List Int), l.length = len ∧ len ≤ cap ∧ cap ≤ maxLen ∧ Gr.RowsIn Any w l a := by
  refine seq_read (by omega) T.hRs T.cells.2.1 (fun m cs x b o hl hx hc => ?_) h
  match cs, hl with
  | [c0], _ =>
    obtain ⟨a0, n0, k0, rfl⟩ := slice_is T.hIs hx
    obtain ⟨l, rfl, c2, c3, hl⟩ := ints_read T.hIs T.hI T.cells.1 hx
    exact ⟨l, a0, k0, hc 0 _ rfl, a0, k0, rfl, c2, c3, hl⟩
/-- WHAT READS AS A GRAPH IS A GRAPH -/
theorem gr_read (T : GrTypes P G Ss St Rs Is I) {fuel : Nat} {cs : List Value} {x : DataW H × List MemPlace} (h : DataW.trod enc P w base spare held fuel G cs = some x) : ∃ g, GrIn Any w g (.agg cs.toArray) := by
  obtain ⟨f0, f1, hT, t0, o0, t1, o1⟩ := T.hG
  obtain ⟨cI, cIs, cRs, cSs, cSt, cG⟩ := T.cells
  obtain ⟨xs, n, rfl, _, hl, hlen, hf⟩ := DataW.trod_struct hT h
  rw [cG] at hl
  match cs, hl with
  | [c0, c1], _ =>
    have q0 := hf 0 f0 rfl
    have q1 := hf 1 f1 rfl
    rw [t0, o0, cSs] at q0
    rw [t1, o1, cRs] at q1
    simp only [List.drop_zero, List.take_succ_cons, List.take_zero, List.drop_succ_cons] at q0 q1
    obtain ⟨y0, e0⟩ : ∃ y, xs[0]? = some y := ⟨_, List.getElem?_eq_getElem (by rw [hlen]; exact Nat.zero_lt_two)⟩
    obtain ⟨y1, e1⟩ : ∃ y, xs[1]? = some y := ⟨_, List.getElem?_eq_getElem (by rw [hlen]; exact Nat.one_lt_two)⟩
    rw [e0] at q0
    rw [e1] at q1
    obtain ⟨a0, n0, k0, rfl⟩ := slice_is T.hSs q0
    obtain ⟨a1, n1, k1, rfl⟩ := slice_is T.hRs q1
    obtain ⟨l, rfl, c2, c3, hl⟩ := sts_read T q0
    obtain ⟨m, rfl, d2, d3, hm⟩ := rows_read T q1
    exact ⟨⟨l, m⟩, a0, k0, a1, k1, rfl, c2, c3, hl, d2, d3, hm⟩
end
end Gr
end Go.Proofs.Ytfemikebklmlpaa
