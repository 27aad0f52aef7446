/- Arguments as they come in: values that read as data of a system's type are systems in memory. Conditions: none. -/
import Derived.Test.YtchlpeflfiecdaaArgEd
import Derived.Test.YtchlpeflfiecdaaSysIn
namespace Go.Proofs.Ytchlpeflfiecdaa
open Go.RowKit

section
variable {H : Type} {enc : TypeId × Value → H} {P : Program} {w : World} {base : Nat} {spare : Nat → Bool} {held : Bool}

theorem seq_build {X : Type} {At : X → Nat → Nat → Prop} {n : Nat} (hn : 0 < n) {a : Addr} {len : Nat}
    (h : ∀ i, i < len → ∃ cs : List Value, cs.length = n ∧ (∀ j c, cs[j]? = some c → w.cell? ((a.add (i * n)).add j) = some c) ∧ ∀ b o, (∀ j c, cs[j]? = some c → w.cell? ⟨b, o + j, none⟩ = some c) → ∃ t, At t b o) :
    ∃ l : List X, l.length = len ∧ SeqIn At n Any w l (some a) := by
  cases len with
  | zero => exact ⟨[], rfl, .inl rfl⟩
  | succ len =>
    obtain ⟨b, o, s⟩ := a
    obtain ⟨cs, hl, hc, _⟩ := h 0 (by omega)
    have h0 := hc 0 _ (List.getElem?_eq_getElem (by omega))
    have hs : s = none := by simpa [Addr.add] using World.cell?_spot h0
    subst hs
    have ea : ∀ k, Addr.add ⟨b, o, none⟩ k = ⟨b, o + k, none⟩ := fun k => by unfold Addr.add; split <;> simp_all
    have ea2 : ∀ k j, Addr.add ⟨b, o + k, none⟩ j = ⟨b, o + k + j, none⟩ := fun k j => by unfold Addr.add; split <;> simp_all
    have hb : b < w.heap.size := by rw [ea, ea2] at h0; exact blt h0
    have key : ∀ i, i < len + 1 → ∃ t, At t b (o + i * n) := fun i hi => by
      obtain ⟨cs, _, hc, ht⟩ := h i hi
      refine ht b (o + i * n) fun j c hj => ?_
      have := hc j c hj
      rwa [ea, ea2] at this
    have build : ∀ k, k ≤ len + 1 → ∃ l : List X, l.length = k ∧ ∀ i t, l[i]? = some t → At t b (o + i * n) := by
      intro k
      induction k with
      | zero => intro _; exact ⟨[], rfl, by simp⟩
      | succ k ih =>
        intro hk
        obtain ⟨l, h1, h2⟩ := ih (by omega)
        obtain ⟨t, h3⟩ := key k (by omega)
        refine ⟨l ++ [t], by simp [h1], fun i u hu => ?_⟩
        by_cases hi : i < l.length
        · rw [List.getElem?_append_left hi] at hu; exact h2 i u hu
        · rw [List.getElem?_append_right (by omega)] at hu
          have hi2 : i = k := by
            have := (List.getElem?_eq_some_iff.1 hu).1
            simp at this; omega
          subst hi2
          simp [h1] at hu
          subst hu
          exact h3
    obtain ⟨l, h1, h2⟩ := build (len + 1) (Nat.le_refl _)
    exact ⟨l, h1, .inr ⟨b, o, rfl, trivial, hb, h2⟩⟩
/-- WHAT READS AS A SLICE OF RECORDS IS A ROW OF THEM -/
theorem seq_read {X : Type} {At : X → Nat → Nat → Prop} {S T : TypeId} {n : Nat} (hn : 0 < n) (hS : P.underlying S = some (.slice T)) (cT : P.cellsOf T = n)
    (hel : ∀ (m : Nat) (cs : List Value) (x : DataW H × List MemPlace) (b o : Nat), cs.length = n → DataW.trod enc P w base spare held m T cs = some x → (∀ j c, cs[j]? = some c → w.cell? ⟨b, o + j, none⟩ = some c) → ∃ t, At t b o)
    {fuel : Nat} {a : Option Addr} {len cap : Nat} {x : DataW H × List MemPlace} (h : DataW.trod enc P w base spare held fuel S [.slice a len cap] = some x) :
    ∃ l : List X, l.length = len ∧ len ≤ cap ∧ cap ≤ maxLen ∧ SeqIn At n Any w l a := by
  rcases DataW.trod_slice hS h with ⟨hc, _⟩ | ⟨a', len', cap', elems, rest, m, hm, hc, _, _, hlc, hcm, hel', hcell, _⟩
  · simp at hc
    obtain ⟨rfl, rfl, rfl⟩ := hc
    exact ⟨[], rfl, Nat.le_refl _, Nat.zero_le _, .inl rfl⟩
  · simp at hc
    obtain ⟨rfl, rfl, rfl⟩ := hc
    obtain ⟨l, h1, h2⟩ := seq_build (w := w) (At := At) hn (a := a') (len := len) (fun i hi => by
      have hh := hcell i hi
      rw [cT, List.getElem?_eq_getElem (by omega)] at hh
      obtain ⟨cs', h3, h4⟩ := Option.bind_eq_some_iff.1 hh
      obtain ⟨_, hl, hc⟩ := World.cells?_some h3
      refine ⟨cs', hl, fun j c hj => ?_, fun b o hq => hel m cs' _ b o hl h4 hq⟩
      have hj2 : j < n := by have := (List.getElem?_eq_some_iff.1 hj).1; omega
      rw [hc j hj2]; exact hj)
    exact ⟨l, h1, hlc, hcm, h2⟩

/-- what the types of a system's parts are -/
structure SysTypes (P : Program) (S Ps Pt Es Et Xt Xs I Is : TypeId) : Prop where
  hS : ∃ f0 f1, P.underlying S = some (.struct #[f0, f1]) ∧ f0.type = Is ∧ f0.offset = 0 ∧ f1.type = Ps ∧ f1.offset = 1
  hPs : P.underlying Ps = some (.slice Pt)
  hPt : ∃ f0 f1, P.underlying Pt = some (.struct #[f0, f1]) ∧ f0.type = I ∧ f0.offset = 0 ∧ f1.type = Es ∧ f1.offset = 1
  hEs : P.underlying Es = some (.slice Et)
  hEt : ∃ f0 f1 f2 f3 f4 f5, P.underlying Et = some (.struct #[f0, f1, f2, f3, f4, f5]) ∧ (f0.type = I ∧ f0.offset = 0) ∧ (f1.type = I ∧ f1.offset = 1) ∧ (f2.type = Xt ∧ f2.offset = 2) ∧ (f3.type = I ∧ f3.offset = 5) ∧ (f4.type = Xt ∧ f4.offset = 6) ∧ f5.type = I ∧ f5.offset = 9
  hXt : ∃ g0 g1 g2, P.underlying Xt = some (.struct #[g0, g1, g2]) ∧ (g0.type = I ∧ g0.offset = 0) ∧ (g1.type = I ∧ g1.offset = 1) ∧ g2.type = Xs ∧ g2.offset = 2
  hXs : P.underlying Xs = some (.slice Xt)
  hI : P.underlying I = some (.int .i64)
  hIs : P.underlying Is = some (.slice I)
  cells : P.cellsOf I = 1 ∧ P.cellsOf Is = 1 ∧ P.cellsOf Ps = 1 ∧ P.cellsOf Es = 1 ∧ P.cellsOf Xs = 1 ∧ P.cellsOf Xt = 3 ∧ P.cellsOf Et = 10 ∧ P.cellsOf Pt = 2 ∧ P.cellsOf S = 2

variable {S Ps Pt Es Et Xt Xs I Is : TypeId}
theorem slice_is {S I : TypeId} (hS : P.underlying S = some (.slice I)) {fuel : Nat} {c : Value} {x : DataW H × List MemPlace} (h : DataW.trod enc P w base spare held fuel S [c] = some x) : ∃ a n k, c = .slice a n k := by
  rcases DataW.trod_slice hS h with ⟨hc, _⟩ | ⟨a', len', cap', elems, rest, m, hm, hc, _⟩
  · simp at hc; exact ⟨_, _, _, hc⟩
  · simp at hc; exact ⟨_, _, _, hc⟩
theorem eds_read (T : SysTypes P S Ps Pt Es Et Xt Xs I Is) {fuel : Nat} {a : Option Addr} {len cap : Nat} {x : DataW H × List MemPlace} (h : DataW.trod enc P w base spare held fuel Es [.slice a len cap] = some x) :
    ∃ l : List Ed, l.length = len ∧ len ≤ cap ∧ cap ≤ maxLen ∧ EdsIn Any w l a := by
  refine seq_read (by omega) T.hEs T.cells.2.2.2.2.2.2.1 (fun m cs x b o hl hx hc => ?_) h
  obtain ⟨f0, f1, f2, f3, f4, f5, hT, ⟨t0, o0⟩, ⟨t1, o1⟩, ⟨t2, o2⟩, ⟨t3, o3⟩, ⟨t4, o4⟩, t5, o5⟩ := T.hEt
  obtain ⟨g0, g1, g2, hE, ⟨s0, r0⟩, ⟨s1, r1⟩, s2, r2⟩ := T.hXt
  obtain ⟨e, he⟩ := ed_read hT t0 o0 t1 o1 t2 o2 t3 o3 t4 o4 t5 o5 hE s0 r0 s1 r1 s2 r2 T.hI T.hXs T.cells.1 T.cells.2.2.2.2.1 T.cells.2.2.2.2.2.1 T.cells.2.2.2.2.2.2.1 hx
  have he0 := he
  obtain ⟨a1, c1, a2, c2, hs, _⟩ := he
  have hs2 : cs = [.int .i64 e.src, .int .i64 e.dst, .int .i64 e.guard.kind, .int .i64 e.guard.val, .slice a1 e.guard.kids.length c1, .int .i64 e.var, .int .i64 e.val.kind, .int .i64 e.val.val, .slice a2 e.val.kids.length c2, .int .i64 e.sync] := by
    have := congrArg (fun v => match v with | Value.agg x => x.toList | _ => []) hs
    simpa using this
  subst hs2
  exact ⟨e, a1, c1, a2, c2, ⟨hc 0 _ rfl, hc 1 _ rfl, hc 2 _ rfl, hc 3 _ rfl, hc 4 _ rfl, hc 5 _ rfl, hc 6 _ rfl, hc 7 _ rfl, hc 8 _ rfl, hc 9 _ rfl⟩, he0⟩
theorem pr_read (T : SysTypes P S Ps Pt Es Et Xt Xs I Is) {fuel : Nat} {cs : List Value} {x : DataW H × List MemPlace} (h : DataW.trod enc P w base spare held fuel Pt cs = some x) : ∃ q a c, cs = [.int .i64 q.locs, .slice a q.edges.length c] ∧ PrIn Any w q (.agg #[.int .i64 q.locs, .slice a q.edges.length c]) := by
  obtain ⟨f0, f1, hT, t0, o0, t1, o1⟩ := T.hPt
  obtain ⟨cI, cIs, cPs, cEs, cXs, cXt, cEt, cPt, cS⟩ := T.cells
  obtain ⟨xs, n, rfl, _, hl, hlen, hf⟩ := DataW.trod_struct hT h
  rw [cPt] at hl
  match cs, hl with
  | [c0, c1], _ =>
    have q0 := hf 0 f0 rfl
    have q1 := hf 1 f1 rfl
    rw [t0, o0, cI] at q0
    rw [t1, o1, cEs] at q1
    simp only [List.drop_zero, List.take_succ_cons, List.take_zero, List.drop_succ_cons] at q0 q1
    obtain ⟨y0, e0⟩ : ∃ y, xs[0]? = some y := ⟨_, List.getElem?_eq_getElem (by rw [hlen]; exact Nat.zero_lt_two)⟩
    obtain ⟨y1, e1⟩ : ∃ y, xs[1]? = some y := ⟨_, List.getElem?_eq_getElem (by rw [hlen]; exact Nat.one_lt_two)⟩
    rw [e0] at q0
    rw [e1] at q1
    obtain ⟨k, hk, _, wk⟩ := DataW.trod_int T.hI q0
    simp only [List.cons.injEq, and_true] at hk
    subst hk
    obtain ⟨a, m, c, rfl⟩ := slice_is T.hEs q1
    obtain ⟨l, rfl, h2, h3, h4⟩ := eds_read T q1
    exact ⟨⟨k, l⟩, a, c, rfl, a, c, rfl, i64_of_wf wk, h2, h3, h4⟩
theorem prs_read (T : SysTypes P S Ps Pt Es Et Xt Xs I Is) {fuel : Nat} {a : Option Addr} {len cap : Nat} {x : DataW H × List MemPlace} (h : DataW.trod enc P w base spare held fuel Ps [.slice a len cap] = some x) :
    ∃ l : List Pr, l.length = len ∧ len ≤ cap ∧ cap ≤ maxLen ∧ PrsIn Any w l a := by
  refine seq_read (by omega) T.hPs T.cells.2.2.2.2.2.2.2.1 (fun m cs x b o hl hx hc => ?_) h
  obtain ⟨q, a1, c1, rfl, hq⟩ := pr_read T hx
  exact ⟨q, a1, c1, ⟨hc 0 _ rfl, hc 1 _ rfl⟩, hq⟩
/-- WHAT READS AS A SYSTEM IS A SYSTEM -/
theorem sy_read (T : SysTypes P S Ps Pt Es Et Xt Xs I Is) {fuel : Nat} {cs : List Value} {x : DataW H × List MemPlace} (h : DataW.trod enc P w base spare held fuel S cs = some x) : ∃ s, SyIn Any w s (.agg cs.toArray) := by
  obtain ⟨f0, f1, hT, t0, o0, t1, o1⟩ := T.hS
  obtain ⟨cI, cIs, cPs, cEs, cXs, cXt, cEt, cPt, cS⟩ := T.cells
  obtain ⟨xs, n, rfl, _, hl, hlen, hf⟩ := DataW.trod_struct hT h
  rw [cS] at hl
  match cs, hl with
  | [c0, c1], _ =>
    have q0 := hf 0 f0 rfl
    have q1 := hf 1 f1 rfl
    rw [t0, o0, cIs] at q0
    rw [t1, o1, cPs] at q1
    simp only [List.drop_zero, List.take_succ_cons, List.take_zero, List.drop_succ_cons] at q0 q1
    obtain ⟨y0, e0⟩ : ∃ y, xs[0]? = some y := ⟨_, List.getElem?_eq_getElem (by rw [hlen]; exact Nat.zero_lt_two)⟩
    obtain ⟨y1, e1⟩ : ∃ y, xs[1]? = some y := ⟨_, List.getElem?_eq_getElem (by rw [hlen]; exact Nat.one_lt_two)⟩
    rw [e0] at q0
    rw [e1] at q1
    obtain ⟨a0, n0, k0, rfl⟩ := slice_is T.hIs q0
    obtain ⟨a1, n1, k1, rfl⟩ := slice_is T.hPs q1
    obtain ⟨l, rfl, c2, c3, hl⟩ := ints_read T.hIs T.hI cI q0
    obtain ⟨m, rfl, d2, d3, hm⟩ := prs_read T q1
    exact ⟨⟨l, m⟩, a0, k0, a1, k1, rfl, c2, c3, hl, d2, d3, hm⟩
end
end Go.Proofs.Ytchlpeflfiecdaa
