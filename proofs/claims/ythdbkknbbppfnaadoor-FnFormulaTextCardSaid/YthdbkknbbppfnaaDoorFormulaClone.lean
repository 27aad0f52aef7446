/- The program's clone of a row of nodes: the same nodes' cells in a new row. Conditions: those of each contract. -/
import Derived.Test.YthdbkknbbppfnaaDoorRows
import Derived.Test.YthdbkknbbppfnaaDoorOwnPlain
import Derived.Test.YthdbkknbbppfnaaDoorMore
import Derived.Maps.AppendAt
import Derived.WalkSpells
import Derived.WalkLawsBesides
namespace Go.Proofs.YthdbkknbbppfnaaDoor
open Go.RowKit
/-- the cells of a row of nodes; and the same nodes wherever these cells stand -/
theorem trs_news {p : Nat → Prop} {w : World} : ∀ (l : List Tr) (b o : Nat), TrsIn p w l (some ⟨b, o, none⟩) → ∃ news : List Value, news.length = l.length * 3 ∧ (∀ j u, news[j]? = some u → w.cell? ⟨b, o + j, none⟩ = some u) ∧ (∀ u, u ∈ news → u.oneCell' = true) ∧
    ∀ (w' : World) (R o' : Nat), Below w.heap.size w w' → (∀ j u, news[j]? = some u → w'.cell? ⟨R, o' + j, none⟩ = some u) → TrsIn Any w' l (some ⟨R, o', none⟩) := by
  intro l
  induction l with
  | nil => intro b o _; exact ⟨[], rfl, by simp, by simp, fun _ _ _ _ _ => TrsIn_nil _ _ _⟩
  | cons t ts ih =>
    intro b o h
    rw [TrsIn_cons] at h
    obtain ⟨b', o', c0, c1, c2, hbo, hp, g0, g1, g2, hT, hr⟩ := h
    simp only [Option.some.injEq, Addr.mk.injEq, and_true] at hbo
    obtain ⟨rfl, rfl⟩ := hbo
    obtain ⟨news, h1, h2, h3, h4⟩ := ih b (o + 3) hr
    obtain ⟨x, k, hx⟩ := TrIn_shape hT
    simp only [Value.agg.injEq, Array.mk.injEq, List.cons.injEq, and_true] at hx
    obtain ⟨e0, e1, e2⟩ := hx
    refine ⟨c0 :: c1 :: c2 :: news, by simp [h1]; omega, ?_, ?_, ?_⟩
    · intro j u hj
      match j, hj with
      | 0, hj => simp at hj; subst hj; exact g0
      | 1, hj => simp at hj; subst hj; exact g1
      | 2, hj => simp at hj; subst hj; exact g2
      | j + 3, hj =>
        have := h2 j u (by simpa using hj)
        rw [show o + 3 + j = o + (j + 3) by omega] at this
        exact this
    · intro u hu
      simp only [List.mem_cons] at hu
      rcases hu with rfl | rfl | rfl | hu
      · rw [e0]; rfl
      · rw [e1]; rfl
      · rw [e2]; rfl
      · exact h3 u hu
    · intro w' R o2 hb hc
      rw [TrsIn_cons]
      refine ⟨R, o2, c0, c1, c2, rfl, trivial, hc 0 c0 rfl, hc 1 c1 rfl, hc 2 c2 rfl, TrIn_any (TrIn_below hb hT), h4 w' R (o2 + 3) hb fun j u hj => ?_⟩
      rw [show o2 + 3 + j = o2 + (j + 3) by omega]
      exact hc (j + 3) u (by simpa using hj)
theorem addr_add (b o i : Nat) : Addr.add ⟨b, o, none⟩ i = ⟨b, o + i, none⟩ := by unfold Addr.add; split <;> simp_all
theorem ownsRow_new (w : World) (e : TypeId) (size : Nat) : (w.alloc (.cells #[] e)).ownsRow w.heap.size e size (.slice (some ⟨w.heap.size, 0, none⟩) 0 0) 0 [] :=
  ⟨by simp, .inr ⟨w.heap.size, 0, #[], rfl, Nat.le_refl _, heap_alloc_new w _, Nat.le_refl _, Nat.zero_le _, by simp, by simp⟩⟩

namespace Formula

theorem cInfo : (Tryd.prog.info? 25).map (fun i => (i.zero, i.size, i.bytes)) = some (some (.agg #[.int .i64 0, .int .i64 0, .slice none 0 0]), 3, 40) := by kernel_rfl

/-- what a clone comes to: a new row with the cells of the nodes l, which still lie where they lay -/
def CloneP (l : List Tr) (s : Option Addr) (w : World) (v : Value) (w' : World) : Prop := ∃ a c, v = .slice a l.length c ∧ l.length ≤ c ∧ c ≤ maxLen ∧ (0 < l.length → ∃ R f, a = some ⟨R, 0, none⟩ ∧ w.heap.size ≤ R ∧ Row w' R (l.length * 3) f ∧ TrsIn Any w' l a ∧
  ∀ b o i, s = some ⟨b, o, none⟩ → i < l.length * 3 → w.cell? ⟨b, o + i, none⟩ = some (f i))

set_option maxRecDepth 100000 in
set_option maxHeartbeats 1000000 in
theorem sclone_any (l : List Tr) (w : World) (a : Option Addr) (c : Nat) (hl : TrsIn Any w l a) (hc : l.length ≤ c) (hc2 : c ≤ maxLen) (hlen : l.length ≤ 1048576) :
    Calls Tryd.prog 47 #[.slice a l.length c] w (RetP (CloneP l a w) w) := by
  unfold maxLen at hc2
  rcases a with _ | ad
  · have hl0 : l = [] := by
      cases l with
      | nil => rfl
      | cons t ts => rw [TrsIn_cons] at hl; obtain ⟨b, o, c0, c1, c2, h, _⟩ := hl; cases h
    subst hl0
    have hq : ∀ w, (binOp .eql 23 (.slice none ([] : List Tr).length c) (.slice none 0 0)).run Tryd.prog w = .ok (.bool true) w := fun w => by
      have := Lib.run_eql_slice_nil (P := Tryd.prog) w 23 25 none ([] : List Tr).length c 0 0 Tryd.underlying23
      simpa using this
    simp only [List.length_nil] at hq ⊢
    go_enter Tryd.func47, Tryd.ntmps47
    go_wp2_with fail
    go_ret
    exact RetP.mk ⟨none, 0, rfl, Nat.le_refl _, Nat.zero_le _, fun h => by simp at h⟩ (Below.refl _ _)
  · have hq : ∀ w, (binOp .eql 23 (.slice (some ad) l.length c) (.slice none 0 0)).run Tryd.prog w = .ok (.bool false) w := fun w => by
      have := Lib.run_eql_slice_nil (P := Tryd.prog) w 23 25 (some ad) l.length c 0 0 Tryd.underlying23
      simpa using this
    obtain ⟨ri, hi, hz, hs1, hs2⟩ := info_parts cInfo
    have hnews : ∃ news : List Value, news.length = l.length * 3 ∧ (∀ j u, news[j]? = some u → w.cell? (ad.add j) = some u) ∧ (∀ u, u ∈ news → u.oneCell' = true) ∧
        ∀ (w' : World) (R : Nat), Below w.heap.size w w' → (∀ j u, news[j]? = some u → w'.cell? ⟨R, j, none⟩ = some u) → TrsIn Any w' l (some ⟨R, 0, none⟩) := by
      cases hl0 : l with
      | nil => exact ⟨[], rfl, by simp, by simp, fun _ _ _ _ => TrsIn_nil _ _ _⟩
      | cons t ts =>
        obtain ⟨b, o, hbo, _⟩ := TrsIn_addr hl (by rw [hl0]; simp)
        cases hbo
        obtain ⟨news, h1, h2, h3, h4⟩ := trs_news l b o hl
        rw [hl0] at h1 h4
        exact ⟨news, h1, fun j u hj => by rw [addr_add]; exact h2 j u hj, h3, fun w' R hb hc => h4 w' R 0 hb fun j u hj => by rw [Nat.zero_add]; exact hc j u hj⟩
    obtain ⟨news, n1, n2, n3, n4⟩ := hnews
    have N1 := hid n1; have N2 := hid n2; have N3 := hid n3; have N4 := hid n4; have HI := hid hi; have HZ := hid hz; have H1 := hid hs1; have H2 := hid hs2
    clear n1 n2 n3 n4 hi hz hs1 hs2
    go_enter Tryd.func47, Tryd.ntmps47
    go_wp2_with (refine wpList_append_own_at _ rfl (.tmp 5) (.tmp 6) 23 rfl w.heap.size 25 ri (.agg #[.int .i64 0, .int .i64 0, .slice none 0 0]) 3 40 Tryd.underlying23 HI.out HZ.out H1.out H2.out rfl (by omega) (.slice (some ⟨w.heap.size, 0, none⟩) 0 0) 0 [] rfl (ownsRow_new w 25 3) ad l.length c news rfl N1.out (fun j u hj => (below_alloc w _).cell (blt (N2.out j u hj)) ▸ N2.out j u hj) N3.out (by unfold maxLen; omega) (by omega) (by simp) ?_)
    intro v2 w3 hown hgrow _ _
    have B : Below w.heap.size w w3 := ⟨hgrow.os, hgrow.tape, hgrow.output, by have := hgrow.size; simp at this; omega, fun k hk => by
      rw [hgrow.block k (by simp; omega) (fun e => by simp [Value.ownBlock] at e; omega), (below_alloc w _).block k hk]⟩
    have hfin := hid (show CloneP l (some ad) w v2 w3 by
      rcases hown.2 with ⟨rfl, h⟩ | ⟨g, cap, cur, rfl, hb, hgg, h4, h5, h6, h7⟩
      · exact ⟨none, 0, by rw [h], by omega, Nat.zero_le _, fun h' => by omega⟩
      · have hcs := hown.cells (g := g) rfl
        refine ⟨some ⟨g, 0, none⟩, cap, rfl, h4, h5, fun _ => ⟨g, fun i => news.getD i undef, rfl, hb, ⟨(Array.getElem?_eq_some_iff.1 hgg).1, fun i hi => ?_, fun i => by simp [World.frozen?, hgg]⟩, ?_⟩⟩
        · have hx : news[i]? = some (news.getD i undef) := by
            simp only [List.getD_eq_getElem?_getD]
            rw [List.getElem?_eq_getElem (by rw [N1.out]; exact hi)]; rfl
          have := hcs i _ hx
          rw [addr_add, Nat.zero_add] at this
          exact this
        · refine ⟨N4.out w3 g B fun j u hj => ?_, fun b o i e hi => ?_⟩
          · have := hcs j u hj
            rw [addr_add, Nat.zero_add] at this
            exact this
          · simp only [Option.some.injEq] at e
            subst e
            have hx : news[i]? = some (news.getD i undef) := by
              simp only [List.getD_eq_getElem?_getD]
              rw [List.getElem?_eq_getElem (by rw [N1.out]; exact hi)]; rfl
            have := N2.out i _ hx
            rwa [addr_add] at this)
    clear hown hgrow
    go_wp2_with fail
    go_ret
    exact RetP.mk hfin.out B

set_option maxHeartbeats 1000000 in
theorem clip_any (a : Option Addr) (n c : Nat) (w : World) (hc : n ≤ c) (hc2 : c ≤ maxLen) :
    Calls Tryd.prog 46 #[.slice a n c] w (RetW (.slice a n n) w) := by
  unfold maxLen at hc2
  go_enter Tryd.func46, Tryd.ntmps46
  go_wp2_with fail
  go_ret
  exact ⟨rfl, rfl⟩

set_option maxHeartbeats 1000000 in
theorem clone_any (l : List Tr) (w : World) (a : Option Addr) (c : Nat) (hl : TrsIn Any w l a) (hc : l.length ≤ c) (hc2 : c ≤ maxLen) (hlen : l.length ≤ 1048576) :
    Calls Tryd.prog 40 #[.slice a l.length c] w (RetP (CloneP l a w) w) := by
  go_enter Tryd.func40, Tryd.ntmps40
  go_wp2_with fail
  refine (sclone_any l _ a c hl hc hc2 hlen).mono ?_
  rintro e w1 ⟨v, rfl, ⟨a', c', rfl, k1, k2, k3⟩, hb⟩
  go_wp2_with fail
  refine (clip_any a' l.length c' _ k1 k2).mono ?_
  rintro e w2 ⟨rfl, rfl⟩
  go_wp2_with fail
  go_ret
  exact RetP.mk ⟨a', l.length, rfl, Nat.le_refl _, Nat.le_trans k1 k2, k3⟩ hb

end Formula
end Go.Proofs.YthdbkknbbppfnaaDoor
