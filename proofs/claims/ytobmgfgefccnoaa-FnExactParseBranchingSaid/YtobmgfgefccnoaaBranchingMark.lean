/- The laws' own markBranching, heldBranching: what each comes to, for trees of one's own. Conditions: those of each contract. -/
import Derived.Test.YtobmgfgefccnoaaRows
import Derived.Test.YtobmgfgefccnoaaOwnPlain
import Derived.WalkSpells
import Derived.WalkLawsBesides
namespace Go.Proofs.Ytobmgfgefccnoaa
open Go.RowKit
namespace Branching

/-- what a call of mark comes to -/
def MarkPost (l : List Tr) (k : Int) (a : Option Addr) (bs : List Nat) (w : World) (e : Ending) (w' : World) : Prop := e = .returned (.int .i64 (k + 2 * nodesL l)) ∧ RowOf w' (markL l k) a bs ∧ Only bs w w'
def MarkR (l : List Tr) : Prop := ∀ (w : World) (a : Option Addr) (c : Nat) (k : Int) (bs : List Nat), RowOf w l a bs → l.length ≤ c → c ≤ maxLen → 0 ≤ k → k + 2 * nodesL l ≤ 4611686018427387904 →
    Calls Try.prog 67 #[.slice a l.length c, .int .i64 k] w (MarkPost l k a bs w)

set_option maxRecDepth 100000 in
set_option maxHeartbeats 2000000 in
theorem mark_of (l : List Tr) (h : ∀ k v kids, Tr.mk k v kids ∈ l → MarkR kids) : MarkR l := by
  intro w a c k bs hr hc hc2 hk hk2
  unfold maxLen at hc2
  rcases hr with ⟨rfl, rfl⟩ | ⟨R, f, r, rfl, rfl, hRr, hrow, hown⟩
  · go_enter Try.func67, Try.ntmps67
    go_wp2_with fail
    go_loopw [1, 5] (fun q i wr => wr = w ∧ q = .int .i64 k ∧ i = .int .i64 0) (fun _ _ _ => 0)
    case atStart => exact ⟨rfl, rfl, rfl⟩
    case round =>
      obtain ⟨rfl, rfl, rfl⟩ := hrel
      go_wp2_with fail
      go_ret
      exact ⟨by simp [nodesL], .inl ⟨rfl, rfl⟩, Only.refl _ _⟩
  · go_enter Try.func67, Try.ntmps67
    go_wp2_with fail
    go_loopw [1, 5] (fun q i wr => ∃ (j : Nat) (m : Int) (l1 : List Tr) (g : Nat → Value), j ≤ l.length ∧ q = .int .i64 m ∧ i = .int .i64 j ∧ l1.length = j ∧ 0 ≤ m ∧ Hid (m + 2 * nodesL (l.drop j) = k + 2 * nodesL l) ∧ Hid (l1 ++ markL (l.drop j) m = markL l k) ∧
      Row wr R (l.length * 3) g ∧ TrsOwn wr g (l1 ++ l.drop j) 0 r ∧ Only (R :: r) w wr) (fun _ i _ => l.length - (intOf i).toNat)
    case atStart => exact ⟨0, k, [], f, Nat.zero_le _, rfl, rfl, rfl, hk, hid rfl, hid rfl, hrow, hown, Only.refl _ _⟩
    case round =>
      obtain ⟨j, m, l1, g, hj, rfl, rfl, hl1, hm, hsum, happ, hrow', hown', honly⟩ := hrel
      by_cases hlt : j < l.length
      · have hdr := List.drop_eq_getElem_cons hlt
        rcases hT : l[j] with ⟨kd, v, kids⟩
        rw [hT] at hdr
        have hmem : Tr.mk kd v kids ∈ l := hT ▸ List.getElem_mem hlt
        have hown2 := hown'
        rw [hdr] at hown2
        obtain ⟨rb, hrb, hTr, hrep⟩ := TrsOwn_replace l1 _ 0 r hown2
        rw [Nat.zero_add, hl1] at hTr hrep
        obtain ⟨a3, c3, hx, hi1, hi2, hc3, hc4, hro⟩ := TrOwn_row hTr
        have hx' : g (j * 3) = .int .i64 kd ∧ g (j * 3 + 1) = .int .i64 v ∧ g (j * 3 + 2) = .slice a3 kids.length c3 := by simpa using hx
        obtain ⟨x0, x1, x2⟩ := hx'
        have g0 := hrow'.2.1 (j * 3) (by omega)
        have g1 := hrow'.2.1 (j * 3 + 1) (by omega)
        have g2 := hrow'.2.1 (j * 3 + 2) (by omega)
        rw [x0] at g0
        rw [x1] at g1
        rw [x2] at g2
        have z := hrow'.2.2
        have hRl := hrow'.1
        have hlt2 : (j : Int) < (l.length : Int) := by omega
        have hs0 := hsum.out
        have ha0 := happ.out
        rw [hdr] at hs0 ha0
        simp only [nodesL, nodes, markL, markN] at hs0 ha0
        have hp1 := nodesL_pos kids
        have hp2 := nodesL_pos (l.drop (j + 1))
        have hm2 : m + 2 + 2 * nodesL kids ≤ 4611686018427387904 := by omega
        have HS := hid hs0
        have HA := hid ha0
        clear hs0 ha0
        go_wp2_with fail
        have r1 := hrow'.set (i := j * 3) (by omega) (.int .i64 m)
        have r2 := r1.set (i := j * 3 + 1) (by omega) (.int .i64 (m + 1))
        have hRrb : R ∉ rb := fun e => hRr (hrb R e)
        have hro2 : RowOf ((wr.setCell ⟨R, j * 3, none⟩ (.int .i64 m)).setCell ⟨R, j * 3 + 1, none⟩ (.int .i64 (m + 1))) kids a3 rb := by
          obtain ⟨a', c', hx2, _, _, _, _, hro'⟩ := TrOwn_row (TrOwn_set (TrOwn_set (a := ⟨R, j * 3, none⟩) (row_TrOwn hi1 hi2 hc3 hc4 hro) hRrb (.int .i64 m)) (a := ⟨R, j * 3 + 1, none⟩) hRrb (.int .i64 (m + 1)))
          simp at hx2
          rw [hx2.1]; exact hro'
        refine (h kd v kids hmem _ a3 c3 (m + 1 + 1) rb hro2 hc3 hc4 (by omega) (by omega)).mono ?_
        rintro e w2 ⟨rfl, hr2, ho2⟩
        have r3 := r2.kept ho2.size (ho2.block R r2.1 hRrb)
        have hs2 := ho2.size
        simp only [World.size_setCell] at hs2
        have hown3 := hrep w2 (fun i => if i = j * 3 + 1 then .int .i64 (m + 1) else if i = j * 3 then .int .i64 m else g i) (.mk m (m + 1) (markL kids (m + 2))) hs2 (fun b hb hn => by
            have hbR : b ≠ R := fun e => hRr (e ▸ hb)
            rw [ho2.block b (by simpa using TrOwn_lt.2 _ _ _ _ hown' b hb) hn, Below.heap_setCell _ _ _ _ hbR, Below.heap_setCell _ _ _ _ hbR])
          (fun i hi => by rw [if_neg (by omega), if_neg (by omega)])
          (by
            have hl := markL_len kids (m + 2)
            have e0 : (if j * 3 = j * 3 + 1 then Value.int .i64 (m + 1) else if j * 3 = j * 3 then Value.int .i64 m else g (j * 3)) = .int .i64 m := by rw [if_neg (by omega), if_pos rfl]
            have e1 : (if j * 3 + 1 = j * 3 + 1 then Value.int .i64 (m + 1) else if j * 3 + 1 = j * 3 then Value.int .i64 m else g (j * 3 + 1)) = .int .i64 (m + 1) := if_pos rfl
            have e2 : (if j * 3 + 2 = j * 3 + 1 then Value.int .i64 (m + 1) else if j * 3 + 2 = j * 3 then Value.int .i64 m else g (j * 3 + 2)) = .slice a3 kids.length c3 := by rw [if_neg (by omega), if_neg (by omega), x2]
            rw [e0, e1, e2]
            have := row_TrOwn (w := w2) (k := m) (v := m + 1) (kids := markL kids (m + 2)) (a := a3) (c := c3) (bs := rb) (by unfold i64; omega) (by unfold i64; omega) (by omega) hc4 (by rw [show m + 2 = m + 1 + 1 by omega]; exact hr2)
            rw [hl] at this
            exact this)
        have hO : Only (R :: r) w w2 := honly.trans ((((Only.refl (R :: r) wr).set (a := ⟨R, j * 3, none⟩) (by simp) (.int .i64 m)).set (a := ⟨R, j * 3 + 1, none⟩) (by simp) (.int .i64 (m + 1))).trans (ho2.mono fun b hb => by simp [hrb b hb]))
        have hfin := hid (show (l1 ++ [Tr.mk m (m + 1) (markL kids (m + 2))]).length = j + 1 ∧ Hid (m + 1 + 1 + 2 * nodesL kids + 2 * nodesL (l.drop (j + 1)) = k + 2 * nodesL l) ∧ Hid ((l1 ++ [Tr.mk m (m + 1) (markL kids (m + 2))]) ++ markL (l.drop (j + 1)) (m + 1 + 1 + 2 * nodesL kids) = markL l k) ∧
            Row w2 R (l.length * 3) (fun i => if i = j * 3 + 1 then .int .i64 (m + 1) else if i = j * 3 then .int .i64 m else g i) ∧ TrsOwn w2 (fun i => if i = j * 3 + 1 then .int .i64 (m + 1) else if i = j * 3 then .int .i64 m else g i) ((l1 ++ [Tr.mk m (m + 1) (markL kids (m + 2))]) ++ l.drop (j + 1)) 0 r ∧ Only (R :: r) w w2 from
          ⟨by simp [hl1], hid (by have := HS.out; omega), hid (by have := HA.out; rw [← this, List.append_assoc, show m + 1 + 1 + 2 * nodesL kids = m + 2 * (1 + nodesL kids) by omega]; rfl), r3, by rw [List.append_assoc]; exact hown3, hO⟩)
        clear hown3 r1 r2 r3 hO ho2 hr2 HS HA
        go_wp2_with fail
        go_roundw
        case rel => exact ⟨j + 1, m + 1 + 1 + 2 * nodesL kids, _, _, by omega, rfl, by go_num, hfin.out.1, by omega, hfin.out.2⟩
        case measure => simp [intOf]; omega
      · have hd0 : l.drop j = [] := List.drop_of_length_le (by omega)
        have h1 := hsum.out
        have h2 := happ.out
        rw [hd0] at h1 h2 hown'
        simp only [nodesL, markL, List.append_nil] at h1 h2 hown'
        have hfin := hid (show RowOf wr (markL l k) (some ⟨R, 0, none⟩) (R :: r) ∧ Only (R :: r) w wr from ⟨.inr ⟨R, g, r, rfl, rfl, hRr, by rw [markL_len]; exact hrow', h2 ▸ hown'⟩, honly⟩)
        have hlt2 : ¬ ((j : Int) < (l.length : Int)) := by omega
        have hres := hid (show m = k + 2 * nodesL l by omega)
        clear h1 h2 hrow' hown' honly hsum happ
        go_wp2_with fail
        go_ret
        exact ⟨congrArg (fun x => Ending.returned (Value.int .i64 x)) hres.out, hfin.out⟩

theorem markRow_any (l : List Tr) : MarkR l := by
  refine (Tr.both (P := fun t => MarkR t.kids) (Q := fun l => (∀ t, t ∈ l → MarkR t.kids) ∧ MarkR l) ?_ ?_ ?_).2 l |>.2
  · intro k v kids h; exact h.2
  · exact ⟨by simp, mark_of [] (by simp)⟩
  · intro t ts ht hts
    have hall : ∀ u, u ∈ t :: ts → MarkR u.kids := by
      intro u hu
      cases hu with
      | head => exact ht
      | tail _ hu => exact hts.1 u hu
    exact ⟨hall, mark_of _ fun k v kids hm => hall _ hm⟩

/-- what a call of mark on a tree of one's own comes to -/
def MarkTPost (t : Tr) (k : Int) (x : Value) (bs : List Nat) (w : World) (e : Ending) (w' : World) : Prop := e = .returned (.int .i64 (k + 2 * nodesL t.kids)) ∧ TrOwn w' (markT t k) x bs ∧ Only bs w w'
set_option maxHeartbeats 400000 in
theorem mark_any (t : Tr) (w : World) (x : Value) (k : Int) (bs : List Nat) (hx : TrOwn w t x bs) (hk : 0 ≤ k) (hk2 : k + 2 * nodesL t.kids ≤ 4611686018427387904) :
    Calls Try.prog 38 #[x, .int .i64 k] w (MarkTPost t k x bs w) := by
  cases t with
  | mk kd v kids =>
  obtain ⟨a, c, rfl, h1, h2, h3, h4, hr⟩ := TrOwn_row hx
  have hbl := TrOwn_lt.1 _ _ _ hx
  clear hx
  have hr' : RowOf (w.alloc (.cells #[.int .i64 kd, .int .i64 v, .slice a kids.length c] 50)) kids a bs := by
    obtain ⟨a', c', hx2, _, _, _, _, hro⟩ := TrOwn_row (TrOwn_below (below_alloc w (.cells #[.int .i64 kd, .int .i64 v, .slice a kids.length c] 50)) (row_TrOwn h1 h2 h3 h4 hr))
    simp at hx2
    obtain ⟨rfl, _⟩ := hx2
    exact hro
  go_enter Try.func38, Try.ntmps38
  go_wp2_with fail
  refine (markRow_any kids _ a c k bs hr' h3 h4 hk hk2).mono ?_
  rintro e w2 ⟨rfl, hr2, ho2⟩
  go_wp2_with fail
  go_ret
  refine ⟨rfl, ?_, (Only.below (below_alloc _ _)).trans ho2⟩
  have := row_TrOwn (k := kd) (v := v) (kids := markL kids k) h1 h2 (by rw [markL_len]; exact h3) h4 hr2
  rw [markL_len] at this
  exact this

/-! ### heldBranching: are the numbers there -/
def HeldR (l : List Tr) : Prop := ∀ (w : World) (a : Option Addr) (c : Nat) (k : Int), TrsIn Any w (markL l k) a → l.length ≤ c → c ≤ maxLen → 0 ≤ k → k + 2 * nodesL l ≤ 4611686018427387904 →
    Calls Try.prog 68 #[.slice a l.length c, .int .i64 k] w (Ret (.int .i64 (k + 2 * nodesL l)) w)

theorem markL_drop : ∀ (l : List Tr) (k : Int) (j : Nat), j < l.length → ∃ kd v kids, l.drop j = .mk kd v kids :: l.drop (j + 1) ∧ .mk kd v kids ∈ l := by
  intro l k j hj
  rcases hT : l[j] with ⟨kd, v, kids⟩
  exact ⟨kd, v, kids, hT ▸ List.drop_eq_getElem_cons hj, hT ▸ List.getElem_mem hj⟩

set_option maxHeartbeats 2000000 in
theorem held_of (l : List Tr) (h : ∀ k v kids, Tr.mk k v kids ∈ l → HeldR kids) : HeldR l := by
  intro w a c k hl hc hc2 hk hk2
  unfold maxLen at hc2
  have hml := markL_len l k
  go_enter Try.func68, Try.ntmps68
  go_wp2_with fail
  go_loopw [1, 5] (fun q i wr => ∃ (j : Nat) (m : Int), j ≤ l.length ∧ q = .int .i64 m ∧ i = .int .i64 j ∧ 0 ≤ m ∧ Below w.heap.size w wr ∧ Hid (m + 2 * nodesL (l.drop j) = k + 2 * nodesL l) ∧ Hid ((markL l k).drop j = markL (l.drop j) m)) (fun _ i _ => l.length - (intOf i).toNat)
  case atStart => exact ⟨0, k, Nat.zero_le _, rfl, rfl, hk, Below.refl _ _, hid rfl, hid rfl⟩
  case round =>
    obtain ⟨j, m, hj, rfl, rfl, hm, B, hsum, hdrop⟩ := hrel
    by_cases hlt : j < l.length
    · obtain ⟨b, o, c0, c1, c2, t, rfl, gb, g0, g1, g2, hT⟩ := TrsIn_round hl B (show j < (markL l k).length by omega)
      obtain ⟨kd, v, kids, hdr, hmem⟩ := markL_drop l k j hlt
      have hd := hdrop.out
      have hs := hsum.out
      rw [hdr] at hd hs
      rw [hT.out.2.2.1] at hd
      simp only [markL, markN, nodesL, nodes, List.cons.injEq] at hd hs
      obtain ⟨ht, hd⟩ := hd
      obtain ⟨a3, n3, rfl, rfl, rfl, hi1, hi2, hc3, hc4, hkids⟩ := TrIn_kids (ht ▸ hT.out.1)
      rw [markL_len] at hc3 g2
      have hp1 := nodesL_pos kids
      have hp2 := nodesL_pos (l.drop (j + 1))
      have hm2 : m + 2 + 2 * nodesL kids ≤ 4611686018427387904 := by omega
      have HS := hid (show m + 1 + 1 + 2 * nodesL kids + 2 * nodesL (l.drop (j + 1)) = k + 2 * nodesL l by omega)
      have HD := hid (show (markL l k).drop (j + 1) = markL (l.drop (j + 1)) (m + 1 + 1 + 2 * nodesL kids) by rw [hd]; congr 1; omega)
      have hlt2 : (j : Int) < (l.length : Int) := by omega
      have hkids2 := hid (show TrsIn Any wr (markL kids (m + 1 + 1)) a3 by rw [show m + 1 + 1 = m + 2 by omega]; exact hkids)
      have hml2 := markL_len kids (m + 2)
      have n1 : (m != m) = false := by simp
      have n2 : (m + 1 != m + 1) = false := by simp
      clear hs hd ht hkids hml hml2
      go_wp2_with fail
      refine (h kd v kids hmem _ a3 n3 (m + 1 + 1) hkids2.out hc3 hc4 (by omega) (by omega)).mono ?_
      rintro e w2 ⟨rfl, hb⟩
      replace B := below_next B hb
      clear hb
      go_wp2_with fail
      go_roundw
      case rel => exact ⟨j + 1, m + 1 + 1 + 2 * nodesL kids, by omega, rfl, by go_num, by omega, B, HS, HD⟩
      case measure => simp [intOf]; omega
    · have hd0 : l.drop j = [] := List.drop_of_length_le (by omega)
      have h1 := hsum.out
      rw [hd0] at h1
      simp only [nodesL] at h1
      have hlt2 : ¬ ((j : Int) < (l.length : Int)) := by omega
      have hres := hid (show m = k + 2 * nodesL l by omega)
      clear h1 hd0
      go_wp2_with fail
      go_ret
      exact Ret.mk (int_val hres.out) B

theorem heldRow_any (l : List Tr) : HeldR l := by
  refine (Tr.both (P := fun t => HeldR t.kids) (Q := fun l => (∀ t, t ∈ l → HeldR t.kids) ∧ HeldR l) ?_ ?_ ?_).2 l |>.2
  · intro k v kids h; exact h.2
  · exact ⟨by simp, held_of [] (by simp)⟩
  · intro t ts ht hts
    have hall : ∀ u, u ∈ t :: ts → HeldR u.kids := by
      intro u hu
      cases hu with
      | head => exact ht
      | tail _ hu => exact hts.1 u hu
    exact ⟨hall, held_of _ fun k v kids hm => hall _ hm⟩

set_option maxHeartbeats 400000 in
theorem held_any (t : Tr) (w : World) (x : Value) (k : Int) (hx : TrIn Any w (markT t k) x) (hk : 0 ≤ k) (hk2 : k + 2 * nodesL t.kids ≤ 4611686018427387904) :
    Calls Try.prog 39 #[x, .int .i64 k] w (Ret (.int .i64 (k + 2 * nodesL t.kids)) w) := by
  cases t with
  | mk kd v kids =>
  simp only [markT] at hx
  rw [TrIn_mk] at hx
  obtain ⟨a, n, c, rfl, h1, h2, rfl, h3, h4, hr⟩ := hx
  rw [markL_len] at h3 ⊢
  simp only [Tr.kids] at hk2 ⊢
  have hp := nodesL_pos kids
  have H := hid (fun w hr => heldRow_any kids w a c k hr h3 h4 hk hk2)
  go_enter Try.func39, Try.ntmps39
  go_wp2_with fail
  refine (H.out _ (TrsIn_alloc hr _)).mono ?_
  rintro e w2 ⟨rfl, hb⟩
  go_wp2_with fail
  go_ret
  exact Ret.mk rfl (below_next (below_alloc _ _) hb)

end Branching
end Go.Proofs.Ytobmgfgefccnoaa
