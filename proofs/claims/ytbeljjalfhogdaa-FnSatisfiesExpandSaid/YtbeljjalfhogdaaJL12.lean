/- Joined texts (FormulaCopy, KidsPlain, NegF, NormS, NormI): contracts and plain laws. Conditions: those of each theorem. -/
import Derived.Test.YtbeljjalfhogdaaJL11
import Derived.Test.YtbeljjalfhogdaaJL1
import Derived.Test.YtbeljjalfhogdaaJL7
import Derived.Test.YtbeljjalfhogdaaJL8
import Derived.Test.YtbeljjalfhogdaaJL6
import Derived.Test.YtbeljjalfhogdaaJL10
import Derived.Test.YtbeljjalfhogdaaJL4
import Derived.Deep.RegionHeld3
import Derived.Deep.DeepCutAuto
import Derived.Deep.CutBlock
namespace Go.Proofs.Ytbeljjalfhogdaa
open Go.RowKit
namespace Formula

theorem newTr_set {B : Nat} {t : Tr} {v : Value} {w : World} (h : NewTr B t v w) {a : Addr} (ha : a.block < B) (u : Value) : NewTr B t v (w.setCell a u) := by
  obtain ⟨bs, h1, h2⟩ := h
  exact ⟨bs, TrOwn_set h1 (fun e => by have := h2 _ e; omega) u, h2⟩
def CpT (t : Tr) : Prop := ∀ (w : World) (x : Value), TrIn Any w t x → Small t → Calls Try.prog 85 #[x] w (RetP (NewTr w.heap.size t) w)

/-- behind the first statement: the new node, its row a clone -/
def St0 (w : World) (k v : Int) (kids : List Tr) (a : Option Addr) (c : Nat) (s3 : Value) (wx : World) : Prop := ∃ O a' c', s3 = .pointer (some ⟨O, 0, none⟩) ∧ kids.length ≤ c' ∧ c' ≤ maxLen ∧ Below w.heap.size w wx ∧ Box3 wx w.heap.size (.int .i64 k) (.int .i64 v) (.slice a kids.length c) ∧ Box3 wx (w.heap.size + 1) (.int .i64 0) (.int .i64 0) (.slice none 0 0) ∧
  Box3 wx O (.int .i64 k) (.int .i64 v) (.slice a' kids.length c') ∧ w.heap.size + 1 < O ∧ (0 < kids.length → ∃ R f, a' = some ⟨R, 0, none⟩ ∧ w.heap.size + 1 < R ∧ R ≠ O ∧ Row wx R (kids.length * 3) f)

/-- .. and when k nodes of the row are copies -/
def St1 (w : World) (O : Nat) (k v : Int) (kids : List Tr) (a' : Option Addr) (c' : Nat) (j : Nat) (wr : World) : Prop := Below w.heap.size w wr ∧ Box3 wr (w.heap.size + 1) (.int .i64 0) (.int .i64 0) (.slice none 0 0) ∧ Box3 wr O (.int .i64 k) (.int .i64 v) (.slice a' kids.length c') ∧
  (0 < kids.length → ∃ R f bs, a' = some ⟨R, 0, none⟩ ∧ w.heap.size + 1 < R ∧ R ≠ O ∧ Row wr R (kids.length * 3) f ∧ TrsOwn wr f (kids.take j) 0 bs ∧ R ∉ bs ∧ O ∉ bs ∧ ∀ b, b ∈ bs → w.heap.size + 1 < b)
theorem St1.step {w wr w2 : World} {O : Nat} {k v : Int} {kids : List Tr} {R c' j : Nat} {t : Tr} {x y z : Value} (h : St1 w O k v kids (some ⟨R, 0, none⟩) c' j wr) (ht : kids[j]? = some t) (hnew : NewTr wr.heap.size t (.agg #[x, y, z]) w2) (hb : Below wr.heap.size wr w2) :
    St1 w O k v kids (some ⟨R, 0, none⟩) c' (j + 1) (((w2.setCell ⟨R, j * 3, none⟩ x).setCell ⟨R, j * 3 + 1, none⟩ y).setCell ⟨R, j * 3 + 2, none⟩ z) := by
  obtain ⟨B, bP, bO, hr⟩ := h
  have hj : j < kids.length := by
    rcases Nat.lt_or_ge j kids.length with h | h
    · exact h
    · rw [List.getElem?_eq_none h] at ht; cases ht
  obtain ⟨R', f, bs, e, hR, hRO, hrow, hown, hRb, hOb, hlt⟩ := hr (by omega)
  simp only [Option.some.injEq, Addr.mk.injEq, and_true] at e
  obtain rfl := e
  obtain ⟨cs, hn, hcs⟩ := hnew
  have hRl := hrow.1
  have hOl := bO.1
  have hRc : R ∉ cs := fun e => by have := hcs R e; omega
  have hOc : O ∉ cs := fun e => by have := hcs O e; omega
  have hr2 := (((hrow.below hb).set (i := j * 3) (by omega) x).set (i := j * 3 + 1) (by omega) y).set (i := j * 3 + 2) (by omega) z
  have s1 := B.size
  refine ⟨(((below_next B hb).setCell (by simp; omega) _).setCell (by simp; omega) _).setCell (by simp; omega) _,
    box3_but (But.set _ R _ _) (by omega) (box3_but (But.set _ R _ _) (by omega) (box3_but (But.set _ R _ _) (by omega) (box3_next hb bP))),
    box3_but (But.set _ R _ _) (Ne.symm hRO) (box3_but (But.set _ R _ _) (Ne.symm hRO) (box3_but (But.set _ R _ _) (Ne.symm hRO) (box3_next hb bO))), fun _ => ⟨R, _, bs ++ cs, rfl, hR, hRO, hr2, ?_, by simp [hRb, hRc], by simp [hOb, hOc], fun b hb' => ?_⟩⟩
  · have hl : kids.take (j + 1) = kids.take j ++ [t] := by rw [List.take_add_one, ht]; rfl
    have hlen : (kids.take j).length = j := by rw [List.length_take]; omega
    rw [hl]
    refine TrsOwn_snoc ?_ ?_ ?_
    · refine TrsOwn_set (TrsOwn_set (TrsOwn_set (TrsOwn_congr (TrsOwn_below hb hown) ?_) hRb _) hRb _) hRb _
      intro i _ hi
      rw [hlen] at hi
      rw [if_neg (by omega), if_neg (by omega), if_neg (by omega)]
    · rw [hlen, Nat.zero_add, if_neg (by omega), if_neg (by omega), if_pos rfl, if_neg (by omega), if_pos rfl, if_pos rfl]
      exact TrOwn_set (TrOwn_set (TrOwn_set hn hRc _) hRc _) hRc _
    · intro b hb' hc
      have h3 := TrOwn_lt.2 _ _ _ _ hown b hb'
      have h4 := hcs b hc
      omega
  · rcases List.mem_append.1 hb' with h3 | h3
    · exact hlt b h3
    · have := hcs b h3; omega
theorem St1.done {w wr : World} {O : Nat} {k v : Int} {kids : List Tr} {a' : Option Addr} {c' j : Nat} (h : St1 w O k v kids a' c' j wr) (hj : kids.length ≤ j) (hk : i64 k) (hv : i64 v) (h1 : kids.length ≤ c') (h2 : c' ≤ maxLen) :
    NewTr (w.heap.size + 2) (.mk k v kids) (.agg #[.int .i64 k, .int .i64 v, .slice a' kids.length c']) wr := by
  obtain ⟨B, bP, bO, hr⟩ := h
  by_cases h0 : 0 < kids.length
  · obtain ⟨R, f, bs, rfl, hR, hRO, hrow, hown, hRb, hOb, hlt⟩ := hr h0
    rw [List.take_of_length_le hj] at hown
    obtain ⟨bs', g1, g2⟩ := TrOwn_new hk hv h1 h2 hrow hown hRb
    exact ⟨bs', g1, fun b hb => by rcases g2 b hb with rfl | h; omega; have := hlt b h; omega⟩
  · have e : kids = [] := List.eq_nil_of_length_eq_zero (by omega)
    subst e
    exact ⟨[], TrOwn_leaf hk hv h2, by simp⟩

set_option maxRecDepth 100000 in
set_option maxHeartbeats 4000000 in
theorem cp_of (k v : Int) (kids : List Tr) (h : ∀ t, t ∈ kids → CpT t) : CpT (.mk k v kids) := by
  intro w x hx hs
  rw [TrIn_mk] at hx
  obtain ⟨a, n, c, rfl, hk, hv, rfl, hc, hc2, hks⟩ := hx
  have hc3 := hc2
  unfold maxLen at hc3
  replace hs : kids.length ≤ 1048576 ∧ SmallL kids := hs
  go_enter Try.func85, Try.ntmps85
  go_upto_region 1 with fail
  go_cut [3] (fun s3 wx => St0 w k v kids a c s3 wx)
  case first =>
    refine wp_gen (fun W => Below w.heap.size w W ∧ Box3 W w.heap.size (.int .i64 k) (.int .i64 v) (.slice a kids.length c) ∧ Box3 W (w.heap.size + 1) (.int .i64 0) (.int .i64 0) (.slice none 0 0)) ⟨(by repeat (first | exact Below.refl _ _ | assumption | refine below_a ?_ _ | refine below_o ?_ _ | refine below_d ?_ | refine below_n ?_ _ | refine below_s ?_ (by first | (simp; done) | (simp; omega) | omega) _)), box3_next (below_alloc _ _) (box3_new ..), box3_at (by simp)⟩ ?_
    rintro W ⟨B, b1, bP⟩
    have hPl := bP.1
    have b2 := b1
    obtain ⟨p0, p1, p2, p3, p4, p5, p6⟩ := b1
    have ne1 : W.heap.size ≠ w.heap.size := by omega
    have ne2 : w.heap.size ≠ W.heap.size := by omega
    have hkW := hid (TrsIn_below B hks)
    go_region_held3 (fun w' => w'.cell? ⟨w.heap.size, 0, none⟩ = some (.int .i64 k) ∧ w'.cell? ⟨w.heap.size, 1, none⟩ = some (.int .i64 v) ∧ w'.cell? ⟨w.heap.size, 2, none⟩ = some (.slice a kids.length c))
      (first | exact ⟨p1, p2, p3⟩ | exact ⟨q1, q2, q3⟩ | go_keep)
      ((go_at_call 95; refine (clone_any kids _ a c (TrsIn_below (by repeat (first | exact Below.refl _ _ | assumption | refine below_a ?_ _ | refine below_o ?_ _ | refine below_d ?_ | refine below_n ?_ _ | refine below_s ?_ (by first | (simp; done) | (simp; omega) | omega) _)) hkW.out) hc hc2 hs.1).mono ?_; rintro e w1 ⟨u, rfl, ⟨a', c', rfl, k1, k2, k3⟩, hb⟩; have q := box3_next hb (box3_next (by repeat (first | exact Below.refl _ _ | assumption | refine below_a ?_ _ | refine below_o ?_ _ | refine below_d ?_ | refine below_n ?_ _ | refine below_s ?_ (by first | (simp; done) | (simp; omega) | omega) _)) b2); have q1 := q.2.1; have q2 := q.2.2.1; have q3 := q.2.2.2.1; have K3 := hid k3; clear k3 q; try (obtain ⟨z0, z1, z2, z3, z4, z5, z6⟩ := box3_next hb (box3_at (B := W.heap.size) rfl))))
    · have hs1 : W.heap.size ≤ w1.heap.size := hb.size
      have hfin := hid (show St0 w k v kids a c (.pointer (some ⟨w1.heap.size, 0, none⟩)) (w1.alloc (.cells #[.int .i64 k, .int .i64 v, .slice a' kids.length c'] 29)) from
        ⟨w1.heap.size, a', c', rfl, k1, k2, below_a (below_next (below_d B) hb) _, box3_next (below_alloc _ _) (box3_next hb b2), box3_next (below_alloc _ _) (box3_next hb bP), box3_at rfl, by omega, fun h0 => by
          obtain ⟨R, f, e1, e2, e3, _, _⟩ := K3.out h0
          have e5 : W.heap.size ≤ R := e2
          exact ⟨R, f, e1, by omega, by have := e3.1; omega, e3.below (below_alloc _ _)⟩⟩)
      go_wp2_with fail
      go_meet
      exact hfin.out
    · have hs1 : W.heap.size + 1 ≤ w1.heap.size := by have := hb.size; simp at this; omega
      have hbO : Box3 w1 W.heap.size (.int .i64 0) (.int .i64 0) (.slice none 0 0) := ⟨z0, z1, z2, z3, z4, z5, z6⟩
      have hB1 : Below w.heap.size w w1 := below_next (below_a (below_d B) _) hb
      have hbA : Box3 w1 w.heap.size (.int .i64 k) (.int .i64 v) (.slice a kids.length c) := box3_next hb (box3_next (below_alloc _ _) (show Box3 W.drew w.heap.size (.int .i64 k) (.int .i64 v) (.slice a kids.length c) from b2))
      have hbP : Box3 w1 (w.heap.size + 1) (.int .i64 0) (.int .i64 0) (.slice none 0 0) := box3_next hb (box3_next (below_alloc _ _) (show Box3 W.drew (w.heap.size + 1) (.int .i64 0) (.int .i64 0) (.slice none 0 0) from bP))
      have hfin := hid (show St0 w k v kids a c (.pointer (some ⟨W.heap.size, 0, none⟩)) (((w1.setCell ⟨W.heap.size, 0, none⟩ (.int .i64 k)).setCell ⟨W.heap.size, 1, none⟩ (.int .i64 v)).setCell ⟨W.heap.size, 2, none⟩ (.slice a' kids.length c')) from
        ⟨W.heap.size, a', c', rfl, k1, k2, ((hB1.setCell (by simp; omega) _).setCell (by simp; omega) _).setCell (by simp; omega) _,
          box3_but (But.set _ W.heap.size 2 _) ne2 (box3_but (But.set _ W.heap.size 1 _) ne2 (box3_but (But.set _ W.heap.size 0 _) ne2 hbA)), box3_but (But.set _ W.heap.size 2 _) (by omega) (box3_but (But.set _ W.heap.size 1 _) (by omega) (box3_but (But.set _ W.heap.size 0 _) (by omega) hbP)), box3_set2 (box3_set1 (box3_set0 hbO _) _) _, hPl, fun h0 => by
          obtain ⟨R, f, e1, e2, e3, _, _⟩ := K3.out h0
          have e5 : W.heap.size + 1 ≤ R := by have := e2; simp at this; omega
          exact ⟨R, f, e1, by omega, by omega, ((e3.setOther (by simp; omega) _).setOther (by simp; omega) _).setOther (by simp; omega) _⟩⟩)
      clear z0 z1 z2 z3 z4 z5 z6 hbO hbA hbP
      go_wp2_with fail
      go_meet
      exact hfin.out
  case rest =>
    obtain ⟨O, a', c', rfl, k1, k2, B, b0, bP, bO, hO, hrow⟩ := hcut
    have hst := hid (show St1 w O k v kids a' c' 0 wc from ⟨B, bP, bO, fun h0 => by
      obtain ⟨R, f, e1, e2, e3, e4⟩ := hrow h0
      exact ⟨R, f, [], e1, e2, e3, e4, by rw [List.take_zero, TrsOwn_nil], by simp, by simp, by simp⟩⟩)
    have b00 := b0
    obtain ⟨p0, p1, p2, p3, p4, p5, p6⟩ := b00
    clear hrow
    go_wp2_with fail
    go_loopw [17] (fun i wr => ∃ j : Nat, j ≤ kids.length ∧ i = .int .i64 j ∧ St1 w O k v kids a' c' j wr) (fun i _ => kids.length - (intOf i).toNat)
    case atStart => exact ⟨0, Nat.zero_le _, rfl, hst.out⟩
    case round =>
      clear p0 p1 p2 p3 p4 p5 p6 b0 bO bP hst B
      obtain ⟨j, hj, rfl, hst⟩ := hrel
      by_cases hlt : j < kids.length
      · have hst2 := hst
        obtain ⟨B, bP, bO, hr⟩ := hst2
        obtain ⟨R, f, bs, rfl, hR, hRO, hrow, _, _, _, _⟩ := hr (by omega)
        obtain ⟨b, o, d0, d1, d2, t, rfl, gb, g0, g1, g2, hT⟩ := TrsIn_round hks B hlt
        obtain ⟨a4, n4, hsh⟩ := TrIn_shape hT.out.1
        simp only [Value.agg.injEq, Array.mk.injEq, List.cons.injEq, and_true] at hsh
        obtain ⟨rfl, rfl, rfl⟩ := hsh
        have hlt2 : (j : Int) < (kids.length : Int) := by omega
        have HS := hid hst
        have HR := hid hrow
        clear hst hr hrow
        go_wp2_with fail
        refine wp_gen (fun W => Below wr.heap.size wr W ∧ Box3 W wr.heap.size (.int .i64 t.kind) (.int .i64 t.val) (.slice a4 t.kids.length n4)) ⟨below_alloc _ _, box3_new ..⟩ ?_
        rintro W ⟨BW, bV⟩
        have bO2 := box3_next BW bO
        obtain ⟨v0, v1, v2, v3, v4, v5, v6⟩ := bV
        obtain ⟨o0, o1, o2, o3, o4, o5, o6⟩ := bO2
        have HT := hid (TrIn_below (below_d BW) hT.out.1)
        have hRl := HR.out.1
        have ne1 : O ≠ R := Ne.symm hRO
        have ne2 : R ≠ wr.heap.size := by omega
        have ne3 : wr.heap.size ≠ R := by omega
        have hsz := BW.size
        go_region_held3 (fun w' => w'.cell? ⟨O, 2, none⟩ = some (.slice (some ⟨R, 0, none⟩) kids.length c') ∧ w'.cell? ⟨wr.heap.size, 0, none⟩ = some (.int .i64 t.kind) ∧ w'.cell? ⟨wr.heap.size, 1, none⟩ = some (.int .i64 t.val) ∧ w'.cell? ⟨wr.heap.size, 2, none⟩ = some (.slice a4 t.kids.length n4))
          (first | exact ⟨o3, v1, v2, v3⟩ | exact ⟨q3, r1, r2, r3⟩ | go_keep)
          ((go_at_call 85; refine (h t hT.out.2.1 _ _ HT.out (smallL_mem hs.2 hT.out.2.1)).mono ?_; rintro e w2 ⟨u, rfl, hn, hb⟩; obtain ⟨a3, n3, rfl⟩ := TrIn_shape hn.any; have q3 := (box3_next hb (show Box3 W.drew O _ _ _ from ⟨o0, o1, o2, o3, o4, o5, o6⟩)).2.2.2.1; obtain ⟨r0, r1, r2, r3, r4, r5, r6⟩ := box3_next hb (show Box3 W.drew wr.heap.size _ _ _ from ⟨v0, v1, v2, v3, v4, v5, v6⟩); have hr2 := HR.out.below (below_next (below_d BW) hb); have s0 := hr2.2.1 (j * 3) (by omega); have s1 := hr2.2.1 (j * 3 + 1) (by omega); have s2 := hr2.2.1 (j * 3 + 2) (by omega); have s3 := hr2.2.2; have s4 := hr2.1; have HN := hid hn; have HB := hid (below_next (below_d BW) hb); clear hn hb hr2))
        have hfin := hid (HS.out.step hT.out.2.2.2 (HN.out.mono hsz) HB.out)
        clear HS HR s0 s1 s2 s3 s4 q3 r0 r1 r2 r3 r4 r5 r6
        go_wp2_with fail
        go_roundw
        case rel => exact ⟨j + 1, by omega, by go_num, hfin.out⟩
        case measure => simp [intOf]; omega
      · have hfin := hid (hst.done (by omega) hk hv k1 k2)
        obtain ⟨B, bP, bO, _⟩ := hst
        have bP2 := bP
        have neO : O ≠ w.heap.size + 1 := by omega
        have neO2 : w.heap.size + 1 ≠ O := by omega
        obtain ⟨o0, o1, o2, o3, o4, o5, o6⟩ := bO
        obtain ⟨q0, q1, q2, q3, q4, q5, q6⟩ := bP
        have hlt2 : ¬ ((j : Int) < (kids.length : Int)) := by omega
        have hB := hid B
        clear B
        go_wp2_with fail
        have z := box3_set2 (box3_set1 (box3_set0 bP2 (.int .i64 k)) (.int .i64 v)) (.slice a' kids.length c')
        obtain ⟨z0, z1, z2, z3, _⟩ := z
        refine bodyPost_ret (v := .agg #[.int .i64 k, .int .i64 v, .slice a' kids.length c']) (by simp [results, Try.results85, go_sem, z1, z2, z3]) rfl ?_
        exact RetP.mk ((newTr_set (newTr_set (newTr_set hfin.out (by simp) _) (by simp) _) (by simp) _).mono (by omega)) (((hB.out.setCell (by simp) _).setCell (by simp) _).setCell (by simp) _)

theorem cp_any : ∀ t, CpT t := Tr.ind cp_of

end Formula
end Go.Proofs.Ytbeljjalfhogdaa
namespace Go.Proofs.Ytbeljjalfhogdaa
namespace Lang
variable (L : Lang)
mutual
theorem shape_mono : ∀ (t : Tr) (d : Int), L.shape t d = true → L.shape t (d + 1) = true
  | .mk k v kids, d, h => by
    simp only [shape, Bool.and_eq_true, decide_eq_true_eq] at h ⊢
    have := shapeL_mono kids (d - 1) h.2.2
    rw [show d - 1 + 1 = d + 1 - 1 by omega] at this
    exact ⟨by omega, h.2.1, this⟩
theorem shapeL_mono : ∀ (l : List Tr) (d : Int), L.shapeL l d = true → L.shapeL l (d + 1) = true
  | [], _, _ => rfl
  | t :: ts, d, h => by
    simp only [shapeL, Bool.and_eq_true] at h ⊢
    exact ⟨shape_mono t d h.1, shapeL_mono ts d h.2⟩
end
theorem shapeL_mem {t : Tr} {d : Int} : ∀ {l : List Tr}, L.shapeL l d = true → t ∈ l → L.shape t d = true
  | u :: us, h, hm => by
    simp only [shapeL, Bool.and_eq_true] at h
    cases hm with
    | head => exact h.1
    | tail _ hm => exact shapeL_mem h.2 hm
theorem valid_kid {k v : Int} {kids : List Tr} {u : Tr} (h : L.valid (.mk k v kids) = true) (hu : u ∈ kids) : L.valid u = true := by
  simp only [valid, shape, nodes, Bool.and_eq_true, decide_eq_true_eq] at h ⊢
  have h1 := L.shape_mono u (6 - 1) (L.shapeL_mem h.1.2.2 hu)
  have h2 := nodes_mem hu
  have h3 : 1 + nodesL kids ≤ L.N := of_decide_eq_true h.2
  exact ⟨h1, by omega⟩
theorem size_valid {t : Tr} (h : L.valid t = true) : L.size t = nodes t := by rw [size, if_pos h]
end Lang
end Go.Proofs.Ytbeljjalfhogdaa
namespace Go.Proofs.Ytbeljjalfhogdaa
open Go.RowKit
namespace Formula

/-- a tree of one's own, and whether there is one -/
def RetT (B : Nat) (t : Tr) (b : Bool) (w : World) (e : Ending) (w' : World) : Prop := ∃ v, e = .returned (.tuple #[v, .bool b]) ∧ NewTr B t v w' ∧ Below w.heap.size w w'
def zeroT : Tr := .mk 0 0 []
theorem zero_new (B : Nat) (w : World) : NewTr B zeroT (.agg #[.int .i64 0, .int .i64 0, .slice none 0 0]) w := leaf_new _ _ (by unfold i64; omega) (by unfold i64; omega)

/-- the negation -/
def negT : Tr → Tr
  | .mk k v kids => if k = 3 then kids.headD zeroT else .mk 3 0 [.mk k v kids]
def negOk (t : Tr) : Bool := formL.valid t && formL.valid (negT t)
def negV (t : Tr) : Tr := if negOk t = true then negT t else zeroT
theorem neg_kid {k v : Int} {kids : List Tr} (h : formL.valid (.mk k v kids) = true) (hk : k = 3) : ∃ a, kids = [a] ∧ formL.valid a = true := by
  have hs : formL.shape (.mk k v kids) (6 : Nat) = true := by rw [Lang.valid, Bool.and_eq_true] at h; exact h.1
  obtain ⟨m, _, _, _, _, _, h6, _⟩ := formL.shape_mk hs
  subst hk
  obtain ⟨a, rfl⟩ := len1 (by simpa [formL_ar] using h6)
  exact ⟨a, rfl, formL.valid_kid h (by simp)⟩
theorem small_valid {t : Tr} (h : formL.valid t = true) : nodes t ≤ 12 := by rw [Lang.valid, Bool.and_eq_true, decide_eq_true_eq, formL_N] at h; exact h.2

theorem negV_small (t : Tr) : nodes (negV t) ≤ 1000 := by
  unfold negV
  split
  · rename_i h
    rw [negOk, Bool.and_eq_true] at h
    have := small_valid h.2
    omega
  · simp [zeroT, nodes, nodesL]
/-- one node of one's own, just laid -/
theorem own_one {B : Nat} {w : World} {t : Tr} {x y z : Value} {ty : TypeId} (h : NewTr B t (.agg #[x, y, z]) w) : OwnArg B (w.alloc (.cells #[x, y, z] ty)) [t] (some ⟨w.heap.size, 0, none⟩) := by
  obtain ⟨bs, h1, h2⟩ := h
  refine .inr ⟨w.heap.size, fun i => #[x, y, z].getD i undef, bs, rfl, row_three _ _ _ _ _, ?_, h2⟩
  rw [TrsOwn_cons]
  exact ⟨bs, [], by simp, by simp, by simpa using TrOwn_below (below_alloc _ _) h1, (TrsOwn_nil ..).2 rfl⟩

set_option maxHeartbeats 1000000 in
theorem neg_any (t : Tr) (w : World) (x : Value) (hx : TrIn Any w t x) (hv : formL.valid t = true) (hs : Small t) : Calls Try.prog 55 #[x] w (RetP (NewTr w.heap.size (negT t)) w) := by
  have hx0 := hx
  cases t with
  | mk k v kids =>
  rw [TrIn_mk] at hx0
  obtain ⟨a, n, c, rfl, hk, hv2, rfl, hc, hc2, hks⟩ := hx0
  by_cases h3 : k = 3
  · obtain ⟨t, rfl, hvt⟩ := neg_kid hv h3
    subst h3
    have E := hid (show negT (.mk 3 v [t]) = t from rfl)
    rw [TrsIn_cons] at hks
    obtain ⟨b, o, c0, c1, c2, rfl, _, g0, g1, g2, hT, _⟩ := hks
    have hb := blt g0
    have hst : Small t := hs.2.1
    simp only [List.length_cons, List.length_nil] at hc ⊢
    clear hs hv
    go_enter Try.func55, Try.ntmps55
    go_wp2_with fail
    refine (cp_any t _ _ (TrIn_below (by repeat (first | exact Below.refl _ _ | assumption | refine below_a ?_ _ | refine below_o ?_ _ | refine below_d ?_ | refine below_n ?_ _ | refine below_s ?_ (by first | (simp; done) | (simp; omega) | omega) _)) hT) hst).mono ?_
    rintro e w1 ⟨u, rfl, hn, hb1⟩
    have hn2 := hid hn
    obtain ⟨a1, c4, rfl⟩ := TrIn_shape hn.any
    have bP := box3_next hb1 (box3_at (B := w.heap.size + 1) (by simp))
    have bP' := bP
    obtain ⟨z0, z1, z2, z3, z4, z5, z6⟩ := bP
    have B1 := hid (below_next (show Below w.heap.size w _ from (by repeat (first | exact Below.refl _ _ | assumption | refine below_a ?_ _ | refine below_o ?_ _ | refine below_d ?_ | refine below_n ?_ _ | refine below_s ?_ (by first | (simp; done) | (simp; omega) | omega) _))) hb1)
    clear hn hb1
    go_wp2_with fail
    obtain ⟨y0, y1, y2, y3, _⟩ := box3_set2 (box3_set1 (box3_set0 bP' (.int .i64 t.kind)) (.int .i64 t.val)) (.slice a1 t.kids.length c4); refine bodyPost_ret (v := .agg #[.int .i64 t.kind, .int .i64 t.val, .slice a1 t.kids.length c4]) (by simp [results, Try.results55, go_sem, y1, y2, y3]) rfl ?_
    rw [E.out]
    exact RetP.mk ((newTr_set3 hn2.out (by simp) _ _ _).mono (by simp; omega)) (below_set3 B1.out (by omega) _ _ _)
  · have E := hid (show negT (.mk k v kids) = .mk 3 0 [.mk k v kids] by simp [negT, h3])
    have e3 : (k == 3) = false := by simpa using h3
    clear hv
    go_enter Try.func55, Try.ntmps55
    go_wp2_with fail
    refine (cp_any (.mk k v kids) _ _ (TrIn_below (by repeat (first | exact Below.refl _ _ | assumption | refine below_a ?_ _ | refine below_o ?_ _ | refine below_d ?_ | refine below_n ?_ _ | refine below_s ?_ (by first | (simp; done) | (simp; omega) | omega) _)) hx) hs).mono ?_
    rintro e w1 ⟨u, rfl, hn, hb1⟩
    obtain ⟨a1, c1, rfl⟩ := TrIn_shapeMk hn.any
    have hs1 := hb1.size
    simp only [World.size_alloc] at hs1
    have HO := own_one (ty := 29) (hn.mono (B' := w.heap.size + 2) (by simp))
    have bP := box3_next (below_alloc w1 (.cells #[.int .i64 k, .int .i64 v, .slice a1 kids.length c1] 29)) (box3_next hb1 (box3_at (B := w.heap.size + 1) (by simp)))
    have B1 := below_a (below_next (show Below w.heap.size w _ from (by repeat (first | exact Below.refl _ _ | assumption | refine below_a ?_ _ | refine below_o ?_ _ | refine below_d ?_ | refine below_n ?_ _ | refine below_s ?_ (by first | (simp; done) | (simp; omega) | omega) _))) hb1) (.cells #[.int .i64 k, .int .i64 v, .slice a1 kids.length c1] 29)
    clear hn hb1
    go_wp2_with fail
    refine (mk_any 3 (by unfold i64; omega) [.mk k v kids] _ _ 1 (w.heap.size + 2) HO (by simp; omega) (by simp) (by simp [maxLen]) (by simp)).mono ?_
    rintro e w2 ⟨u, rfl, hn, hb⟩
    have hn2 := hid hn
    obtain ⟨a2, c2, rfl⟩ := TrIn_shapeMk hn.any
    simp only [List.length_cons, List.length_nil, Nat.zero_add] at hn2 ⊢
    replace bP := box3_next hb bP
    have bP' := bP
    obtain ⟨z0, z1, z2, z3, z4, z5, z6⟩ := bP
    have B2 := hid (below_next B1 hb)
    clear hn hb B1 HO
    go_wp2_with fail
    obtain ⟨y0, y1, y2, y3, _⟩ := box3_set2 (box3_set1 (box3_set0 bP' (.int .i64 3)) (.int .i64 0)) (.slice a2 1 c2); refine bodyPost_ret (v := .agg #[.int .i64 3, .int .i64 0, .slice a2 1 c2]) (by simp [results, Try.results55, go_sem, y1, y2, y3]) rfl ?_
    rw [E.out]
    exact RetP.mk ((newTr_set3 hn2.out (by simp) _ _ _).mono (by simp)) (below_set3 B2.out (by omega) _ _ _)

theorem RetT.mk {B : Nat} {t t' : Tr} {b b' : Bool} {v : Value} {w w' : World} (h : NewTr B t' v w') (ht : t = t') (hb : b = b') (hw : Below w.heap.size w w') : RetT B t b w (.returned (.tuple #[v, .bool b'])) w' := ⟨v, by rw [hb], ht ▸ h, hw⟩

set_option maxHeartbeats 2000000 in
theorem negate_any (t : Tr) (w : World) (x : Value) (hx : TrIn Any w t x) (hs : Small t) : Calls Try.prog 27 #[x] w (RetT w.heap.size (negV t) (negOk t) w) := by
  have hx0 := hx
  obtain ⟨a, c, rfl⟩ := TrIn_shape hx
  have HT := hid (fun w hx => valid_any t w (.agg #[.int .i64 t.kind, .int .i64 t.val, .slice a t.kids.length c]) hx)
  cases hv : formL.valid t with
  | false =>
    have E := hid (show negV t = zeroT ∧ negOk t = false by simp [negV, negOk, hv])
    rw [hv] at HT
    clear hv
    go_enter Try.func27, Try.ntmps27
    go_wp2_with fail
    refine (HT.out _ (TrIn_below (by repeat (first | exact Below.refl _ _ | assumption | refine below_a ?_ _ | refine below_o ?_ _ | refine below_d ?_ | refine below_n ?_ _ | refine below_s ?_ (by first | (simp; done) | (simp; omega) | omega) _)) hx)).mono ?_
    rintro e w1 ⟨rfl, hb⟩
    have bP := box3_next hb (box3_at (B := w.heap.size + 1) (by simp))
    have bP' := bP
    obtain ⟨z0, z1, z2, z3, z4, z5, z6⟩ := bP
    have B1 := hid (below_next (show Below w.heap.size w _ from (by repeat (first | exact Below.refl _ _ | assumption | refine below_a ?_ _ | refine below_o ?_ _ | refine below_d ?_ | refine below_n ?_ _ | refine below_s ?_ (by first | (simp; done) | (simp; omega) | omega) _))) hb)
    clear hb
    go_wp2_with fail
    obtain ⟨y0, y1, y2, y3, _⟩ := box3_set2 (box3_set1 (box3_set0 bP' (.int .i64 0)) (.int .i64 0)) (.slice none 0 0); refine bodyPost_ret (v := .tuple #[.agg #[.int .i64 0, .int .i64 0, .slice none 0 0], .bool false]) (by simp [results, Try.results27, go_sem, y1, y2, y3]) rfl ?_
    exact RetT.mk (zero_new _ _) E.out.1 E.out.2 (below_set3 B1.out (by omega) _ _ _)
  | true =>
    have HN := hid (fun w hx => neg_any t w (.agg #[.int .i64 t.kind, .int .i64 t.val, .slice a t.kids.length c]) hx hv hs)
    have HV := hid (fun w x hx => valid_any (negT t) w x hx)
    cases hv2 : formL.valid (negT t) with
    | false =>
      have E := hid (show negV t = zeroT ∧ negOk t = false by simp [negV, negOk, hv2])
      rw [hv] at HT
      rw [hv2] at HV
      clear hv hv2
      go_enter Try.func27, Try.ntmps27
      go_wp2_with fail
      refine (HT.out _ (TrIn_below (by repeat (first | exact Below.refl _ _ | assumption | refine below_a ?_ _ | refine below_o ?_ _ | refine below_d ?_ | refine below_n ?_ _ | refine below_s ?_ (by first | (simp; done) | (simp; omega) | omega) _)) hx)).mono ?_
      rintro e w1 ⟨rfl, hb⟩
      have bA := box3_next hb (box3_next (below_alloc _ _) (box3_new w (.int .i64 t.kind) (.int .i64 t.val) (.slice a t.kids.length c) 29))
      have bP := box3_next hb (box3_at (B := w.heap.size + 1) (by simp))
      have B1 := below_next (show Below w.heap.size w _ from (by repeat (first | exact Below.refl _ _ | assumption | refine below_a ?_ _ | refine below_o ?_ _ | refine below_d ?_ | refine below_n ?_ _ | refine below_s ?_ (by first | (simp; done) | (simp; omega) | omega) _))) hb
      clear hb
      go_wp2_with fail
      refine (HN.out _ (TrIn_below B1 hx)).mono ?_
      rintro e w2 ⟨u, rfl, hn, hb⟩
      replace bP := box3_next hb bP
      replace B1 := below_next B1 hb
      clear hb
      go_wp2_with fail
      refine (HV.out _ _ hn.any).mono ?_
      rintro e w3 ⟨rfl, hb⟩
      replace bP := box3_next hb bP
      replace B1 := hid (below_next B1 hb)
      have bP' := bP
      obtain ⟨z0, z1, z2, z3, z4, z5, z6⟩ := bP
      clear hb hn
      go_wp2_with fail
      obtain ⟨y0, y1, y2, y3, _⟩ := box3_set2 (box3_set1 (box3_set0 bP' (.int .i64 0)) (.int .i64 0)) (.slice none 0 0); refine bodyPost_ret (v := .tuple #[.agg #[.int .i64 0, .int .i64 0, .slice none 0 0], .bool false]) (by simp [results, Try.results27, go_sem, y1, y2, y3]) rfl ?_
      exact RetT.mk (zero_new _ _) E.out.1 E.out.2 (below_set3 B1.out (by omega) _ _ _)
    | true =>
      have E := hid (show negV t = negT t ∧ negOk t = true by simp [negV, negOk, hv, hv2])
      rw [hv] at HT
      rw [hv2] at HV
      clear hv hv2
      go_enter Try.func27, Try.ntmps27
      go_wp2_with fail
      refine (HT.out _ (TrIn_below (by repeat (first | exact Below.refl _ _ | assumption | refine below_a ?_ _ | refine below_o ?_ _ | refine below_d ?_ | refine below_n ?_ _ | refine below_s ?_ (by first | (simp; done) | (simp; omega) | omega) _)) hx)).mono ?_
      rintro e w1 ⟨rfl, hb⟩
      have bA := box3_next hb (box3_next (below_alloc _ _) (box3_new w (.int .i64 t.kind) (.int .i64 t.val) (.slice a t.kids.length c) 29))
      have bP := box3_next hb (box3_at (B := w.heap.size + 1) (by simp))
      have B1 := below_next (show Below w.heap.size w _ from (by repeat (first | exact Below.refl _ _ | assumption | refine below_a ?_ _ | refine below_o ?_ _ | refine below_d ?_ | refine below_n ?_ _ | refine below_s ?_ (by first | (simp; done) | (simp; omega) | omega) _))) hb
      clear hb
      go_wp2_with fail
      refine (HN.out _ (TrIn_below B1 hx)).mono ?_
      rintro e w2 ⟨u, rfl, hn, hb⟩
      replace bP := box3_next hb bP
      replace bA := box3_next hb bA
      replace B1 := below_next B1 hb
      clear hb
      go_wp2_with fail
      refine (HV.out _ _ hn.any).mono ?_
      rintro e w3 ⟨rfl, hb⟩
      replace bP := box3_next hb bP
      replace bA := box3_next hb bA
      replace B1 := below_next B1 hb
      clear hb hn
      go_wp2_with fail
      refine (HN.out _ (TrIn_below B1 hx)).mono ?_
      rintro e w4 ⟨u, rfl, hn, hb⟩
      have hP3 : w.heap.size + 1 < w3.heap.size := bP.1
      replace bP := box3_next hb bP
      replace B1 := hid (below_next B1 hb)
      obtain ⟨a5, c5, rfl⟩ := TrIn_shape hn.any
      have bP' := bP
      obtain ⟨z0, z1, z2, z3, z4, z5, z6⟩ := bP
      have HNN := hid hn
      clear hb hn
      go_wp2_with fail
      obtain ⟨y0, y1, y2, y3, _⟩ := box3_set2 (box3_set1 (box3_set0 bP' (.int .i64 (negT t).kind)) (.int .i64 (negT t).val)) (.slice a5 (negT t).kids.length c5); refine bodyPost_ret (v := .tuple #[.agg #[.int .i64 (negT t).kind, .int .i64 (negT t).val, .slice a5 (negT t).kids.length c5], .bool true]) (by simp [results, Try.results27, go_sem, y1, y2, y3]) rfl ?_
      exact RetT.mk ((newTr_set3 HNN.out hP3 _ _ _).mono (by omega)) E.out.1 E.out.2 (below_set3 B1.out (by omega) _ _ _)

end Formula
end Go.Proofs.Ytbeljjalfhogdaa
namespace Go.Proofs.Ytbeljjalfhogdaa
open Go.RowKit
namespace Formula

/-- what is behind the only operand -/
theorem kid_one {w : World} {k v : Int} {t : Tr} {x : Value} (h : TrIn Any w (.mk k v [t]) x) : ∃ b o c c0 c1 c2, x = .agg #[.int .i64 k, .int .i64 v, .slice (some ⟨b, o, none⟩) 1 c] ∧ b < w.heap.size ∧ 1 ≤ c ∧ c ≤ maxLen ∧ w.cell? ⟨b, o, none⟩ = some c0 ∧ w.cell? ⟨b, o + 1, none⟩ = some c1 ∧ w.cell? ⟨b, o + 2, none⟩ = some c2 ∧ TrIn Any w t (.agg #[c0, c1, c2]) := by
  rw [TrIn_mk] at h
  obtain ⟨a, n', c, rfl, hk1, hv, rfl, hc, hc2, hks⟩ := h
  rw [TrsIn_cons] at hks
  obtain ⟨b, o, c0, c1, c2, rfl, _, g0, g1, g2, hT, _⟩ := hks
  exact ⟨b, o, c, c0, c1, c2, rfl, blt g0, hc, hc2, g0, g1, g2, hT⟩
theorem kid_two {w : World} {k v : Int} {t u : Tr} {x : Value} (h : TrIn Any w (.mk k v [t, u]) x) : ∃ b o c c0 c1 c2 d0 d1 d2, x = .agg #[.int .i64 k, .int .i64 v, .slice (some ⟨b, o, none⟩) 2 c] ∧ b < w.heap.size ∧ 2 ≤ c ∧ c ≤ maxLen ∧
    (w.cell? ⟨b, o, none⟩ = some c0 ∧ w.cell? ⟨b, o + 1, none⟩ = some c1 ∧ w.cell? ⟨b, o + 2, none⟩ = some c2) ∧ (w.cell? ⟨b, o + 3, none⟩ = some d0 ∧ w.cell? ⟨b, o + 4, none⟩ = some d1 ∧ w.cell? ⟨b, o + 5, none⟩ = some d2) ∧ TrIn Any w t (.agg #[c0, c1, c2]) ∧ TrIn Any w u (.agg #[d0, d1, d2]) := by
  rw [TrIn_mk] at h
  obtain ⟨a, n', c, rfl, hk1, hv, rfl, hc, hc2, hks⟩ := h
  rw [TrsIn_cons] at hks
  obtain ⟨b, o, c0, c1, c2, rfl, _, g0, g1, g2, hT, hks⟩ := hks
  rw [TrsIn_cons] at hks
  obtain ⟨b', o', d0, d1, d2, hbo, _, f0, f1, f2, hU, _⟩ := hks
  simp only [Option.some.injEq, Addr.mk.injEq, and_true] at hbo
  obtain ⟨rfl, rfl⟩ := hbo
  exact ⟨b, o, c, c0, c1, c2, d0, d1, d2, rfl, blt g0, hc, hc2, ⟨g0, g1, g2⟩, ⟨f0, f1, f2⟩, hT, hU⟩

theorem dual_bd {k : Int} (hk : k = 4 ∨ k = 5 ∨ k = 7 ∨ k = 8) : i64 (dualK k) := by rcases hk with rfl | rfl | rfl | rfl <;> (unfold i64 dualK; simp)

/-- the word 'false', just made -/
theorem fls_parts {w : World} {B : Nat} {x : Value} (h : NewTr B flsT x w) : ∃ a c, x = .agg #[.int .i64 3, .int .i64 0, .slice a 1 c] := TrIn_shapeMk h.any
theorem tru_parts {w : World} {B : Nat} {x : Value} (h : NewTr B truT x w) : ∃ a c, x = .agg #[.int .i64 1, .int .i64 0, .slice a 0 c] := TrIn_shapeMk h.any

def normOk (t : Tr) : Bool := formL.valid t && formL.valid (nfT t false)
def normV (t : Tr) : Tr := if normOk t = true then nfT t false else zeroT
theorem normV_small (t : Tr) : nodes (normV t) ≤ 1000 := by
  unfold normV
  split
  · rename_i h
    rw [normOk, Bool.and_eq_true] at h
    have := small_valid h.2
    omega
  · simp [zeroT, nodes, nodesL]

end Formula
end Go.Proofs.Ytbeljjalfhogdaa
namespace Go.Proofs.Ytbeljjalfhogdaa
open Go.RowKit
namespace Formula

def NoT (t : Tr) : Prop := ∀ (n : Nat) (neg : Bool) (w : World) (x : Value), formL.shape t n = true → TrIn Any w t x → Calls Try.prog 84 #[x, .bool neg] w (RetP (NewTr w.heap.size (nfT t neg)) w)

set_option maxHeartbeats 400000 in
theorem pk_any (neg : Bool) (w : World) (Q : Nat) (p q : Int) (hQ : w.cell? ⟨Q, 0, none⟩ = some (.bool neg)) : Calls Try.prog 94 #[.int .i64 p, .int .i64 q, .pointer (some ⟨Q, 0, none⟩)] w (RetW (.int .i64 (if neg = true then q else p)) w) := by
  have hl := blt hQ
  cases neg
  all_goals
    go_enter Try.func94, Try.ntmps94
    go_wp2_with fail
    go_ret
    exact ⟨rfl, rfl⟩

theorem pk_ex (neg : Bool) (w : World) (Q : Nat) (p q : Int) (hQ : w.cell? ⟨Q, 0, none⟩ = some (.bool neg)) : Calls Try.prog 94 #[.int .i64 p, .int .i64 q, .pointer (some ⟨Q, 0, none⟩)] w (fun e w' => ∃ r : Int, e = .returned (.int .i64 r) ∧ r = (if neg = true then q else p) ∧ w' = w) :=
  (pk_any neg w Q p q hQ).mono fun _ _ h => ⟨_, h.1, rfl, h.2⟩
theorem own_one_at {B b' : Nat} {w : World} {t : Tr} {x y z : Value} {ty : TypeId} (h : NewTr B t (.agg #[x, y, z]) w) (hb : b' = w.heap.size) : OwnArg B (w.alloc (.cells #[x, y, z] ty)) [t] (some ⟨b', 0, none⟩) := by
  subst hb; exact own_one h

set_option maxRecDepth 100000 in
set_option maxHeartbeats 1000000 in
theorem kd_of (neg : Bool) (k v : Int) (kids : List Tr) (w : World) (a : Option Addr) (c P Q : Nat) (bA : Box3 w P (.int .i64 k) (.int .i64 v) (.slice a kids.length c)) (bN : Box1 w Q (.bool neg)) (hks : TrsIn Any w kids a) (_ : kids.length ≤ c) (hc2 : c ≤ maxLen) (i : Nat) (hi : i < kids.length) (t : Tr) (ht : kids[i]? = some t) (m : Nat) (hs : formL.shape t m = true) (h : NoT t) :
    Calls Try.prog 93 #[.int .i64 i, .pointer (some ⟨P, 0, none⟩), .pointer (some ⟨Q, 0, none⟩)] w (RetP (NewTr w.heap.size (nfT t neg)) w) := by
  obtain ⟨b, o, d0, d1, d2, t', rfl, gb, g0, g1, g2, hT⟩ := TrsIn_round hks (Below.refl _ w) hi
  obtain rfl : t = t' := by have := hT.out.2.2.2; rw [ht] at this; exact Option.some.inj this
  have hT1 := hid hT.out.1
  have hi2 : (i : Int) < (kids.length : Int) := by omega
  have HS := hid hs
  have HC := hid hc2
  unfold maxLen at hc2
  clear hT hks ht hs
  go_enter Try.func93, Try.ntmps93
  go_wp2_with fail
  refine wp_gen (fun W => Below w.heap.size w W ∧ Box3 W w.heap.size (.int .i64 0) (.int .i64 0) (.slice none 0 0)) ⟨(by repeat (first | exact Below.refl _ _ | assumption | refine below_a ?_ _ | refine below_o ?_ _ | refine below_d ?_ | refine below_n ?_ _ | refine below_s ?_ (by first | (simp; done) | (simp; omega) | omega) _)), box3_new ..⟩ ?_
  rintro W ⟨BW, bz⟩
  have hzl := bz.1
  have hPl := bA.1
  have hQl := bN.1
  have HF := hid (fun w' (M : But W w.heap.size w') => (⟨(M.cell (by omega) (by omega)).trans ((BW.cell (p := ⟨P, 2, none⟩) hPl).trans bA.2.2.2.1), (M.cell (by omega) (by omega)).trans ((BW.cell (p := ⟨Q, 0, none⟩) hQl).trans bN.2.1),
    (M.cell (by omega) (by omega)).trans ((BW.cell (p := ⟨b, o + i * 3, none⟩) gb).trans g0), (M.cell (by omega) (by omega)).trans ((BW.cell (p := ⟨b, o + i * 3 + 1, none⟩) gb).trans g1), (M.cell (by omega) (by omega)).trans ((BW.cell (p := ⟨b, o + i * 3 + 2, none⟩) gb).trans g2)⟩ :
    w'.cell? ⟨P, 2, none⟩ = some (.slice (some ⟨b, o, none⟩) kids.length c) ∧ w'.cell? ⟨Q, 0, none⟩ = some (.bool neg) ∧ w'.cell? ⟨b, o + i * 3, none⟩ = some d0 ∧ w'.cell? ⟨b, o + i * 3 + 1, none⟩ = some d1 ∧ w'.cell? ⟨b, o + i * 3 + 2, none⟩ = some d2))
  go_region_held3 (fun w' => w'.cell? ⟨P, 2, none⟩ = some (.slice (some ⟨b, o, none⟩) kids.length c) ∧ w'.cell? ⟨Q, 0, none⟩ = some (.bool neg) ∧ w'.cell? ⟨b, o + i * 3, none⟩ = some d0 ∧ w'.cell? ⟨b, o + i * 3 + 1, none⟩ = some d1 ∧ w'.cell? ⟨b, o + i * 3 + 2, none⟩ = some d2)
    (first | (refine HF.out _ ?_; (repeat (first | exact But.refl _ _ | (refine But.of ?_; assumption) | refine but_a ?_ _ | refine but_d ?_ | refine but_s ?_ _)); done) | go_keep)
    ((go_at_call 84; refine (h m neg _ _ HS.out (TrIn_below (below_next BW (by repeat (first | exact Below.refl _ _ | assumption | refine below_a ?_ _ | refine below_o ?_ _ | refine below_d ?_ | refine below_n ?_ _ | refine below_s ?_ (by first | (simp; done) | (simp; omega) | omega) _))) hT1.out)).mono ?_; rintro e w1 ⟨u1, rfl, hn1, hb1⟩; obtain ⟨a1, n1, rfl⟩ := TrIn_shape hn1.any; have M1 := below_next (show Below W.heap.size W _ from (by repeat (first | exact Below.refl _ _ | assumption | refine below_a ?_ _ | refine below_o ?_ _ | refine below_d ?_ | refine below_n ?_ _ | refine below_s ?_ (by first | (simp; done) | (simp; omega) | omega) _))) hb1; have bz1 := box3_next M1 bz; obtain ⟨z0, z1, z2, z3, z4, z5, z6⟩ := bz1; clear hb1))
  all_goals
    have bz' := box3_next M1 bz
    have BB := hid (below_next BW M1)
    have HN := hid (hn1.mono (B' := w.heap.size + 1) (by simp; omega))
    clear bz M1 BW hn1
    go_wp2_with fail
    obtain ⟨y0, y1, y2, y3, _⟩ := box3_set2 (box3_set1 (box3_set0 bz' (.int .i64 (nfT t neg).kind)) (.int .i64 (nfT t neg).val)) (.slice a1 (nfT t neg).kids.length n1); refine bodyPost_ret (v := .agg #[.int .i64 (nfT t neg).kind, .int .i64 (nfT t neg).val, .slice a1 (nfT t neg).kids.length n1]) (by simp [results, Try.results93, go_sem, y1, y2, y3]) rfl ?_
    exact RetP.mk ((newTr_set3 HN.out (by omega) _ _ _).mono (by omega)) (below_set3 BB.out (by omega) _ _ _)

set_option maxRecDepth 100000 in
set_option maxHeartbeats 2000000 in
theorem no_leaf (k v : Int) (hk : k = 1 ∨ k = 2) : NoT (.mk k v []) := by
  intro n neg w x hs hx
  clear hs
  rw [TrIn_mk] at hx
  obtain ⟨a, n', c, rfl, hk1, hv, rfl, hc, hc2, hks⟩ := hx
  simp only [List.length_nil] at hc ⊢
  clear hks
  have E := hid (show nfT (.mk k v []) neg = if neg = true then .mk 3 0 [.mk k v []] else .mk k v [] by simp [nfT, nfNode, hk])
  generalize nfT (.mk k v []) neg = res at E ⊢
  have e3 : (k == 3) = false := by rcases hk with rfl | rfl <;> rfl
  have e4 : (k == 4) = false := by rcases hk with rfl | rfl <;> rfl
  have e5 : (k == 5) = false := by rcases hk with rfl | rfl <;> rfl
  have e6 : (k == 6) = false := by rcases hk with rfl | rfl <;> rfl
  have e7 : (k == 7) = false := by rcases hk with rfl | rfl <;> rfl
  have e8 : (k == 8) = false := by rcases hk with rfl | rfl <;> rfl
  have e9 : (k == 9) = false := by rcases hk with rfl | rfl <;> rfl
  have e10 : (k == 10) = false := by rcases hk with rfl | rfl <;> rfl
  clear hk
  go_enter Try.func84, Try.ntmps84
  go_wp2_with fail
  refine (mk_any 1 (by unfold i64; omega) [] _ none 0 (w.heap.size + 3) (.inl rfl) (by simp) (by simp) (by simp) (by simp)).mono ?_
  rintro e w1 ⟨u1, rfl, hn1, hb1⟩
  obtain ⟨a1, c1, rfl⟩ := tru_parts hn1
  have bA := box3_next hb1 (box3_next (below_alloc _ _) (box3_next (below_alloc _ _) (box3_new w (.int .i64 k) (.int .i64 v) (.slice a 0 c) 29)))
  have bN := box1_next hb1 (box1_next (below_alloc _ _) (box1_at (B := w.heap.size + 1) (a := .bool neg) (by simp)))
  have bz := box3_next hb1 (box3_at (B := w.heap.size + 1 + 1) (by simp))
  have B1 := below_next (show Below w.heap.size w _ from (by repeat (first | exact Below.refl _ _ | assumption | refine below_a ?_ _ | refine below_o ?_ _ | refine below_d ?_ | refine below_n ?_ _ | refine below_s ?_ (by first | (simp; done) | (simp; omega) | omega) _))) hb1
  have hs1 := bz.1
  clear hb1
  go_wp2_with fail
  refine (mk_any 3 (by unfold i64; omega) [truT] _ _ 1 (w.heap.size + 3) (own_one hn1) (by simp; omega) (by simp) (by simp [maxLen]) (by simp)).mono ?_
  rintro e w2 ⟨u2, rfl, hn2, hb2⟩
  obtain ⟨a2, c2, rfl⟩ := fls_parts hn2
  replace hb2 := below_next (below_alloc _ _) hb2
  replace bA := box3_next hb2 bA
  replace bN := box1_next hb2 bN
  replace bz := box3_next hb2 bz
  replace B1 := below_next B1 hb2
  clear hb2 hn1 hs1
  go_upto_region 2 with fail
  refine wp_gen (fun W => Below w.heap.size w W ∧ Box3 W w.heap.size (.int .i64 k) (.int .i64 v) (.slice a 0 c) ∧ Box1 W (w.heap.size + 1) (.bool neg) ∧ Box3 W (w.heap.size + 1 + 1) (.int .i64 0) (.int .i64 0) (.slice none 0 0) ∧ (w.heap.size + 1 + 1 < w2.heap.size ∧ Box3 W w2.heap.size (.int .i64 3) (.int .i64 0) (.slice a2 1 c2)) ∧ NewTr (w.heap.size + 3) flsT (.agg #[.int .i64 3, .int .i64 0, .slice a2 1 c2]) W) ⟨below_a B1 _, box3_next (below_alloc _ _) bA, box1_next (below_alloc _ _) bN, box3_next (below_alloc _ _) bz, ⟨bz.1, box3_new ..⟩, hn2.below (below_alloc _ _)⟩ ?_
  rintro W ⟨BW, bA, bN, bz, ⟨hlF, bF⟩, hnF⟩
  clear B1 hn2
  have hzl := bz.1
  have bA0 := bA
  obtain ⟨p0, p1, p2, p3, p4⟩ := bA
  obtain ⟨q0, q1, q2⟩ := bN
  cases neg
  · have E' := E.out
    simp at E'
    have E'' := hid E'
    clear E E' bF hnF
    have bz' := bz
    obtain ⟨z0, z1, z2, z3, z4, z5, z6⟩ := bz
    have hBW := hid BW
    clear BW
    go_wp2_with fail
    have HY := fun o => box3_next (below_alloc _ o) (box3_set2 (box3_set1 (box3_set0 bz' (.int .i64 k)) (.int .i64 v)) (.slice none 0 0))
    have y1 := fun o => (HY o).2.1
    have y2 := fun o => (HY o).2.2.1
    have y3 := fun o => (HY o).2.2.2.1
    refine bodyPost_ret (v := .agg #[.int .i64 k, .int .i64 v, .slice none 0 0]) (by simp [results, Try.results84, go_sem, y1, y2, y3]) rfl ?_
    rw [E''.out]
    exact RetP.mk (leaf_new _ _ hk1 hv) (below_a (below_set3 hBW.out (by omega) _ _ _) _)
  · have E' := E.out
    simp at E'
    have E'' := hid E'
    clear E E' bF hnF
    go_wp2_with fail
    refine (mk_any 3 (by unfold i64; omega) [.mk k v []] _ _ 1 (w.heap.size + 3) (own_one_at (leaf_new _ _ hk1 hv) (by simp)) (by simp; omega) (by simp) (by simp [maxLen]) (by simp)).mono ?_
    rintro e w5 ⟨u5, rfl, hn5, hb5⟩
    obtain ⟨a5, c5, rfl⟩ := TrIn_shapeMk hn5.any
    simp only [List.length_cons, List.length_nil, Nat.zero_add] at hn5 ⊢
    replace hb5 := below_next (below_alloc _ _) (below_next (below_alloc _ _) hb5)
    have bz' := box3_next hb5 bz
    have bz2 := bz'
    obtain ⟨z0, z1, z2, z3, z4, z5, z6⟩ := bz2
    have hBW := hid (below_next BW hb5)
    have HN := hid hn5
    clear BW hb5 hn5 bz
    go_wp2_with fail
    obtain ⟨y0, y1, y2, y3, _⟩ := box3_set2 (box3_set1 (box3_set0 bz' (.int .i64 3)) (.int .i64 0)) (.slice a5 1 c5); refine bodyPost_ret (v := .agg #[.int .i64 3, .int .i64 0, .slice a5 1 c5]) (by simp [results, Try.results84, go_sem, y1, y2, y3]) rfl ?_
    rw [E''.out]
    exact RetP.mk ((newTr_set3 HN.out (by omega) _ _ _).mono (by omega)) (below_set3 hBW.out (by omega) _ _ _)

theorem own_two {B b' : Nat} {w : World} {t u : Tr} {x y z x' y' z' : Value} {ty : TypeId} (h : Two B t u (.agg #[x, y, z]) (.agg #[x', y', z']) w) (hb : b' = w.heap.size) : OwnArg B (w.alloc (.cells #[x, y, z, x', y', z'] ty)) [t, u] (some ⟨b', 0, none⟩) := by
  obtain ⟨f, bs, h1, h2, h3, _⟩ := h.rows (ty := ty) hb
  exact .inr ⟨b', f, bs, rfl, h1, h2, h3⟩

set_option maxRecDepth 100000 in
set_option maxHeartbeats 4000000 in
theorem no_two (k v : Int) (hk : k = 4 ∨ k = 5 ∨ k = 7 ∨ k = 8) (t u : Tr) (h : NoT t) (h' : NoT u) : NoT (.mk k v [t, u]) := by
  intro n neg w x hs hx
  obtain ⟨m, rfl, _, _, _, _, _, h7⟩ := formL.shape_mk hs
  have hst := hid (h7 t (by simp))
  have hsu := hid (h7 u (by simp))
  rw [TrIn_mk] at hx
  obtain ⟨a, n', c, rfl, hk1, hv, rfl, hc, hc2, hks⟩ := hx
  simp only [List.length_cons, List.length_nil, Nat.zero_add, Nat.reduceAdd] at hc ⊢
  have E := hid (show nfT (.mk k v [t, u]) neg = .mk (if neg = true then dualK k else k) 0 [nfT t neg, nfT u neg] by rcases hk with rfl | rfl | rfl | rfl <;> simp [nfT, nfL, nfNode])
  clear hs h7
  generalize nfT (.mk k v [t, u]) neg = res at E ⊢
  rcases hk with rfl | rfl | rfl | rfl
  all_goals
    simp only [dualK] at E
    simp at E
    go_enter Try.func84, Try.ntmps84
    go_wp2_with fail
    refine (mk_any 1 (by unfold i64; omega) [] _ none 0 (w.heap.size + 3) (.inl rfl) (by simp) (by simp) (by simp) (by simp)).mono ?_
    rintro e w1 ⟨u1, rfl, hn1, hb1⟩
    obtain ⟨a1, c1, rfl⟩ := tru_parts hn1
    have bA := box3_next hb1 (box3_next (below_alloc _ _) (box3_next (below_alloc _ _) (box3_new w (.int .i64 _) (.int .i64 v) (.slice a 2 c) 29)))
    have bN := box1_next hb1 (box1_next (below_alloc _ _) (box1_at (B := w.heap.size + 1) (a := .bool neg) (by simp)))
    have bz := box3_next hb1 (box3_at (B := w.heap.size + 1 + 1) (by simp))
    have B1 := below_next (show Below w.heap.size w _ from (by repeat (first | exact Below.refl _ _ | assumption | refine below_a ?_ _ | refine below_o ?_ _ | refine below_d ?_ | refine below_n ?_ _ | refine below_s ?_ (by first | (simp; done) | (simp; omega) | omega) _))) hb1
    have hs1 := bz.1
    clear hb1
    go_wp2_with fail
    refine (mk_any 3 (by unfold i64; omega) [truT] _ _ 1 (w.heap.size + 3) (own_one hn1) (by simp; omega) (by simp) (by simp [maxLen]) (by simp)).mono ?_
    rintro e w2 ⟨u2, rfl, hn2, hb2⟩
    obtain ⟨a2, c2, rfl⟩ := fls_parts hn2
    replace hb2 := below_next (below_alloc _ _) hb2
    replace bA := box3_next hb2 bA
    replace bN := box1_next hb2 bN
    replace bz := box3_next hb2 bz
    replace B1 := below_next B1 hb2
    clear hb2 hn1 hs1
    go_upto_region 2 with fail
    refine wp_gen (fun W => Below w.heap.size w W ∧ Box3 W w.heap.size (.int .i64 _) (.int .i64 v) (.slice a 2 c) ∧ Box1 W (w.heap.size + 1) (.bool neg) ∧ Box3 W (w.heap.size + 1 + 1) (.int .i64 0) (.int .i64 0) (.slice none 0 0) ∧ (w.heap.size + 1 + 1 < w2.heap.size ∧ Box3 W w2.heap.size (.int .i64 3) (.int .i64 0) (.slice a2 1 c2)) ∧ NewTr (w.heap.size + 3) flsT (.agg #[.int .i64 3, .int .i64 0, .slice a2 1 c2]) W) ⟨below_a B1 _, box3_next (below_alloc _ _) bA, box1_next (below_alloc _ _) bN, box3_next (below_alloc _ _) bz, ⟨bz.1, box3_new ..⟩, hn2.below (below_alloc _ _)⟩ ?_
    rintro W ⟨BW, bA, bN, bz, ⟨hlF, bF⟩, hnF⟩
    clear B1 hn2
    have hzl := bz.1
    have bA0 := bA
    obtain ⟨p0, p1, p2, p3, p4⟩ := bA
    clear bF hnF
    go_wp2_with fail
    refine (pk_ex neg _ (w.heap.size + 1) _ _ bN.2.1).mono ?_
    rintro e _ ⟨kk, rfl, hr, rfl⟩
    rw [← hr] at E
    have hkk : i64 kk := by rw [hr]; split <;> (unfold i64; omega)
    have E' := hid E
    clear hr E
    go_wp2_with fail
    refine (kd_of neg _ v [t, u] _ a c w.heap.size (w.heap.size + 1) bA0 bN (TrsIn_below BW hks) hc hc2 0 (by simp) t rfl m hst.out h).mono ?_
    rintro e w3 ⟨u3, rfl, hn3, hb3⟩
    obtain ⟨a3, c3, rfl⟩ := TrIn_shape hn3.any
    replace bA0 := box3_next hb3 bA0
    replace bN := box1_next hb3 bN
    replace bz := box3_next hb3 bz
    replace BW := below_next BW hb3
    have s3 := hb3.size
    clear hb3
    go_wp2_with fail
    refine (kd_of neg _ v [t, u] _ a c w.heap.size (w.heap.size + 1) bA0 bN (TrsIn_below BW hks) hc hc2 1 (by simp) u rfl m hsu.out h').mono ?_
    rintro e w4 ⟨u4, rfl, hn4, hb4⟩
    obtain ⟨a4, c4, rfl⟩ := TrIn_shape hn4.any
    have hT := Two.mk hn3 hn4 (Nat.le_refl _) hb4 s3
    have s4 := hb4.size
    replace bz := box3_next hb4 bz
    replace BW := below_next BW hb4
    clear hb4 hn3 hn4 bA0 bN
    have HO := own_two (ty := 29) hT rfl
    go_wp2_with fail
    refine (mk_any kk hkk [nfT t neg, nfT u neg] _ _ 2 _ HO (by simp; omega) (by simp) (by simp [maxLen]) (by simp)).mono ?_
    rintro e w5 ⟨u5, rfl, hn5, hb5⟩
    obtain ⟨a5, c5, rfl⟩ := TrIn_shapeMk hn5.any
    simp only [List.length_cons, List.length_nil, Nat.zero_add, Nat.reduceAdd] at hn5 ⊢
    replace hb5 := below_next (below_alloc _ _) hb5
    have bz' := box3_next hb5 bz
    have bz2 := bz'
    obtain ⟨z0, z1, z2, z3, z4, z5, z6⟩ := bz2
    have hBW := hid (below_next BW hb5)
    have HN := hid hn5
    clear BW hb5 hn5 bz HO hT
    go_wp2_with fail
    obtain ⟨y0, y1, y2, y3, _⟩ := box3_set2 (box3_set1 (box3_set0 bz' (.int .i64 kk)) (.int .i64 0)) (.slice a5 2 c5); refine bodyPost_ret (v := .agg #[.int .i64 kk, .int .i64 0, .slice a5 2 c5]) (by simp [results, Try.results84, go_sem, y1, y2, y3]) rfl ?_
    rw [E'.out]
    exact RetP.mk ((newTr_set3 HN.out (by omega) _ _ _).mono (by omega)) (below_set3 hBW.out (by omega) _ _ _)

end Formula
end Go.Proofs.Ytbeljjalfhogdaa
