/- The program's copyOf of a node: the same tree, in new memory. Conditions: those of each contract. -/
import Derived.Test.YtobmgfgefccnoaaFormulaClone
import Derived.Test.YtobmgfgefccnoaaTrPlain
import Derived.Test.YtobmgfgefccnoaaGrow
import Derived.Deep.RegionHeld3
import Derived.Deep.DeepCutAuto
import Derived.Deep.CutBlock
namespace Go.Proofs.Ytobmgfgefccnoaa
open Go.RowKit
namespace Formula

theorem newTr_set {B : Nat} {t : Tr} {v : Value} {w : World} (h : NewTr B t v w) {a : Addr} (ha : a.block < B) (u : Value) : NewTr B t v (w.setCell a u) := by
  obtain ⟨bs, h1, h2⟩ := h
  exact ⟨bs, TrOwn_set h1 (fun e => by have := h2 _ e; omega) u, h2⟩
def CpT (t : Tr) : Prop := ∀ (w : World) (x : Value), TrIn Any w t x → Small t → Calls Try.prog 74 #[x] w (RetP (NewTr w.heap.size t) w)

/-- behind the first statement: the new node, its row a clone -/
def St0 (w : World) (k v : Int) (kids : List Tr) (a : Option Addr) (c : Nat) (s3 : Value) (wx : World) : Prop := ∃ O a' c', s3 = .pointer (some ⟨O, 0, none⟩) ∧ kids.length ≤ c' ∧ c' ≤ maxLen ∧ Below w.heap.size w wx ∧ Box3 wx w.heap.size (.int .i64 k) (.int .i64 v) (.slice a kids.length c) ∧ Box3 wx (w.heap.size + 1) (.int .i64 0) (.int .i64 0) (.slice none 0 0) ∧
  Box3 wx O (.int .i64 k) (.int .i64 v) (.slice a' kids.length c') ∧ w.heap.size + 1 < O ∧ (0 < kids.length → ∃ R f, a' = some ⟨R, 0, none⟩ ∧ w.heap.size + 1 < R ∧ R ≠ O ∧ Row wx R (kids.length * 3) f)

/-- .. and when k nodes of the row are copies -/
def St1 (w : World) (O : Nat) (k v : Int) (kids : List Tr) (a' : Option Addr) (c' : Nat) (j : Nat) (wr : World) : Prop := Below w.heap.size w wr ∧ Box3 wr (w.heap.size + 1) (.int .i64 0) (.int .i64 0) (.slice none 0 0) ∧ Box3 wr O (.int .i64 k) (.int .i64 v) (.slice a' kids.length c') ∧
  (0 < kids.length → ∃ R f bs, a' = some ⟨R, 0, none⟩ ∧ w.heap.size + 1 < R ∧ R ≠ O ∧ Row wr R (kids.length * 3) f ∧ TrsOwn wr f (kids.take j) 0 bs ∧ R ∉ bs ∧ O ∉ bs ∧ ∀ b, b ∈ bs → w.heap.size + 1 < b)
theorem St1.step {w wr w2 : World} {O : Nat} {k v : Int} {kids : List Tr} {R c' j : Nat} {t : Tr} {x y z : Value} (h : St1 w O k v kids (some ⟨R, 0, none⟩) c' j wr) (ht : kids[j]? = some t) (hnew : NewTr wr.heap.size t (.agg #[x, y, z]) w2) (hb : Below wr.heap.size wr w2) :
    St1 w O k v kids (some ⟨R, 0, none⟩) c' (j + 1) (((w2.setCell ⟨R, j * 3, none⟩ x).setCell ⟨R, j * 3 + 1, none⟩ y).setCell ⟨R, j * 3 + 2, none⟩ z) := by
  obtain ⟨B, bP, bO, hr⟩ := h
  have hj : j < kids.length := by
    rcases Nat.lt_or_ge j kids.length with h | h
    · exact h
    · rw [List.getElem?_eq_none h] at ht; cases ht
  obtain ⟨R', f, bs, e, hR, hRO, hrow, hown, hRb, hOb, hlt⟩ := hr (by omega)
  simp only [Option.some.injEq, Addr.mk.injEq, and_true] at e
  obtain rfl := e
  obtain ⟨cs, hn, hcs⟩ := hnew
  have hRl := hrow.1
  have hOl := bO.1
  have hRc : R ∉ cs := fun e => by have := hcs R e; omega
  have hOc : O ∉ cs := fun e => by have := hcs O e; omega
  have hr2 := (((hrow.below hb).set (i := j * 3) (by omega) x).set (i := j * 3 + 1) (by omega) y).set (i := j * 3 + 2) (by omega) z
  have s1 := B.size
  refine ⟨(((below_next B hb).setCell (by simp; omega) _).setCell (by simp; omega) _).setCell (by simp; omega) _,
    box3_but (But.set _ R _ _) (by omega) (box3_but (But.set _ R _ _) (by omega) (box3_but (But.set _ R _ _) (by omega) (box3_next hb bP))),
    box3_but (But.set _ R _ _) (Ne.symm hRO) (box3_but (But.set _ R _ _) (Ne.symm hRO) (box3_but (But.set _ R _ _) (Ne.symm hRO) (box3_next hb bO))), fun _ => ⟨R, _, bs ++ cs, rfl, hR, hRO, hr2, ?_, by simp [hRb, hRc], by simp [hOb, hOc], fun b hb' => ?_⟩⟩
  · have hl : kids.take (j + 1) = kids.take j ++ [t] := by rw [List.take_add_one, ht]; rfl
    have hlen : (kids.take j).length = j := by rw [List.length_take]; omega
    rw [hl]
    refine TrsOwn_snoc ?_ ?_ ?_
    · refine TrsOwn_set (TrsOwn_set (TrsOwn_set (TrsOwn_congr (TrsOwn_below hb hown) ?_) hRb _) hRb _) hRb _
      intro i _ hi
      rw [hlen] at hi
      rw [if_neg (by omega), if_neg (by omega), if_neg (by omega)]
    · rw [hlen, Nat.zero_add, if_neg (by omega), if_neg (by omega), if_pos rfl, if_neg (by omega), if_pos rfl, if_pos rfl]
      exact TrOwn_set (TrOwn_set (TrOwn_set hn hRc _) hRc _) hRc _
    · intro b hb' hc
      have h3 := TrOwn_lt.2 _ _ _ _ hown b hb'
      have h4 := hcs b hc
      omega
  · rcases List.mem_append.1 hb' with h3 | h3
    · exact hlt b h3
    · have := hcs b h3; omega
theorem St1.done {w wr : World} {O : Nat} {k v : Int} {kids : List Tr} {a' : Option Addr} {c' j : Nat} (h : St1 w O k v kids a' c' j wr) (hj : kids.length ≤ j) (hk : i64 k) (hv : i64 v) (h1 : kids.length ≤ c') (h2 : c' ≤ maxLen) :
    NewTr (w.heap.size + 2) (.mk k v kids) (.agg #[.int .i64 k, .int .i64 v, .slice a' kids.length c']) wr := by
  obtain ⟨B, bP, bO, hr⟩ := h
  by_cases h0 : 0 < kids.length
  · obtain ⟨R, f, bs, rfl, hR, hRO, hrow, hown, hRb, hOb, hlt⟩ := hr h0
    rw [List.take_of_length_le hj] at hown
    obtain ⟨bs', g1, g2⟩ := TrOwn_new hk hv h1 h2 hrow hown hRb
    exact ⟨bs', g1, fun b hb => by rcases g2 b hb with rfl | h; omega; have := hlt b h; omega⟩
  · have e : kids = [] := List.eq_nil_of_length_eq_zero (by omega)
    subst e
    exact ⟨[], TrOwn_leaf hk hv h2, by simp⟩

set_option maxRecDepth 100000 in
set_option maxHeartbeats 4000000 in
theorem cp_of (k v : Int) (kids : List Tr) (h : ∀ t, t ∈ kids → CpT t) : CpT (.mk k v kids) := by
  intro w x hx hs
  rw [TrIn_mk] at hx
  obtain ⟨a, n, c, rfl, hk, hv, rfl, hc, hc2, hks⟩ := hx
  have hc3 := hc2
  unfold maxLen at hc3
  replace hs : kids.length ≤ 1048576 ∧ SmallL kids := hs
  go_enter Try.func74, Try.ntmps74
  go_upto_region 1 with fail
  go_cut [3] (fun s3 wx => St0 w k v kids a c s3 wx)
  case first =>
    refine wp_gen (fun W => Below w.heap.size w W ∧ Box3 W w.heap.size (.int .i64 k) (.int .i64 v) (.slice a kids.length c) ∧ Box3 W (w.heap.size + 1) (.int .i64 0) (.int .i64 0) (.slice none 0 0)) ⟨(by repeat (first | exact Below.refl _ _ | assumption | refine below_a ?_ _ | refine below_o ?_ _ | refine below_d ?_ | refine below_n ?_ _ | refine below_s ?_ (by first | (simp; done) | (simp; omega) | omega) _)), box3_next (below_alloc _ _) (box3_new ..), box3_at (by simp)⟩ ?_
    rintro W ⟨B, b1, bP⟩
    have hPl := bP.1
    have b2 := b1
    obtain ⟨p0, p1, p2, p3, p4, p5, p6⟩ := b1
    have ne1 : W.heap.size ≠ w.heap.size := by omega
    have ne2 : w.heap.size ≠ W.heap.size := by omega
    have hkW := hid (TrsIn_below B hks)
    go_region_held3 (fun w' => w'.cell? ⟨w.heap.size, 0, none⟩ = some (.int .i64 k) ∧ w'.cell? ⟨w.heap.size, 1, none⟩ = some (.int .i64 v) ∧ w'.cell? ⟨w.heap.size, 2, none⟩ = some (.slice a kids.length c))
      (first | exact ⟨p1, p2, p3⟩ | exact ⟨q1, q2, q3⟩ | go_keep)
      ((go_at_call 96; refine (clone_any kids _ a c (TrsIn_below (by repeat (first | exact Below.refl _ _ | assumption | refine below_a ?_ _ | refine below_o ?_ _ | refine below_d ?_ | refine below_n ?_ _ | refine below_s ?_ (by first | (simp; done) | (simp; omega) | omega) _)) hkW.out) hc hc2 hs.1).mono ?_; rintro e w1 ⟨u, rfl, ⟨a', c', rfl, k1, k2, k3⟩, hb⟩; have q := box3_next hb (box3_next (by repeat (first | exact Below.refl _ _ | assumption | refine below_a ?_ _ | refine below_o ?_ _ | refine below_d ?_ | refine below_n ?_ _ | refine below_s ?_ (by first | (simp; done) | (simp; omega) | omega) _)) b2); have q1 := q.2.1; have q2 := q.2.2.1; have q3 := q.2.2.2.1; have K3 := hid k3; clear k3 q; try (obtain ⟨z0, z1, z2, z3, z4, z5, z6⟩ := box3_next hb (box3_at (B := W.heap.size) rfl))))
    · have hs1 : W.heap.size ≤ w1.heap.size := hb.size
      have hfin := hid (show St0 w k v kids a c (.pointer (some ⟨w1.heap.size, 0, none⟩)) (w1.alloc (.cells #[.int .i64 k, .int .i64 v, .slice a' kids.length c'] 29)) from
        ⟨w1.heap.size, a', c', rfl, k1, k2, below_a (below_next (below_d B) hb) _, box3_next (below_alloc _ _) (box3_next hb b2), box3_next (below_alloc _ _) (box3_next hb bP), box3_at rfl, by omega, fun h0 => by
          obtain ⟨R, f, e1, e2, e3, _, _⟩ := K3.out h0
          have e5 : W.heap.size ≤ R := e2
          exact ⟨R, f, e1, by omega, by have := e3.1; omega, e3.below (below_alloc _ _)⟩⟩)
      go_wp2_with fail
      go_meet
      exact hfin.out
    · have hs1 : W.heap.size + 1 ≤ w1.heap.size := by have := hb.size; simp at this; omega
      have hbO : Box3 w1 W.heap.size (.int .i64 0) (.int .i64 0) (.slice none 0 0) := ⟨z0, z1, z2, z3, z4, z5, z6⟩
      have hB1 : Below w.heap.size w w1 := below_next (below_a (below_d B) _) hb
      have hbA : Box3 w1 w.heap.size (.int .i64 k) (.int .i64 v) (.slice a kids.length c) := box3_next hb (box3_next (below_alloc _ _) (show Box3 W.drew w.heap.size (.int .i64 k) (.int .i64 v) (.slice a kids.length c) from b2))
      have hbP : Box3 w1 (w.heap.size + 1) (.int .i64 0) (.int .i64 0) (.slice none 0 0) := box3_next hb (box3_next (below_alloc _ _) (show Box3 W.drew (w.heap.size + 1) (.int .i64 0) (.int .i64 0) (.slice none 0 0) from bP))
      have hfin := hid (show St0 w k v kids a c (.pointer (some ⟨W.heap.size, 0, none⟩)) (((w1.setCell ⟨W.heap.size, 0, none⟩ (.int .i64 k)).setCell ⟨W.heap.size, 1, none⟩ (.int .i64 v)).setCell ⟨W.heap.size, 2, none⟩ (.slice a' kids.length c')) from
        ⟨W.heap.size, a', c', rfl, k1, k2, ((hB1.setCell (by simp; omega) _).setCell (by simp; omega) _).setCell (by simp; omega) _,
          box3_but (But.set _ W.heap.size 2 _) ne2 (box3_but (But.set _ W.heap.size 1 _) ne2 (box3_but (But.set _ W.heap.size 0 _) ne2 hbA)), box3_but (But.set _ W.heap.size 2 _) (by omega) (box3_but (But.set _ W.heap.size 1 _) (by omega) (box3_but (But.set _ W.heap.size 0 _) (by omega) hbP)), box3_set2 (box3_set1 (box3_set0 hbO _) _) _, hPl, fun h0 => by
          obtain ⟨R, f, e1, e2, e3, _, _⟩ := K3.out h0
          have e5 : W.heap.size + 1 ≤ R := by have := e2; simp at this; omega
          exact ⟨R, f, e1, by omega, by omega, ((e3.setOther (by simp; omega) _).setOther (by simp; omega) _).setOther (by simp; omega) _⟩⟩)
      clear z0 z1 z2 z3 z4 z5 z6 hbO hbA hbP
      go_wp2_with fail
      go_meet
      exact hfin.out
  case rest =>
    obtain ⟨O, a', c', rfl, k1, k2, B, b0, bP, bO, hO, hrow⟩ := hcut
    have hst := hid (show St1 w O k v kids a' c' 0 wc from ⟨B, bP, bO, fun h0 => by
      obtain ⟨R, f, e1, e2, e3, e4⟩ := hrow h0
      exact ⟨R, f, [], e1, e2, e3, e4, by rw [List.take_zero, TrsOwn_nil], by simp, by simp, by simp⟩⟩)
    have b00 := b0
    obtain ⟨p0, p1, p2, p3, p4, p5, p6⟩ := b00
    clear hrow
    go_wp2_with fail
    go_loopw [17] (fun i wr => ∃ j : Nat, j ≤ kids.length ∧ i = .int .i64 j ∧ St1 w O k v kids a' c' j wr) (fun i _ => kids.length - (intOf i).toNat)
    case atStart => exact ⟨0, Nat.zero_le _, rfl, hst.out⟩
    case round =>
      clear p0 p1 p2 p3 p4 p5 p6 b0 bO bP hst B
      obtain ⟨j, hj, rfl, hst⟩ := hrel
      by_cases hlt : j < kids.length
      · have hst2 := hst
        obtain ⟨B, bP, bO, hr⟩ := hst2
        obtain ⟨R, f, bs, rfl, hR, hRO, hrow, _, _, _, _⟩ := hr (by omega)
        obtain ⟨b, o, d0, d1, d2, t, rfl, gb, g0, g1, g2, hT⟩ := TrsIn_round hks B hlt
        obtain ⟨a4, n4, hsh⟩ := TrIn_shape hT.out.1
        simp only [Value.agg.injEq, Array.mk.injEq, List.cons.injEq, and_true] at hsh
        obtain ⟨rfl, rfl, rfl⟩ := hsh
        have hlt2 : (j : Int) < (kids.length : Int) := by omega
        have HS := hid hst
        have HR := hid hrow
        clear hst hr hrow
        go_wp2_with fail
        refine wp_gen (fun W => Below wr.heap.size wr W ∧ Box3 W wr.heap.size (.int .i64 t.kind) (.int .i64 t.val) (.slice a4 t.kids.length n4)) ⟨below_alloc _ _, box3_new ..⟩ ?_
        rintro W ⟨BW, bV⟩
        have bO2 := box3_next BW bO
        obtain ⟨v0, v1, v2, v3, v4, v5, v6⟩ := bV
        obtain ⟨o0, o1, o2, o3, o4, o5, o6⟩ := bO2
        have HT := hid (TrIn_below (below_d BW) hT.out.1)
        have hRl := HR.out.1
        have ne1 : O ≠ R := Ne.symm hRO
        have ne2 : R ≠ wr.heap.size := by omega
        have ne3 : wr.heap.size ≠ R := by omega
        have hsz := BW.size
        go_region_held3 (fun w' => w'.cell? ⟨O, 2, none⟩ = some (.slice (some ⟨R, 0, none⟩) kids.length c') ∧ w'.cell? ⟨wr.heap.size, 0, none⟩ = some (.int .i64 t.kind) ∧ w'.cell? ⟨wr.heap.size, 1, none⟩ = some (.int .i64 t.val) ∧ w'.cell? ⟨wr.heap.size, 2, none⟩ = some (.slice a4 t.kids.length n4))
          (first | exact ⟨o3, v1, v2, v3⟩ | exact ⟨q3, r1, r2, r3⟩ | go_keep)
          ((go_at_call 74; refine (h t hT.out.2.1 _ _ HT.out (smallL_mem hs.2 hT.out.2.1)).mono ?_; rintro e w2 ⟨u, rfl, hn, hb⟩; obtain ⟨a3, n3, rfl⟩ := TrIn_shape hn.any; have q3 := (box3_next hb (show Box3 W.drew O _ _ _ from ⟨o0, o1, o2, o3, o4, o5, o6⟩)).2.2.2.1; obtain ⟨r0, r1, r2, r3, r4, r5, r6⟩ := box3_next hb (show Box3 W.drew wr.heap.size _ _ _ from ⟨v0, v1, v2, v3, v4, v5, v6⟩); have hr2 := HR.out.below (below_next (below_d BW) hb); have s0 := hr2.2.1 (j * 3) (by omega); have s1 := hr2.2.1 (j * 3 + 1) (by omega); have s2 := hr2.2.1 (j * 3 + 2) (by omega); have s3 := hr2.2.2; have s4 := hr2.1; have HN := hid hn; have HB := hid (below_next (below_d BW) hb); clear hn hb hr2))
        have hfin := hid (HS.out.step hT.out.2.2.2 (HN.out.mono hsz) HB.out)
        clear HS HR s0 s1 s2 s3 s4 q3 r0 r1 r2 r3 r4 r5 r6
        go_wp2_with fail
        go_roundw
        case rel => exact ⟨j + 1, by omega, by go_num, hfin.out⟩
        case measure => simp [intOf]; omega
      · have hfin := hid (hst.done (by omega) hk hv k1 k2)
        obtain ⟨B, bP, bO, _⟩ := hst
        have bP2 := bP
        have neO : O ≠ w.heap.size + 1 := by omega
        have neO2 : w.heap.size + 1 ≠ O := by omega
        obtain ⟨o0, o1, o2, o3, o4, o5, o6⟩ := bO
        obtain ⟨q0, q1, q2, q3, q4, q5, q6⟩ := bP
        have hlt2 : ¬ ((j : Int) < (kids.length : Int)) := by omega
        have hB := hid B
        clear B
        go_wp2_with fail
        have z := box3_set2 (box3_set1 (box3_set0 bP2 (.int .i64 k)) (.int .i64 v)) (.slice a' kids.length c')
        obtain ⟨z0, z1, z2, z3, _⟩ := z
        refine bodyPost_ret (v := .agg #[.int .i64 k, .int .i64 v, .slice a' kids.length c']) (by simp [results, Try.results74, go_sem, z1, z2, z3]) rfl ?_
        exact RetP.mk ((newTr_set (newTr_set (newTr_set hfin.out (by simp) _) (by simp) _) (by simp) _).mono (by omega)) (((hB.out.setCell (by simp) _).setCell (by simp) _).setCell (by simp) _)

theorem cp_any : ∀ t, CpT t := Tr.ind cp_of

end Formula
end Go.Proofs.Ytobmgfgefccnoaa
