/- Joined texts (PathS, WuP, GfpP, AlwI, AlwI2): contracts and plain laws. Conditions: those of each theorem. -/
import Derived.Test.YtfemikebklmlpaaJV14
import Derived.Test.YtfemikebklmlpaaJV20
import Derived.Test.YtfemikebklmlpaaJV13
import Derived.Test.YtfemikebklmlpaaJV11
import Derived.Test.YtfemikebklmlpaaJV0
import Derived.Test.YtfemikebklmlpaaJV3
import Derived.Test.YtfemikebklmlpaaJV2
set_option linter.unusedVariables false
set_option linter.unusedSimpArgs false
namespace Go.Proofs.Ytfemikebklmlpaa
open Go.RowKit
set_option linter.unusedVariables false
set_option linter.unusedSimpArgs false
namespace Bfs
open Gr

/-- the rows of a set, the others empty -/
def subL (nx : List (List Int)) (thr : List Bool) : List (List Int) := List.zipWith (fun r t => if t = true then r else []) nx thr
theorem subL_len {nx : List (List Int)} {thr : List Bool} (h : thr.length = nx.length) : (subL nx thr).length = nx.length := by simp [subL, h]
theorem subL_at {nx : List (List Int)} {thr : List Bool} {k : Nat} (h1 : k < nx.length) (h2 : k < thr.length) : (subL nx thr)[k]? = some (if thr[k] = true then nx[k] else []) := by
  unfold subL
  rw [List.getElem?_zipWith, List.getElem?_eq_getElem h1, List.getElem?_eq_getElem h2]
theorem subL_good {nx : List (List Int)} {thr : List Bool} (h : thr.length = nx.length) (hg : Good nx) : Good (subL nx thr) := by
  intro r hr x hx
  obtain ⟨k, hk, rfl⟩ := List.getElem_of_mem hr
  have hk1 : k < nx.length := by rw [subL_len h] at hk; exact hk
  have e := subL_at (thr := thr) hk1 (by omega)
  rw [List.getElem?_eq_getElem hk] at e
  have e2 := Option.some.inj e
  rw [e2] at hx
  rw [subL_len h]
  split at hx
  · exact hg _ (List.getElem_mem hk1) x hx
  · cases hx
/-- the rows of a block: those below k are laid, the others are empty -/
def SubAt (w : World) (R : Nat) (L : List (List Int)) (k : Nat) (wr : World) : Prop := Below w.heap.size w wr ∧ w.heap.size ≤ R ∧ (∃ g, Row wr R L.length g) ∧ ∀ j t, L[j]? = some t → RoAt (fun b => w.heap.size ≤ b ∧ b ≠ R) wr (if j < k then t else []) R j
theorem SubAt.next {w : World} {R : Nat} {L : List (List Int)} {k : Nat} {wr w' : World} (h : SubAt w R L k wr) (hb : Below wr.heap.size wr w') : SubAt w R L k w' := by
  obtain ⟨h1, h2, ⟨g, h3⟩, h4⟩ := h
  exact ⟨below_next h1 hb, h2, ⟨g, h3.below hb⟩, fun j t hj => (h4 j t hj).frame hb.size (hb.block R h3.1) fun b hp hl => ⟨hp, hb.block b hl⟩⟩
theorem SubAt.skip {w : World} {R : Nat} {L : List (List Int)} {k : Nat} {wr : World} (h : SubAt w R L k wr) (hk : L[k]? = some []) : SubAt w R L (k + 1) wr := by
  obtain ⟨h1, h2, h3, h4⟩ := h
  refine ⟨h1, h2, h3, fun j t hj => ?_⟩
  have := h4 j t hj
  by_cases e : j < k
  · rw [if_pos e] at this; rw [if_pos (by omega)]; exact this
  · rw [if_neg e] at this
    by_cases e2 : j = k
    · subst e2
      rw [hk] at hj
      obtain rfl := Option.some.inj hj
      rw [if_pos (by omega)]; exact this
    · rw [if_neg (by omega)]; exact this
theorem SubAt.set {w : World} {R : Nat} {L : List (List Int)} {k : Nat} {wr : World} {r : List Int} {a : Option Addr} {c : Nat} (h : SubAt w R L k wr) (hk : L[k]? = some r) (hr : RIn (fun b => w.heap.size ≤ b ∧ b ≠ R) wr r (.slice a r.length c)) :
    SubAt w R L (k + 1) (wr.setCell ⟨R, k, none⟩ (.slice a r.length c)) := by
  obtain ⟨h1, h2, ⟨g, h3⟩, h4⟩ := h
  have hkl : k < L.length := (List.getElem?_eq_some_iff.1 hk).1
  have hfr : ∀ b, (w.heap.size ≤ b ∧ b ≠ R) → b < wr.heap.size → (w.heap.size ≤ b ∧ b ≠ R) ∧ (wr.setCell ⟨R, k, none⟩ (.slice a r.length c)).heap[b]? = wr.heap[b]? := fun b hp _ => ⟨hp, Below.heap_setCell _ _ _ _ hp.2⟩
  refine ⟨h1.setCell h2 _, h2, ⟨_, h3.set hkl _⟩, fun j t hj => ?_⟩
  by_cases e : j = k
  · subst e
    rw [hk] at hj
    obtain rfl := Option.some.inj hj
    rw [if_pos (by omega)]
    exact ⟨a, c, World.cell?_setCell_same _ _ _ (h3.2.1 j hkl), hr.frame (by simp) hfr⟩
  · have := h4 j t hj
    have e2 : (if j < k + 1 then t else []) = if j < k then t else [] := by
      by_cases h : j < k
      · rw [if_pos h, if_pos (by omega)]
      · rw [if_neg h, if_neg (by omega)]
    rw [e2]
    exact this.cells (by simp) (World.cell?_setCell_other _ _ _ _ (by intro h; have := congrArg Addr.off h; simp at this; omega)) hfr
theorem SubAt.done {w : World} {R : Nat} {L : List (List Int)} {wr : World} (h : SubAt w R L L.length wr) : Gr.RowsIn Any wr L (some ⟨R, 0, none⟩) := by
  obtain ⟨h1, h2, ⟨g, h3⟩, h4⟩ := h
  refine .inr ⟨R, 0, rfl, trivial, h3.1, fun i t hi => ?_⟩
  have := h4 i t hi
  rw [if_pos (List.getElem?_eq_some_iff.1 hi).1] at this
  rw [Nat.zero_add, Nat.mul_one]
  exact this.frame (Nat.le_refl _) rfl fun b _ _ => ⟨trivial, rfl⟩
theorem own_rin {B : Nat} {v : Value} {t : List Int} {w : World} (h : OwnI B v t w) (hi : ∀ n, n ∈ t → i64 n) {p : Nat → Prop} (hp : ∀ g, v.ownBlock = some g → p g) : RIn p w t v := by
  rcases h.row with ⟨rfl, rfl⟩ | ⟨g, c, rfl, h1, h2, h3, h4⟩
  · exact ⟨none, 0, rfl, Nat.le_refl _, by unfold maxLen; omega, .inl rfl, hi⟩
  · refine ⟨some ⟨g, 0, none⟩, c, rfl, h2, h3, .inr ⟨g, 0, rfl, hp g rfl, h4.1, fun i u hu => ?_⟩, hi⟩
    have hlt : i < t.length := by have := (List.getElem?_eq_some_iff.1 hu).1; simpa using this
    rw [Nat.zero_add, h4.2.1 i hlt]
    show some ((t.map (Value.int .i64)).getD i undef) = _
    rw [List.getD_eq_getElem?_getD, hu]; rfl
theorem sub_arm {w wo w3 : World} {L : List (List Int)} {k : Nat} {r : List Int} {t : Nat} {gA cA : Nat} {x y cR : Value} (HS : Hid (SubAt w (w.heap.size + 1) L k wo)) (PB : Hid (BoxP wo w.heap.size x y)) (HA2 : Hid (L[k]? = some r)) (hcR : wo.cell? ⟨w.heap.size + 1, k, none⟩ = some cR) (fR : wo.frozen? ⟨w.heap.size + 1, k, none⟩ = false) (hRl : w.heap.size + 1 < wo.heap.size) (h0 : Below wo.heap.size wo (wo.alloc (.cells #[] t))) (M1 : Hid (OwnI wo.heap.size (.slice (some ⟨wo.heap.size, 0, none⟩) 0 0) [] (wo.alloc (.cells #[] t)))) (hi : ∀ n, n ∈ r → i64 n)
    (hor : gA = wo.heap.size ∨ gA = (wo.alloc (.cells #[] t)).heap.size) (hown : OwnI wo.heap.size (.slice (some ⟨gA, 0, none⟩) r.length cA) r w3) (hg : (wo.alloc (.cells #[] t)).grownBy w3 (some wo.heap.size)) :
    w3.cell? ⟨w.heap.size + 1, k, none⟩ = some cR ∧ w3.frozen? ⟨w.heap.size + 1, k, none⟩ = false ∧ w.heap.size + 1 < w3.heap.size ∧ Hid (SubAt w (w.heap.size + 1) L (k + 1) (w3.setCell ⟨w.heap.size + 1, k, none⟩ (.slice (some ⟨gA, 0, none⟩) r.length cA))) ∧ Hid (BoxP (w3.setCell ⟨w.heap.size + 1, k, none⟩ (.slice (some ⟨gA, 0, none⟩) r.length cA)) w.heap.size x y) := by
  have D := below_own h0 M1.out (Nat.le_refl _) hg
  have HS3 := HS.out.next D
  have HRI := own_rin (p := fun b => w.heap.size ≤ b ∧ b ≠ w.heap.size + 1) hown hi (fun g hg => by simp [Value.ownBlock] at hg; subst hg; rcases hor with h | h <;> (try rw [World.size_alloc] at h) <;> omega)
  refine ⟨?_, ?_, Nat.lt_of_lt_of_le hRl D.size, hid (HS3.set HA2.out HRI), hid (boxp_set (boxp_next D PB.out) (p := ⟨w.heap.size + 1, k, none⟩) (by simp) _)⟩
  · rw [D.cell (p := ⟨w.heap.size + 1, k, none⟩) hRl]; exact hcR
  · rw [D.frozen (p := ⟨w.heap.size + 1, k, none⟩) hRl]; exact fR
/-- a copy's rows -/
def SubV (L : List (List Int)) (v : Value) (w : World) : Prop := ∃ R, v = .slice (some ⟨R, 0, none⟩) L.length L.length ∧ Gr.RowsIn Any w L (some ⟨R, 0, none⟩)

set_option maxRecDepth 100000 in
set_option maxHeartbeats 4000000 in
theorem sub_any (g : G2) (thr : List Bool) (w : World) (x : Value) (ta : Option Addr) (tc : Nat) (hx : GrIn Any w g x) (ht : BoolsIn Any w ta thr) (htc : thr.length ≤ tc) (htc2 : tc ≤ maxLen) (hl : thr.length = g.next.length) (hN : g.next.length ≤ 60) (hne : ∀ r, r ∈ g.next → 1 ≤ r.length ∧ r.length ≤ 60) :
    Calls Try.prog 41 #[x, .slice ta thr.length tc] w (RetP (SubV (subL g.next thr)) w) := by
  obtain ⟨a, c, b, d, rfl, hc, hc2, _, hd, hd2, hp⟩ := hx
  have HP := hid hp
  have HT := hid ht
  have HNE := hid hne
  obtain ⟨nx, hnx⟩ : ∃ nx, nx = g.next := ⟨_, rfl⟩
  rw [← hnx] at HP HNE hN hd hl
  rw [← hnx]
  generalize g.states.length = sn at *
  clear hp ht hne hnx hc hc2
  have hmk := make_ros nx.length (by omega)
  obtain ⟨L, hL⟩ : ∃ L, Hid (L = subL nx thr) := ⟨_, hid rfl⟩
  have hLl : L.length = nx.length := by rw [hL.out, subL_len hl]
  have HAT := hid (show ∀ k (h1 : k < nx.length) (h2 : k < thr.length), L[k]? = some (if thr[k] = true then nx[k] else []) from fun k h1 h2 => by rw [hL.out]; exact subL_at h1 h2)
  rw [← hL.out]
  have HLL := hid hLl
  have hl1 : thr.length ≤ nx.length := by omega
  have hl2 : nx.length ≤ thr.length := by omega
  unfold maxLen at hd2 htc2
  clear hLl hL hl
  go_enter Try.func41, Try.ntmps41
  go_wp2_with fail
  have P0 := hid (boxp_next (below_alloc _ (.cells (zerosRo nx.length) 30)) (boxp_at (w := w) (a := .slice a sn c) (b := .slice b nx.length d) (t := 26) rfl))
  have S0 := hid (show SubAt w (w.heap.size + 1) L 0 ((w.alloc (.cells #[.slice a sn c, .slice b nx.length d] 26)).alloc (.cells (zerosRo nx.length) 30)) from by
    have hr := row_new (w := w.alloc (.cells #[.slice a sn c, .slice b nx.length d] 26)) (cs := zerosRo nx.length) (n := L.length) (by rw [zerosRo, size_madeCells, HLL.out]) 30
    rw [World.size_alloc] at hr
    refine ⟨(by repeat (first | exact Below.refl _ _ | assumption | refine below_a ?_ _ | refine below_o ?_ _ | refine below_d ?_ | refine below_n ?_ _ | refine below_s ?_ (by first | (simp; done) | (simp; omega) | omega) _)), by omega, ⟨_, hr⟩, fun j t hj => ?_⟩
    have hjl : j < nx.length := by rw [← HLL.out]; exact (List.getElem?_eq_some_iff.1 hj).1
    refine ⟨none, 0, ?_, none, 0, rfl, Nat.le_refl _, Nat.zero_le _, .inl rfl, by simp⟩
    rw [hr.2.1 j (by rw [HLL.out]; exact hjl)]
    simp [zerosRo, madeCells, hjl, Nat.mod_one, Array.getD])
  go_loopw [6] (fun i wr => ∃ k : Nat, k ≤ nx.length ∧ i = .int .i64 k ∧ Hid (SubAt w (w.heap.size + 1) L k wr) ∧ Hid (BoxP wr w.heap.size (.slice a sn c) (.slice b nx.length d))) (fun i _ => nx.length - (intOf i).toNat)
  case atStart => exact ⟨0, Nat.zero_le _, rfl, S0, P0⟩
  case round =>
    obtain ⟨k, hk, rfl, HS, PB⟩ := hrel
    obtain ⟨wo, rfl⟩ : ∃ wo : World, wo = wr := ⟨_, rfl⟩
    obtain ⟨p0, p1, p2, p3, p4⟩ := PB.out
    clear P0 S0
    by_cases hlt : k < nx.length
    · have hlt2 : (k : Int) < (nx.length : Int) := by omega
      have hltt : k < thr.length := by omega
      have hltt2 : (k : Int) < (thr.length : Int) := by omega
      obtain ⟨b1, o1, a1, c1, rfl, hb1, _, g0, k1, k2, hrow⟩ := rows_at (HP.out.below HS.out.1) hlt
      obtain ⟨b2, o2, rfl, hb2, _, g2⟩ := bools_at HT.out HS.out.1 hltt
      have HA := hid (HAT.out k hlt hltt)
      obtain ⟨hn1, hn2⟩ := HNE.out nx[k] (List.getElem_mem hlt)
      have HROW := hid hrow
      clear hrow
      unfold maxLen at k2
      generalize nx[k] = r at *
      cases htk : thr[k] with
      | false =>
        rw [htk] at g2 HA
        have HS2 := hid (HS.out.skip (by simpa using HA.out))
        clear htk
        go_wp2_with fail
        go_roundw
        case rel => exact ⟨k + 1, by omega, by go_num, HS2, PB⟩
        case measure => simp [intOf]; omega
      | true =>
        rw [htk] at g2 HA
        have HA2 := hid (show L[k]? = some r by simpa using HA.out)
        clear htk HA
        obtain ⟨b3, o3, rfl, hb3, _, _, _⟩ := ints_at HROW.out (Below.refl _ _) (show 0 < r.length by omega)
        have h0 := below_alloc wo (.cells #[] 3)
        have hRl : w.heap.size + 1 < wo.heap.size := by obtain ⟨_, _, ⟨g, h⟩, _⟩ := HS.out; exact h.1
        obtain ⟨cR, hcR, fR⟩ : ∃ cR, wo.cell? ⟨w.heap.size + 1, k, none⟩ = some cR ∧ wo.frozen? ⟨w.heap.size + 1, k, none⟩ = false := by
          obtain ⟨_, _, ⟨g, h⟩, _⟩ := HS.out
          exact ⟨_, h.2.1 k (by rw [HLL.out]; exact hlt), h.2.2 k⟩
        have M1 := hid (OwnI.made wo)
        go_wp2_with (at_builtin; refine wp_app_clone rfl _ _ rfl wo.heap.size r (some ⟨b3, o3, none⟩) c1 rfl rfl M1.out (by simp) (fun e => by cases e) (HROW.out.below h0) (by omega) ?_; intro gA cA w3 hor hown hg hlt3; obtain ⟨q1, q2, q3, HSF, PB3⟩ := sub_arm HS PB HA2 hcR fR hRl h0 M1 HROW.out.2 hor hown hg; clear hor hown hg hlt3 hcR fR)
        go_roundw
        case rel => exact ⟨k + 1, by omega, by go_num, HSF, PB3⟩
        case measure => simp [intOf]; omega
    · obtain rfl : k = nx.length := by omega
      have HF := hid (show SubV L (.slice (some ⟨w.heap.size + 1, 0, none⟩) nx.length nx.length) wo from ⟨_, by rw [HLL.out], (by have h := HS.out; rw [← HLL.out] at h; exact h.done)⟩)
      have HB := hid HS.out.1
      clear HS
      go_wp2_with fail
      go_ret
      exact RetP.mk HF.out HB.out

def lenV (v : Value) : Nat := match v with | .slice _ n _ => n | _ => 0
/-- what l4Path is asked -/
structure PathIn (N s : Nat) (par : Nat → Int) (l : List Nat) : Prop where
  lt : ∀ n, n ∈ l → n < N
  root : ∀ n, n ∈ l → (par n = -1 ↔ n = s)
  small : l.length ≤ 100
theorem chain_cases {par : Nat → Int} {n : Nat} {l : List Nat} (h : Chain par n l) : (par n = -1 ∧ l = [n]) ∨ ∃ (u : Nat) (l1 : List Nat), par n = (u : Int) ∧ Chain par u l1 ∧ l = l1 ++ [n] := by
  cases h with
  | root h => exact .inl ⟨h, rfl⟩
  | step h k => exact .inr ⟨_, _, h, k, rfl⟩
set_option maxRecDepth 100000 in
set_option maxHeartbeats 4000000 in
theorem path_any (N s t : Nat) (par : Nat → Int) (l : List Nat) (hch : Chain par t l) (hin : PathIn N s par l) (hN : N ≤ 60) (w : World) (a : Option Addr) (c : Nat) (hp : IntsIn Any w a ((List.range N).map fun m => pv (par m))) (hc : N ≤ c) (hc2 : c ≤ maxLen) : Calls Try.prog 42 #[.slice a N c, .int .i64 s, .int .i64 t] w (RetP (Arr (ints l)) w) := by
  have HP := hid hp
  have HIN := hid hin
  have HC := hid hch
  have hs100 := hin.small
  have hN0 : 0 < N := by
    have := hin.lt t (by rcases chain_cases hch with ⟨_, e⟩ | ⟨_, _, _, _, e⟩ <;> simp [e])
    omega
  have HCELL := hid (show ∀ W, Below w.heap.size w W → ∃ b o, a = some ⟨b, o, none⟩ ∧ b < W.heap.size ∧ ∀ m, m < N → W.cell? ⟨b, o + m, none⟩ = some (.int .i64 (pv (par m))) from fun W M => by
    rcases HP.out.1 with h | ⟨b, o, h1, _, h3, h4⟩
    · have := congrArg List.length h; simp at this; omega
    · refine ⟨b, o, h1, Nat.lt_of_lt_of_le h3 M.size, fun m hm => ?_⟩
      rw [M.cell (p := ⟨b, o + m, none⟩) h3]
      exact h4 m _ (by rw [List.getElem?_map, List.getElem?_map, List.getElem?_range hm]; rfl))
  unfold maxLen at hc2
  clear hp hin hch
  go_enter Try.func42, Try.ntmps42
  go_wp2_with fail
  have D0 := hid (below_alloc w (.cells #[.int .i64 t] 3))
  have O0 := hid (show OwnI w.heap.size (.slice (some ⟨w.heap.size, 0, none⟩) 1 1) (ints [t]) (w.alloc (.cells #[.int .i64 t] 3)) from OwnI.one w t)
  go_loopw [7] (fun vo wr => ∃ (x : Nat) (rest l0 : List Nat) (v : Value), v = vo ∧ Hid (Chain par x l0) ∧ Hid (l0 ++ rest = l) ∧ Hid (OwnI w.heap.size v (ints (x :: rest)) wr) ∧ Hid (Below w.heap.size w wr)) (fun vo _ => 101 - lenV vo)
  case atStart => exact ⟨t, [], l, _, rfl, HC, hid (by simp), O0, D0⟩
  case round =>
    obtain ⟨x, rest, l0, vo, rfl, HCH, HL, HO, HB⟩ := hrel
    obtain ⟨wo, rfl⟩ : ∃ wo : World, wo = wr := ⟨_, rfl⟩
    clear O0 D0
    obtain ⟨go, no, co, rfl, z1, z2, z3, z4, z5, z6⟩ : ∃ gq nq cq, vo = .slice (some ⟨gq, 0, none⟩) nq cq ∧ w.heap.size ≤ gq ∧ gq < wo.heap.size ∧ nq = (x :: rest).length ∧ nq ≤ cq ∧ cq ≤ maxLen ∧ wo.cell? ⟨gq, 0, none⟩ = some (.int .i64 x) := by
      obtain ⟨aq, cq, e, _⟩ := HO.out.shape
      subst e
      obtain ⟨g, e, h1, h2, h3, h4, h5, h6⟩ := own_at HO.out (show (x :: rest)[0]? = some x from rfl)
      subst e
      exact ⟨g, _, cq, rfl, h1, h2, h3, h4, h5, h6⟩
    have hno : (0 : Int) < (no : Int) := by rw [z3]; simp only [List.length_cons]; omega
    have hno2 : 0 < no := by omega
    have hxl : x ∈ l0 := by rcases chain_cases HCH.out with ⟨_, e⟩ | ⟨_, _, _, _, e⟩ <;> simp [e]
    have hxl2 : x ∈ l := by rw [← HL.out]; exact List.mem_append.2 (.inl hxl)
    have hxN := HIN.out.lt x hxl2
    have hnol : no ≤ 100 := by
      have h1 := HCH.out.pos
      have h2 := congrArg List.length HL.out
      have h3 : (x :: rest).length = rest.length + 1 := rfl
      rw [List.length_append] at h2
      omega
    have HZ := hid z3
    unfold maxLen at z5
    clear z3
    by_cases hxs : x = s
    · subst hxs
      have HF := hid (show x :: rest = l by
        rcases chain_cases HCH.out with ⟨_, e⟩ | ⟨u, _, h, _, _⟩
        · rw [← HL.out, e]; rfl
        · have := (HIN.out.root x hxl2).2 rfl
          omega)
      have HA := hid (show Arr (ints l) (.slice (some ⟨go, 0, none⟩) no co) wo by
        rw [← HF.out]
        exact own_arr HO.out (fun q hq => by
          unfold ints at hq
          rw [List.mem_map] at hq
          obtain ⟨m, hm, rfl⟩ := hq
          have := HIN.out.lt m (by rw [← HF.out]; exact hm)
          unfold i64; omega))
      clear HO HCH HL HF hxl hxl2
      go_wp2_with fail
      go_ret
      exact RetP.mk HA.out HB.out
    · have hxs2 : ((x : Int) != (s : Int)) = true := by rw [bne_iff_ne]; omega
      obtain ⟨u, l1, hu1, hu2, hu3⟩ : ∃ (u : Nat) (l1 : List Nat), par x = (u : Int) ∧ Chain par u l1 ∧ l0 = l1 ++ [x] := by
        rcases chain_cases HCH.out with ⟨h, _⟩ | h
        · exact absurd ((HIN.out.root x hxl2).1 h) hxs
        · exact h
      have HC1 := hid hu2
      have HL1 := hid (show l1 ++ (x :: rest) = l by rw [← HL.out, hu3, List.append_assoc]; rfl)
      have hul : u ∈ l := by
        rw [← HL1.out]
        exact List.mem_append.2 (.inl (by rcases chain_cases hu2 with ⟨_, e⟩ | ⟨_, _, _, _, e⟩ <;> simp [e]))
      have huN := HIN.out.lt u hul
      obtain ⟨b, o, rfl, hb, hcell⟩ := HCELL.out wo HB.out
      have g1 := hcell x hxN
      rw [show pv (par x) = (u : Int) by rw [hu1]; unfold pv; rw [if_neg (by omega)]] at g1
      have hxN2 : (x : Int) < (N : Int) := by omega
      have h0 := below_alloc wo (.cells #[.int .i64 u] 3)
      have M1 := hid (OwnI.one wo u)
      have hwo := HB.out.size
      have HIO := hid (show IntsIn Any wo (some ⟨go, 0, none⟩) (ints (x :: rest)) from by
        have h := HO.out.ints2 (a := some ⟨go, 0, none⟩) (n := no) (c := co) (fun q hq => by
          unfold ints at hq
          rw [List.mem_map] at hq
          obtain ⟨m, hm, rfl⟩ := hq
          have := HIN.out.lt m (by rw [← HL.out]; rcases List.mem_cons.1 hm with e | e; rw [e]; exact List.mem_append.2 (.inl hxl); exact List.mem_append.2 (.inr e))
          unfold i64; omega)
        exact h)
      have hlen : (ints (x :: rest)).length = no := by rw [ints_len, HZ.out]
      have HLEN := hid hlen
      clear hcell hu1 hu2 hu3 hul hxs hlen
      go_wp2_with (at_builtin; refine wp_app_own2 rfl _ _ rfl wo.heap.size (.slice (some ⟨wo.heap.size, 0, none⟩) 1 1) [(u : Int)] (ints (x :: rest)) (some ⟨go, 0, none⟩) co rfl (by rw [HLEN.out]; rfl) (fun h => by cases h) M1.out (by simp) (HIO.out.below h0) (by simp) (by rw [HLEN.out]; omega) ?_; intro v' w' hv hg hor)
      have D := hid (below_own (below_next HB.out h0) (M1.out.mono (B' := w.heap.size) hwo) (Nat.le_refl _) hg)
      have HV := hid (show OwnI w.heap.size v' (ints (u :: x :: rest)) w' from hv.mono hwo)
      have hlv : lenV v' = no + 1 := by
        obtain ⟨aq, cq, e, _⟩ := hv.shape
        rw [e]
        show ([(u : Int)] ++ ints (x :: rest)).length = _
        rw [List.length_append, HLEN.out]; simp; omega
      have HLV := hid hlv
      clear hv hg hor hlv g1 z6
      go_wp2_with fail
      go_roundw
      case rel => exact ⟨u, x :: rest, l1, _, rfl, HC1, HL1, HV, D⟩
      case measure => rw [HLV.out]; simp only [lenV]; omega
end Bfs
end Go.Proofs.Ytfemikebklmlpaa
namespace Go.Proofs.Ytfemikebklmlpaa
set_option linter.unusedVariables false
set_option linter.unusedSimpArgs false
namespace Bfs
open Gr

/-- the way to n, read off its predecessors -/
def back (par : Nat → Int) : Nat → Nat → List Nat
  | 0, n => [n]
  | f + 1, n => if par n < 0 then [n] else back par f (par n).toNat ++ [n]
theorem Chain.back {par : Nat → Int} {n : Nat} {l : List Nat} (h : Chain par n l) : ∀ f, l.length ≤ f + 1 → back par f n = l := by
  induction h with
  | @root n h =>
    intro f _
    cases f with
    | zero => rfl
    | succ f => show (if par n < 0 then [n] else _) = _; rw [if_pos (by omega)]
  | @step n u l h k ih =>
    intro f hf
    have := k.pos
    rw [List.length_append, List.length_singleton] at hf
    obtain ⟨f, rfl⟩ : ∃ g, f = g + 1 := ⟨f - 1, by omega⟩
    show (if par n < 0 then [n] else Bfs.back par f (par n).toNat ++ [n]) = _
    rw [if_neg (by omega), h, Int.toNat_natCast, ih f (by omega)]
def wuL (adj : Nat → List Nat) (N s : Nat) (goal : Nat → Bool) : List Nat := match (bfs adj s N).q.find? goal with
  | none => []
  | some n => back (bfs adj s N).par N n
section
variable {N s : Nat} {adj : Nat → List Nat}
theorem bfs_last (hs : s < N) (hA : ∀ u, u < N → ∀ n, n ∈ adj u → n < N) (j : Nat) : Ext (bfs adj s j) (bfs adj s N) := by
  by_cases e : j ≤ N
  · have := bfs_ext (s := s) (adj := adj) hs hA j (N - j)
    rw [show j + (N - j) = N by omega] at this; exact this
  · obtain ⟨i, h1, h2⟩ := bfs_end (s := s) (adj := adj) hs hA
    rw [bfs_done (Nat.le_of_eq h1) j (by omega), bfs_done (Nat.le_of_eq h1) N h2]; exact Ext.refl _
theorem wu_at (hs : s < N) (hA : ∀ u, u < N → ∀ n, n ∈ adj u → n < N) {goal : Nat → Bool} {j i n : Nat} {l : List Nat} (hj : j ≤ (bfs adj s j).q.length) (hn : (bfs adj s j).q[i]? = some n) (hg : goal n = true) (hb : ∀ (k m : Nat), k < i → (bfs adj s j).q[k]? = some m → goal m = false)
    (hl : Chain (bfs adj s j).par n l) : wuL adj N s goal = l := by
  have hI := bfs_inv hs hA j hj
  have hE := bfs_last hs hA j
  have hil : i < (bfs adj s j).q.length := (List.getElem?_eq_some_iff.1 hn).1
  obtain ⟨l2, c1, _, c3, c4⟩ := hI.chain i n hn
  obtain rfl := hl.det c1
  have hlen := hI.len
  have hn2 := hE.at hn
  obtain ⟨hil2, hn3⟩ := List.getElem?_eq_some_iff.1 hn2
  have hf : (bfs adj s N).q.find? goal = some n := by
    rw [List.find?_eq_some_iff_getElem]
    refine ⟨hg, i, hil2, hn3, fun k hk => ?_⟩
    have hk2 : (bfs adj s j).q[k]? = some (bfs adj s j).q[k] := List.getElem?_eq_getElem (by omega)
    have h3 := hE.at hk2
    obtain ⟨_, h4⟩ := List.getElem?_eq_some_iff.1 h3
    rw [h4, hb k _ hk hk2]; rfl
  unfold wuL
  rw [hf]
  exact (hl.ext fun x hx => (hE.2 x (c4 x hx)).1).back N (by omega)
theorem wu_none (hs : s < N) (hA : ∀ u, u < N → ∀ n, n ∈ adj u → n < N) {goal : Nat → Bool} {k : Nat} (hk : (bfs adj s k).q.length = k) (hb : ∀ (i m : Nat), (bfs adj s k).q[i]? = some m → goal m = false) : wuL adj N s goal = [] := by
  have hI := bfs_inv hs hA k (Nat.le_of_eq hk.symm)
  have hlen := hI.len
  have : (bfs adj s N).q.find? goal = none := by
    rw [bfs_done (Nat.le_of_eq hk) N (by omega), List.find?_eq_none]
    intro x hx
    obtain ⟨i, hi⟩ := List.mem_iff_getElem?.1 hx
    rw [hb i x hi]; simp
  unfold wuL
  rw [this]
theorem wu_path (hs : s < N) (hA : ∀ u, u < N → ∀ n, n ∈ adj u → n < N) (hN : N ≤ 60) {j i n : Nat} (hj : j ≤ (bfs adj s j).q.length) (hn : (bfs adj s j).q[i]? = some n) : ∃ l, Chain (bfs adj s j).par n l ∧ PathIn N s (bfs adj s j).par l ∧ l.length ≤ i + 1 := by
  have hI := bfs_inv hs hA j hj
  have hil : i < (bfs adj s j).q.length := (List.getElem?_eq_some_iff.1 hn).1
  have hlen := hI.len
  obtain ⟨l, c1, _, c3, c4⟩ := hI.chain i n hn
  refine ⟨l, c1, ⟨fun m hm => hI.lt m (c4 m hm), fun m hm => ?_, by omega⟩, c3⟩
  constructor
  · intro h
    obtain ⟨a, ha⟩ := List.mem_iff_getElem?.1 (c4 m hm)
    by_cases e : a = 0
    · subst e
      rw [hI.fst] at ha
      exact (Option.some.inj ha).symm
    · obtain ⟨_, u, _, _, _, _, h5, _⟩ := hI.par a m (by omega) ha
      omega
  · intro h
    subst h
    exact hI.root.1
end
/-- valid graphs -/
theorem okG_len {g : G2} (h : okG g = true) : (1 ≤ g.states.length ∧ g.states.length ≤ 60) ∧ g.next.length = g.states.length ∧ Good g.next ∧ ∀ r, r ∈ g.next → 1 ≤ r.length ∧ r.length ≤ 60 := by
  unfold okG at h
  simp only [Bool.and_eq_true, decide_eq_true_eq, List.all_eq_true] at h
  obtain ⟨⟨⟨h1, h2⟩, _⟩, h4⟩ := h
  refine ⟨h1, h2, fun r hr x hx => ?_, fun r hr => ?_⟩
  · have := h4 r hr
    unfold rowOk at this
    rw [Bool.and_eq_true] at this
    have := ((dst_spec _ _ _ this.2).1 x hx).1
    omega
  · have := h4 r hr
    unfold rowOk at this
    rw [Bool.and_eq_true] at this
    have h5 := dst_len this.2
    refine ⟨?_, by omega⟩
    have h6 := this.1
    cases r with
    | nil => simp at h6
    | cons => simp
def goalOf (goal : List Bool) (n : Nat) : Bool := goal.getD n false
/-- what WitnessUntil returns -/
def wuT (g : G2) (thr goal : List Bool) (s : Int) : List Nat :=
  if okG g = true ∧ thr.length = g.states.length ∧ goal.length = g.states.length ∧ 0 ≤ s ∧ s < g.states.length then wuL (adjOf (subL g.next thr)) g.states.length s.toNat (goalOf goal) else []
theorem wuT_small (g : G2) (thr goal : List Bool) (s : Int) : (wuT g thr goal s).length ≤ 60 ∧ ∀ n, n ∈ wuT g thr goal s → n < 60 := by
  unfold wuT
  split
  · rename_i h
    obtain ⟨h1, h2, h3, h4, h5⟩ := h
    obtain ⟨⟨k1, k2⟩, k3, k4, k5⟩ := okG_len h1
    have hl : (subL g.next thr).length = g.states.length := by rw [subL_len (by omega), k3]
    have hA := (subL_good (thr := thr) (by omega) k4).adj
    rw [hl] at hA
    have hs : s.toNat < g.states.length := by omega
    generalize g.states.length = N at *
    obtain ⟨k, e1, e2⟩ := bfs_end (s := s.toNat) (adj := adjOf (subL g.next thr)) hs hA
    by_cases hg : ∃ (i m : Nat), (bfs (adjOf (subL g.next thr)) s.toNat k).q[i]? = some m ∧ goalOf goal m = true
    · have hfin : (bfs (adjOf (subL g.next thr)) s.toNat N) = bfs (adjOf (subL g.next thr)) s.toNat k := bfs_done (Nat.le_of_eq e1) N e2
      cases hf : (bfs (adjOf (subL g.next thr)) s.toNat N).q.find? (goalOf goal) with
      | none => unfold wuL; rw [hf]; simp
      | some n =>
        obtain ⟨i, hi⟩ := List.mem_iff_getElem?.1 (List.mem_of_find?_eq_some hf)
        rw [hfin] at hi
        obtain ⟨l, c1, c2, c3⟩ := wu_path hs hA k2 (Nat.le_of_eq e1.symm) hi
        have hil : i < (bfs (adjOf (subL g.next thr)) s.toNat k).q.length := (List.getElem?_eq_some_iff.1 hi).1
        have : wuL (adjOf (subL g.next thr)) N s.toNat (goalOf goal) = l := by
          unfold wuL
          rw [hf, hfin]
          exact c1.back N (by omega)
        rw [this]
        exact ⟨by omega, fun n hn => by have := c2.lt n hn; omega⟩
    · rw [wu_none hs hA e1 fun i m h => by
        cases hb : goalOf goal m with
        | false => rfl
        | true => exact absurd ⟨i, m, h, hb⟩ hg]
      simp
  · simp
end Bfs
end Go.Proofs.Ytfemikebklmlpaa
namespace Go.Proofs.Ytfemikebklmlpaa
set_option linter.unusedVariables false
set_option linter.unusedSimpArgs false
namespace Gfp

def Post (adj : Nat → List Nat) (thr : Nat → Bool) (X : Nat → Prop) : Prop := ∀ j, X j → thr j = true ∧ ∃ m, m ∈ adj j ∧ X m
noncomputable def gfp (adj : Nat → List Nat) (thr : Nat → Bool) (j : Nat) : Bool := @decide (∃ X, Post adj thr X ∧ X j) (Classical.propDecidable _)
theorem gfp_iff {adj : Nat → List Nat} {thr : Nat → Bool} {j : Nat} : gfp adj thr j = true ↔ ∃ X, Post adj thr X ∧ X j := by unfold gfp; exact @decide_eq_true_iff _ (Classical.propDecidable _)
def some1 (adj : Nat → List Nat) (f : Nat → Bool) (j : Nat) : Bool := (adj j).any f
/-- what a state is to be, by a set -/
def nowF (adj : Nat → List Nat) (thr f : Nat → Bool) (j : Nat) : Bool := thr j && some1 adj f j
theorem some1_iff {adj : Nat → List Nat} {f : Nat → Bool} {j : Nat} : some1 adj f j = true ↔ ∃ m, m ∈ adj j ∧ f m = true := List.any_eq_true
theorem gfp_post (adj : Nat → List Nat) (thr : Nat → Bool) : Post adj thr (fun j => gfp adj thr j = true) := by
  intro j hj
  obtain ⟨X, hX, hj⟩ := gfp_iff.1 hj
  obtain ⟨h1, m, h2, h3⟩ := hX j hj
  exact ⟨h1, m, h2, gfp_iff.2 ⟨X, hX, h3⟩⟩
theorem gfp_now {adj : Nat → List Nat} {thr f : Nat → Bool} {j : Nat} (hf : ∀ m, gfp adj thr m = true → f m = true) (hj : gfp adj thr j = true) : nowF adj thr f j = true := by
  obtain ⟨h1, m, h2, h3⟩ := gfp_post adj thr j hj
  rw [nowF, h1, Bool.true_and]
  exact some1_iff.2 ⟨m, h2, hf m h3⟩

def upd (f : Nat → Bool) (k : Nat) (v : Bool) : Nat → Bool := fun j => if j = k then v else f j
theorem upd_same (f : Nat → Bool) (k : Nat) : upd f k (f k) = f := by
  funext j; unfold upd; split
  · rename_i e; rw [e]
  · rfl
/-- how many are true -/
def cnt (f : Nat → Bool) : Nat → Nat
  | 0 => 0
  | n + 1 => cnt f n + (if f n = true then 1 else 0)
theorem cnt_le (f : Nat → Bool) : ∀ n, cnt f n ≤ n
  | 0 => Nat.le_refl _
  | n + 1 => by have := cnt_le f n; simp only [cnt]; split <;> omega
theorem cnt_upd_ge {f : Nat → Bool} {k : Nat} {v : Bool} : ∀ {n}, n ≤ k → cnt (upd f k v) n = cnt f n
  | 0, _ => rfl
  | n + 1, h => by
    simp only [cnt]
    rw [cnt_upd_ge (by omega)]
    simp [upd, show n ≠ k by omega]
theorem cnt_upd {f : Nat → Bool} {k : Nat} (hv : f k = true) : ∀ {n}, k < n → cnt (upd f k false) n + 1 = cnt f n
  | 0, h => by omega
  | n + 1, h => by
    simp only [cnt]
    by_cases e : n = k
    · subst e
      rw [cnt_upd_ge (Nat.le_refl _), if_pos hv]
      simp [upd]
    · have := cnt_upd hv (n := n) (by omega)
      rw [show upd f k false n = f n from if_neg e]
      omega

/-- the program's set: it holds the greatest one, and whatever is out stays out -/
structure Inv (N : Nat) (adj : Nat → List Nat) (thr f : Nat → Bool) : Prop where
  up : ∀ m, gfp adj thr m = true → f m = true
  out : ∀ j, j < N → f j = false → nowF adj thr f j = false
theorem inv0 (N : Nat) (adj : Nat → List Nat) (thr : Nat → Bool) {f : Nat → Bool} (hf : ∀ j, j < N → f j = true) (ho : ∀ j, N ≤ j → f j = true) : Inv N adj thr f :=
  ⟨fun m _ => (Nat.lt_or_ge m N).elim (hf m) (ho m), fun j h1 h2 => by rw [hf j h1] at h2; cases h2⟩
theorem some1_mono {adj : Nat → List Nat} {f g : Nat → Bool} (h : ∀ m, f m = true → g m = true) {j : Nat} (hj : some1 adj f j = true) : some1 adj g j = true := by
  obtain ⟨m, h1, h2⟩ := some1_iff.1 hj
  exact some1_iff.2 ⟨m, h1, h m h2⟩
theorem nowF_mono {adj : Nat → List Nat} {thr f g : Nat → Bool} (h : ∀ m, f m = true → g m = true) {j : Nat} (hj : nowF adj thr g j = false) : nowF adj thr f j = false := by
  cases e : nowF adj thr f j with
  | false => rfl
  | true =>
    rw [nowF, Bool.and_eq_true] at e
    rw [nowF, e.1, some1_mono h e.2] at hj
    cases hj
theorem upd_le {f : Nat → Bool} {k : Nat} : ∀ m, upd f k false m = true → f m = true := fun m h => by
  unfold upd at h; split at h
  · cases h
  · exact h
theorem Inv.drop {N : Nat} {adj : Nat → List Nat} {thr f : Nat → Bool} (h : Inv N adj thr f) {k : Nat} (hk : nowF adj thr f k = false) : Inv N adj thr (upd f k false) where
  up m hm := by
    unfold upd
    split
    · rename_i e
      subst e
      rw [gfp_now h.up hm] at hk; cases hk
    · exact h.up m hm
  out j h1 h2 := by
    refine nowF_mono upd_le ?_
    unfold upd at h2
    split at h2
    · rename_i e; rw [e]; exact hk
    · exact h.out j h1 h2
/-- in a sweep of the program: f0 at its start, the first i are done -/
structure Sweep (N : Nat) (adj : Nat → List Nat) (thr f0 f : Nat → Bool) (i : Nat) (ch : Bool) : Prop where
  inv : Inv N adj thr f
  no : ch = false → cnt f N = cnt f0 N ∧ ∀ k, k < i → f k = nowF adj thr f k
  yes : ch = true → cnt f N < cnt f0 N
theorem Sweep.start {N : Nat} {adj : Nat → List Nat} {thr f : Nat → Bool} (h : Inv N adj thr f) : Sweep N adj thr f f 0 false := ⟨h, fun _ => ⟨rfl, (fun k hk => by omega)⟩, (fun e => by cases e)⟩
theorem Sweep.same {N i : Nat} {adj : Nat → List Nat} {thr f0 f : Nat → Bool} {ch : Bool} (h : Sweep N adj thr f0 f i ch) (e : nowF adj thr f i = f i) : Sweep N adj thr f0 f (i + 1) ch :=
  ⟨h.inv, fun hc => ⟨(h.no hc).1, fun k hk => by
    by_cases e2 : k = i
    · rw [e2]; exact e.symm
    · exact (h.no hc).2 k (by omega)⟩, h.yes⟩
theorem Sweep.turn {N i : Nat} {adj : Nat → List Nat} {thr f0 f : Nat → Bool} {ch : Bool} (h : Sweep N adj thr f0 f i ch) (hi : i < N) (e : nowF adj thr f i ≠ f i) : nowF adj thr f i = false ∧ Sweep N adj thr f0 (upd f i false) (i + 1) true := by
  have hf : f i = true := by
    cases e2 : f i with
    | true => rfl
    | false => rw [h.inv.out i hi e2, e2] at e; exact absurd rfl e
  have hn : nowF adj thr f i = false := by rw [hf] at e; simpa using e
  refine ⟨hn, h.inv.drop hn, (fun hc => by cases hc), fun _ => ?_⟩
  have h1 := cnt_upd hf hi
  cases ch with
  | false => have := (h.no rfl).1; omega
  | true => have := h.yes rfl; omega
theorem Sweep.done {N : Nat} {adj : Nat → List Nat} {thr f0 f : Nat → Bool} (h : Sweep N adj thr f0 f N false) (hA : ∀ u, u < N → ∀ n, n ∈ adj u → n < N) : ∀ j, j < N → f j = gfp adj thr j := by
  intro j hj
  cases e : gfp adj thr j with
  | true => exact h.inv.up j e
  | false =>
    cases e2 : f j with
    | false => rfl
    | true =>
      have : gfp adj thr j = true := gfp_iff.2 ⟨fun m => m < N ∧ f m = true, fun m hm => by
        have h1 := (h.no rfl).2 m hm.1
        rw [hm.2] at h1
        have h2 := h1.symm
        rw [nowF, Bool.and_eq_true] at h2
        obtain ⟨x, h3, h4⟩ := some1_iff.1 h2.2
        exact ⟨h2.1, x, h3, hA m hm.1 x h3, h4⟩, hj, e2⟩
      rw [this] at e; cases e

/-- the reference's set -/
structure Rin (N : Nat) (adj : Nat → List Nat) (thr f : Nat → Bool) : Prop where
  up : ∀ m, gfp adj thr m = true → m < N → f m = true
  thr : ∀ j, j < N → f j = true → thr j = true
/-- in a round of the reference: f0 at its start -/
structure Rnd (N : Nat) (adj : Nat → List Nat) (thr f0 f : Nat → Bool) (i : Nat) (ch : Bool) : Prop where
  inv : Rin N adj thr f
  old : Rin N adj thr f0
  no : ch = false → (∀ k, k < N → f k = f0 k) ∧ ∀ k, k < i → f k = true → some1 adj f0 k = true
  yes : ch = true → cnt f N < cnt f0 N
  le : cnt f N ≤ cnt f0 N
theorem rin0 {N : Nat} {adj : Nat → List Nat} {thr f : Nat → Bool} (h : ∀ j, j < N → f j = thr j) : Rin N adj thr f :=
  ⟨fun m hm hN => by rw [h m hN]; exact (gfp_post adj thr m hm).1, fun j hj e => by rw [← h j hj]; exact e⟩
theorem Rnd.start {N : Nat} {adj : Nat → List Nat} {thr f : Nat → Bool} (h : Rin N adj thr f) : Rnd N adj thr f f 0 false := ⟨h, h, fun _ => ⟨fun _ _ => rfl, (fun k hk => by omega)⟩, (fun e => by cases e), Nat.le_refl _⟩
theorem Rnd.same {N i : Nat} {adj : Nat → List Nat} {thr f0 f : Nat → Bool} {ch : Bool} (h : Rnd N adj thr f0 f i ch) (e : f i = true → some1 adj f0 i = true) : Rnd N adj thr f0 f (i + 1) ch :=
  ⟨h.inv, h.old, fun hc => ⟨(h.no hc).1, fun k hk hf => by
    by_cases e2 : k = i
    · rw [e2] at hf ⊢; exact e hf
    · exact (h.no hc).2 k (by omega) hf⟩, h.yes, h.le⟩
theorem Rnd.turn {N i : Nat} {adj : Nat → List Nat} {thr f0 f : Nat → Bool} {ch : Bool} (h : Rnd N adj thr f0 f i ch) (hA : ∀ u, u < N → ∀ n, n ∈ adj u → n < N) (hi : i < N) (hf : f i = true) (e : some1 adj f0 i = false) : Rnd N adj thr f0 (upd f i false) (i + 1) true := by
  have hc := cnt_upd hf hi
  refine ⟨⟨fun m hm hN => ?_, fun j hj hh => h.inv.thr j hj (upd_le j hh)⟩, h.old, (fun hh => by cases hh), fun _ => by have := h.le; omega, by have := h.le; omega⟩
  unfold upd
  split
  · rename_i e2
    subst e2
    obtain ⟨_, x, h1, h2⟩ := gfp_post adj thr m hm
    have : some1 adj f0 m = true := some1_iff.2 ⟨x, h1, h.old.up x h2 (hA m hi x h1)⟩
    rw [this] at e; cases e
  · exact h.inv.up m hm hN
theorem Rnd.done {N : Nat} {adj : Nat → List Nat} {thr f0 f : Nat → Bool} (h : Rnd N adj thr f0 f N false) (hA : ∀ u, u < N → ∀ n, n ∈ adj u → n < N) : ∀ j, j < N → f j = gfp adj thr j := by
  intro j hj
  cases e : gfp adj thr j with
  | true => exact h.inv.up j e hj
  | false =>
    cases e2 : f j with
    | false => rfl
    | true =>
      have : gfp adj thr j = true := gfp_iff.2 ⟨fun m => m < N ∧ f m = true, fun m hm => by
        obtain ⟨x, h3, h4⟩ := some1_iff.1 ((h.no rfl).2 m hm.1 hm.2)
        have hx := hA m hm.1 x h3
        exact ⟨h.inv.thr m hm.1 hm.2, x, h3, hx, by rw [(h.no rfl).1 x hx]; exact h4⟩, hj, e2⟩
      rw [this] at e; cases e

/-! ### the path -/
section
variable (adj : Nat → List Nat) (f : Nat → Bool) (s : Nat)
/-- the first neighbour in the set -/
def nxt (j : Nat) : Nat := ((adj j).find? f).getD 0
/-- the k-th state -/
def orb : Nat → Nat
  | 0 => s
  | k + 1 => nxt adj f (orb k)
def orbL (k : Nat) : List Nat := (List.range k).map (orb adj f s)
/-- k is the first time that a state comes again; it was there at time i -/
def Trc (k i : Nat) : Prop := (orbL adj f s k).Nodup ∧ i < k ∧ orb adj f s i = orb adj f s k
end
theorem orbL_len (adj : Nat → List Nat) (f : Nat → Bool) (s k : Nat) : (orbL adj f s k).length = k := by simp [orbL]
theorem orbL_at (adj : Nat → List Nat) (f : Nat → Bool) (s : Nat) {k i : Nat} (h : i < k) : (orbL adj f s k)[i]? = some (orb adj f s i) := by simp [orbL, h]
theorem orbL_succ (adj : Nat → List Nat) (f : Nat → Bool) (s k : Nat) : orbL adj f s (k + 1) = orbL adj f s k ++ [orb adj f s k] := by simp [orbL, List.range_succ]
theorem orb_ne {adj : Nat → List Nat} {f : Nat → Bool} {s k i j : Nat} (h : (orbL adj f s k).Nodup) (hij : i < j) (hj : j < k) : orb adj f s i ≠ orb adj f s j := by
  have := List.pairwise_iff_getElem.1 h i j (by rw [orbL_len]; omega) (by rw [orbL_len]; omega) hij
  simpa [orbL] using this
theorem Trc.eq {adj : Nat → List Nat} {f : Nat → Bool} {s k i k' i' : Nat} (h : Trc adj f s k i) (h' : Trc adj f s k' i') : k = k' ∧ i = i' := by
  have hk : k = k' := by
    rcases Nat.lt_trichotomy k k' with e | e | e
    · exact absurd h.2.2 (orb_ne h'.1 h.2.1 e)
    · exact e
    · exact absurd h'.2.2 (orb_ne h.1 h'.2.1 e)
  subst hk
  refine ⟨rfl, ?_⟩
  rcases Nat.lt_trichotomy i i' with e | e | e
  · exact absurd (h.2.2.trans h'.2.2.symm) (orb_ne h.1 e h'.2.1)
  · exact e
  · exact absurd (h'.2.2.trans h.2.2.symm) (orb_ne h.1 e h.2.1)
theorem orb_in {N : Nat} {adj : Nat → List Nat} {f : Nat → Bool} {s : Nat} (hs : s < N) (hA : ∀ u, u < N → ∀ n, n ∈ adj u → n < N) (hf : f s = true) (hP : ∀ j, j < N → f j = true → ∃ m, m ∈ adj j ∧ f m = true) :
    ∀ k, orb adj f s k < N ∧ f (orb adj f s k) = true ∧ (∀ (u : Nat), orb adj f s k = u → (adj u).find? f = some (nxt adj f u) ∧ nxt adj f u ∈ adj u)
  | k => by
    have key : ∀ u, u < N → f u = true → (adj u).find? f = some (nxt adj f u) ∧ nxt adj f u ∈ adj u ∧ f (nxt adj f u) = true := fun u h1 h2 => by
      obtain ⟨m, h3, h4⟩ := hP u h1 h2
      cases e : (adj u).find? f with
      | none => have := List.find?_eq_none.1 e m h3; exact absurd h4 this
      | some x =>
        have e2 : nxt adj f u = x := by rw [nxt, e]; rfl
        rw [e2]
        exact ⟨rfl, List.mem_of_find?_eq_some e, List.find?_some e⟩
    have main : ∀ k, orb adj f s k < N ∧ f (orb adj f s k) = true := by
      intro k
      induction k with
      | zero => exact ⟨hs, hf⟩
      | succ k ih =>
        obtain ⟨_, h1, h2⟩ := key _ ih.1 ih.2
        exact ⟨hA _ ih.1 _ h1, h2⟩
    refine ⟨(main k).1, (main k).2, fun u hu => ?_⟩
    subst hu
    obtain ⟨h1, h2, _⟩ := key _ (main k).1 (main k).2
    exact ⟨h1, h2⟩
theorem nodup_le {N : Nat} {l : List Nat} (h : l.Nodup) (hl : ∀ m, m ∈ l → m < N) : l.length ≤ N := by
  have := List.Nodup.length_le_of_subset h (l₂ := List.range N) fun m hm => List.mem_range.2 (hl m hm)
  simpa using this
end Gfp
end Go.Proofs.Ytfemikebklmlpaa
namespace Go.Proofs.Ytfemikebklmlpaa
open Go.RowKit
set_option linter.unusedVariables false
set_option linter.unusedSimpArgs false
namespace Alw
open Gr Bfs Gfp

/-- the first number of a set, from place k on; -1: none -/
def fstI (p : Nat → Bool) : List Int → Int → Int
  | [], _ => -1
  | x :: t, k => if p x.toNat = true then k else fstI p t (k + 1)
theorem fst_any (p : Nat → Bool) : ∀ (l : List Int) (k : Int), 0 ≤ k → decide (0 ≤ fstI p l k) = (l.map Int.toNat).any p
  | [], k, h => by simp [fstI]
  | x :: t, k, h => by
    rw [fstI, List.map_cons, List.any_cons]
    split
    · rename_i e; rw [e]; simp [h]
    · rename_i e
      rw [fst_any p t (k + 1) (by omega)]
      have : p x.toNat = false := by cases h2 : p x.toNat with
        | false => rfl
        | true => exact absurd h2 e
      rw [this, Bool.false_or]
theorem fst_at (p : Nat → Bool) : ∀ (l : List Int) (k : Int) (m : Nat), (l.map Int.toNat).find? p = some m → ∃ (j : Nat) (x : Int), fstI p l k = k + j ∧ l[j]? = some x ∧ x.toNat = m
  | [], k, m, h => by cases h
  | x :: t, k, m, h => by
    rw [List.map_cons, List.find?_cons] at h
    rw [fstI]
    cases e : p x.toNat with
    | true =>
      rw [e] at h
      exact ⟨0, x, by simp, rfl, by simpa using h⟩
    | false =>
      rw [e] at h
      obtain ⟨j, y, h1, h2, h3⟩ := fst_at p t (k + 1) m h
      refine ⟨j + 1, y, ?_, h2, h3⟩
      rw [if_neg (by simp), h1]; omega
theorem fst_ge (p : Nat → Bool) : ∀ (l : List Int) (k : Int), 0 ≤ k → k + l.length ≤ 9223372036854775807 → -1 ≤ fstI p l k ∧ fstI p l k ≤ 9223372036854775807
  | [], k, h, h2 => by simp [fstI]
  | x :: t, k, h, h2 => by
    rw [fstI]
    rw [List.length_cons] at h2
    split
    · omega
    · exact fst_ge p t (k + 1) (by omega) (by omega)
theorem goal_at {S : List Bool} {n : Nat} (h : n < S.length) : S[n] = goalOf S n := by simp [goalOf, List.getD_eq_getElem?_getD, h]
theorem row_bools {w : World} {R N : Nat} {f : Nat → Bool} (h : Row w R N (fun j => .bool (f j))) : BoolsIn Any w (some ⟨R, 0, none⟩) ((List.range N).map f) :=
  .inr ⟨R, 0, rfl, trivial, h.1, fun i v hv => by
    have hi : i < N := by have := (List.getElem?_eq_some_iff.1 hv).1; simpa using this
    rw [Nat.zero_add, h.2.1 i hi]
    simpa [hi] using hv⟩
theorem goal_range {N : Nat} {f : Nat → Bool} {n : Nat} (h : n < N) : goalOf ((List.range N).map f) n = f n := by simp [goalOf, List.getD_eq_getElem?_getD, h]
theorem some1_congr {adj : Nat → List Nat} {f g : Nat → Bool} {j : Nat} (h : ∀ m, m ∈ adj j → f m = g m) : some1 adj f j = some1 adj g j := by
  unfold some1
  generalize adj j = l at *
  induction l with
  | nil => rfl
  | cons a l ih => rw [List.any_cons, List.any_cons, h a (by simp), ih fun m hm => h m (by simp [hm])]
theorem nowF_congr {adj : Nat → List Nat} {thr f g : Nat → Bool} {j : Nat} (h : ∀ m, m ∈ adj j → f m = g m) : nowF adj thr f j = nowF adj thr g j := by unfold nowF; rw [some1_congr h]
set_option maxRecDepth 100000 in
theorem some1_clo (S : List Bool) (N n : Nat) (hSN : S.length = N) (hn : n < N) (w : World) (O td : Nat) (ts : Option Addr) (htd : N ≤ td) (htd2 : td ≤ maxLen) (hO : w.cell? ⟨O, 0, none⟩ = some (.slice ts N td)) (hg : BoolsIn Any w ts S) :
    Calls Try.prog 82 #[.int .i64 n, .pointer (some ⟨O, 0, none⟩)] w (Ret (.bool (goalOf S n)) w) := by
  obtain ⟨bg, og, rfl, hbg, _, gg⟩ := bools_at hg (Below.refl _ _) (show n < S.length by omega)
  rw [goal_at] at gg
  generalize goalOf S n = r at *
  have hO2 := blt hO
  have h1 : (n : Int) < (N : Int) := by omega
  unfold maxLen at htd2
  clear hg
  go_enter Try.func82, Try.ntmps82
  go_wp2_with fail
  go_ret
  exact Ret.mk rfl (Below.refl _ _)
set_option maxRecDepth 100000 in
theorem alw2_clo (S : List Bool) (N n : Nat) (hSN : S.length = N) (hn : n < N) (w : World) (O td : Nat) (ts : Option Addr) (htd : N ≤ td) (htd2 : td ≤ maxLen) (hO : w.cell? ⟨O, 0, none⟩ = some (.slice ts N td)) (hg : BoolsIn Any w ts S) :
    Calls Try.prog 60 #[.int .i64 n, .pointer (some ⟨O, 0, none⟩)] w (Ret (.bool (goalOf S n)) w) := by
  obtain ⟨bg, og, rfl, hbg, _, gg⟩ := bools_at hg (Below.refl _ _) (show n < S.length by omega)
  rw [goal_at] at gg
  generalize goalOf S n = r at *
  have hO2 := blt hO
  have h1 : (n : Int) < (N : Int) := by omega
  unfold maxLen at htd2
  clear hg
  go_enter Try.func60, Try.ntmps60
  go_wp2_with fail
  go_ret
  exact Ret.mk rfl (Below.refl _ _)
set_option maxHeartbeats 1000000 in
theorem ixS_any (l : List Int) (S : List Bool) (N : Nat) (hSN : S.length = N) (w : World) (a ts : Option Addr) (c O td : Nat) (hl : IntsIn Any w a l) (hc : l.length ≤ c) (hc2 : c ≤ maxLen) (hr : ∀ x, x ∈ l → 0 ≤ x ∧ x < N) (htd : N ≤ td) (htd2 : td ≤ maxLen) (hO : w.cell? ⟨O, 0, none⟩ = some (.slice ts N td)) (hg : BoolsIn Any w ts S) :
    Calls Try.prog 59 #[.slice a l.length c, .func (.func 82) #[] #[.pointer (some ⟨O, 0, none⟩)]] w (Ret (.int .i64 (fstI (goalOf S) l 0)) w) := by
  have HC := hid (fun (W : World) (M : Below w.heap.size w W) (n : Nat) (hn : n < N) => some1_clo S N n hSN hn W O td ts htd htd2 (by rw [M.cell (p := ⟨O, 0, none⟩) (blt hO)]; exact hO) (hg.below M))
  have HR := hid hr
  unfold maxLen at hc2
  clear hO hg hr htd htd2
  go_enter Try.func59, Try.ntmps59
  go_wp2_with fail
  go_loopw [5, 8] (fun _ i wr => ∃ j : Nat, j ≤ l.length ∧ i = .int .i64 j ∧ Below w.heap.size w wr ∧ Hid (fstI (goalOf S) (l.drop j) j = fstI (goalOf S) l 0)) (fun _ i _ => l.length - (intOf i).toNat)
  case atStart => exact ⟨0, Nat.zero_le _, rfl, Below.refl _ _, hid rfl⟩
  case round =>
    obtain ⟨j, hj, rfl, B, hrr⟩ := hrel
    by_cases hlt : j < l.length
    · obtain ⟨b, o, rfl, hb, _, g0, _⟩ := ints_at (hl.below B) (Below.refl _ _) hlt
      obtain ⟨x0, x1⟩ := HR.out l[j] (List.getElem_mem hlt)
      obtain ⟨n, hn⟩ : ∃ n : Nat, l[j] = (n : Int) := ⟨l[j].toNat, by omega⟩
      have HR2 := hrr.out
      rw [List.drop_eq_getElem_cons hlt, fstI, hn, Int.toNat_natCast] at HR2
      have HRR := hid HR2; clear HR2 hrr
      have hlt2 : (j : Int) < (l.length : Int) := by omega
      rw [hn] at g0 x1
      have hnN : n < N := by omega
      clear hn x0 x1
      go_wp2_with fail
      refine (HC.out _ B n hnN).mono ?_
      rintro e w2 ⟨rfl, hb2⟩
      replace B := below_next B hb2
      clear hb2
      cases hq : goalOf S n with
      | false =>
        have HR3 := HRR.out
        rw [hq, if_neg (by simp)] at HR3
        have HR4 := hid HR3; clear HR3 hq
        go_wp2_with fail
        go_roundw
        case rel => exact ⟨j + 1, by omega, by go_num, B, hid (by rw [← HR4.out]; rfl)⟩
        case measure => simp [intOf]; omega
      | true =>
        have HR3 := HRR.out
        rw [hq, if_pos rfl] at HR3
        have HR4 := hid HR3; clear HR3 hq
        go_wp2_with fail
        go_ret
        exact ⟨by rw [← HR4.out]; rfl, B⟩
    · have HR2 := hrr.out
      rw [List.drop_of_length_le (by omega)] at HR2
      have HR := hid HR2; clear HR2
      have hlt2 : ¬ ((j : Int) < (l.length : Int)) := by omega
      go_wp2_with fail
      go_ret
      exact ⟨by rw [← HR.out]; rfl, B⟩
set_option maxHeartbeats 1000000 in
theorem ixA_any (l : List Int) (S : List Bool) (N : Nat) (hSN : S.length = N) (w : World) (a ts : Option Addr) (c O td : Nat) (hl : IntsIn Any w a l) (hc : l.length ≤ c) (hc2 : c ≤ maxLen) (hr : ∀ x, x ∈ l → 0 ≤ x ∧ x < N) (htd : N ≤ td) (htd2 : td ≤ maxLen) (hO : w.cell? ⟨O, 0, none⟩ = some (.slice ts N td)) (hg : BoolsIn Any w ts S) :
    Calls Try.prog 59 #[.slice a l.length c, .func (.func 60) #[] #[.pointer (some ⟨O, 0, none⟩)]] w (Ret (.int .i64 (fstI (goalOf S) l 0)) w) := by
  have HC := hid (fun (W : World) (M : Below w.heap.size w W) (n : Nat) (hn : n < N) => alw2_clo S N n hSN hn W O td ts htd htd2 (by rw [M.cell (p := ⟨O, 0, none⟩) (blt hO)]; exact hO) (hg.below M))
  have HR := hid hr
  unfold maxLen at hc2
  clear hO hg hr htd htd2
  go_enter Try.func59, Try.ntmps59
  go_wp2_with fail
  go_loopw [5, 8] (fun _ i wr => ∃ j : Nat, j ≤ l.length ∧ i = .int .i64 j ∧ Below w.heap.size w wr ∧ Hid (fstI (goalOf S) (l.drop j) j = fstI (goalOf S) l 0)) (fun _ i _ => l.length - (intOf i).toNat)
  case atStart => exact ⟨0, Nat.zero_le _, rfl, Below.refl _ _, hid rfl⟩
  case round =>
    obtain ⟨j, hj, rfl, B, hrr⟩ := hrel
    by_cases hlt : j < l.length
    · obtain ⟨b, o, rfl, hb, _, g0, _⟩ := ints_at (hl.below B) (Below.refl _ _) hlt
      obtain ⟨x0, x1⟩ := HR.out l[j] (List.getElem_mem hlt)
      obtain ⟨n, hn⟩ : ∃ n : Nat, l[j] = (n : Int) := ⟨l[j].toNat, by omega⟩
      have HR2 := hrr.out
      rw [List.drop_eq_getElem_cons hlt, fstI, hn, Int.toNat_natCast] at HR2
      have HRR := hid HR2; clear HR2 hrr
      have hlt2 : (j : Int) < (l.length : Int) := by omega
      rw [hn] at g0 x1
      have hnN : n < N := by omega
      clear hn x0 x1
      go_wp2_with fail
      refine (HC.out _ B n hnN).mono ?_
      rintro e w2 ⟨rfl, hb2⟩
      replace B := below_next B hb2
      clear hb2
      cases hq : goalOf S n with
      | false =>
        have HR3 := HRR.out
        rw [hq, if_neg (by simp)] at HR3
        have HR4 := hid HR3; clear HR3 hq
        go_wp2_with fail
        go_roundw
        case rel => exact ⟨j + 1, by omega, by go_num, B, hid (by rw [← HR4.out]; rfl)⟩
        case measure => simp [intOf]; omega
      | true =>
        have HR3 := HRR.out
        rw [hq, if_pos rfl] at HR3
        have HR4 := hid HR3; clear HR3 hq
        go_wp2_with fail
        go_ret
        exact ⟨by rw [← HR4.out]; rfl, B⟩
    · have HR2 := hrr.out
      rw [List.drop_of_length_le (by omega)] at HR2
      have HR := hid HR2; clear HR2
      have hlt2 : ¬ ((j : Int) < (l.length : Int)) := by omega
      go_wp2_with fail
      go_ret
      exact ⟨by rw [← HR.out]; rfl, B⟩
theorem containsS_any (l : List Int) (S : List Bool) (N : Nat) (hSN : S.length = N) (w : World) (a ts : Option Addr) (c O td : Nat) (hl : IntsIn Any w a l) (hc : l.length ≤ c) (hc2 : c ≤ maxLen) (hr : ∀ x, x ∈ l → 0 ≤ x ∧ x < N) (htd : N ≤ td) (htd2 : td ≤ maxLen) (hO : w.cell? ⟨O, 0, none⟩ = some (.slice ts N td)) (hg : BoolsIn Any w ts S) :
    Calls Try.prog 81 #[.slice a l.length c, .func (.func 82) #[] #[.pointer (some ⟨O, 0, none⟩)]] w (Ret (.bool ((l.map Int.toNat).any (goalOf S))) w) := by
  have HC := hid (ixS_any l S N hSN w a ts c O td hl hc hc2 hr htd htd2 hO hg)
  have HA := hid (fst_any (goalOf S) l 0 (by omega))
  generalize (l.map Int.toNat).any (goalOf S) = r at *
  generalize fstI (goalOf S) l 0 = f at *
  clear hl hg hO
  go_enter Try.func81, Try.ntmps81
  go_wp2_with fail
  refine HC.out.mono ?_
  rintro e w2 ⟨rfl, hb⟩
  go_wp2_with fail
  go_ret
  exact Ret.mk (bool_val (by rw [← HA.out])) hb
end Alw
end Go.Proofs.Ytfemikebklmlpaa
namespace Go.Proofs.Ytfemikebklmlpaa
open Go.RowKit
set_option linter.unusedVariables false
set_option linter.unusedSimpArgs false
namespace Alw
open Gr Bfs Gfp

set_option maxRecDepth 100000 in
set_option maxHeartbeats 1000000 in
theorem some_any (g : G2) (S : List Bool) (N j : Nat) (hSN : S.length = N) (hN : g.next.length = N) (hj : j < N) (hgood : Bfs.Good g.next) (w : World) (x : Value) (ts : Option Addr) (td : Nat) (hx : GrIn Any w g x) (hg : BoolsIn Any w ts S) (htd : N ≤ td) (htd2 : td ≤ maxLen) :
    Calls Try.prog 56 #[x, .int .i64 j, .slice ts N td] w (Ret (.bool (some1 (adjOf g.next) (goalOf S) j)) w) := by
  obtain ⟨a, c, b, d, rfl, hc, hc2, hi, hd, hd2, hp⟩ := hx
  obtain ⟨b1, o1, a1, c1, rfl, hb1, _, g0, k1, k2, hrow⟩ := rows_at hp (show j < g.next.length by omega)
  have hrg : ∀ x, x ∈ g.next[j] → 0 ≤ x ∧ x < (N : Int) := fun x hx => by have := hgood g.next[j] (List.getElem_mem (show j < g.next.length by omega)) x hx; omega
  have hadj := adj_at (nx := g.next) (show j < g.next.length by omega)
  rw [some1, hadj]
  generalize g.next[j] = r at *
  have HCON := hid (fun (W : World) (M : Below w.heap.size w W) (O : Nat) (hO : W.cell? ⟨O, 0, none⟩ = some (.slice ts N td)) => containsS_any r S N hSN W a1 ts c1 O td (hrow.below M) k1 k2 hrg htd htd2 hO (hg.below M))
  have hj2 : (j : Int) < (g.next.length : Int) := by omega
  have D := hid (below_next (below_alloc w (.cells #[.slice a g.states.length c, .slice (some ⟨b1, o1, none⟩) g.next.length d] 26)) (below_alloc _ (.cells #[.slice ts N td] 27)))
  have P0 := hid (boxp_next (below_alloc _ (.cells #[.slice ts N td] 27)) (boxp_at (w := w) (a := .slice a g.states.length c) (b := .slice (some ⟨b1, o1, none⟩) g.next.length d) (t := 26) rfl))
  have O0 := hid (show ((w.alloc (.cells #[.slice a g.states.length c, .slice (some ⟨b1, o1, none⟩) g.next.length d] 26)).alloc (.cells #[.slice ts N td] 27)).cell? ⟨w.heap.size + 1, 0, none⟩ = some (.slice ts N td) by simp)
  have g0' := (D.out.cell (p := ⟨b1, o1 + j, none⟩) hb1).trans g0
  have hb1' := Nat.lt_of_lt_of_le hb1 D.out.size
  generalize (r.map Int.toNat).any (goalOf S) = res at *
  generalize g.next.length = nl at *
  subst hN
  clear hSN
  generalize g.states.length = sl at *
  unfold maxLen at hd2 k2
  clear hi hp hg hrow hrg hadj htd2 hc2
  go_enter Try.func56, Try.ntmps56
  go_wp2_with fail
  refine (HCON.out _ D.out _ O0.out).mono ?_
  rintro e w2 ⟨rfl, hb⟩
  go_wp2_with fail
  go_ret
  exact Ret.mk rfl (below_next D.out hb)
set_option maxRecDepth 100000 in
theorem alw1_any (g : G2) (thr S : List Bool) (N j : Nat) (hTN : thr.length = N) (hSN : S.length = N) (hN : g.next.length = N) (hj : j < N) (hgood : Bfs.Good g.next) (w : World) (ts tt : Option Addr) (td tc OT OG : Nat) (hT : w.cell? ⟨OT, 0, none⟩ = some (.slice tt N tc)) (htc : N ≤ tc) (htc2 : tc ≤ maxLen) (htt : BoolsIn Any w tt thr)
    (a b : Option Addr) (n1 n2 c d : Nat) (hG : BoxP w OG (.slice a n1 c) (.slice b n2 d)) (hx : GrIn Any w g (.agg #[.slice a n1 c, .slice b n2 d])) (hg : BoolsIn Any w ts S) (htd : N ≤ td) (htd2 : td ≤ maxLen) :
    Calls Try.prog 55 #[.int .i64 j, .slice ts N td, .pointer (some ⟨OT, 0, none⟩), .pointer (some ⟨OG, 0, none⟩)] w (Ret (.bool (nowF (adjOf g.next) (goalOf thr) (goalOf S) j)) w) := by
  have HS := hid (some_any g S N j hSN hN hj hgood w _ ts td hx hg htd htd2)
  obtain ⟨bg, og, rfl, hbg, _, gg⟩ := bools_at htt (Below.refl _ _) (show j < thr.length by omega)
  rw [goal_at] at gg
  rw [nowF]
  generalize goalOf thr j = r at *
  generalize some1 (adjOf g.next) (goalOf S) j = q at *
  obtain ⟨p0, p1, p2, p3, p4⟩ := hG
  have hT2 := blt hT
  have h1 : (j : Int) < (N : Int) := by omega
  unfold maxLen at htc2 htd2
  clear htt hg hx hTN hSN hN
  go_enter Try.func55, Try.ntmps55
  cases r with
  | false =>
    go_wp2_with fail
    go_ret
    exact Ret.mk rfl (Below.refl _ _)
  | true =>
    go_wp2_with fail
    refine HS.out.mono ?_
    rintro e w2 ⟨rfl, hb⟩
    go_wp2_with fail
    go_ret
    exact Ret.mk rfl hb
end Alw
end Go.Proofs.Ytfemikebklmlpaa
