/- The reference's l11Sub, l4Path. Conditions: those of each contract. -/
import Derived.Test.YtfemikebklmlpaaSeaS
import Derived.Test.YtfemikebklmlpaaGrTo
namespace Go.Proofs.Ytfemikebklmlpaa
open Go.RowKit
set_option linter.unusedVariables false
set_option linter.unusedSimpArgs false
namespace Bfs
open Gr

/-- the rows of a set, the others empty -/
def subL (nx : List (List Int)) (thr : List Bool) : List (List Int) := List.zipWith (fun r t => if t = true then r else []) nx thr
theorem subL_len {nx : List (List Int)} {thr : List Bool} (h : thr.length = nx.length) : (subL nx thr).length = nx.length := by simp [subL, h]
theorem subL_at {nx : List (List Int)} {thr : List Bool} {k : Nat} (h1 : k < nx.length) (h2 : k < thr.length) : (subL nx thr)[k]? = some (if thr[k] = true then nx[k] else []) := by
  unfold subL
  rw [List.getElem?_zipWith, List.getElem?_eq_getElem h1, List.getElem?_eq_getElem h2]
theorem subL_good {nx : List (List Int)} {thr : List Bool} (h : thr.length = nx.length) (hg : Good nx) : Good (subL nx thr) := by
  intro r hr x hx
  obtain ⟨k, hk, rfl⟩ := List.getElem_of_mem hr
  have hk1 : k < nx.length := by rw [subL_len h] at hk; exact hk
  have e := subL_at (thr := thr) hk1 (by omega)
  rw [List.getElem?_eq_getElem hk] at e
  have e2 := Option.some.inj e
  rw [e2] at hx
  rw [subL_len h]
  split at hx
  · exact hg _ (List.getElem_mem hk1) x hx
  · cases hx
/-- the rows of a block: those below k are laid, the others are empty -/
def SubAt (w : World) (R : Nat) (L : List (List Int)) (k : Nat) (wr : World) : Prop := Below w.heap.size w wr ∧ w.heap.size ≤ R ∧ (∃ g, Row wr R L.length g) ∧ ∀ j t, L[j]? = some t → RoAt (fun b => w.heap.size ≤ b ∧ b ≠ R) wr (if j < k then t else []) R j
theorem SubAt.next {w : World} {R : Nat} {L : List (List Int)} {k : Nat} {wr w' : World} (h : SubAt w R L k wr) (hb : Below wr.heap.size wr w') : SubAt w R L k w' := by
  obtain ⟨h1, h2, ⟨g, h3⟩, h4⟩ := h
  exact ⟨below_next h1 hb, h2, ⟨g, h3.below hb⟩, fun j t hj => (h4 j t hj).frame hb.size (hb.block R h3.1) fun b hp hl => ⟨hp, hb.block b hl⟩⟩
theorem SubAt.skip {w : World} {R : Nat} {L : List (List Int)} {k : Nat} {wr : World} (h : SubAt w R L k wr) (hk : L[k]? = some []) : SubAt w R L (k + 1) wr := by
  obtain ⟨h1, h2, h3, h4⟩ := h
  refine ⟨h1, h2, h3, fun j t hj => ?_⟩
  have := h4 j t hj
  by_cases e : j < k
  · rw [if_pos e] at this; rw [if_pos (by omega)]; exact this
  · rw [if_neg e] at this
    by_cases e2 : j = k
    · subst e2
      rw [hk] at hj
      obtain rfl := Option.some.inj hj
      rw [if_pos (by omega)]; exact this
    · rw [if_neg (by omega)]; exact this
theorem SubAt.set {w : World} {R : Nat} {L : List (List Int)} {k : Nat} {wr : World} {r : List Int} {a : Option Addr} {c : Nat} (h : SubAt w R L k wr) (hk : L[k]? = some r) (hr : RIn (fun b => w.heap.size ≤ b ∧ b ≠ R) wr r (.slice a r.length c)) :
    SubAt w R L (k + 1) (wr.setCell ⟨R, k, none⟩ (.slice a r.length c)) := by
  obtain ⟨h1, h2, ⟨g, h3⟩, h4⟩ := h
  have hkl : k < L.length := (List.getElem?_eq_some_iff.1 hk).1
  have hfr : ∀ b, (w.heap.size ≤ b ∧ b ≠ R) → b < wr.heap.size → (w.heap.size ≤ b ∧ b ≠ R) ∧ (wr.setCell ⟨R, k, none⟩ (.slice a r.length c)).heap[b]? = wr.heap[b]? := fun b hp _ => ⟨hp, Below.heap_setCell _ _ _ _ hp.2⟩
  refine ⟨h1.setCell h2 _, h2, ⟨_, h3.set hkl _⟩, fun j t hj => ?_⟩
  by_cases e : j = k
  · subst e
    rw [hk] at hj
    obtain rfl := Option.some.inj hj
    rw [if_pos (by omega)]
    exact ⟨a, c, World.cell?_setCell_same _ _ _ (h3.2.1 j hkl), hr.frame (by simp) hfr⟩
  · have := h4 j t hj
    have e2 : (if j < k + 1 then t else []) = if j < k then t else [] := by
      by_cases h : j < k
      · rw [if_pos h, if_pos (by omega)]
      · rw [if_neg h, if_neg (by omega)]
    rw [e2]
    exact this.cells (by simp) (World.cell?_setCell_other _ _ _ _ (by intro h; have := congrArg Addr.off h; simp at this; omega)) hfr
theorem SubAt.done {w : World} {R : Nat} {L : List (List Int)} {wr : World} (h : SubAt w R L L.length wr) : Gr.RowsIn Any wr L (some ⟨R, 0, none⟩) := by
  obtain ⟨h1, h2, ⟨g, h3⟩, h4⟩ := h
  refine .inr ⟨R, 0, rfl, trivial, h3.1, fun i t hi => ?_⟩
  have := h4 i t hi
  rw [if_pos (List.getElem?_eq_some_iff.1 hi).1] at this
  rw [Nat.zero_add, Nat.mul_one]
  exact this.frame (Nat.le_refl _) rfl fun b _ _ => ⟨trivial, rfl⟩
theorem own_rin {B : Nat} {v : Value} {t : List Int} {w : World} (h : OwnI B v t w) (hi : ∀ n, n ∈ t → i64 n) {p : Nat → Prop} (hp : ∀ g, v.ownBlock = some g → p g) : RIn p w t v := by
  rcases h.row with ⟨rfl, rfl⟩ | ⟨g, c, rfl, h1, h2, h3, h4⟩
  · exact ⟨none, 0, rfl, Nat.le_refl _, by unfold maxLen; omega, .inl rfl, hi⟩
  · refine ⟨some ⟨g, 0, none⟩, c, rfl, h2, h3, .inr ⟨g, 0, rfl, hp g rfl, h4.1, fun i u hu => ?_⟩, hi⟩
    have hlt : i < t.length := by have := (List.getElem?_eq_some_iff.1 hu).1; simpa using this
    rw [Nat.zero_add, h4.2.1 i hlt]
    show some ((t.map (Value.int .i64)).getD i undef) = _
    rw [List.getD_eq_getElem?_getD, hu]; rfl
theorem sub_arm {w wo w3 : World} {L : List (List Int)} {k : Nat} {r : List Int} {t : Nat} {gA cA : Nat} {x y cR : Value} (HS : Hid (SubAt w (w.heap.size + 1) L k wo)) (PB : Hid (BoxP wo w.heap.size x y)) (HA2 : Hid (L[k]? = some r)) (hcR : wo.cell? ⟨w.heap.size + 1, k, none⟩ = some cR) (fR : wo.frozen? ⟨w.heap.size + 1, k, none⟩ = false) (hRl : w.heap.size + 1 < wo.heap.size) (h0 : Below wo.heap.size wo (wo.alloc (.cells #[] t))) (M1 : Hid (OwnI wo.heap.size (.slice (some ⟨wo.heap.size, 0, none⟩) 0 0) [] (wo.alloc (.cells #[] t)))) (hi : ∀ n, n ∈ r → i64 n)
    (hor : gA = wo.heap.size ∨ gA = (wo.alloc (.cells #[] t)).heap.size) (hown : OwnI wo.heap.size (.slice (some ⟨gA, 0, none⟩) r.length cA) r w3) (hg : (wo.alloc (.cells #[] t)).grownBy w3 (some wo.heap.size)) :
    w3.cell? ⟨w.heap.size + 1, k, none⟩ = some cR ∧ w3.frozen? ⟨w.heap.size + 1, k, none⟩ = false ∧ w.heap.size + 1 < w3.heap.size ∧ Hid (SubAt w (w.heap.size + 1) L (k + 1) (w3.setCell ⟨w.heap.size + 1, k, none⟩ (.slice (some ⟨gA, 0, none⟩) r.length cA))) ∧ Hid (BoxP (w3.setCell ⟨w.heap.size + 1, k, none⟩ (.slice (some ⟨gA, 0, none⟩) r.length cA)) w.heap.size x y) := by
  have D := below_own h0 M1.out (Nat.le_refl _) hg
  have HS3 := HS.out.next D
  have HRI := own_rin (p := fun b => w.heap.size ≤ b ∧ b ≠ w.heap.size + 1) hown hi (fun g hg => by simp [Value.ownBlock] at hg; subst hg; rcases hor with h | h <;> (try rw [World.size_alloc] at h) <;> omega)
  refine ⟨?_, ?_, Nat.lt_of_lt_of_le hRl D.size, hid (HS3.set HA2.out HRI), hid (boxp_set (boxp_next D PB.out) (p := ⟨w.heap.size + 1, k, none⟩) (by simp) _)⟩
  · rw [D.cell (p := ⟨w.heap.size + 1, k, none⟩) hRl]; exact hcR
  · rw [D.frozen (p := ⟨w.heap.size + 1, k, none⟩) hRl]; exact fR
/-- a copy's rows -/
def SubV (L : List (List Int)) (v : Value) (w : World) : Prop := ∃ R, v = .slice (some ⟨R, 0, none⟩) L.length L.length ∧ Gr.RowsIn Any w L (some ⟨R, 0, none⟩)

set_option maxRecDepth 100000 in
set_option maxHeartbeats 4000000 in
theorem sub_any (g : G2) (thr : List Bool) (w : World) (x : Value) (ta : Option Addr) (tc : Nat) (hx : GrIn Any w g x) (ht : BoolsIn Any w ta thr) (htc : thr.length ≤ tc) (htc2 : tc ≤ maxLen) (hl : thr.length = g.next.length) (hN : g.next.length ≤ 60) (hne : ∀ r, r ∈ g.next → 1 ≤ r.length ∧ r.length ≤ 60) :
    Calls Try.prog 41 #[x, .slice ta thr.length tc] w (RetP (SubV (subL g.next thr)) w) := by
  obtain ⟨a, c, b, d, rfl, hc, hc2, _, hd, hd2, hp⟩ := hx
  have HP := hid hp
  have HT := hid ht
  have HNE := hid hne
  obtain ⟨nx, hnx⟩ : ∃ nx, nx = g.next := ⟨_, rfl⟩
  rw [← hnx] at HP HNE hN hd hl
  rw [← hnx]
  generalize g.states.length = sn at *
  clear hp ht hne hnx hc hc2
  have hmk := make_ros nx.length (by omega)
  obtain ⟨L, hL⟩ : ∃ L, Hid (L = subL nx thr) := ⟨_, hid rfl⟩
  have hLl : L.length = nx.length := by rw [hL.out, subL_len hl]
  have HAT := hid (show ∀ k (h1 : k < nx.length) (h2 : k < thr.length), L[k]? = some (if thr[k] = true then nx[k] else []) from fun k h1 h2 => by rw [hL.out]; exact subL_at h1 h2)
  rw [← hL.out]
  have HLL := hid hLl
  have hl1 : thr.length ≤ nx.length := by omega
  have hl2 : nx.length ≤ thr.length := by omega
  unfold maxLen at hd2 htc2
  clear hLl hL hl
  go_enter Try.func41, Try.ntmps41
  go_wp2_with fail
  have P0 := hid (boxp_next (below_alloc _ (.cells (zerosRo nx.length) 30)) (boxp_at (w := w) (a := .slice a sn c) (b := .slice b nx.length d) (t := 26) rfl))
  have S0 := hid (show SubAt w (w.heap.size + 1) L 0 ((w.alloc (.cells #[.slice a sn c, .slice b nx.length d] 26)).alloc (.cells (zerosRo nx.length) 30)) from by
    have hr := row_new (w := w.alloc (.cells #[.slice a sn c, .slice b nx.length d] 26)) (cs := zerosRo nx.length) (n := L.length) (by rw [zerosRo, size_madeCells, HLL.out]) 30
    rw [World.size_alloc] at hr
    refine ⟨(by repeat (first | exact Below.refl _ _ | assumption | refine below_a ?_ _ | refine below_o ?_ _ | refine below_d ?_ | refine below_n ?_ _ | refine below_s ?_ (by first | (simp; done) | (simp; omega) | omega) _)), by omega, ⟨_, hr⟩, fun j t hj => ?_⟩
    have hjl : j < nx.length := by rw [← HLL.out]; exact (List.getElem?_eq_some_iff.1 hj).1
    refine ⟨none, 0, ?_, none, 0, rfl, Nat.le_refl _, Nat.zero_le _, .inl rfl, by simp⟩
    rw [hr.2.1 j (by rw [HLL.out]; exact hjl)]
    simp [zerosRo, madeCells, hjl, Nat.mod_one, Array.getD])
  go_loopw [6] (fun i wr => ∃ k : Nat, k ≤ nx.length ∧ i = .int .i64 k ∧ Hid (SubAt w (w.heap.size + 1) L k wr) ∧ Hid (BoxP wr w.heap.size (.slice a sn c) (.slice b nx.length d))) (fun i _ => nx.length - (intOf i).toNat)
  case atStart => exact ⟨0, Nat.zero_le _, rfl, S0, P0⟩
  case round =>
    obtain ⟨k, hk, rfl, HS, PB⟩ := hrel
    obtain ⟨wo, rfl⟩ : ∃ wo : World, wo = wr := ⟨_, rfl⟩
    obtain ⟨p0, p1, p2, p3, p4⟩ := PB.out
    clear P0 S0
    by_cases hlt : k < nx.length
    · have hlt2 : (k : Int) < (nx.length : Int) := by omega
      have hltt : k < thr.length := by omega
      have hltt2 : (k : Int) < (thr.length : Int) := by omega
      obtain ⟨b1, o1, a1, c1, rfl, hb1, _, g0, k1, k2, hrow⟩ := rows_at (HP.out.below HS.out.1) hlt
      obtain ⟨b2, o2, rfl, hb2, _, g2⟩ := bools_at HT.out HS.out.1 hltt
      have HA := hid (HAT.out k hlt hltt)
      obtain ⟨hn1, hn2⟩ := HNE.out nx[k] (List.getElem_mem hlt)
      have HROW := hid hrow
      clear hrow
      unfold maxLen at k2
      generalize nx[k] = r at *
      cases htk : thr[k] with
      | false =>
        rw [htk] at g2 HA
        have HS2 := hid (HS.out.skip (by simpa using HA.out))
        clear htk
        go_wp2_with fail
        go_roundw
        case rel => exact ⟨k + 1, by omega, by go_num, HS2, PB⟩
        case measure => simp [intOf]; omega
      | true =>
        rw [htk] at g2 HA
        have HA2 := hid (show L[k]? = some r by simpa using HA.out)
        clear htk HA
        obtain ⟨b3, o3, rfl, hb3, _, _, _⟩ := ints_at HROW.out (Below.refl _ _) (show 0 < r.length by omega)
        have h0 := below_alloc wo (.cells #[] 3)
        have hRl : w.heap.size + 1 < wo.heap.size := by obtain ⟨_, _, ⟨g, h⟩, _⟩ := HS.out; exact h.1
        obtain ⟨cR, hcR, fR⟩ : ∃ cR, wo.cell? ⟨w.heap.size + 1, k, none⟩ = some cR ∧ wo.frozen? ⟨w.heap.size + 1, k, none⟩ = false := by
          obtain ⟨_, _, ⟨g, h⟩, _⟩ := HS.out
          exact ⟨_, h.2.1 k (by rw [HLL.out]; exact hlt), h.2.2 k⟩
        have M1 := hid (OwnI.made wo)
        go_wp2_with (at_builtin; refine wp_app_clone rfl _ _ rfl wo.heap.size r (some ⟨b3, o3, none⟩) c1 rfl rfl M1.out (by simp) (fun e => by cases e) (HROW.out.below h0) (by omega) ?_; intro gA cA w3 hor hown hg hlt3; obtain ⟨q1, q2, q3, HSF, PB3⟩ := sub_arm HS PB HA2 hcR fR hRl h0 M1 HROW.out.2 hor hown hg; clear hor hown hg hlt3 hcR fR)
        go_roundw
        case rel => exact ⟨k + 1, by omega, by go_num, HSF, PB3⟩
        case measure => simp [intOf]; omega
    · obtain rfl : k = nx.length := by omega
      have HF := hid (show SubV L (.slice (some ⟨w.heap.size + 1, 0, none⟩) nx.length nx.length) wo from ⟨_, by rw [HLL.out], (by have h := HS.out; rw [← HLL.out] at h; exact h.done)⟩)
      have HB := hid HS.out.1
      clear HS
      go_wp2_with fail
      go_ret
      exact RetP.mk HF.out HB.out

def lenV (v : Value) : Nat := match v with | .slice _ n _ => n | _ => 0
/-- what l4Path is asked -/
structure PathIn (N s : Nat) (par : Nat → Int) (l : List Nat) : Prop where
  lt : ∀ n, n ∈ l → n < N
  root : ∀ n, n ∈ l → (par n = -1 ↔ n = s)
  small : l.length ≤ 100
theorem chain_cases {par : Nat → Int} {n : Nat} {l : List Nat} (h : Chain par n l) : (par n = -1 ∧ l = [n]) ∨ ∃ (u : Nat) (l1 : List Nat), par n = (u : Int) ∧ Chain par u l1 ∧ l = l1 ++ [n] := by
  cases h with
  | root h => exact .inl ⟨h, rfl⟩
  | step h k => exact .inr ⟨_, _, h, k, rfl⟩
set_option maxRecDepth 100000 in
set_option maxHeartbeats 4000000 in
theorem path_any (N s t : Nat) (par : Nat → Int) (l : List Nat) (hch : Chain par t l) (hin : PathIn N s par l) (hN : N ≤ 60) (w : World) (a : Option Addr) (c : Nat) (hp : IntsIn Any w a ((List.range N).map fun m => pv (par m))) (hc : N ≤ c) (hc2 : c ≤ maxLen) : Calls Try.prog 42 #[.slice a N c, .int .i64 s, .int .i64 t] w (RetP (Arr (ints l)) w) := by
  have HP := hid hp
  have HIN := hid hin
  have HC := hid hch
  have hs100 := hin.small
  have hN0 : 0 < N := by
    have := hin.lt t (by rcases chain_cases hch with ⟨_, e⟩ | ⟨_, _, _, _, e⟩ <;> simp [e])
    omega
  have HCELL := hid (show ∀ W, Below w.heap.size w W → ∃ b o, a = some ⟨b, o, none⟩ ∧ b < W.heap.size ∧ ∀ m, m < N → W.cell? ⟨b, o + m, none⟩ = some (.int .i64 (pv (par m))) from fun W M => by
    rcases HP.out.1 with h | ⟨b, o, h1, _, h3, h4⟩
    · have := congrArg List.length h; simp at this; omega
    · refine ⟨b, o, h1, Nat.lt_of_lt_of_le h3 M.size, fun m hm => ?_⟩
      rw [M.cell (p := ⟨b, o + m, none⟩) h3]
      exact h4 m _ (by rw [List.getElem?_map, List.getElem?_map, List.getElem?_range hm]; rfl))
  unfold maxLen at hc2
  clear hp hin hch
  go_enter Try.func42, Try.ntmps42
  go_wp2_with fail
  have D0 := hid (below_alloc w (.cells #[.int .i64 t] 3))
  have O0 := hid (show OwnI w.heap.size (.slice (some ⟨w.heap.size, 0, none⟩) 1 1) (ints [t]) (w.alloc (.cells #[.int .i64 t] 3)) from OwnI.one w t)
  go_loopw [7] (fun vo wr => ∃ (x : Nat) (rest l0 : List Nat) (v : Value), v = vo ∧ Hid (Chain par x l0) ∧ Hid (l0 ++ rest = l) ∧ Hid (OwnI w.heap.size v (ints (x :: rest)) wr) ∧ Hid (Below w.heap.size w wr)) (fun vo _ => 101 - lenV vo)
  case atStart => exact ⟨t, [], l, _, rfl, HC, hid (by simp), O0, D0⟩
  case round =>
    obtain ⟨x, rest, l0, vo, rfl, HCH, HL, HO, HB⟩ := hrel
    obtain ⟨wo, rfl⟩ : ∃ wo : World, wo = wr := ⟨_, rfl⟩
    clear O0 D0
    obtain ⟨go, no, co, rfl, z1, z2, z3, z4, z5, z6⟩ : ∃ gq nq cq, vo = .slice (some ⟨gq, 0, none⟩) nq cq ∧ w.heap.size ≤ gq ∧ gq < wo.heap.size ∧ nq = (x :: rest).length ∧ nq ≤ cq ∧ cq ≤ maxLen ∧ wo.cell? ⟨gq, 0, none⟩ = some (.int .i64 x) := by
      obtain ⟨aq, cq, e, _⟩ := HO.out.shape
      subst e
      obtain ⟨g, e, h1, h2, h3, h4, h5, h6⟩ := own_at HO.out (show (x :: rest)[0]? = some x from rfl)
      subst e
      exact ⟨g, _, cq, rfl, h1, h2, h3, h4, h5, h6⟩
    have hno : (0 : Int) < (no : Int) := by rw [z3]; simp only [List.length_cons]; omega
    have hno2 : 0 < no := by omega
    have hxl : x ∈ l0 := by rcases chain_cases HCH.out with ⟨_, e⟩ | ⟨_, _, _, _, e⟩ <;> simp [e]
    have hxl2 : x ∈ l := by rw [← HL.out]; exact List.mem_append.2 (.inl hxl)
    have hxN := HIN.out.lt x hxl2
    have hnol : no ≤ 100 := by
      have h1 := HCH.out.pos
      have h2 := congrArg List.length HL.out
      have h3 : (x :: rest).length = rest.length + 1 := rfl
      rw [List.length_append] at h2
      omega
    have HZ := hid z3
    unfold maxLen at z5
    clear z3
    by_cases hxs : x = s
    · subst hxs
      have HF := hid (show x :: rest = l by
        rcases chain_cases HCH.out with ⟨_, e⟩ | ⟨u, _, h, _, _⟩
        · rw [← HL.out, e]; rfl
        · have := (HIN.out.root x hxl2).2 rfl
          omega)
      have HA := hid (show Arr (ints l) (.slice (some ⟨go, 0, none⟩) no co) wo by
        rw [← HF.out]
        exact own_arr HO.out (fun q hq => by
          unfold ints at hq
          rw [List.mem_map] at hq
          obtain ⟨m, hm, rfl⟩ := hq
          have := HIN.out.lt m (by rw [← HF.out]; exact hm)
          unfold i64; omega))
      clear HO HCH HL HF hxl hxl2
      go_wp2_with fail
      go_ret
      exact RetP.mk HA.out HB.out
    · have hxs2 : ((x : Int) != (s : Int)) = true := by rw [bne_iff_ne]; omega
      obtain ⟨u, l1, hu1, hu2, hu3⟩ : ∃ (u : Nat) (l1 : List Nat), par x = (u : Int) ∧ Chain par u l1 ∧ l0 = l1 ++ [x] := by
        rcases chain_cases HCH.out with ⟨h, _⟩ | h
        · exact absurd ((HIN.out.root x hxl2).1 h) hxs
        · exact h
      have HC1 := hid hu2
      have HL1 := hid (show l1 ++ (x :: rest) = l by rw [← HL.out, hu3, List.append_assoc]; rfl)
      have hul : u ∈ l := by
        rw [← HL1.out]
        exact List.mem_append.2 (.inl (by rcases chain_cases hu2 with ⟨_, e⟩ | ⟨_, _, _, _, e⟩ <;> simp [e]))
      have huN := HIN.out.lt u hul
      obtain ⟨b, o, rfl, hb, hcell⟩ := HCELL.out wo HB.out
      have g1 := hcell x hxN
      rw [show pv (par x) = (u : Int) by rw [hu1]; unfold pv; rw [if_neg (by omega)]] at g1
      have hxN2 : (x : Int) < (N : Int) := by omega
      have h0 := below_alloc wo (.cells #[.int .i64 u] 3)
      have M1 := hid (OwnI.one wo u)
      have hwo := HB.out.size
      have HIO := hid (show IntsIn Any wo (some ⟨go, 0, none⟩) (ints (x :: rest)) from by
        have h := HO.out.ints2 (a := some ⟨go, 0, none⟩) (n := no) (c := co) (fun q hq => by
          unfold ints at hq
          rw [List.mem_map] at hq
          obtain ⟨m, hm, rfl⟩ := hq
          have := HIN.out.lt m (by rw [← HL.out]; rcases List.mem_cons.1 hm with e | e; rw [e]; exact List.mem_append.2 (.inl hxl); exact List.mem_append.2 (.inr e))
          unfold i64; omega)
        exact h)
      have hlen : (ints (x :: rest)).length = no := by rw [ints_len, HZ.out]
      have HLEN := hid hlen
      clear hcell hu1 hu2 hu3 hul hxs hlen
      go_wp2_with (at_builtin; refine wp_app_own2 rfl _ _ rfl wo.heap.size (.slice (some ⟨wo.heap.size, 0, none⟩) 1 1) [(u : Int)] (ints (x :: rest)) (some ⟨go, 0, none⟩) co rfl (by rw [HLEN.out]; rfl) (fun h => by cases h) M1.out (by simp) (HIO.out.below h0) (by simp) (by rw [HLEN.out]; omega) ?_; intro v' w' hv hg hor)
      have D := hid (below_own (below_next HB.out h0) (M1.out.mono (B' := w.heap.size) hwo) (Nat.le_refl _) hg)
      have HV := hid (show OwnI w.heap.size v' (ints (u :: x :: rest)) w' from hv.mono hwo)
      have hlv : lenV v' = no + 1 := by
        obtain ⟨aq, cq, e, _⟩ := hv.shape
        rw [e]
        show ([(u : Int)] ++ ints (x :: rest)).length = _
        rw [List.length_append, HLEN.out]; simp; omega
      have HLV := hid hlv
      clear hv hg hor hlv g1 z6
      go_wp2_with fail
      go_roundw
      case rel => exact ⟨u, x :: rest, l1, _, rfl, HC1, HL1, HV, D⟩
      case measure => rw [HLV.out]; simp only [lenV]; omega
end Bfs
end Go.Proofs.Ytfemikebklmlpaa
