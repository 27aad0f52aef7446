/- Joined texts (GrA, GrTo): contracts and plain laws. Conditions: those of each theorem. -/
import Derived.Test.YtfemikebklmlpaaJV1
import Derived.Test.YtfemikebklmlpaaJV6
set_option linter.unusedVariables false
set_option linter.unusedSimpArgs false
namespace Go.Proofs.Ytfemikebklmlpaa
open Go.RowKit
set_option linter.unusedVariables false
set_option linter.unusedSimpArgs false
namespace Gr

def szSt (t : S2) (left : Int) : Int := State.szP t.locs t.vals left
theorem szSt_ok : SzOk szSt := fun t left _ h2 => State.szP_bd h2
theorem szR_ok : SzOk szI := fun t left _ h2 => szI_bd h2
def szSts (l : List S2) (left : Int) : Int := szG szSt l (left - l.length)
def szRs (l : List (List Int)) (left : Int) : Int := szG szI l (left - l.length)
def szGr (g : G2) (left : Int) : Int := if szSts g.states left < 0 then -1 else szRs g.next (szSts g.states left)
theorem szGr_bd (g : G2) (left : Int) (h2 : left ≤ 1048576) : -1 ≤ szGr g left ∧ szGr g left ≤ 1048576 := by
  have h3 := szG_bd szSt_ok g.states (left - g.states.length) (by omega)
  unfold szGr
  split
  · omega
  · exact szG_bd szR_ok g.next _ (by unfold szSts; omega)
/-- how many numbers are in it -/
def cSt (t : S2) : Int := t.locs.length + t.vals.length
def cR (t : List Int) : Int := t.length
def cG (g : G2) : Int := g.states.length + sumC cSt g.states + g.next.length + sumC cR g.next
theorem cSt_nonneg (t : S2) : 0 ≤ cSt t := by unfold cSt; omega
theorem cR_nonneg (t : List Int) : 0 ≤ cR t := by unfold cR; omega
theorem szI_eq (t : List Int) (left : Int) (_ : -1 ≤ left) (h2 : left ≤ 1048576) (h : 0 ≤ szI t left) : szI t left = left - cR t := by
  unfold szI at h ⊢
  split at h
  · omega
  · rename_i h3; rw [if_neg h3]; rfl
theorem szSt_eq (t : S2) (left : Int) (h1 : -1 ≤ left) (h2 : left ≤ 1048576) (h : 0 ≤ szSt t left) : szSt t left = left - cSt t := by
  unfold szSt State.szP at h ⊢
  split at h
  · omega
  · rename_i h3
    have hb := szI_bd (l := t.locs) h2
    rw [if_neg h3, szI_eq t.vals _ hb.1 hb.2 h, szI_eq t.locs left h1 h2 (by omega)]
    unfold cR cSt; omega
/-- a graph not too large -/
structure SmallG (g : G2) : Prop where
  states : g.states.length ≤ 1048576
  next : g.next.length ≤ 1048576
  st : ∀ t, t ∈ g.states → t.locs.length ≤ 1048576 ∧ t.vals.length ≤ 1048576
  ro : ∀ t, t ∈ g.next → t.length ≤ 1048576
  all : cG g ≤ 1048576
theorem sum_mem {T : Type} {c : T → Int} (hc : ∀ t, 0 ≤ c t) : ∀ (l : List T) (t : T), t ∈ l → c t ≤ sumC c l
  | [], _, h => by cases h
  | u :: us, t, h => by
    have h1 := sumC_nonneg hc us
    have h2 := hc u
    simp only [sumC]
    cases h with
    | head => omega
    | tail _ h => have := sum_mem hc us t h; omega
theorem small_of_sz (g : G2) (h : 0 ≤ szGr g 1048576) : SmallG g := by
  unfold szGr at h
  split at h
  · omega
  · rename_i hi
    have hb := szG_bd szSt_ok g.states (1048576 - g.states.length) (by omega)
    have e1 := szG_eq szSt_ok szSt_eq g.states (1048576 - g.states.length) (by omega) (by unfold szSts at hi; omega)
    have e2 := szG_eq szR_ok szI_eq g.next (szSts g.states 1048576 - g.next.length) (by unfold szSts; omega) h
    have n1 := sumC_nonneg cSt_nonneg g.states
    have n2 := sumC_nonneg cR_nonneg g.next
    unfold szRs at h
    have ha : cG g ≤ 1048576 := by unfold szSts at e2 h; unfold cG; omega
    refine ⟨by unfold cG at ha; omega, by unfold cG at ha; omega, fun t ht => ?_, fun t ht => ?_, ha⟩
    · have h1 := sum_mem cSt_nonneg g.states t ht
      have h2 : cSt t = t.locs.length + t.vals.length := rfl
      unfold cG at ha; omega
    · have h1 := sum_mem cR_nonneg g.next t ht
      have h2 : cR t = t.length := rfl
      unfold cG at ha; omega

theorem pair_of {p : Nat → Prop} {w : World} {l m : List Int} {a a' : Option Addr} {n n' c c' : Nat} (h : RIn p w l (.slice a n c)) (h' : RIn p w m (.slice a' n' c')) : State.PairIn p w l m (.agg #[.slice a n c, .slice a' n' c']) := by
  obtain ⟨b, d, e, h1, h2, h3⟩ := h
  obtain ⟨b', d', e', h1', h2', h3'⟩ := h'
  simp at e e'
  obtain ⟨rfl, rfl, rfl⟩ := e
  obtain ⟨rfl, rfl, rfl⟩ := e'
  exact ⟨_, _, _, _, rfl, h3, h3', h1, h2, h1', h2'⟩

set_option maxHeartbeats 1000000 in
theorem szSts_any (l : List S2) (w : World) (a : Option Addr) (c : Nat) (left : Int) (hl : StsIn Any w l a) (h1 : left ≤ 1048576) (h2 : -1 ≤ left) (hc : l.length ≤ c) (hc2 : c ≤ maxLen) :
    Calls Try.prog 45 #[.slice a l.length c, .int .i64 left] w (Ret (.int .i64 (szSts l left)) w) := by
  unfold maxLen at hc2
  have f1 : IntKind.i64.wrap (left - (l.length : Int)) = left - l.length := IntWalk.i64_in _ (by omega)
  by_cases hneg : left - l.length < 0
  · go_enter Try.func45, Try.ntmps45
    go_wp2_with fail
    go_ret
    refine Ret.mk (int_val ?_) (Below.refl _ _)
    rw [szSts, szG_neg _ _ _ hneg]
  · go_enter Try.func45, Try.ntmps45
    go_wp2_with fail
    clear f1
    go_loopw [1, 5] (fun u i wr => ∃ (k : Nat) (lf : Int), k ≤ l.length ∧ u = .int .i64 lf ∧ i = .int .i64 k ∧ 0 ≤ lf ∧ lf ≤ 1048576 ∧ Below w.heap.size w wr ∧ Hid (szG szSt (l.drop k) lf = szSts l left))
      (fun _ i _ => l.length - (intOf i).toNat)
    case atStart => exact ⟨0, _, Nat.zero_le _, rfl, rfl, by omega, by omega, Below.refl _ _, hid rfl⟩
    case round =>
      obtain ⟨k, lf, hk, rfl, rfl, h0, h5, B, hr⟩ := hrel
      by_cases hlt : k < l.length
      · obtain ⟨b, o, a1, c1, a2, c2, rfl, hb, _, g0, g1, hr1, hr2v⟩ := sts_at (hl.below B) hlt
        have hr2 := hr.out
        rw [List.drop_eq_getElem_cons hlt] at hr2
        simp only [szG] at hr2
        rw [if_neg (by omega)] at hr2
        have HR := hid hr2
        have hlt2 : (k : Int) < (l.length : Int) := by omega
        have HT := hid (pair_of hr1 hr2v)
        have HC := hid (fun (W : World) (hh : State.PairIn Any W l[k].locs l[k].vals (.agg #[.slice a1 l[k].locs.length c1, .slice a2 l[k].vals.length c2])) => show Calls Try.prog 75 #[.agg #[.slice a1 l[k].locs.length c1, .slice a2 l[k].vals.length c2], .int .i64 lf] W (Ret (.int .i64 (szSt l[k] lf)) W) from State.sz_any _ _ W _ lf hh h5 (by omega))
        clear hr1 hr2v
        clear hr hr2
        generalize l[k] = t at *
        go_wp2_with fail
        refine (HC.out _ HT.out).mono ?_
        rintro e w2 ⟨rfl, hby⟩
        have hbd := szSt_ok t lf (by omega) h5
        replace B := below_next B hby
        clear hby
        by_cases hn : szSt t lf < 0
        · have E := hid (show -1 = szSts l left by rw [← HR.out, szG_neg _ _ _ hn])
          go_wp2_with fail
          go_ret
          exact Ret.mk (int_val E.out) B
        · go_wp2_with fail
          go_roundw
          case rel => exact ⟨k + 1, _, by omega, rfl, by go_num, by omega, by omega, B, HR⟩
          case measure => simp [intOf]; omega
      · have HR := hid (show lf = szSts l left by
          rw [← hr.out, List.drop_of_length_le (by omega)]
          simp only [szG]
          rw [if_neg (by omega)])
        have hlt2 : ¬ ((k : Int) < (l.length : Int)) := by omega
        clear hr
        go_wp2_with fail
        go_ret
        exact Ret.mk (int_val HR.out) B

set_option maxHeartbeats 1000000 in
theorem szRs_any (l : List (List Int)) (w : World) (a : Option Addr) (c : Nat) (left : Int) (hl : RowsIn Any w l a) (h1 : left ≤ 1048576) (h2 : -1 ≤ left) (hc : l.length ≤ c) (hc2 : c ≤ maxLen) :
    Calls Try.prog 46 #[.slice a l.length c, .int .i64 left] w (Ret (.int .i64 (szRs l left)) w) := by
  unfold maxLen at hc2
  have f1 : IntKind.i64.wrap (left - (l.length : Int)) = left - l.length := IntWalk.i64_in _ (by omega)
  by_cases hneg : left - l.length < 0
  · go_enter Try.func46, Try.ntmps46
    go_wp2_with fail
    go_ret
    refine Ret.mk (int_val ?_) (Below.refl _ _)
    rw [szRs, szG_neg _ _ _ hneg]
  · go_enter Try.func46, Try.ntmps46
    go_wp2_with fail
    clear f1
    go_loopw [1, 5] (fun u i wr => ∃ (k : Nat) (lf : Int), k ≤ l.length ∧ u = .int .i64 lf ∧ i = .int .i64 k ∧ 0 ≤ lf ∧ lf ≤ 1048576 ∧ Below w.heap.size w wr ∧ Hid (szG szI (l.drop k) lf = szRs l left))
      (fun _ i _ => l.length - (intOf i).toNat)
    case atStart => exact ⟨0, _, Nat.zero_le _, rfl, rfl, by omega, by omega, Below.refl _ _, hid rfl⟩
    case round =>
      obtain ⟨k, lf, hk, rfl, rfl, h0, h5, B, hr⟩ := hrel
      by_cases hlt : k < l.length
      · obtain ⟨b, o, a1, c1, rfl, hb, _, g0, k1, k2, hi⟩ := rows_at (hl.below B) hlt
        have hr2 := hr.out
        rw [List.drop_eq_getElem_cons hlt] at hr2
        simp only [szG] at hr2
        rw [if_neg (by omega)] at hr2
        have HR := hid hr2
        have hlt2 : (k : Int) < (l.length : Int) := by omega
        have HT := hid (And.intro (Nat.le_trans k1 k2) hi)
        clear hi k1 k2
        clear hr hr2
        generalize l[k] = t at *
        go_wp2_with fail
        refine (szIntS_any t _ a1 c1 lf HT.out.1 h5 (by omega)).mono ?_
        rintro e w2 ⟨rfl, hby⟩
        have hbd := szR_ok t lf (by omega) h5
        replace B := below_next B hby
        clear hby
        by_cases hn : szI t lf < 0
        · have E := hid (show -1 = szRs l left by rw [← HR.out, szG_neg _ _ _ hn])
          go_wp2_with fail
          go_ret
          exact Ret.mk (int_val E.out) B
        · go_wp2_with fail
          go_roundw
          case rel => exact ⟨k + 1, _, by omega, rfl, by go_num, by omega, by omega, B, HR⟩
          case measure => simp [intOf]; omega
      · have HR := hid (show lf = szRs l left by
          rw [← hr.out, List.drop_of_length_le (by omega)]
          simp only [szG]
          rw [if_neg (by omega)])
        have hlt2 : ¬ ((k : Int) < (l.length : Int)) := by omega
        clear hr
        go_wp2_with fail
        go_ret
        exact Ret.mk (int_val HR.out) B

set_option maxHeartbeats 1000000 in
theorem szGr_any (g : G2) (w : World) (x : Value) (left : Int) (hx : GrIn Any w g x) (h1 : left ≤ 1048576) (h2 : -1 ≤ left) : Calls Try.prog 13 #[x, .int .i64 left] w (Ret (.int .i64 (szGr g left)) w) := by
  obtain ⟨a, c, b, d, rfl, hc, hc2, hi, hd, hd2, hp⟩ := hx
  have h3 := szG_bd szSt_ok g.states (left - g.states.length) (by omega)
  have HG := hid (fun (W : World) (M : Below w.heap.size w W) => szSts_any g.states W a c left (hi.below M) h1 h2 hc hc2)
  have HV := hid (fun (W : World) (M : Below w.heap.size w W) => szRs_any g.next W b d (szSts g.states left) (hp.below M) h3.2 h3.1 hd hd2)
  have h4 := szG_bd szR_ok g.next (szSts g.states left - g.next.length) (by unfold szSts; omega)
  have E := hid (show szGr g left = if szSts g.states left < 0 then -1 else szRs g.next (szSts g.states left) from rfl)
  have h3' : -1 ≤ szSts g.states left ∧ szSts g.states left ≤ 1048576 := h3
  have h4' : -1 ≤ szRs g.next (szSts g.states left) := h4.1
  clear h3 h4 hi hp
  generalize szSts g.states left = q at *
  generalize szRs g.next q = v at *
  by_cases k1 : q < 0
  · have E2 := hid (show szGr g left = -1 by rw [E.out, if_pos k1])
    go_enter Try.func13, Try.ntmps13
    go_wp2_with fail
    refine (HG.out _ (by repeat (first | exact Below.refl _ _ | assumption | refine below_a ?_ _ | refine below_o ?_ _ | refine below_d ?_ | refine below_n ?_ _ | refine below_s ?_ (by first | (simp; done) | (simp; omega) | omega) _))).mono ?_
    rintro y w1 ⟨rfl, hb⟩
    go_wp2_with fail
    go_ret
    exact Ret.mk (int_val (by rw [E2.out])) (below_next (below_alloc _ _) hb)
  · have E2 := hid (show szGr g left = v by rw [E.out, if_neg k1])
    go_enter Try.func13, Try.ntmps13
    go_wp2_with fail
    refine (HG.out _ (by repeat (first | exact Below.refl _ _ | assumption | refine below_a ?_ _ | refine below_o ?_ _ | refine below_d ?_ | refine below_n ?_ _ | refine below_s ?_ (by first | (simp; done) | (simp; omega) | omega) _))).mono ?_
    rintro y w1 ⟨rfl, hb⟩
    obtain ⟨z, q0, q1, q2, q3⟩ := State.pbox_next hb (State.pbox_at rfl)
    have B := below_next (below_alloc _ _) hb
    clear hb
    go_wp2_with fail
    refine (HV.out _ B).mono ?_
    rintro y w2 ⟨rfl, hb⟩
    by_cases k2 : v < 0
    · go_wp2_with fail
      go_ret
      exact Ret.mk (int_val (by rw [E2.out]; omega)) (below_next B hb)
    · go_wp2_with fail
      go_ret
      exact Ret.mk (int_val (by rw [E2.out])) (below_next B hb)

def eqSt (t u : S2) : Bool := t.locs == u.locs && t.vals == u.vals
def eqR (t u : List Int) : Bool := t == u
def eqSts : List S2 → List S2 → Bool := eqG eqSt
def eqRs : List (List Int) → List (List Int) → Bool := eqG eqR
def eqGr (g h : G2) : Bool := eqSts g.states h.states && eqRs g.next h.next
theorem eqGr_refl (g : G2) : eqGr g g = true := by
  unfold eqGr eqSts eqRs
  rw [eqG_refl (fun t => by simp [eqSt]), eqG_refl (fun t => by simp [eqR])]; rfl

set_option maxRecDepth 100000 in
set_option maxHeartbeats 2000000 in
theorem eqSts_any (l m : List S2) (w : World) (a a' : Option Addr) (c c' : Nat) (hl : StsIn Any w l a) (hm : StsIn Any w m a') (hc : l.length ≤ c) (hc2 : c ≤ maxLen) (hc' : m.length ≤ c') (hc2' : c' ≤ maxLen) :
    Calls Try.prog 49 #[.slice a l.length c, .slice a' m.length c'] w (Ret (.bool (eqSts l m)) w) := by
  unfold maxLen at hc2 hc2'
  by_cases hn : l.length = m.length
  · have hn1 : l.length ≤ m.length := by omega
    have hn2 : m.length ≤ l.length := by omega
    have h3 : ((l.length : Int) != (m.length : Int)) = false := by rw [bne_eq_false_iff_eq]; omega
    clear hn
    go_enter Try.func49, Try.ntmps49
    go_wp2_with fail
    go_loopw [5] (fun i wr => ∃ k : Nat, k ≤ l.length ∧ i = .int .i64 k ∧ Below w.heap.size w wr ∧ Hid (eqG eqSt (l.drop k) (m.drop k) = eqSts l m)) (fun i _ => l.length - (intOf i).toNat)
    case atStart => exact ⟨0, Nat.zero_le _, rfl, Below.refl _ _, hid rfl⟩
    case round =>
      obtain ⟨k, hk, rfl, B, hr⟩ := hrel
      obtain ⟨wo, rfl⟩ : ∃ wo : World, wo = wr := ⟨_, rfl⟩
      by_cases hlt : k < l.length
      · have hltm : k < m.length := by omega
        obtain ⟨b, o, a1, c1, a2, c2, rfl, hb, _, g0, g1, hr1, hr2v⟩ := sts_at (hl.below B) hlt
        obtain ⟨b', o', a1', c1', a2', c2', rfl, hb', _, f0, f1, hr1', hr2v'⟩ := sts_at (hm.below B) hltm
        have HR2 := hid (show eqSts l m = (eqSt l[k] m[k] && eqG eqSt (l.drop (k + 1)) (m.drop (k + 1))) from eqG_drop hlt hltm hr.out)
        have HT := hid (pair_of hr1 hr2v)
        have HU := hid (pair_of hr1' hr2v')
        have HC := hid (fun (W : World) (hh : State.PairIn Any W l[k].locs l[k].vals (.agg #[.slice a1 l[k].locs.length c1, .slice a2 l[k].vals.length c2])) (hh' : State.PairIn Any W m[k].locs m[k].vals (.agg #[.slice a1' m[k].locs.length c1', .slice a2' m[k].vals.length c2'])) => show Calls Try.prog 79 #[.agg #[.slice a1 l[k].locs.length c1, .slice a2 l[k].vals.length c2], .agg #[.slice a1' m[k].locs.length c1', .slice a2' m[k].vals.length c2']] W (Ret (.bool (eqSt l[k] m[k])) W) from State.eq_any _ _ _ _ W _ _ hh hh')
        clear hr1 hr2v hr1' hr2v'
        clear hr
        have hlt2 : (k : Int) < (l.length : Int) := by omega
        have hlt3 : (k : Int) < (m.length : Int) := by omega
        generalize l[k] = t at *
        generalize m[k] = u at *
        go_wp2_with fail
        refine wp_region_over (by kernel_rfl) (by kernel_rfl) ?_; (repeat (go_big_quiet_step ((go_at_call 79; exact Calls.over (HC.out _ (HT.out.below (over_below _ _)) (HU.out.below (over_below _ _))))))); refine wpQuiet_nil ?_; rintro _ ⟨xq, rfl⟩
        have hbd := below_next B (over_below wo xq)
        clear HT HU HC
        cases hq : eqSt t u with
        | true =>
          have HR3 := HR2.out
          rw [hq, Bool.true_and] at HR3
          have HR4 := hid HR3.symm
          clear HR3 hq
          go_wp2_with fail
          go_roundw
          case rel => exact ⟨k + 1, by omega, by go_num, hbd, HR4⟩
          case measure => simp [intOf]; omega
        | false =>
          have HR3 := HR2.out
          rw [hq, Bool.false_and] at HR3
          have HR4 := hid HR3
          clear HR3 hq
          go_wp2_with fail
          go_ret
          exact Ret.mk (bool_val HR4.out.symm) hbd
      · have hr2 := hr.out
        rw [List.drop_of_length_le (by omega), List.drop_of_length_le (by omega)] at hr2
        have HR2 := hid (show true = eqSts l m from hr2); clear hr2
        have hlt2 : ¬ ((k : Int) < (l.length : Int)) := by omega
        go_wp2_with fail
        go_ret
        exact Ret.mk (bool_val HR2.out) B
  · have E1 := hid (eqG_len eqSt l m hn)
    have h3 : ((l.length : Int) != (m.length : Int)) = true := by rw [bne_iff_ne]; omega
    go_enter Try.func49, Try.ntmps49
    go_wp2_with fail
    go_ret
    exact Ret.mk (bool_val (by rw [eqSts, E1.out])) (Below.refl _ _)

set_option maxRecDepth 100000 in
set_option maxHeartbeats 2000000 in
theorem eqRs_any (l m : List (List Int)) (w : World) (a a' : Option Addr) (c c' : Nat) (hl : RowsIn Any w l a) (hm : RowsIn Any w m a') (hc : l.length ≤ c) (hc2 : c ≤ maxLen) (hc' : m.length ≤ c') (hc2' : c' ≤ maxLen) :
    Calls Try.prog 50 #[.slice a l.length c, .slice a' m.length c'] w (Ret (.bool (eqRs l m)) w) := by
  unfold maxLen at hc2 hc2'
  by_cases hn : l.length = m.length
  · have hn1 : l.length ≤ m.length := by omega
    have hn2 : m.length ≤ l.length := by omega
    have h3 : ((l.length : Int) != (m.length : Int)) = false := by rw [bne_eq_false_iff_eq]; omega
    clear hn
    go_enter Try.func50, Try.ntmps50
    go_wp2_with fail
    go_loopw [5] (fun i wr => ∃ k : Nat, k ≤ l.length ∧ i = .int .i64 k ∧ Below w.heap.size w wr ∧ Hid (eqG eqR (l.drop k) (m.drop k) = eqRs l m)) (fun i _ => l.length - (intOf i).toNat)
    case atStart => exact ⟨0, Nat.zero_le _, rfl, Below.refl _ _, hid rfl⟩
    case round =>
      obtain ⟨k, hk, rfl, B, hr⟩ := hrel
      obtain ⟨wo, rfl⟩ : ∃ wo : World, wo = wr := ⟨_, rfl⟩
      by_cases hlt : k < l.length
      · have hltm : k < m.length := by omega
        obtain ⟨b, o, a1, c1, rfl, hb, _, g0, k1, k2, hi⟩ := rows_at (hl.below B) hlt
        obtain ⟨b', o', a1', c1', rfl, hb', _, f0, k1', k2', hi'⟩ := rows_at (hm.below B) hltm
        have HR2 := hid (show eqRs l m = (eqR l[k] m[k] && eqG eqR (l.drop (k + 1)) (m.drop (k + 1))) from eqG_drop hlt hltm hr.out)
        have HT := hid hi
        have HU := hid hi'
        have HC := hid (fun (W : World) (hh : IntsIn Any W a1 l[k]) (hh' : IntsIn Any W a1' m[k]) => show Calls Try.prog 16 #[.slice a1 l[k].length c1, .slice a1' m[k].length c1'] W (Ret (.bool (eqR l[k] m[k])) W) from eqIntS_any _ _ W a1 a1' c1 c1' hh hh' k1 k2 k1' k2')
        clear hi hi' k1 k2 k1' k2'
        clear hr
        have hlt2 : (k : Int) < (l.length : Int) := by omega
        have hlt3 : (k : Int) < (m.length : Int) := by omega
        generalize l[k] = t at *
        generalize m[k] = u at *
        go_wp2_with fail
        refine wp_region_over (by kernel_rfl) (by kernel_rfl) ?_; (repeat (go_big_quiet_step ((go_at_call 16; exact Calls.over (HC.out _ (HT.out.below (over_below _ _)) (HU.out.below (over_below _ _))))))); refine wpQuiet_nil ?_; rintro _ ⟨xq, rfl⟩
        have hbd := below_next B (over_below wo xq)
        clear HT HU HC
        cases hq : eqR t u with
        | true =>
          have HR3 := HR2.out
          rw [hq, Bool.true_and] at HR3
          have HR4 := hid HR3.symm
          clear HR3 hq
          go_wp2_with fail
          go_roundw
          case rel => exact ⟨k + 1, by omega, by go_num, hbd, HR4⟩
          case measure => simp [intOf]; omega
        | false =>
          have HR3 := HR2.out
          rw [hq, Bool.false_and] at HR3
          have HR4 := hid HR3
          clear HR3 hq
          go_wp2_with fail
          go_ret
          exact Ret.mk (bool_val HR4.out.symm) hbd
      · have hr2 := hr.out
        rw [List.drop_of_length_le (by omega), List.drop_of_length_le (by omega)] at hr2
        have HR2 := hid (show true = eqRs l m from hr2); clear hr2
        have hlt2 : ¬ ((k : Int) < (l.length : Int)) := by omega
        go_wp2_with fail
        go_ret
        exact Ret.mk (bool_val HR2.out) B
  · have E1 := hid (eqG_len eqR l m hn)
    have h3 : ((l.length : Int) != (m.length : Int)) = true := by rw [bne_iff_ne]; omega
    go_enter Try.func50, Try.ntmps50
    go_wp2_with fail
    go_ret
    exact Ret.mk (bool_val (by rw [eqRs, E1.out])) (Below.refl _ _)

set_option maxHeartbeats 1000000 in
theorem eqGr_any (g h : G2) (w : World) (x y : Value) (hx : GrIn Any w g x) (hy : GrIn Any w h y) : Calls Try.prog 17 #[x, y] w (Ret (.bool (eqGr g h)) w) := by
  obtain ⟨a, c, b, d, rfl, hc, hc2, hi, hd, hd2, hp⟩ := hx
  obtain ⟨a', c', b', d', rfl, hc', hc2', hi', hd', hd2', hp'⟩ := hy
  have HG := hid (fun (W : World) (M : Below w.heap.size w W) => eqSts_any g.states h.states W a a' c c' (hi.below M) (hi'.below M) hc hc2 hc' hc2')
  have HV := hid (fun (W : World) (M : Below w.heap.size w W) => eqRs_any g.next h.next W b b' d d' (hp.below M) (hp'.below M) hd hd2 hd' hd2')
  have E := hid (show eqGr g h = (eqSts g.states h.states && eqRs g.next h.next) from rfl)
  generalize eqGr g h = r at *
  generalize eqSts g.states h.states = q at *
  generalize eqRs g.next h.next = v at *
  go_enter Try.func17, Try.ntmps17
  go_wp2_with fail
  refine (HG.out _ (by repeat (first | exact Below.refl _ _ | assumption | refine below_a ?_ _ | refine below_o ?_ _ | refine below_d ?_ | refine below_n ?_ _ | refine below_s ?_ (by first | (simp; done) | (simp; omega) | omega) _))).mono ?_
  rintro y w1 ⟨rfl, hb⟩
  obtain ⟨z, q0, q1, q2, q3⟩ := State.pbox_next hb (State.pbox_next (below_alloc _ _) (State.pbox_at rfl))
  obtain ⟨z', r0, r1, r2, r3⟩ := State.pbox_next hb (State.pbox_at (B := w.heap.size + 1) (by simp))
  have B := below_next (below_next (below_alloc _ _) (below_alloc _ _)) hb
  clear hb
  cases q
  · go_wp2_with fail
    go_ret
    exact Ret.mk (bool_val (by rw [E.out]; rfl)) B
  · go_wp2_with fail
    refine (HV.out _ B).mono ?_
    rintro y w2 ⟨rfl, hb⟩
    cases v
    · go_wp2_with fail
      go_ret
      exact Ret.mk (bool_val (by rw [E.out]; rfl)) (below_next B hb)
    · go_wp2_with fail
      go_ret
      exact Ret.mk (bool_val (by rw [E.out]; rfl)) (below_next B hb)
end Gr
end Go.Proofs.Ytfemikebklmlpaa
namespace Go.Proofs.Ytfemikebklmlpaa
open Go.RowKit
set_option linter.unusedVariables false
set_option linter.unusedSimpArgs false
namespace Gr

/-- blocks from B on that nothing freezes -/
def Fr (B : Nat) (w : World) (b : Nat) : Prop := B ≤ b ∧ ∀ i, w.frozen? ⟨b, i, none⟩ = false
theorem Fr.kept {B B' : Nat} {w w' : World} {b : Nat} (h : Fr B w b) (hB : B' ≤ B) (he : w'.heap[b]? = w.heap[b]?) : Fr B' w' b :=
  ⟨Nat.le_trans hB h.1, fun i => by rw [World.frozen?_of_block (w := w) (a := ⟨b, i, none⟩) he]; exact h.2 i⟩
/-- a row of records of m cells in block R, of which the first k are laid -/
def FillS {T : Type} (At : (Nat → Prop) → World → T → Nat → Nat → Prop) (m : Nat) (w : World) (R : Nat) (l : List T) (k : Nat) (wr : World) : Prop :=
  Below w.heap.size w wr ∧ w.heap.size ≤ R ∧ (∃ g, Row wr R (l.length * m) g) ∧ ∀ j t, j < k → l[j]? = some t → At (Fr (R + 1) wr) wr t R (j * m)
theorem row_rin {B R : Nat} {w : World} {l : List Int} (h : Row w R l.length (fun i => .int .i64 (l.getD i 0))) (hB : B ≤ R) (hi : ∀ n, n ∈ l → i64 n) (hl : l.length ≤ maxLen) : RIn (Fr B w) w l (.slice (some ⟨R, 0, none⟩) l.length l.length) :=
  ⟨_, _, rfl, Nat.le_refl _, hl, h.ints hi ⟨hB, h.2.2⟩⟩
theorem RIn.keepFr {B B' : Nat} {l : List Int} {v : Value} {w w' : World} (h : RIn (Fr B w) w l v) (hB : B' ≤ B) (hs : w.heap.size ≤ w'.heap.size) (hk : ∀ b, B ≤ b → b < w.heap.size → w'.heap[b]? = w.heap[b]?) : RIn (Fr B' w') w' l v :=
  h.frame hs fun b h1 h2 => ⟨h1.kept hB (hk b h1.1 h2), hk b h1.1 h2⟩
theorem StsIn.keepFr {B B' : Nat} {l : List S2} {a : Option Addr} {w w' : World} (h : StsIn (Fr B w) w l a) (hB : B' ≤ B) (hs : w.heap.size ≤ w'.heap.size) (hk : ∀ b, B ≤ b → b < w.heap.size → w'.heap[b]? = w.heap[b]?) : StsIn (Fr B' w') w' l a :=
  StsIn.frame h hs fun b h1 h2 => ⟨h1.kept hB (hk b h1.1 h2), hk b h1.1 h2⟩
theorem RowsIn.keepFr {B B' : Nat} {l : List (List Int)} {a : Option Addr} {w w' : World} (h : RowsIn (Fr B w) w l a) (hB : B' ≤ B) (hs : w.heap.size ≤ w'.heap.size) (hk : ∀ b, B ≤ b → b < w.heap.size → w'.heap[b]? = w.heap[b]?) : RowsIn (Fr B' w') w' l a :=
  RowsIn.frame h hs fun b h1 h2 => ⟨h1.kept hB (hk b h1.1 h2), hk b h1.1 h2⟩
/-- what copies come to -/
def NewSts (B : Nat) (l : List S2) (v : Value) (w : World) : Prop := ∃ a c, v = .slice a l.length c ∧ l.length ≤ c ∧ c ≤ maxLen ∧ StsIn (Fr B w) w l a
def NewRs (B : Nat) (l : List (List Int)) (v : Value) (w : World) : Prop := ∃ a c, v = .slice a l.length c ∧ l.length ≤ c ∧ c ≤ maxLen ∧ RowsIn (Fr B w) w l a
def NewGr (B : Nat) (g : G2) (v : Value) (w : World) : Prop := GrIn (Fr B w) w g v

theorem fillSt_step {w wr w2 : World} {R k : Nat} {l : List S2} {t : S2} {a : Option Addr} {c : Nat} {a' : Option Addr} {c' : Nat} (h : FillS StAt 2 w R l k wr) (ht : l[k]? = some t) (hb : Below wr.heap.size wr w2) (hn : RIn (Fr wr.heap.size w2) w2 t.locs (.slice a t.locs.length c)) (hn2 : RIn (Fr wr.heap.size w2) w2 t.vals (.slice a' t.vals.length c')) :
    FillS StAt 2 w R l (k + 1) (setAll w2 R (k * 2) [.slice a t.locs.length c, .slice a' t.vals.length c']) := by
  obtain ⟨h1, h2, ⟨g, hr⟩, h4⟩ := h
  have hk : k < l.length := (List.getElem?_eq_some_iff.1 ht).1
  have hr2 := hr.below hb
  have hex : ∀ i, i < 2 → ∃ u, w2.cell? ⟨R, k * 2 + i, none⟩ = some u := fun i hi => ⟨_, hr2.2.1 _ (by omega)⟩
  generalize hvs : ([.slice a t.locs.length c, .slice a' t.vals.length c'] : List Value) = vs
  have hlen : vs.length = 2 := by rw [← hvs]; rfl
  have hS : SetIn R (k * 2) (k * 2 + 2) w2 (setAll w2 R (k * 2) vs) := setAll_in vs w2 w2 R _ _ _ (SetIn.refl ..) (Nat.le_refl _) (by omega)
  have hC := setAll_cell vs w2 R (k * 2) (by rw [hlen]; exact hex)
  have hsz : wr.heap.size ≤ (setAll w2 R (k * 2) vs).heap.size := by rw [hS.size]; exact hb.size
  have hfr : ∀ b, Fr (R + 1) wr b → b < wr.heap.size → Fr (R + 1) (setAll w2 R (k * 2) vs) b ∧ (setAll w2 R (k * 2) vs).heap[b]? = wr.heap[b]? := fun b hb1 hb2 => by
    have e : (setAll w2 R (k * 2) vs).heap[b]? = wr.heap[b]? := by rw [hS.block b (by have := hb1.1; omega)]; exact hb.block b hb2
    exact ⟨hb1.kept (Nat.le_refl _) e, e⟩
  refine ⟨(below_then h1 hb h1.size).trans (hS.below h2), h2, hr2.setIn hS fun i hi1 hi2 => ?_, fun j u hj hu => ?_⟩
  · obtain ⟨d, rfl⟩ : ∃ d, i = k * 2 + d := ⟨i - k * 2, by omega⟩
    exact ⟨_, hC d _ (List.getElem?_eq_getElem (by omega))⟩
  · by_cases e : j = k
    · subst e
      obtain rfl : t = u := by rw [ht] at hu; simpa using hu
      have hk2 : ∀ b, wr.heap.size ≤ b → b < w2.heap.size → (setAll w2 R (j * 2) vs).heap[b]? = w2.heap[b]? := fun b hb1 _ => hS.block b (by have := hr.1; omega)
      have hs2 : w2.heap.size ≤ (setAll w2 R (j * 2) vs).heap.size := by rw [hS.size]; exact Nat.le_refl _
      subst hvs
      have hRl := hr.1
      exact ⟨a, c, a', c', ⟨hC 0 _ rfl, hC 1 _ rfl⟩, hn.keepFr (by omega) hs2 hk2, hn2.keepFr (by omega) hs2 hk2⟩
    · refine (h4 j u (by omega) hu).cells hsz (fun i hi => by rw [hS.cell _ (by omega)]; exact hb.cell (p := ⟨R, j * 2 + i, none⟩) hr.1) hfr

theorem fillRo_step {w wr w2 : World} {R k : Nat} {l : List (List Int)} {t : (List Int)} {a : Option Addr} {c : Nat} (h : FillS RoAt 1 w R l k wr) (ht : l[k]? = some t) (hb : Below wr.heap.size wr w2) (hn : RIn (Fr wr.heap.size w2) w2 t (.slice a t.length c)) :
    FillS RoAt 1 w R l (k + 1) (setAll w2 R (k * 1) [.slice a t.length c]) := by
  obtain ⟨h1, h2, ⟨g, hr⟩, h4⟩ := h
  have hk : k < l.length := (List.getElem?_eq_some_iff.1 ht).1
  have hr2 := hr.below hb
  have hex : ∀ i, i < 1 → ∃ u, w2.cell? ⟨R, k * 1 + i, none⟩ = some u := fun i hi => ⟨_, hr2.2.1 _ (by omega)⟩
  generalize hvs : ([.slice a t.length c] : List Value) = vs
  have hlen : vs.length = 1 := by rw [← hvs]; rfl
  have hS : SetIn R (k * 1) (k * 1 + 1) w2 (setAll w2 R (k * 1) vs) := setAll_in vs w2 w2 R _ _ _ (SetIn.refl ..) (Nat.le_refl _) (by omega)
  have hC := setAll_cell vs w2 R (k * 1) (by rw [hlen]; exact hex)
  have hsz : wr.heap.size ≤ (setAll w2 R (k * 1) vs).heap.size := by rw [hS.size]; exact hb.size
  have hfr : ∀ b, Fr (R + 1) wr b → b < wr.heap.size → Fr (R + 1) (setAll w2 R (k * 1) vs) b ∧ (setAll w2 R (k * 1) vs).heap[b]? = wr.heap[b]? := fun b hb1 hb2 => by
    have e : (setAll w2 R (k * 1) vs).heap[b]? = wr.heap[b]? := by rw [hS.block b (by have := hb1.1; omega)]; exact hb.block b hb2
    exact ⟨hb1.kept (Nat.le_refl _) e, e⟩
  refine ⟨(below_then h1 hb h1.size).trans (hS.below h2), h2, hr2.setIn hS fun i hi1 hi2 => ?_, fun j u hj hu => ?_⟩
  · obtain ⟨d, rfl⟩ : ∃ d, i = k * 1 + d := ⟨i - k * 1, by omega⟩
    exact ⟨_, hC d _ (List.getElem?_eq_getElem (by omega))⟩
  · by_cases e : j = k
    · subst e
      obtain rfl : t = u := by rw [ht] at hu; simpa using hu
      have hk2 : ∀ b, wr.heap.size ≤ b → b < w2.heap.size → (setAll w2 R (j * 1) vs).heap[b]? = w2.heap[b]? := fun b hb1 _ => hS.block b (by have := hr.1; omega)
      have hs2 : w2.heap.size ≤ (setAll w2 R (j * 1) vs).heap.size := by rw [hS.size]; exact Nat.le_refl _
      subst hvs
      have hRl := hr.1
      exact ⟨a, c, hC 0 _ rfl, hn.keepFr (by omega) hs2 hk2⟩
    · refine (h4 j u (by omega) hu).cells hsz (by rw [hS.cell _ (by omega)]; exact hb.cell (p := ⟨R, j * 1, none⟩) hr.1) hfr

theorem infoSt : (Try.prog.info? 91).map (fun i => (i.zero, i.size, i.bytes)) = some (some (.agg #[.slice none 0 0, .slice none 0 0]), 2, 48) := by kernel_rfl
def zerosSt (n : Nat) : Array Value := madeCells #[.slice none 0 0, .slice none 0 0] (n * 2)
theorem make_sts (n : Nat) (h : n ≤ 1048576) (w : World) : (Instr.makeSlice 23 (.int .i64 (n : Int)) (.int .i64 (n : Int))).run Try.prog w =
    .ok (.slice (some ⟨w.heap.size, 0, none⟩) n n) (w.alloc (.cells (zerosSt n) 91)) := by
  obtain ⟨i, hi, hz, h1, h2⟩ := info_parts infoSt
  have := run_make (P := Try.prog) w 23 91 i _ Try.underlying23 hi hz .i64 .i64 n n (by omega) (by omega) (by rw [h2]; omega) (by omega)
  rw [this, h1]
  simp [zerosSt, Value.cells]

theorem infoRo : (Try.prog.info? 30).map (fun i => (i.zero, i.size, i.bytes)) = some (some (.slice none 0 0), 1, 24) := by kernel_rfl
def zerosRo (n : Nat) : Array Value := madeCells #[.slice none 0 0] (n)
theorem make_ros (n : Nat) (h : n ≤ 1048576) (w : World) : (Instr.makeSlice 24 (.int .i64 (n : Int)) (.int .i64 (n : Int))).run Try.prog w =
    .ok (.slice (some ⟨w.heap.size, 0, none⟩) n n) (w.alloc (.cells (zerosRo n) 30)) := by
  obtain ⟨i, hi, hz, h1, h2⟩ := info_parts infoRo
  have := run_make (P := Try.prog) w 24 30 i _ Try.underlying24 hi hz .i64 .i64 n n (by omega) (by omega) (by rw [h2]; omega) (by omega)
  rw [this, h1]
  simp [zerosRo, Value.cells]

set_option maxRecDepth 100000 in
set_option maxHeartbeats 2000000 in
theorem toSts_any (l : List S2) (w : World) (a : Option Addr) (c : Nat) (hl : StsIn Any w l a) (hlen : l.length ≤ 1048576) (hs : ∀ t, t ∈ l → t.locs.length ≤ 1048576 ∧ t.vals.length ≤ 1048576) (hc : l.length ≤ c) (hc2 : c ≤ maxLen) :
    Calls Try.prog 47 #[.slice a l.length c] w (RetP (NewSts w.heap.size l) w) := by
  have hmk := make_sts l.length hlen
  unfold maxLen at hc2
  go_enter Try.func47, Try.ntmps47
  go_wp2_with fail
  go_loopw [4] (fun i wr => ∃ (k : Nat), k ≤ l.length ∧ i = .int .i64 k ∧ Hid (FillS StAt 2 w w.heap.size l k wr)) (fun i _ => l.length - (intOf i).toNat)
  case atStart => exact ⟨0, Nat.zero_le _, rfl, hid ⟨below_alloc _ _, Nat.le_refl _, ⟨_, row_new (by rw [zerosSt, size_madeCells]) _⟩, by omega⟩⟩
  case round =>
    obtain ⟨k, hk, rfl, hf⟩ := hrel
    by_cases hlt : k < l.length
    · obtain ⟨b, o, a1, c1, a2, c2, rfl, hb, _, g0, g1, hr1, hr2v⟩ := sts_at (hl.below hf.out.1) hlt
      have ht := hid (List.getElem?_eq_getElem hlt)
      have HS := hid (hs l[k] (List.getElem_mem hlt))
      have HT := hid (pair_of hr1 hr2v)
      have HI1 := hid (show ∀ n, n ∈ l[k].locs → i64 n from by obtain ⟨_, _, _, _, _, h⟩ := hr1; exact h.2)
      have HI2 := hid (show ∀ n, n ∈ l[k].vals → i64 n from by obtain ⟨_, _, _, _, _, h⟩ := hr2v; exact h.2)
      clear hr1 hr2v
      have hlt2 : (k : Int) < (l.length : Int) := by omega
      generalize l[k] = t at *
      go_wp2_with fail
      refine (State.to_any t.locs t.vals _ _ HT.out HS.out.1 HS.out.2).mono ?_
      rintro e w2 ⟨v, rfl, ⟨R1, R2, rfl, hR1, hR2, hrow1, hrow2⟩, hby⟩
      have HN1 := hid (row_rin hrow1 hR1 HI1.out (by have := HS.out.1; unfold maxLen; omega))
      have HN2 := hid (row_rin hrow2 (B := wr.heap.size) (by omega) HI2.out (by have := HS.out.2; unfold maxLen; omega))
      clear hrow1 hrow2
      have HF := hid (fillSt_step hf.out ht.out hby HN1.out HN2.out)
      obtain ⟨_, _, ⟨g, hrow⟩, _⟩ := hf.out
      have hrow2 := hrow.below hby
      have q0 := hrow2.2.1 (k * 2) (by omega)
      have q1 := hrow2.2.1 (k * 2 + 1) (by omega)
      have qf := hrow2.2.2
      have ql := hrow2.1
      clear hrow hrow2 hby hf HT HN1 HN2 g0 g1 HI1 HI2
      go_wp2_with fail
      go_roundw
      case rel => exact ⟨k + 1, by omega, by go_num, hid HF.out⟩
      case measure => simp [intOf]; omega
    · have hfin := hid (show NewSts w.heap.size l (.slice (some ⟨w.heap.size, 0, none⟩) l.length l.length) wr from by
        obtain ⟨h1, h2, ⟨g, hr⟩, h4⟩ := hf.out
        refine ⟨_, _, rfl, Nat.le_refl _, by unfold maxLen; omega, ?_⟩
        by_cases h0 : l = []
        · exact .inl h0
        · refine .inr ⟨_, 0, rfl, ⟨Nat.le_refl _, hr.2.2⟩, hr.1, fun i t ht => ?_⟩
          rw [Nat.zero_add]
          exact (h4 i t (by have := (List.getElem?_eq_some_iff.1 ht).1; omega) ht).cells (Nat.le_refl _) (fun _ _ => rfl) fun b hb _ => ⟨hb.kept (by omega) rfl, rfl⟩)
      have hB := hid hf.out.1
      have hlt2 : ¬ ((k : Int) < (l.length : Int)) := by omega
      clear hf
      go_wp2_with fail
      go_ret
      exact RetP.mk hfin.out hB.out

set_option maxRecDepth 100000 in
set_option maxHeartbeats 2000000 in
theorem toRs_any (l : List (List Int)) (w : World) (a : Option Addr) (c : Nat) (hl : RowsIn Any w l a) (hlen : l.length ≤ 1048576) (hs : ∀ t, t ∈ l → t.length ≤ 1048576) (hc : l.length ≤ c) (hc2 : c ≤ maxLen) :
    Calls Try.prog 48 #[.slice a l.length c] w (RetP (NewRs w.heap.size l) w) := by
  have hmk := make_ros l.length hlen
  unfold maxLen at hc2
  go_enter Try.func48, Try.ntmps48
  go_wp2_with fail
  go_loopw [4] (fun i wr => ∃ (k : Nat), k ≤ l.length ∧ i = .int .i64 k ∧ Hid (FillS RoAt 1 w w.heap.size l k wr)) (fun i _ => l.length - (intOf i).toNat)
  case atStart => exact ⟨0, Nat.zero_le _, rfl, hid ⟨below_alloc _ _, Nat.le_refl _, ⟨_, row_new (by rw [zerosRo, size_madeCells]; simp) _⟩, by omega⟩⟩
  case round =>
    obtain ⟨k, hk, rfl, hf⟩ := hrel
    by_cases hlt : k < l.length
    · obtain ⟨b, o, a1, c1, rfl, hb, _, g0, k1, k2, hi⟩ := rows_at (hl.below hf.out.1) hlt
      have ht := hid (List.getElem?_eq_getElem hlt)
      have HS := hid (hs l[k] (List.getElem_mem hlt))
      have HT := hid (And.intro hi (And.intro k1 k2))
      have HI1 := hid (show ∀ n, n ∈ l[k] → i64 n from hi.2)
      clear hi k1 k2
      have hlt2 : (k : Int) < (l.length : Int) := by omega
      generalize l[k] = t at *
      go_wp2_with fail
      refine (toIntS_any t _ a1 c1 HT.out.1 HS.out HT.out.2.1 HT.out.2.2).mono ?_
      rintro e w2 ⟨v, rfl, ⟨rfl, hrow1⟩, hby⟩
      have HN1 := hid (row_rin hrow1 (Nat.le_refl _) HI1.out (by have := HS.out; unfold maxLen; omega))
      clear hrow1
      have HF := hid (fillRo_step hf.out ht.out hby HN1.out)
      obtain ⟨_, _, ⟨g, hrow⟩, _⟩ := hf.out
      have hrow2 := hrow.below hby
      have q0 := hrow2.2.1 k (by omega)
      have qf := hrow2.2.2
      have ql := hrow2.1
      clear hrow hrow2 hby hf HT HN1 g0 HI1
      go_wp2_with fail
      go_roundw
      case rel => exact ⟨k + 1, by omega, by go_num, hid (by have h9 := HF.out; rw [Nat.mul_one] at h9; exact h9)⟩
      case measure => simp [intOf]; omega
    · have hfin := hid (show NewRs w.heap.size l (.slice (some ⟨w.heap.size, 0, none⟩) l.length l.length) wr from by
        obtain ⟨h1, h2, ⟨g, hr⟩, h4⟩ := hf.out
        refine ⟨_, _, rfl, Nat.le_refl _, by unfold maxLen; omega, ?_⟩
        by_cases h0 : l = []
        · exact .inl h0
        · refine .inr ⟨_, 0, rfl, ⟨Nat.le_refl _, hr.2.2⟩, hr.1, fun i t ht => ?_⟩
          rw [Nat.zero_add]
          exact (h4 i t (by have := (List.getElem?_eq_some_iff.1 ht).1; omega) ht).cells (Nat.le_refl _) rfl fun b hb _ => ⟨hb.kept (by omega) rfl, rfl⟩)
      have hB := hid hf.out.1
      have hlt2 : ¬ ((k : Int) < (l.length : Int)) := by omega
      clear hf
      go_wp2_with fail
      go_ret
      exact RetP.mk hfin.out hB.out

set_option maxRecDepth 100000 in
set_option maxHeartbeats 2000000 in
theorem toGr_any (g : G2) (w : World) (x : Value) (hx : GrIn Any w g x) (hs : SmallG g) : Calls Try.prog 14 #[x] w (RetP (NewGr w.heap.size g) w) := by
  obtain ⟨a, c, b, d, rfl, hc, hc2, hi, hd, hd2, hp⟩ := hx
  have HG := hid (fun (w' : World) (M : Below w.heap.size w w') => toSts_any g.states w' a c (hi.below M) hs.states hs.st hc hc2)
  have HV := hid (fun (w' : World) (M : Below w.heap.size w w') => toRs_any g.next w' b d (hp.below M) hs.next hs.ro hd hd2)
  clear hi hp hs
  go_enter Try.func14, Try.ntmps14
  go_wp2_with fail
  refine (HG.out _ (by repeat (first | exact Below.refl _ _ | assumption | refine below_a ?_ _ | refine below_o ?_ _ | refine below_d ?_ | refine below_n ?_ _ | refine below_s ?_ (by first | (simp; done) | (simp; omega) | omega) _))).mono ?_
  rintro y w1 ⟨v1, rfl, ⟨a1, k1, rfl, e1, e2, hn1⟩, hb⟩
  have b1 := State.pbox_next hb (State.pbox_next (below_alloc _ _) (State.pbox_next (below_alloc _ _) (State.pbox_at (w := w) (a := .slice a g.states.length c) (b := .slice b g.next.length d) rfl)))
  have b2 := State.pbox_next hb (State.pbox_next (below_alloc _ _) (State.pbox_at (B := w.heap.size + 1) (by simp)))
  have b3 := State.pbox_next hb (State.pbox_at (B := w.heap.size + 1 + 1) (by simp))
  have B := below_next (show Below w.heap.size w _ from below_next (below_next (below_alloc _ _) (below_alloc _ _)) (below_alloc _ _)) hb
  clear hb
  simp only [World.size_alloc] at hn1
  obtain ⟨x0, x1, x2, x3, x4⟩ := id b1
  obtain ⟨y0, y1, y2, y3, y4⟩ := id b3
  have b2' := hid (State.pbox_set b2 (show w.heap.size + 1 ≠ w.heap.size + 1 + 1 by omega) 0 (.slice a1 g.states.length k1))
  have b3' := hid (State.pbox_set0 b3 (.slice a1 g.states.length k1))
  have r1' := hid (StsIn.keepFr (B' := w.heap.size + 1 + 1 + 1) (w' := w1.setCell ⟨w.heap.size + 1 + 1, 0, none⟩ (.slice a1 g.states.length k1)) hn1 (Nat.le_refl _) (by simp) fun q hq _ => Below.heap_setCell _ _ _ _ (show q ≠ w.heap.size + 1 + 1 by omega))
  have B' := hid (show Below w.heap.size w (w1.setCell ⟨w.heap.size + 1 + 1, 0, none⟩ (.slice a1 g.states.length k1)) from B.setCell (by simp; omega) _)
  have hsz := hid (show w.heap.size + 1 + 1 < w1.heap.size from b3.1)
  clear b1 b2 b3 hn1 B
  go_wp2_with fail
  clear x0 x1 x2 x3 x4 y0 y1 y2 y3 y4
  refine (HV.out _ B'.out).mono ?_
  rintro y w2 ⟨v2, rfl, ⟨a2, k2, rfl, f1, f2, hn2⟩, hb⟩
  have b2 := State.pbox_next hb b2'.out
  have b3 := State.pbox_next hb b3'.out
  have B := below_next B'.out hb
  have r1 := StsIn.keepFr (B' := w.heap.size + 1 + 1 + 1) r1'.out (Nat.le_refl _) hb.size fun q _ hl => hb.block q hl
  have hz1 := hsz.out
  simp only [World.size_setCell] at hn2
  clear b2' b3' r1' B' hb
  obtain ⟨x0, x1, x2, x3, x4⟩ := id b2
  obtain ⟨y0, y1, y2, y3, y4⟩ := id b3
  have T := hid (State.pbox_set1 (State.pbox_set0 (State.pbox_set b2 (show w.heap.size + 1 ≠ w.heap.size + 1 + 1 by omega) 1 (.slice a2 g.next.length k2)) (.slice a1 g.states.length k1)) (.slice a2 g.next.length k2))
  have hk : ∀ (u0 u1 u2 : Value) (q : Nat), w.heap.size + 1 + 1 + 1 ≤ q → (((w2.setCell ⟨w.heap.size + 1 + 1, 1, none⟩ u0).setCell ⟨w.heap.size + 1, 0, none⟩ u1).setCell ⟨w.heap.size + 1, 1, none⟩ u2).heap[q]? = w2.heap[q]? := fun u0 u1 u2 q hq =>
    (Below.heap_setCell _ _ _ _ (show q ≠ w.heap.size + 1 by omega)).trans ((Below.heap_setCell _ _ _ _ (show q ≠ w.heap.size + 1 by omega)).trans (Below.heap_setCell _ _ _ _ (show q ≠ w.heap.size + 1 + 1 by omega)))
  have HF := hid (fun (u0 u1 u2 : Value) => show NewGr w.heap.size g (.agg #[.slice a1 g.states.length k1, .slice a2 g.next.length k2]) (((w2.setCell ⟨w.heap.size + 1 + 1, 1, none⟩ u0).setCell ⟨w.heap.size + 1, 0, none⟩ u1).setCell ⟨w.heap.size + 1, 1, none⟩ u2) from
    ⟨a1, k1, a2, k2, rfl, e1, e2, r1.keepFr (by omega) (by simp) (fun q hq _ => hk u0 u1 u2 q hq), f1, f2, hn2.keepFr (by omega) (by simp) (fun q hq _ => hk u0 u1 u2 q (by omega))⟩)
  have HB := hid (fun (u0 u1 u2 : Value) => show Below w.heap.size w (((w2.setCell ⟨w.heap.size + 1 + 1, 1, none⟩ u0).setCell ⟨w.heap.size + 1, 0, none⟩ u1).setCell ⟨w.heap.size + 1, 1, none⟩ u2) from ((B.setCell (by simp; omega) _).setCell (by simp) _).setCell (by simp) _)
  clear b2 b3 r1 hn2 B hk
  go_wp2_with fail
  obtain ⟨_, t0, t1, _, _⟩ := T.out
  refine bodyPost_ret (v := .agg #[.slice a1 g.states.length k1, .slice a2 g.next.length k2]) (by simp [results, Try.results14, go_sem, t0, t1]) rfl ?_
  exact RetP.mk (HF.out _ _ _) (HB.out _ _ _)
end Gr
end Go.Proofs.Ytfemikebklmlpaa
