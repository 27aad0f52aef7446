/- FnEnabledSteps returns true for every argument. Conditions: none. -/
import Derived.Test.YtffadknollkgiaazDrawStV
import Derived.Test.YtffadknollkgiaazWpReady
import Derived.Test.YtffadknollkgiaazEnabV
set_option linter.unusedVariables false
set_option linter.unusedSimpArgs false
namespace Go.Proofs.Ytffadknollkgiaa
open Go.RowKit
open Go.Proofs.Ytffadknollkgiaa.State (PairIn)
open Go.Proofs.Ytffadknollkgiaa.Sys
set_option linter.unusedVariables false
set_option linter.unusedSimpArgs false

theorem fm_sorted {R : Stp → Stp → Prop} {f : Nat → List Stp} (h1 : ∀ x, (f x).Pairwise R) (h2 : ∀ x y a b, x < y → a ∈ f x → b ∈ f y → R a b) : ∀ n, (fm f n).Pairwise R
  | 0 => List.Pairwise.nil
  | n + 1 => by
    rw [fm, List.pairwise_append]
    refine ⟨fm_sorted h1 h2 n, h1 n, fun a ha b hb => ?_⟩
    obtain ⟨x, hx, hax⟩ := fm_mem n ha
    exact h2 x n a b hx hax hb
theorem one_p {s : Sy} {ls vs : List Int} {i k : Nat} {t : Stp} (h : t ∈ one s ls vs i k) : t.p = i := by
  unfold one at h
  split at h
  · unfold oneE at h
    split at h
    · cases h
    · split at h
      · simp at h; subst h; rfl
      · obtain ⟨j, hj, h⟩ := fm_mem _ h
        obtain ⟨m, hm, h⟩ := fm_mem _ h
        unfold cand at h
        split at h
        · unfold candE at h
          split at h
          · simp at h; subst h; rfl
          · cases h
        · cases h
  · cases h
theorem steps_sorted (s : Sy) (ls vs : List Int) (n : Nat) : (steps s ls vs n).Pairwise (fun a b => a.p ≤ b.p) := by
  refine fm_sorted (fun i => ?_) (fun x y a b hxy ha hb => ?_) n
  · exact List.pairwise_of_forall_mem_list (fun a ha b hb => by
      obtain ⟨_, _, ha⟩ := fm_mem _ ha
      obtain ⟨_, _, hb⟩ := fm_mem _ hb
      rw [one_p ha, one_p hb]
      exact Int.le_refl _)
  · obtain ⟨_, _, ha⟩ := fm_mem _ ha
    obtain ⟨_, _, hb⟩ := fm_mem _ hb
    rw [one_p ha, one_p hb]
    omega
theorem steps_ready {s : Sy} {ls vs : List Int} {t : Stp} (h : t ∈ steps s ls vs s.procs.length) :
    ∃ (i k : Nat) (hi : i < s.procs.length) (hk : k < s.procs[i].edges.length), t.p = i ∧ t.e = k ∧ rdy ls vs i s.procs[i].edges[k] = true ∧ (t.q = -1 ∨ ∃ (j m : Nat) (hj : j < s.procs.length) (hm : m < s.procs[j].edges.length), t.q = j ∧ t.f = m ∧ rdy ls vs j s.procs[j].edges[m] = true) := by
  obtain ⟨i, hi, h⟩ := fm_mem _ h
  obtain ⟨k, hk, h⟩ := fm_mem _ h
  rw [lenE_at hi] at hk
  rw [one, edge?_some hi hk] at h
  simp only [oneE] at h
  split at h
  · cases h
  · rename_i hnr
    have hr : rdy ls vs i s.procs[i].edges[k] = true := by
      by_cases hh : rdy ls vs i s.procs[i].edges[k] = true
      · exact hh
      · exact absurd (Or.inr (by simpa using hh)) hnr
    split at h
    · simp at h
      subst h
      exact ⟨i, k, hi, hk, rfl, rfl, hr, .inl rfl⟩
    · obtain ⟨j, hj, h⟩ := fm_mem _ h
      obtain ⟨m, hm, h⟩ := fm_mem _ h
      rw [lenE_at hj] at hm
      rw [cand, edge?_some hj hm] at h
      simp only [candE] at h
      split at h
      · rename_i hc
        simp at h
        subst h
        exact ⟨i, k, hi, hk, rfl, rfl, hr, .inr ⟨j, m, hj, hm, rfl, rfl, hc.2.2⟩⟩
      · cases h
theorem enab_facts {s : Sy} {ls vs : List Int} {t : Stp} (h : t ∈ enabS s ls vs) : State.okSt s ls vs = true ∧ t ∈ steps s ls vs s.procs.length := by
  unfold enabS at h
  split at h
  · rename_i hk; exact ⟨hk, h⟩
  · cases h
theorem enab_sorted (s : Sy) (ls vs : List Int) {i : Nat} (hi : i + 1 < (enabS s ls vs).length) : ((enabS s ls vs)[i]).p ≤ ((enabS s ls vs)[i + 1]).p := by
  have h : (enabS s ls vs).Pairwise (fun a b => a.p ≤ b.p) := by
    unfold enabS
    split
    · exact steps_sorted s ls vs _
    · exact List.Pairwise.nil
  exact List.pairwise_iff_getElem.1 h i (i + 1) (by omega) hi (by omega)
theorem enab_dead (s : Sy) (ls vs : List Int) : deadB s ls vs = (decide ((enabS s ls vs).length = 0) && State.okSt s ls vs) := by
  unfold deadB enabS
  by_cases h : State.okSt s ls vs = true
  · rw [if_pos h, h]; simp
  · rw [if_neg h, Bool.eq_false_iff.2 h]; simp
theorem StRow.at {B : Nat} {l : List Stp} {a : Option Addr} {n c : Nat} {w : World} (h : StRow B l (.slice a n c) w) {j : Nat} (hj : j < l.length) :
    ∃ g, a = some ⟨g, 0, none⟩ ∧ g < w.heap.size ∧ w.cell? ⟨g, j * 4, none⟩ = some (.int .i64 l[j].p) ∧ w.cell? ⟨g, j * 4 + 1, none⟩ = some (.int .i64 l[j].e) ∧ w.cell? ⟨g, j * 4 + 2, none⟩ = some (.int .i64 l[j].q) ∧ w.cell? ⟨g, j * 4 + 3, none⟩ = some (.int .i64 l[j].f) := by
  obtain ⟨a', c', e, _, _, h4⟩ := h
  simp at e
  obtain ⟨rfl, rfl, rfl⟩ := e
  rcases h4 with h | ⟨g, rfl, _, hg, hc, _⟩
  · rw [h] at hj; simp at hj
  · have hh : ∀ c u, c < 4 → (l[j].cells)[c]? = some u → w.cell? ⟨g, j * 4 + c, none⟩ = some u := fun c u h4 hu => hc (j * 4 + c) u (by rw [stCells_at l j c hj h4]; exact hu)
    exact ⟨g, rfl, hg, by simpa using hh 0 _ (by omega) rfl, hh 1 _ (by omega) rfl, hh 2 _ (by omega) rfl, hh 3 _ (by omega) rfl⟩
theorem StRow.below {B : Nat} {l : List Stp} {v : Value} {w w' : World} (h : StRow B l v w) (hb : Below w.heap.size w w') : StRow B l v w' := by
  obtain ⟨a, c, e, h1, h2, h3⟩ := h
  refine ⟨a, c, e, h1, h2, ?_⟩
  rcases h3 with h | ⟨g, h4, h5, h6, h7, h8⟩
  · exact .inl h
  · exact .inr ⟨g, h4, h5, Nat.lt_of_lt_of_le h6 hb.size, fun j u hj => by rw [hb.cell (p := ⟨g, j, none⟩) h6]; exact h7 j u hj, fun j => by rw [hb.frozen (p := ⟨g, j, none⟩) h6]; exact h8 j⟩

set_option maxRecDepth 100000 in
set_option maxHeartbeats 4000000 in
theorem walk_FnEnabledSteps (w : World) (a : Option Addr) (len cap : Nat) (hb : ByteArg w a len cap) : Calls Try.prog 9 #[.slice a len cap] w (Ret (.bool true) w) := by
  have hcap := hb.2.1
  have hcap1 := hb.1
  unfold maxLen at hcap
  by_cases hlen : len > 1048576
  · have hlen2 : (len : Int) > 1048576 := by omega
    go_enter Try.func9, Try.ntmps9
    go_wp2_with fail
    go_ret
    exact Ret.mk rfl (by repeat (first | exact Below.refl _ _ | assumption | refine below_a ?_ _ | refine below_o ?_ _ | refine below_d ?_ | refine below_n ?_ _ | refine below_s ?_ (by first | (simp; done) | (simp; omega) | omega) _))
  have hlen2 : ¬ ((len : Int) > 1048576) := by omega
  have HB := hid hb
  clear hb
  go_enter Try.func9, Try.ntmps9
  go_wp2_with fail
  refine (drawEnab_any _ a len cap HB.out).mono ?_
  rintro e w1 ⟨v, rfl, ⟨x, y, s, ls, vs, rfl, hs, hbn, hp, hl, hm⟩, B0⟩
  replace hs := hs.any
  replace hp := PairIn_frame (q := Any) hp (Nat.le_refl _) (fun _ _ _ => ⟨trivial, rfl⟩)
  obtain ⟨a1, c1, a2, c2, rfl⟩ := hs.shape
  obtain ⟨a3, a4, c3, c4, rfl, _⟩ := id hp
  have HI := hid (fun (W : World) (M : Below w1.heap.size w1 W) => enab_any s ls vs W _ _ (hs.below M) (hp.below M))
  have HS := hid (fun (W : World) (M : Below w1.heap.size w1 W) => specEnab_any s ls vs W _ _ (hs.below M) (hp.below M))
  have HD := hid (fun (W : World) (M : Below w1.heap.size w1 W) => dead_any s ls vs W _ _ (hs.below M) (hp.below M))
  have HV := hid (fun (W : World) (M : Below w1.heap.size w1 W) => State.specState_any s ls vs W _ _ (hs.below M) (hp.below M))
  have HWR := hid (fun (t : Stp) (ht : t ∈ enabS s ls vs) => by
    obtain ⟨hok, h⟩ := enab_facts ht
    obtain ⟨i, k, hi, hk, h1, h2, h3, h4⟩ := steps_ready h
    exact show ∃ (i k : Nat), t.p = i ∧ t.e = k ∧ (∀ W, Below w1.heap.size w1 W → Calls Try.prog 35 #[.agg #[.slice a1 s.init.length c1, .slice a2 s.procs.length c2], .agg #[.slice a3 ls.length c3, .slice a4 vs.length c4], .int .i64 i, .int .i64 k] W (Ret (.bool true) W)) ∧
        (t.q = -1 ∨ ∃ (j m : Nat), t.q = j ∧ t.f = m ∧ (∀ W, Below w1.heap.size w1 W → Calls Try.prog 35 #[.agg #[.slice a1 s.init.length c1, .slice a2 s.procs.length c2], .agg #[.slice a3 ls.length c3, .slice a4 vs.length c4], .int .i64 j, .int .i64 m] W (Ret (.bool true) W))) from
      ⟨i, k, h1, h2, fun W M => by
        have hh := wpReady_any s ls vs i k hok hi hk W _ _ (hs.below M) (hp.below M)
        rw [h3] at hh; exact hh, by
        rcases h4 with h4 | ⟨j, m, hj, hm, g1, g2, g3⟩
        · exact .inl h4
        · exact .inr ⟨j, m, g1, g2, fun W M => by
            have hh := wpReady_any s ls vs j m hok hj hm W _ _ (hs.below M) (hp.below M)
            rw [g3] at hh; exact hh⟩⟩)
  have HDE := hid (enab_dead s ls vs)
  have hL1000 := enabS_len s ls vs
  obtain ⟨L, hL⟩ : ∃ L, L = enabS s ls vs := ⟨_, rfl⟩
  rw [← hL] at HI HS HWR HDE hL1000
  have HSO := hid (show ∀ (i : Nat) (hi : i + 1 < L.length), L[i].p ≤ L[i + 1].p from by subst hL; exact fun i hi => enab_sorted s ls vs hi)
  clear HB hs hp hL hbn hl hm
  go_wp2_with fail
  have h0 := below_next (below_alloc w1 (.cells #[.slice a1 s.init.length c1, .slice a2 s.procs.length c2] 36)) (below_alloc _ (.cells #[.slice a3 ls.length c3, .slice a4 vs.length c4] 50))
  refine (HI.out _ h0).mono ?_
  rintro e w2 ⟨vG, rfl, hG, hb⟩
  obtain ⟨aG, cG, rfl, cG1, cG2, _⟩ := id hG
  have P := hid (boxp_next hb (boxp_next (below_alloc _ (.cells #[.slice a3 ls.length c3, .slice a4 vs.length c4] 50)) (boxp_at (w := w1) (a := .slice a1 s.init.length c1) (b := .slice a2 s.procs.length c2) (t := 36) rfl)))
  have Q := hid (boxp_next hb (boxp_at (w := w1.alloc (.cells #[.slice a1 s.init.length c1, .slice a2 s.procs.length c2] 36)) (B := w1.heap.size + 1) (a := .slice a3 ls.length c3) (b := .slice a4 vs.length c4) (t := 50) (by simp)))
  have M := hid (below_next h0 hb)
  have OG := hid hG
  clear hb h0 hG
  obtain ⟨p0, p1, p2, p3, p4⟩ := id P.out
  obtain ⟨q0, q1, q2, q3, q4⟩ := id Q.out
  go_wp2_with fail
  refine (HS.out _ M.out).mono ?_
  rintro e w3 ⟨vW, rfl, hW, hb⟩
  obtain ⟨aW, cW, rfl, cW1, cW2, _⟩ := id hW
  replace P := hid (boxp_next hb P.out)
  replace Q := hid (boxp_next hb Q.out)
  replace M := hid (below_next M.out hb)
  replace OG := hid (StRow.below OG.out hb)
  have OW := hid hW
  clear hb hW p0 p1 p2 p3 p4 q0 q1 q2 q3 q4 HI HS
  obtain ⟨p0, p1, p2, p3, p4⟩ := id P.out
  obtain ⟨q0, q1, q2, q3, q4⟩ := id Q.out
  go_wp2_with fail
  go_loopw [7] (fun i wr => ∃ t : Nat, t ≤ L.length ∧ i = .int .i64 t ∧ Hid (Below w3.heap.size w3 wr)) (fun i _ => L.length - (intOf i).toNat)
  case atStart => exact ⟨0, Nat.zero_le _, rfl, hid (Below.refl _ _)⟩
  case round =>
    obtain ⟨t, ht, rfl, BL⟩ := hrel
    clear p0 p1 p2 p3 p4 q0 q1 q2 q3 q4
    obtain ⟨p0, p1, p2, p3, p4⟩ := boxp_next BL.out P.out
    obtain ⟨q0, q1, q2, q3, q4⟩ := boxp_next BL.out Q.out
    obtain ⟨wo, rfl⟩ : ∃ wo : World, wo = wr := ⟨_, rfl⟩
    by_cases htl : t < L.length
    · have htl2 : (t : Int) < (L.length : Int) := by omega
      obtain ⟨gG, rfl, hgG, g0, g1, g2, g3⟩ := StRow.at (StRow.below OG.out BL.out) htl
      obtain ⟨gW, rfl, hgW, f0, f1, f2, f3⟩ := StRow.at (StRow.below OW.out BL.out) htl
      obtain ⟨pi, pk, hpi, hpk, hw1, hq⟩ := HWR.out _ (List.getElem_mem htl)
      have HW1 := hid hw1
      have MB := hid (below_next M.out BL.out)
      rw [hpi] at g0 f0
      rw [hpk] at g1 f1
      clear hw1
      have HQ := hid hq
      have HLs := hid (fun (u : Nat) (hu : u + 1 = t) => HSO.out u (by omega))
      clear hq
      go_upto_region 11 with fail
      go_cut [81] (fun s81 wx => s81 = .bool false ∧ Hid (Below w3.heap.size w3 wx))
      case first =>
        rcases HQ.out with hq | ⟨j, m, hj, hm, hw2⟩
        · rw [hq] at g2 f2
          clear HQ HLs
          generalize L[t].f = tf at *
          clear hpi hpk hq
          refine wp_region_over (by kernel_rfl) (by kernel_rfl) ?_; (repeat (go_big_quiet_step ((go_at_call 35; exact Calls.over (HW1.out _ (below_next MB.out (over_below wo _))))))); refine wpQuiet_nil ?_; rintro _ ⟨xq, rfl⟩
          have B3 := hid (below_next BL.out (over_below wo xq))
          go_wp2_with fail
          go_meet
          exact ⟨rfl, B3⟩
        · rw [hj] at g2 f2
          rw [hm] at g3 f3
          have HW2 := hid hw2
          have hj0 : (0 : Int) ≤ (j : Int) := by omega
          clear HQ HLs hw2 hj hm hpi hpk
          refine wp_region_over (by kernel_rfl) (by kernel_rfl) ?_; (repeat (go_big_quiet_step ((go_at_call 35; first | with_reducible exact Calls.over (HW1.out _ (below_next MB.out (over_below wo _))) | with_reducible exact Calls.over (HW2.out _ (below_next MB.out (over_below wo _))))))); refine wpQuiet_nil ?_; rintro _ ⟨xq, rfl⟩
          have B3 := hid (below_next BL.out (over_below wo xq))
          go_wp2_with fail
          go_meet
          exact ⟨rfl, B3⟩
      case rest =>
      obtain ⟨rfl, B3⟩ := hcut
      obtain ⟨wp, rfl⟩ : ∃ wp : World, wp = wc := ⟨_, rfl⟩
      clear p0 p1 p2 p3 p4 q0 q1 q2 q3 q4 g0 g1 g2 g3 f0 f1 f2 f3 hgG hgW
      go_wp2_with fail
      by_cases ht0 : t = 0
      · subst ht0
        refine wp_region_over (by kernel_rfl) (by kernel_rfl) ?_; (repeat (go_big_quiet_step ((fail)))); refine wpQuiet_nil ?_; rintro _ ⟨xq, rfl⟩
        have B4 := hid (below_next B3.out (over_below wp xq))
        go_wp2_with fail
        go_roundw
        case rel => exact ⟨1, htl, by go_num, B4⟩
        case measure => simp [intOf]; omega
      · obtain ⟨t', rfl⟩ : ∃ t', t = t' + 1 := ⟨t - 1, by omega⟩
        obtain ⟨_, he, hgG, g0, _⟩ := StRow.at (StRow.below OG.out B3.out) htl
        simp at he
        subst he
        obtain ⟨_, he, _, f0, _⟩ := StRow.at (StRow.below OG.out B3.out) (show t' < L.length by omega)
        simp at he
        subst he
        have hle := HLs.out t' rfl
        generalize L[t' + 1].p = pa at *
        generalize L[t'].p = pb at *
        have hnlt : ¬ (pa < pb) := by omega
        have hpos : (0 : Int) < ((t' + 1 : Nat) : Int) := by omega
        have hprev : ((t' + 1 : Nat) : Int) - 1 = (t' : Int) := by omega
        have ht1 : (t' : Int) < (L.length : Int) := by omega
        refine wp_region_over (by kernel_rfl) (by kernel_rfl) ?_; (repeat (go_big_quiet_step ((fail)))); refine wpQuiet_nil ?_; rintro _ ⟨xq, rfl⟩
        have B4 := hid (below_next B3.out (over_below wp xq))
        go_wp2_with fail
        go_roundw
        case rel => exact ⟨t' + 1 + 1, htl, by go_num, B4⟩
        case measure => simp [intOf]; omega
    · obtain rfl : t = L.length := by omega
      have hnl : ¬ ((L.length : Int) < (L.length : Int)) := by omega
      clear ht htl
      go_wp2_with fail
      refine (HD.out _ (below_next M.out BL.out)).mono ?_
      rintro e w4 ⟨rfl, hb⟩
      rw [HDE.out]
      have MB := hid (below_next (below_next M.out BL.out) hb)
      have P4 := boxp_next hb (boxp_next BL.out P.out)
      have Q4 := boxp_next hb (boxp_next BL.out Q.out)
      clear hb p0 p1 p2 p3 p4 q0 q1 q2 q3 q4
      obtain ⟨p0, p1, p2, p3, p4⟩ := P4
      obtain ⟨q0, q1, q2, q3, q4⟩ := Q4
      by_cases hz : L.length = 0
      · have hz2 : ((L.length : Int) == 0) = true := by rw [hz]; rfl
        have hz3 : decide (L.length = 0) = true := by simpa using hz
        rw [hz3, Bool.true_and]
        clear hz hz3
        go_wp2_with fail
        refine (HV.out _ MB.out).mono ?_
        rintro e w5 ⟨rfl, hb⟩
        generalize State.okSt s ls vs = bb at *
        cases bb
        all_goals
          go_wp2_with fail
          go_ret
          exact Ret.mk rfl (below_next B0 (below_next MB.out hb))
      · have hz2 : ((L.length : Int) == 0) = false := by simp; intro e; rw [e] at hz; exact hz rfl
        have hz3 : decide (L.length = 0) = false := by simpa using hz
        rw [hz3, Bool.false_and]
        clear hz hz3
        go_wp2_with fail
        go_ret
        exact Ret.mk rfl (below_next B0 MB.out)
end Go.Proofs.Ytffadknollkgiaa
