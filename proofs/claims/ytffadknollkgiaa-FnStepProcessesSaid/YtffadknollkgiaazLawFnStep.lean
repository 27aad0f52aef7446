/- FnStepProcesses returns true for every argument. Conditions: none. -/
import Derived.Test.YtffadknollkgiaazDrawSp
import Derived.Test.YtffadknollkgiaazStepsV
import Derived.Deep.DeepCutAuto
set_option linter.unusedVariables false
set_option linter.unusedSimpArgs false
namespace Go.Proofs.Ytffadknollkgiaa
open Go.RowKit
open Go.Proofs.Ytffadknollkgiaa.Sys
set_option linter.unusedVariables false
set_option linter.unusedSimpArgs false

theorem stepB_at {s : Sy} {p q : Int} {i : Nat} (h : i < (stepB s p q).length) : (stepB s p q)[i] = (decide (p = (i : Int)) || decide (q = (i : Int))) := by
  by_cases ho : okSy s = true
  · have e : stepB s p q = procsB s.procs.length p q := by rw [stepB, if_pos ho]
    have hi : i < s.procs.length := by rw [e, procsB_len] at h; exact h
    have h1 := procsB_at p q hi
    rw [← e, List.getElem?_eq_getElem h] at h1
    exact Option.some.inj h1
  · have e : stepB s p q = [] := by rw [stepB, if_neg ho]
    rw [e] at h
    simp at h
/-- has the place of p been passed -/
def past (p : Int) (t : Nat) : Nat := if 0 ≤ p ∧ p < t then 1 else 0
theorem past_le (p : Int) (t : Nat) : past p t ≤ 1 := by unfold past; split <;> omega
theorem past_next {p q : Int} {t n : Nat} (h : n ≤ past p t + past q t) : n ≤ past p (t + 1) + past q (t + 1) := by
  unfold past at *
  split at h <;> split at h <;> split <;> split <;> omega
theorem past_hit {p q : Int} {t n : Nat} (h : n ≤ past p t + past q t) (he : p = t ∨ q = t) : n + 1 ≤ past p (t + 1) + past q (t + 1) := by
  unfold past at *
  split at h <;> split at h <;> split <;> split <;> omega

set_option maxRecDepth 100000 in
set_option maxHeartbeats 4000000 in
theorem walk_FnStepProcesses (w : World) (a : Option Addr) (len cap : Nat) (hb : ByteArg w a len cap) : Calls Try.prog 8 #[.slice a len cap] w (Ret (.bool true) w) := by
  have hcap := hb.2.1
  have hcap1 := hb.1
  unfold maxLen at hcap
  by_cases hlen : len > 1048576
  · have hlen2 : (len : Int) > 1048576 := by omega
    go_enter Try.func8, Try.ntmps8
    go_wp2_with fail
    go_ret
    exact Ret.mk rfl (by repeat (first | exact Below.refl _ _ | assumption | refine below_a ?_ _ | refine below_o ?_ _ | refine below_d ?_ | refine below_n ?_ _ | refine below_s ?_ (by first | (simp; done) | (simp; omega) | omega) _))
  have hlen2 : ¬ ((len : Int) > 1048576) := by omega
  have HB := hid hb
  clear hb
  go_enter Try.func8, Try.ntmps8
  go_wp2_with fail
  refine (drawSp_any _ a len cap HB.out).mono ?_
  rintro ye w1 ⟨v, rfl, ⟨x, s, p, e, q, f, rfl, hs, _⟩, B0⟩
  replace hs := hs.any
  obtain ⟨a1, c1, a2, c2, rfl⟩ := hs.shape
  have HI := hid (fun (W : World) (M : Below w1.heap.size w1 W) => step_any s p e q f W _ (hs.below M))
  have HS := hid (fun (W : World) (M : Below w1.heap.size w1 W) => specStep_any s p e q f W _ (hs.below M))
  have HAt := hid (fun (i : Nat) (h : i < (stepB s p q).length) => stepB_at h)
  have hr1000 := stepB_len s p q
  obtain ⟨r, hr⟩ : ∃ r, r = stepB s p q := ⟨_, rfl⟩
  rw [← hr] at HI HS hr1000
  have HAT := hid (show ∀ (i : Nat) (h : i < r.length), r[i] = (decide (p = (i : Int)) || decide (q = (i : Int))) from by subst hr; exact HAt.out)
  clear HB hs hr HAt
  go_wp2_with fail
  have h0 := below_next (below_alloc w1 (.cells #[.slice a1 s.init.length c1, .slice a2 s.procs.length c2] 36)) (below_alloc _ (.cells #[.int .i64 p, .int .i64 e, .int .i64 q, .int .i64 f] 56))
  refine (HI.out _ h0).mono ?_
  rintro ye w2 ⟨vG, rfl, ⟨aG, cG, bsG, rfl, cG1, cG2, oG, gG⟩, hb⟩
  rw [List.length_map] at cG1 ⊢
  have P := hid (boxp_next hb (boxp_next (below_alloc _ (.cells #[.int .i64 p, .int .i64 e, .int .i64 q, .int .i64 f] 56)) (boxp_at (w := w1) (a := .slice a1 s.init.length c1) (b := .slice a2 s.procs.length c2) (t := 36) rfl)))
  have Q := hid (box4_next hb (box4_at (w := w1.alloc (.cells #[.slice a1 s.init.length c1, .slice a2 s.procs.length c2] 36)) (B := w1.heap.size + 1) (a := .int .i64 p) (b := .int .i64 e) (c := .int .i64 q) (d := .int .i64 f) (t := 56) (by simp)))
  have M := hid (below_next h0 hb)
  have OG := hid (show BoolsIn Any w2 aG r from oG.any)
  clear hb h0 oG gG
  obtain ⟨p0, p1, p2, p3, p4⟩ := id P.out
  obtain ⟨q0, ⟨q1, q2, q3, q4⟩, _⟩ := id Q.out
  go_wp2_with fail
  refine (HS.out _ M.out).mono ?_
  rintro ye w3 ⟨vW, rfl, ⟨aW, cW, bsW, rfl, cW1, cW2, oW, gW⟩, hb⟩
  rw [List.length_map] at cW1 ⊢
  replace P := hid (boxp_next hb P.out)
  replace Q := hid (box4_next hb Q.out)
  replace M := hid (below_next M.out hb)
  replace OG := hid (OG.out.below hb)
  have OW := hid (show BoolsIn Any w3 aW r from oW.any)
  clear hb oW gW p0 p1 p2 p3 p4 q0 q1 q2 q3 q4 HI HS
  go_wp2_with fail
  go_loopw [7, 8] (fun s7 s8 wr => ∃ t n : Nat, t ≤ r.length ∧ s7 = .int .i64 n ∧ s8 = .int .i64 t ∧ Hid (n ≤ past p t + past q t) ∧ Hid (Below w3.heap.size w3 wr)) (fun _ i _ => r.length - (intOf i).toNat)
  case atStart => exact ⟨0, 0, Nat.zero_le _, rfl, rfl, hid (by omega), hid (Below.refl _ _)⟩
  case round =>
    obtain ⟨t, n, ht, rfl, rfl, HN, BL⟩ := hrel
    obtain ⟨wo, rfl⟩ : ∃ wo : World, wo = wr := ⟨_, rfl⟩
    have hn2 : n ≤ 2 := by have := HN.out; have := past_le p t; have := past_le q t; omega
    by_cases htl : t < r.length
    · have htl2 : (t : Int) < (r.length : Int) := by omega
      obtain ⟨q0, ⟨q1, q2, q3, q4⟩, _⟩ := box4_next BL.out Q.out
      obtain ⟨bG, oG, rfl, hbG, _, gG⟩ := bools_at OG.out BL.out htl
      obtain ⟨bW, oW, rfl, hbW, _, gW⟩ := bools_at OW.out BL.out htl
      have hat := HAT.out t htl
      generalize r[t] = rt at *
      by_cases hp : p = (t : Int)
      · have e1 : ((t : Int) == p) = true := by simp [hp]
        have hrt : rt = true := by rw [hat]; simp [hp]
        have HN2 := hid (past_hit HN.out (.inl hp))
        subst hrt
        clear hat hp HN
        go_wp2_with fail
        refine wp_region_over (by kernel_rfl) (by kernel_rfl) ?_; (repeat (go_big_quiet_step ((fail)))); refine wpQuiet_nil ?_; rintro _ ⟨xq, rfl⟩
        have B2 := hid (below_next BL.out (over_below wo xq))
        have gG2 : (wo.over xq).cell? ⟨bG, oG + t, none⟩ = some (.bool true) := cell_bel (over_below wo xq) hbG gG
        go_wp2_with fail
        go_roundw
        case rel => exact ⟨t + 1, n + 1, htl, by go_num, by go_num, HN2, B2⟩
        case measure => simp [intOf]; omega
      · have e1 : ((t : Int) == p) = false := by simp; exact fun h => hp h.symm
        by_cases hq : q = (t : Int)
        · have e2 : ((t : Int) == q) = true := by simp [hq]
          have hrt : rt = true := by rw [hat]; simp [hq]
          have HN2 := hid (past_hit HN.out (.inr hq))
          subst hrt
          clear hat hp hq HN
          go_wp2_with fail
          refine wp_region_over (by kernel_rfl) (by kernel_rfl) ?_; (repeat (go_big_quiet_step ((fail)))); refine wpQuiet_nil ?_; rintro _ ⟨xq, rfl⟩
          have B2 := hid (below_next BL.out (over_below wo xq))
          have gG2 : (wo.over xq).cell? ⟨bG, oG + t, none⟩ = some (.bool true) := cell_bel (over_below wo xq) hbG gG
          go_wp2_with fail
          go_roundw
          case rel => exact ⟨t + 1, n + 1, htl, by go_num, by go_num, HN2, B2⟩
          case measure => simp [intOf]; omega
        · have e2 : ((t : Int) == q) = false := by simp; exact fun h => hq h.symm
          have hrt : rt = false := by rw [hat]; simp [hp, hq]
          have HN2 := hid (past_next HN.out)
          subst hrt
          clear hat hp hq HN
          go_wp2_with fail
          refine wp_region_over (by kernel_rfl) (by kernel_rfl) ?_; (repeat (go_big_quiet_step ((fail)))); refine wpQuiet_nil ?_; rintro _ ⟨xq, rfl⟩
          have B2 := hid (below_next BL.out (over_below wo xq))
          have gG2 : (wo.over xq).cell? ⟨bG, oG + t, none⟩ = some (.bool false) := cell_bel (over_below wo xq) hbG gG
          go_wp2_with fail
          go_roundw
          case rel => exact ⟨t + 1, n, htl, by go_num, by go_num, HN2, B2⟩
          case measure => simp [intOf]; omega
    · obtain rfl : t = r.length := by omega
      have hnl : ¬ ((r.length : Int) < (r.length : Int)) := by omega
      have hn3 : (n : Int) ≤ 2 := by omega
      clear ht htl
      go_wp2_with fail
      go_ret
      exact Ret.mk rfl (below_next B0 (below_next M.out BL.out))
end Go.Proofs.Ytffadknollkgiaa
