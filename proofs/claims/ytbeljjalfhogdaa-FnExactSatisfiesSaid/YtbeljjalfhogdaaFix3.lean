/- The program's fix with one of its closures: the row becomes the solution. Conditions: those of each contract. -/
import Derived.Test.YtbeljjalfhogdaaFixP
namespace Go.Proofs.Ytbeljjalfhogdaa
open Go.RowKit
namespace Lasso

set_option maxRecDepth 100000 in
set_option maxHeartbeats 4000000 in
theorem fix3_any (s p : Nat) (st : Bool) (h : Nat → Bool → Bool) (F f0 : Nat → Bool) (hs : FixSol (s + p) (nx s p) st h F) (w : World) (R O L K : Nat) (a b : Option Addr) (c d : Nat) (h1 : s ≤ 1000) (h2 : p ≤ 1000) (h3 : 0 < p)
    (hR : BRow w R (s + p) f0) (hO : Box1 w O (.slice (some ⟨R, 0, none⟩) ((s + p : Nat) : Int).toNat ((s + p : Nat) : Int).toNat)) (hL : PBox w L (.slice a s c) (.slice b p d)) (hRO : O ≠ R) (hRL : L ≠ R)
    (hH : ∀ (W : World) (i : Nat) (x : Bool), But w R W → i < s + p → Calls Try.prog 65 #[.int .i64 i, .bool x, .pointer (some ⟨K, 0, none⟩)] W (Ret (.bool (h i x)) W)) :
    Calls Try.prog 62 #[.bool st, .func (.func 65) #[] #[.pointer (some ⟨K, 0, none⟩)], .pointer (some ⟨O, 0, none⟩), .pointer (some ⟨L, 0, none⟩)] w (FixPost R (s + p) F w) := by
  have HS := hid hs
  have HH := hid hH
  have HO := hid hO
  have HL := hid hL
  have HR := hid hR
  clear hs hH hO hL hR
  generalize hn : s + p = n at *
  have hn0 : 0 < n := by omega
  obtain ⟨o0, o1, o2⟩ := HO.out
  rw [show (((n : Nat) : Int).toNat) = n by omega] at o1
  go_enter Try.func62, Try.ntmps62
  go_wp2_with fail
  go_loopw [6, 12] (fun _ i wr => ∃ (k : Nat) (f : Nat → Bool), k ≤ n ∧ i = .int .i64 k ∧ But w R wr ∧ BRow wr R n f ∧ Hid (∀ j, j < k → f j = st)) (fun _ i _ => n - (intOf i).toNat)
  case atStart => exact ⟨0, f0, Nat.zero_le _, rfl, But.refl _ _, HR.out, hid (by omega)⟩
  case round =>
    obtain ⟨k, f, hk, rfl, B, hrow, hf⟩ := hrel
    obtain ⟨o0, o1, o2⟩ := But.box1 B hRO HO.out
    rw [show (((n : Nat) : Int).toNat) = n by omega] at o1
    by_cases hlt : k < n
    · have r0 := hrow.2.1 k hlt
      have rz := hrow.2.2
      have rl := hrow.1
      have hstep := hid (brow_upd hrow hlt st)
      have hlt2 : (k : Int) < (n : Int) := by omega
      clear hrow
      go_wp2_with fail
      go_roundw
      case rel =>
        refine ⟨k + 1, _, by omega, by go_num, B.trans (But.set _ _ _ _), hstep.out, hid fun j hj => ?_⟩
        unfold upd
        split
        · rfl
        · exact hf.out j (by omega)
      case measure => simp [intOf]; omega
    · have hlt2 : ¬ ((k : Int) < (n : Int)) := by omega
      have hI := hid (fixInv_start (nxt := nx s p) (h := h) (F := F) (fun j hj => hf.out j (by omega)) : FixInv n (nx s p) st h F f)
      have HROW := hid hrow
      clear hf hrow
      go_wp2_with fail
      go_loopw [7, 8, 9] (fun q _ _ wr => ∃ (ch : Bool) (out : Nat → Bool), q = .bool ch ∧ But w R wr ∧ BRow wr R n out ∧ Hid (FixInv n (nx s p) st h F out ∧ (ch = false → ∀ k, k < n → out k = h k (out (nx s p k))))) (fun q _ _ W => if isT q = true then 1 + (n - cntB (!st) (outOf W R) n) else 0)
      case atStart => exact ⟨true, f, rfl, B, HROW.out, hid ⟨hI.out, by simp⟩⟩
      case round =>
        obtain ⟨ch, out0, rfl, B0, hrow0, hfx⟩ := hrel
        obtain ⟨o0, o1, o2⟩ := But.box1 B0 hRO HO.out
        rw [show (((n : Nat) : Int).toNat) = n by omega] at o1
        cases ch with
        | false =>
          have hfin := hid (show BRow wr R n F from hrow0.congr fun i hi => by rw [hfx.out.1.done HS.out (hfx.out.2 rfl) i hi])
          clear hrow0
          go_wp2_with fail
          refine bodyPost_ret (v := .tuple #[]) (by simp [results, Try.results62]) rfl ?_
          exact ⟨rfl, B0, hfin.out⟩
        | true =>
          have HR0 := hid hrow0
          have f1 : IntKind.i64.wrap ((n : Int) - 1) = (n : Int) - 1 := IntWalk.i64_in _ (by omega)
          clear hrow0
          go_wp2_with fail
          go_loopw [7, 8, 9] (fun q i _ wr => ∃ (k : Nat) (ch : Bool) (out : Nat → Bool), k ≤ n ∧ q = .bool ch ∧ (∃ z : Int, i = .int .i64 z ∧ z = (k : Int) - 1) ∧ But w R wr ∧ BRow wr R n out ∧ Hid (FixRel n (nx s p) st h F out0 k ch out)) (fun _ i _ _ => (intOf i + 1).toNat)
          case atStart => exact ⟨n, false, out0, Nat.le_refl _, rfl, ⟨_, rfl, rfl⟩, B0, HR0.out, hid (FixRel.start hfx.out.1)⟩
          case round =>
            obtain ⟨k, ch, out, hk, rfl, ⟨z, rfl, hz⟩, B, hrow, hr⟩ := hrel
            obtain ⟨o0, o1, o2⟩ := But.box1 B hRO HO.out
            rw [show (((n : Nat) : Int).toNat) = n by omega] at o1
            obtain ⟨l0, l1, l2, l3, l4⟩ := But.pbox B hRL HL.out
            by_cases hk0 : k = 0
            · subst hk0
              have hz3 : ¬ (z ≥ 0) := by omega
              have HROW2 := hid hrow
              have e1 := fun i hi => outOf_row HR0.out (i := i) hi
              have e2 := fun i hi => outOf_row hrow (i := i) hi
              clear hrow
              go_wp2_with fail
              go_roundw
              case rel => exact ⟨ch, out, rfl, B, HROW2.out, hid ⟨hr.out.inv, fun hc k hk => (hr.out.no hc).2 k (Nat.zero_le _) hk⟩⟩
              case measure =>
                rw [cntB_congr e1, cntB_congr e2]
                have hle := cntB_le_n (!st) out n
                cases ch with
                | false => simp [isT]; omega
                | true => have := hr.out.yes rfl; simp [isT]; omega
            · obtain ⟨m, rfl⟩ : ∃ m, k = m + 1 := ⟨k - 1, by omega⟩
              obtain rfl : z = (m : Int) := by omega
              clear hz hk0
              have hm : m < n := by omega
              have hx : nx s p m < n := HS.out.lt m hm
              have r0 : wr.cell? ⟨R, m, none⟩ = some (.bool (out m)) := hrow.2.1 m hm
              have r1 : wr.cell? ⟨R, nx s p m, none⟩ = some (.bool (out (nx s p m))) := hrow.2.1 _ hx
              have rz := hrow.2.2
              have rl := hrow.1
              have HSTEP := hid (FixRel.step HS.out (k := m) hm hr.out)
              have HROW2 := hid hrow
              have HBB := hid B
              have hm2 : (m : Int) < (n : Int) := by omega
              have hx2 : ((nx s p m : Nat) : Int) < (n : Int) := by omega
              have hm3 : (m : Int) ≥ 0 := by omega
              have hx3 : ((nx s p m : Nat) : Int) ≥ 0 := by omega
              have HN := hid (fun (W : World) => next_any s p m W a b c d h1 h2 (by omega))
              clear hrow hr hx
              generalize nx s p m = q at *
              generalize out q = ov at *
              have HH2 := hid (fun (W : World) (hb : But w R W) => HH.out W m ov hb hm)
              generalize h m ov = v at *
              go_wp2_with fail
              refine wp_region_over (by kernel_rfl) (by kernel_rfl) ?_; (repeat (go_big_quiet_step ((first | (go_at_call 63; with_reducible exact Calls.over (HN.out _)) | (go_at_call 65; with_reducible exact Calls.over (HH2.out _ (HBB.out.next (over_below _ _)))))))); refine wpQuiet_nil ?_; rintro _ ⟨xq, rfl⟩
              have BX := hid (HBB.out.next (over_below wr xq))
              have RX := hid (show BRow (wr.over xq) R n out from Row.below HROW2.out (over_below wr xq))
              have r0' : (wr.over xq).cell? ⟨R, m, none⟩ = some (.bool (out m)) := RX.out.2.1 m hm
              have o' := But.box1 BX.out hRO HO.out
              rw [show (((n : Nat) : Int).toNat) = n by omega] at o'
              have rz' := RX.out.2.2
              have rl' := RX.out.1
              obtain ⟨o0', o1', o2'⟩ := o'
              clear r0 r1 rz rl o0 o1 o2 l0 l1 l2 l3 l4
              by_cases hvo : v = out m
              · have e1 : (v != out m) = false := by simpa using hvo
                have HS2 := HSTEP.out
                rw [e1, Bool.or_false, hvo, upd_same] at HS2
                have HS3 := hid HS2
                rw [← hvo] at r0'
                clear HS2 HSTEP hvo e1
                go_wp2_with fail
                go_roundw
                case rel => exact ⟨m, ch, out, by omega, rfl, ⟨_, rfl, rfl⟩, BX.out, RX.out, HS3⟩
                case measure => simp [intOf]
              · have e1 : (v != out m) = true := by simpa using hvo
                have HS2 := HSTEP.out
                rw [e1, Bool.or_true] at HS2
                have HS3 := hid HS2
                have RY := hid (brow_upd RX.out hm v)
                have e2 : out m = !v := by cases v <;> cases h0 : out m <;> simp_all
                rw [e2] at r0'
                clear HS2 HSTEP hvo e1 e2
                cases v
                all_goals
                  first
                    | rw [Bool.not_true] at r0'
                    | rw [Bool.not_false] at r0'
                  go_wp2_with fail
                  go_roundw
                  case rel => exact ⟨m, true, _, by omega, rfl, ⟨_, rfl, rfl⟩, BX.out.trans (But.set _ _ _ _), RY.out, HS3⟩
                  case measure => simp [intOf]
end Lasso
end Go.Proofs.Ytbeljjalfhogdaa
